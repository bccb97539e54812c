/- LinesApart: the walk. No condition. -/
import Derived.Test.YtnnhijfbdkokkaaGreatDoorMo
import Derived.Test.YtnnhijfbdkokkaaGreatDoorMv
namespace Go.Proofs.YtnnhijfbdkokkaaGreatDoor
open Go Go.Eng Go.ChangeShapes Go.WideShapes Go.ChangeAt Go.RowKit
noncomputable section
set_option maxRecDepth 100000

/-! The symbols: 0 .. 3 the numbers; 50, 51 the tables; 22, 25, 29 the days; 32, 33 their texts, 34 what is read. -/
def argA (near : Bool) : List AV := [.sym 0, .sym 1, .sym 2, .sym 3, .bool near]
def mAc (near : Bool) : Option AM := bnd (startM (EL []) (stOf gl) fLinesApart (argA near)) (runS (EL []) (atCall fTable9) 1000)
def mAb (near : Bool) : Option AM := bnd (mAc near) behind
def tdA : List AItem := tdO (todoOf (mAb true))
def keepA1 (near : Bool) : List (Nat × AV) := [(0, .sym 0), (1, .sym 1), (2, .sym 2), (3, .sym 3), (4, .bool near), (20, .sym 50)]
def thA1 : List (Nat × AV) := [(0, .sym 0), (1, .sym 1), (2, .sym 2), (3, .sym 3)]
theorem cA_fr (near : Bool) : enterA (EL []) fTable9 [.sym 2] .normal = frOf (mAc near) := by cases near <;> kernel_rfl
theorem cA_dst (near : Bool) : isB (mAc near) (fun m => dstIs m 20) = true := by cases near <;> kernel_rfl
theorem cA_gen (near : Bool) : isB (mAb near) (genOK gl [] fLinesApart 72 (keepA1 near) [] thA1 [] [20]) = true := by cases near <;> kernel_rfl
theorem cA_td (near : Bool) : todoOf (mAb near) = some tdA := by cases near <;> kernel_rfl
theorem tdA_noD : noD tdA = true := by kernel_rfl
def pA1 (near : Bool) : AM := patM gl [] fLinesApart 72 tdA (keepA1 near) []
def EL2 (V : World → Prop) : Env := ({ E0 with V := V } : Env).askM 9 [] [] (memoOr (memoI gl tabs18) (memoKH gl []))
def mAc2 (V : World → Prop) (near : Bool) : Option AM := runS (EL2 V) (atCall fTable9) 1000 (pA1 near)
def mAb2 (V : World → Prop) (near : Bool) : Option AM := bnd (mAc2 V near) behind
def tdA2 : List AItem := tdO (todoOf (mAb2 (fun _ => True) true))
def keepA2 (near : Bool) : List (Nat × AV) := [(0, .sym 0), (1, .sym 1), (4, .bool near), (20, .sym 50), (22, .sym 51)]
def thA2 : List (Nat × AV) := [(0, .sym 0), (1, .sym 1), (50, .sym 50)]
theorem cA2_fr (V : World → Prop) (near : Bool) : enterA (EL2 V) fTable9 [.sym 3] .normal = frOf (mAc2 V near) := by cases near <;> kernel_rfl
theorem cA2_dst (V : World → Prop) (near : Bool) : isB (mAc2 V near) (fun m => dstIs m 22) = true := by cases near <;> kernel_rfl
theorem cA2_gen (V : World → Prop) (near : Bool) : isB (mAb2 V near) (genOK gl [] fLinesApart 72 (keepA2 near) [] thA2 [] [22]) = true := by cases near <;> kernel_rfl
theorem cA2_td (V : World → Prop) (near : Bool) : todoOf (mAb2 V near) = some tdA2 := by cases near <;> kernel_rfl
theorem tdA2_noD : noD tdA2 = true := by kernel_rfl
def pA2 (near : Bool) : AM := patM gl [] fLinesApart 72 tdA2 (keepA2 near) []
def mrNil2 : List OR := ⟨Nat.add (Nat.mul 8 tTab) 7, [.sym 51, .nilptr], .bool false⟩ :: mrNil
def orA : List OR := [⟨4, [.sym 0, .int .u32 3652059], .sym 20⟩, ⟨cv tU32 tDay, [.sym 20], .sym 21⟩, ⟨0, [.int .i64 1, .sym 21], .sym 22⟩, ⟨4, [.sym 1, .int .u32 3652059], .sym 23⟩, ⟨cv tU32 tDay, [.sym 23], .sym 24⟩, ⟨0, [.int .i64 1, .sym 24], .sym 25⟩,
  ⟨4, [.sym 1, .int .u32 800], .sym 26⟩, ⟨cv tU32 tDay, [.sym 26], .sym 27⟩, ⟨0, [.sym 22, .sym 27], .sym 28⟩, ⟨25, [.sym 28, .int .i64 3652059], .sym 29⟩]
def yI (near : Bool) : Nat := match near with | true => 29 | false => 25
def orAe (near same hit : Bool) : List OR := [⟨11, [.sym 32, .sym 33], .bool same⟩, ⟨11, [.sym 22, .sym (yI near)], .bool same⟩, ⟨11, [.sym 34, .sym 22], .bool hit⟩]
def krA (near ok : Bool) : List KR := [⟨fLText, [.sym 50, .sym 22], ⟨.sym 32, []⟩⟩, ⟨fLText, [.sym 50, .sym (yI near)], ⟨.sym 33, []⟩⟩, ⟨fLRead, [.sym 51, .sym 32], ⟨.tuple [.sym 34, .bool ok], []⟩⟩]
def EA (V : World → Prop) (near ok same hit : Bool) : Env := ER V (orA ++ orAe near same hit) mrNil2 (krA near ok)
theorem runA_end (V : World → Prop) : ∀ near ok same hit : Bool, (!ok || hit) = true → retIs (EA V near ok same hit) fLinesApart (.bool true) (runS (EA V near ok same hit) doneA 2000 (pA2 near)) = true := by
  intro near ok same hit h
  cases near <;> cases ok <;> cases same <;> cases hit <;> first | (cases h; done) | kernel_rfl

/-! ### What the symbols stand for -/
structure CtxA where
  n : Nat
  n2 : Nat
  a : Nat
  o : Nat
  near : Bool
namespace CtxA
variable (x : CtxA)
def k : Nat := x.a % 4
def q : Nat := x.o % 4
def d : Nat := dayN x.n
def nr : Nat := if 3652059 < x.d + x.n2 % 800 then 3652059 else x.d + x.n2 % 800
def y : Nat := match x.near with | true => x.nr | false => dayN x.n2
def sg (p p2 : Value) : Nat → Value
  | 0 => .int .u32 (x.n : Int)
  | 1 => .int .u32 (x.n2 : Int)
  | 2 => .int .u8 (x.a : Int)
  | 3 => .int .u8 (x.o : Int)
  | 20 => .int .u32 ((x.n % 3652059 : Nat) : Int)
  | 21 => .int .i64 ((x.n % 3652059 : Nat) : Int)
  | 22 => .int .i64 ((x.d : Nat) : Int)
  | 23 => .int .u32 ((x.n2 % 3652059 : Nat) : Int)
  | 24 => .int .i64 ((x.n2 % 3652059 : Nat) : Int)
  | 25 => .int .i64 ((dayN x.n2 : Nat) : Int)
  | 26 => .int .u32 ((x.n2 % 800 : Nat) : Int)
  | 27 => .int .i64 ((x.n2 % 800 : Nat) : Int)
  | 28 => .int .i64 ((x.d + x.n2 % 800 : Nat) : Int)
  | 29 => .int .i64 ((x.nr : Nat) : Int)
  | 32 => strV (lineF x.k x.d)
  | 33 => strV (lineF x.k x.y)
  | 34 => .int .i64 ((readN x.q (lineF x.k x.d) : Nat) : Int)
  | 50 => p
  | 51 => p2
  | _ => .nilIface
end CtxA
section
variable {x : CtxA} {p p2 : Value} {m : Int} {E : Env}
theorem CtxA.d_ok : 1 ≤ x.d ∧ x.d ≤ 3652059 := dayN_ok x.n
theorem CtxA.y_ok : 1 ≤ x.y ∧ x.y ≤ 3652059 := by
  have h := x.d_ok
  unfold CtxA.y
  split
  · show 1 ≤ (if 3652059 < x.d + x.n2 % 800 then 3652059 else x.d + x.n2 % 800) ∧ (if 3652059 < x.d + x.n2 % 800 then 3652059 else x.d + x.n2 % 800) ≤ 3652059
    split <;> omega
  · exact dayN_ok x.n2
theorem CtxA.y_sg : withM (x.sg p p2) m (yI x.near) = .int .i64 ((x.y : Nat) : Int) := by
  have e : ∀ nr : Bool, x.near = nr → withM (x.sg p p2) m (yI nr) = .int .i64 (((match nr with | true => x.nr | false => dayN x.n2 : Nat)) : Int) := by
    intro nr _
    cases nr <;> rfl
  exact e x.near rfl
theorem orA_ok (hT : E.ty = E0.ty) : ∀ r ∈ orA, RowOK E 9 (withM (x.sg p p2) m) r := by
  have hd := x.d_ok
  have e0 : x.d = dayN x.n := rfl
  intro r hr
  simp only [orA, List.mem_cons, List.mem_nil_iff, or_false] at hr
  rcases hr with rfl | rfl | rfl | rfl | rfl | rfl | rfl | rfl | rfl | rfl
  · exact RowOK.rem .u32 (x := (x.n : Int)) (y := ((3652059 : Nat) : Int)) rfl rfl rfl (by decide) (tmodN x.n 3652059)
  · exact conv_u32 (σ := withM (x.sg p p2) m) (i := 20) (j := 21) hT (n := x.n % 3652059) (by omega) rfl rfl
  · exact RowOK.add64 (x := 1) (y := ((x.n % 3652059 : Nat) : Int)) (z := ((x.d : Nat) : Int)) rfl rfl rfl (by rw [e0]; unfold dayN; omega) (by omega) (by omega)
  · exact RowOK.rem .u32 (x := (x.n2 : Int)) (y := ((3652059 : Nat) : Int)) rfl rfl rfl (by decide) (tmodN x.n2 3652059)
  · exact conv_u32 (σ := withM (x.sg p p2) m) (i := 23) (j := 24) hT (n := x.n2 % 3652059) (by omega) rfl rfl
  · exact RowOK.add64 (x := 1) (y := ((x.n2 % 3652059 : Nat) : Int)) (z := ((dayN x.n2 : Nat) : Int)) rfl rfl rfl (by unfold dayN; omega) (by omega) (by unfold dayN; omega)
  · exact RowOK.rem .u32 (x := (x.n2 : Int)) (y := ((800 : Nat) : Int)) rfl rfl rfl (by decide) (tmodN x.n2 800)
  · exact conv_u32 (σ := withM (x.sg p p2) m) (i := 26) (j := 27) hT (n := x.n2 % 800) (by omega) rfl rfl
  · exact RowOK.add64 (x := ((x.d : Nat) : Int)) (y := ((x.n2 % 800 : Nat) : Int)) (z := ((x.d + x.n2 % 800 : Nat) : Int)) rfl rfl rfl (by omega) (by omega) (by omega)
  · refine RowOK.min (x := ((x.d + x.n2 % 800 : Nat) : Int)) (y := 3652059) (z := ((x.nr : Nat) : Int)) rfl rfl rfl ?_
    show (((if 3652059 < x.d + x.n2 % 800 then 3652059 else x.d + x.n2 % 800 : Nat)) : Int) = _
    split <;> split <;> omega
theorem orAe_ok {same hit : Bool} (hk : x.k < 4) (hs : same = decide (x.d = x.y)) (hh : hit = decide (readN x.q (lineF x.k x.d) = x.d)) : ∀ r ∈ orAe x.near same hit, RowOK E 9 (withM (x.sg p p2) m) r := by
  have hd := x.d_ok
  have hy := x.y_ok
  intro r hr
  simp only [orAe, List.mem_cons, List.mem_nil_iff, or_false] at hr
  rcases hr with rfl | rfl | rfl
  · refine RowOK.seq (p := nats (lineF x.k x.d)) (q := nats (lineF x.k x.y)) rfl rfl (.inl ⟨rfl, ?_⟩)
    rw [hs, decide_eq_decide]
    exact ⟨fun e => by rw [e], fun e => line_inj hk hk hd.1 hd.2 hy.1 hy.2 (nats_iff.1 e)⟩
  · refine RowOK.cmp .i64 (x := ((x.d : Nat) : Int)) (y := ((x.y : Nat) : Int)) rfl ?_ (.inl ⟨rfl, ?_⟩)
    · show concS _ (withM (x.sg p p2) m (yI x.near)) = _
      rw [CtxA.y_sg]; rfl
    · rw [hs, decide_eq_decide]; omega
  · refine RowOK.cmp .i64 (x := ((readN x.q (lineF x.k x.d) : Nat) : Int)) (y := ((x.d : Nat) : Int)) rfl rfl (.inl ⟨rfl, ?_⟩)
    rw [hh, decide_eq_decide]; omega
end

/-- Whatever the input, LinesApart hands back true. -/
theorem apart18_calls {W : World} (hL : laidMet Tryz.prog Tryz.laid W) (hS : W.ShapedOpen Tryz.prog) {n n2 a o : Nat} {near : Bool} :
    Calls Tryz.prog fLinesApart #[.int .u32 n, .int .u32 n2, .int .u8 a, .int .u8 o, .bool near] W (fun e W' => e = .returned (.bool true) ∧ Below W.heap.size W W') := by
  have hvars : Vars gl W := by
    obtain ⟨m, hm⟩ := vars_laid hL hS
    exact ⟨m, hm⟩
  have hE0 := errV_laid hL hS
  have hk : a % 4 < 4 := Nat.mod_lt _ (by omega)
  have hq : o % 4 < 4 := Nat.mod_lt _ (by omega)
  let x : CtxA := ⟨n, n2, a, o, near⟩
  intro cs
  obtain ⟨m, ρ0, ρt, p, M2, w2, hp, g1, hB, ht1, g4⟩ := via_start (a := a) (n := 1000) (o := []) (mc := mAc near) (td := tdA) (σ0 := x.sg .nilIface .nilIface) (va := #[.int .u32 n, .int .u32 n2, .int .u8 a, .int .u8 o, .bool near]) rfl (cA_fr near) (cA_dst near) (cA_td near) (cA_gen near) (by cases near <;> kernel_rfl) tdA_noD hvars hE0 (fun m ρ => ⟨_, _, rfl, ⟨rfl, rfl⟩, _, _, rfl, ⟨rfl, rfl⟩, _, _, rfl, ⟨rfl, rfl⟩, _, _, rfl, ⟨rfl, rfl⟩, _, _, rfl, rfl, rfl⟩) (fun m r hr => by cases hr) (fun m => rfl) cs
  obtain ⟨b', q1, qe, q3, q5⟩ := g4 (x.sg p .nilIface) rfl ⟨rfl, rfl, rfl, rfl, trivial⟩
  -- the second table
  cases hc : mAc2 (tabW (a % 4) ρt) near with
  | none => have := cA2_dst (tabW (a % 4) ρt) near; rw [hc] at this; cases this
  | some m1 =>
    have hfr : enterA (EL2 (tabW (a % 4) ρt)) fTable9 [.sym 3] .normal = some m1.fr := by have := cA2_fr (tabW (a % 4) ρt) near; rwa [hc] at this
    have hdst : dstIs m1 22 = true := by have := cA2_dst (tabW (a % 4) ρt) near; rwa [hc] at this
    have htd := cA2_td (tabW (a % 4) ρt) near
    have hgen := cA2_gen (tabW (a % 4) ρt) near
    unfold mAb2 at htd hgen
    rw [hc] at htd hgen
    have htd : todoOf (behind m1) = some tdA2 := htd
    have hgen : isB (behind m1) (genOK gl [] fLinesApart 72 (keepA2 near) [] thA2 [] [22]) = true := hgen
    cases hm2 : behind m1 with
    | none => rw [hm2] at htd; cases htd
    | some m2 =>
      rw [hm2] at htd hgen
      have htd : m2.fr.todo = tdA2 := Option.some.inj htd
      have ok2 : EnvS (EL2 (tabW (a % 4) ρt)) (withM (x.sg p .nilIface) m) := EnvS.askM (envEt _ _) (fun r hr => by cases hr) (fun r hr => by cases hr)
      have mo2 : MemoOK (EL2 (tabW (a % 4) ρt)) (withM (x.sg p .nilIface) m) := MemoOK.or (E := EL2 (tabW (a % 4) ρt)) (tabs18_ok (E := EL2 (tabW (a % 4) ρt)) rfl _) (memoKH_ok (E := EL2 (tabW (a % 4) ρt)) rfl fun r hr => by cases hr)
      obtain ⟨ρ2, p2, M3, w3, hp2, c1, hB3, _, c4⟩ := via_table (E := EL2 (tabW (a % 4) ρt)) (a := o) (it := 3) (i0 := 51) (td := tdA2) rfl (fun _ h => h.2) ok2 mo2 hvars hE0 q1 hB q3 (q5 _) hc hfr hdst hm2 htd hgen (by cases near <;> kernel_rfl) tdA2_noD rfl
      obtain ⟨b3, s1, _, _, s3, s5⟩ := c4 (withM (x.sg p p2) m) rfl ((withM_kM _ _).trans (withM_kM _ _).symm) ⟨rfl, rfl, rfl, trivial⟩
      have hd := x.d_ok
      have hy := x.y_ok
      have l0 : (lineF x.k x.d).length ≤ 60 := line_len hk
      have eO : EnvOK (EA (fun w => tabW (a % 4) ρt w ∧ tabW (o % 4) ρ2 w) near (readB x.q (lineF x.k x.d)) (decide (x.d = x.y)) (decide (readN x.q (lineF x.k x.d) = x.d))) := ⟨envOK.ty, envOK.fns, envOK.mixed⟩
      obtain ⟨ok, mo⟩ := envR (V := fun w => tabW (a % 4) ρt w ∧ tabW (o % 4) ρ2 w) (orA ++ orAe near (decide (x.d = x.y)) (decide (readN x.q (lineF x.k x.d) = x.d))) mrNil2 (krA near (readB x.q (lineF x.k x.d))) (σ := withM (x.sg p p2) m) (fun r hr => by
        rcases List.mem_append.1 hr with hr | hr
        · exact orA_ok (by rfl) r hr
        · exact orAe_ok (x := x) hk rfl rfl r hr) (fun r hr => by
        rcases List.mem_cons.1 hr with rfl | hr
        · obtain ⟨L, _, e, _⟩ := hp2
          exact RowM.nil (u := tTab) (e := 86) (by show und E0 tTab = _; kernel_rfl) e (.inl ⟨rfl, rfl⟩) eO
        · exact mrNil_ok (by rfl) eO hp rfl r hr) (fun r hr => by
        simp only [krA, List.mem_cons, List.mem_nil_iff, or_false] at hr
        rcases hr with rfl | rfl | rfl
        · exact kr_text hk hp (fun _ h => h.1) (withM_kM _ _) (z := ((x.d : Nat) : Int)) rfl rfl (congrArg strV (lineI_nat hd.1 hd.2).symm)
        · exact kr_text hk hp (fun _ h => h.1) (withM_kM _ _) (z := ((x.y : Nat) : Int)) rfl (CtxA.y_sg (x := x)) (congrArg strV (lineI_nat hy.1 hy.2).symm)
        · exact kr_read hq hp2 (fun _ h => h.2) (withM_kM _ _) (s := lineF x.k x.d) (by omega) rfl rfl rfl rfl)
      have hh : (!readB x.q (lineF x.k x.d) || decide (readN x.q (lineF x.k x.d) = x.d)) = true := by
        rcases read_spec x.q (lineF x.k x.d) with ⟨h1, h2, h3, h4⟩ | ⟨h1, _, _⟩
        · rw [decide_eq_true (line_inj (k := x.q) (o := x.k) hq hk h2 h3 hd.1 hd.2 h4), Bool.or_true]
        · rw [h1]; rfl
      have := (s5 (EA (fun w => tabW (a % 4) ρt w ∧ tabW (o % 4) ρ2 w) near (readB x.q (lineF x.k x.d)) (decide (x.d = x.y)) (decide (readN x.q (lineF x.k x.d) = x.d)))).wins ok mo s3 (runA_end _ _ _ _ _ hh)
      refine Wins.steps (g1.trans c1) (this.mono ?_)
      rintro e w' ⟨u, ρ', rfl, hu, hK⟩
      have hu : u = .bool true := hu
      subst hu
      exact ⟨rfl, Below.kept hB3 hK s1⟩

theorem apart18_lifted (os : Os) (started : os.Started) (H : Type) (enc : TypeId × Value → H) :
    ReturnsInHanded {} Tryz.checked os 7 .any (fun w args => (Rows.linesApartSpec.pre enc Tryz.prog Tryz.f7 [] false w args ∧ laidMetH Tryz.prog Tryz.laid w) ∧ sizedMet enc Tryz.prog Tryz.f7 (OpenSpec.ofChange Rows.linesApartSpec) false w args)
      (Rows.linesApartSpec.post enc Tryz.prog Tryz.f7 false true false false) := by
  refine handed_shaped (C := Tryz.checked) (X := fun w _ => laidMetH Tryz.prog Tryz.laid w) (fun _ _ _ hh h => h.of_heap hh) Tryz.own started (by kernel_rfl) Tryz.func7
    (ChangeSpec.witness_shaped (enc := enc) (C := Tryz.checked) (os := os) (X := fun w _ => laidMetH Tryz.prog Tryz.laid w) false (World.laidAll Tryz.prog os Tryz.laid) #[.int .u32 0, .int .u32 0, .int .u8 0, .int .u8 0, .bool false] 8 (World.laidAll_os _ _ _)
      (World.shaped_of_ZipB (by kernel_rfl) (by kernel_rfl)) (by kernel_rfl) (by kernel_rfl) (by kernel_rfl)
      (by rw [MakeChecks.laidMetH_plain _ _ _ (by kernel_rfl)]; exact laidMet_laidAll _ (by kernel_rfl) (by kernel_rfl))) ?_
  intro W base args ds gs before hS hval0 hW hL
  have hval : ∀ (j : Nat) t v, Tryz.f7.params[j]? = some t → args[j]? = some v → Value.okWide Tryz.prog W .any base t v := hval0
  have hW' := hW
  obtain ⟨p, q, hA0, hV, rfl, _, _⟩ := hW
  have hA : DataW.TrodAll enc Tryz.prog W 0 (fun _ => true) true Tryz.f7.params.toList args.toList ds p := hA0
  rw [Tryz.params7] at hA hval
  rw [MakeChecks.laidMetH_plain _ _ _ (by kernel_rfl)] at hL
  obtain ⟨v0, v1, v2, v3, v4, d0, d1, d2, d3, d4, p0, p1, p2, p3, p4, rfl, rfl, rfl, h0, h1, h2, h3, h4⟩ := trodAll_five hA
  obtain ⟨rfl, rfl⟩ := trodVars_none hV
  obtain ⟨n, rfl, rfl, rfl, w0⟩ := open_int Tryz.underlying27 (hval 0 27 v0 rfl rfl) h0
  obtain ⟨n2, rfl, rfl, rfl, w1⟩ := open_int Tryz.underlying27 (hval 1 27 v1 rfl rfl) h1
  obtain ⟨a, rfl, rfl, rfl, w2⟩ := open_int Tryz.underlying5 (hval 2 5 v2 rfl rfl) h2
  obtain ⟨o, rfl, rfl, rfl, w3⟩ := open_int Tryz.underlying5 (hval 3 5 v3 rfl rfl) h3
  obtain ⟨near, rfl, rfl, rfl⟩ := open_bool Tryz.underlying4 (hval 4 4 v4 rfl rfl) h4
  have e1 : Rows.linesApartSpec.fn H ([.lit (.int .u32 n), .lit (.int .u32 n2), .lit (.int .u8 a), .lit (.int .u8 o), .lit (.bool near)] ++ []) = { results := [.lit (.bool true)], args := [.lit (.int .u32 n), .lit (.int .u32 n2), .lit (.int .u8 a), .lit (.int .u8 o), .lit (.bool near)] } := by simp [Rows.linesApartSpec]
  obtain ⟨n, rfl, _⟩ := nat_of_wf (.inr rfl) w0
  obtain ⟨n2, rfl, _⟩ := nat_of_wf (.inr rfl) w1
  obtain ⟨a, rfl, _⟩ := nat8_of_wf w2
  obtain ⟨o, rfl, _⟩ := nat8_of_wf w3
  refine (apart18_calls hL hS).mono fun e W' ⟨he, hB⟩ => ?_
  subst he
  refine ⟨_, rfl, _, _, _, [], [], [], hW', ?_, ?_, ?_, hB.frame _, fun h => by cases h⟩
  · rw [e1]; exact trodAll_mk1 (shut_bool Tryz.underlying4 true)
  · rw [e1]; exact trodAll_mk5 (shut_int Tryz.underlying27 w0) (shut_int Tryz.underlying27 w1) (shut_int Tryz.underlying5 w2) (shut_int Tryz.underlying5 w3) (shut_bool Tryz.underlying4 near)
  · rw [e1]; rfl
end
end Go.Proofs.YtnnhijfbdkokkaaGreatDoor
