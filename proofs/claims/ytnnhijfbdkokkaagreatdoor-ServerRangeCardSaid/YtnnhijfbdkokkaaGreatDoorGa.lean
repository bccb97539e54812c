/- The days of a period that a rule of the thirtieth of February has: none: the contract of expand.In at such a rule. No condition. -/
import Derived.Test.YtnnhijfbdkokkaaGreatDoorXa
namespace Go.Proofs.YtnnhijfbdkokkaaGreatDoor
open Go Go.Eng Go.RowKit
noncomputable section
set_option maxRecDepth 100000

/-- The rule, its months and its days two slices. -/
def rA : AV := .agg [.int .i64 3, .int .i64 1, .int .i64 0, .int .i64 366, .sym 70, .sym 71, .nilslice, .nilslice]
def slV (k o c : Nat) : Value := .slice (some ⟨k, o, none⟩) 1 c
def rV (s1 s2 : Value) : Value := .agg #[.int .i64 3, .int .i64 1, .int .i64 0, .int .i64 366, s1, s2, .slice none 0 0, .slice none 0 0]
/-- The one holds a 2, the other one a 30. -/
def memR (k1 o1 k2 o2 : Nat) (w : World) : Prop := (∃ c t fr, w.heap[k1]? = some (.cells c t fr) ∧ c[o1]? = some (.int .i64 2)) ∧ ∃ c t fr, w.heap[k2]? = some (.cells c t fr) ∧ c[o2]? = some (.int .i64 30)
theorem memR_hold {k1 o1 k2 o2 : Nat} {b : Nat → Prop} {w : World} (h : memR k1 o1 k2 o2 w) (h1 : b k1) (h2 : b k2) : Hold (memR k1 o1 k2 o2) b w := by
  refine ⟨h, fun w1 w2 ⟨⟨c, t, fr, e1, e2⟩, c', t', fr', e3, e4⟩ hK => ⟨⟨c, t, fr, ?_, e2⟩, c', t', fr', ?_, e4⟩⟩
  · rw [hK.block k1 h1]; exact e1
  · rw [hK.block k2 h2]; exact e3
theorem memR_lt {k1 o1 k2 o2 : Nat} {w : World} (h : memR k1 o1 k2 o2 w) : k1 < w.heap.size ∧ k2 < w.heap.size := by
  obtain ⟨⟨c, t, fr, e1, e2⟩, c', t', fr', e3, e4⟩ := h
  exact ⟨lt_of_get e1, lt_of_get e3⟩
theorem memR_all {k1 o1 k2 o2 : Nat} (w : World) (h : memR k1 o1 k2 o2 w) : Hold (memR k1 o1 k2 o2) (fun k => k < w.heap.size) w := memR_hold h (memR_lt h).1 (memR_lt h).2

/-! ### Does the rule let a day? -/
def mrL : List OR := [⟨Nat.add (Nat.mul 8 tInts) 3, [.sym 70], .int .i64 1⟩, ⟨Nat.add (Nat.mul 8 tInts) 2, [.sym 70, .int .i64 0], .sym 3⟩, ⟨Nat.add (Nat.mul 8 tInt) 1, [.sym 3], .int .i64 2⟩, ⟨Nat.add (Nat.mul 8 tInts) 3, [.sym 71], .int .i64 1⟩, ⟨Nat.add (Nat.mul 8 tInts) 2, [.sym 71, .int .i64 0], .sym 4⟩, ⟨Nat.add (Nat.mul 8 tInt) 1, [.sym 4], .int .i64 30⟩]
def orL (mm L : Nat) : List OR := bif_ (Nat.beq mm 2) [⟨11, [.sym 2, .int .i64 30], .bool false⟩, ⟨1, [.sym 2, .int .i64 (Int.ofNat L)], .sym 5⟩, ⟨1, [.sym 5, .int .i64 1], .sym 6⟩, ⟨11, [.sym 6, .int .i64 30], .bool false⟩] []
def krL (mm L : Nat) : List KR := [⟨fDate, [.sym 74], ⟨.tuple [.sym 1, .int .i64 (Int.ofNat mm), .sym 2], []⟩⟩, ⟨fLong, [.sym 1, .int .i64 2], ⟨.int .i64 (Int.ofNat L), []⟩⟩]
def EL (V : World → Prop) (mm L : Nat) : Env := ({ E0 with V := V } : Env).askM 9 (orL mm L) mrL (memoKH gl (krL mm L))
theorem runL0 (V : World → Prop) : allB (fun mm => rowRunG (EL V mm 28) gl fLets [rA, .int .i64 1, .sym 74] 2000 (.bool false)) months12 = true := by kernel_rfl
theorem runL1 (V : World → Prop) : allB (fun mm => rowRunG (EL V mm 29) gl fLets [rA, .int .i64 1, .sym 74] 2000 (.bool false)) months12 = true := by kernel_rfl
def sgL (s1 s2 : Value) (k1 o1 k2 o2 : Nat) (n y d L : Nat) : Nat → Value
  | 1 => .int .i64 (y : Int)
  | 2 => .int .i64 (d : Int)
  | 3 => .pointer (some ⟨k1, o1, none⟩)
  | 4 => .pointer (some ⟨k2, o2, none⟩)
  | 5 => .int .i64 ((d : Int) - L)
  | 6 => .int .i64 ((d : Int) - L - 1)
  | 70 => s1
  | 71 => s2
  | 74 => .int .i64 (n : Int)
  | _ => .nilIface
theorem typInts {E : Env} (h : E.ty = E0.ty) : und E tInts = some (.slice tInt) ∧ szOf E tInt = some 1 := by
  unfold und szOf; rw [h]; exact ⟨by kernel_rfl, by kernel_rfl⟩
theorem tyInt {E : Env} (h : E.ty = E0.ty) : ∃ ti, E.ty.get tInt = some ti ∧ ti.isAgg = false := by
  rw [h]
  have h1 : (match E0.ty.get tInt with | some ti => !ti.isAgg | none => false) = true := by kernel_rfl
  split at h1
  · rename_i ti hti; exact ⟨ti, hti, by simpa using h1⟩
  · cases h1
theorem envMV (V : World → Prop) : EnvOK ({ E0 with V := V } : Env) := ⟨envOK.ty, envOK.fns, envOK.mixed⟩
theorem mrL_ok {V : World → Prop} {mm L : Nat} {σ : Nat → Value} {k1 o1 c1 k2 o2 c2 : Nat} (h3 : σ 3 = .pointer (some ⟨k1, o1, none⟩)) (h4 : σ 4 = .pointer (some ⟨k2, o2, none⟩)) (h70 : σ 70 = slV k1 o1 c1) (h71 : σ 71 = slV k2 o2 c2) (hV : ∀ w, V w → memR k1 o1 k2 o2 w) : ∀ r ∈ mrL, RowM (EL V mm L) σ r := by
  have ok : EnvOK (EL V mm L) := ⟨envOK.ty, envOK.fns, envOK.mixed⟩
  obtain ⟨hu, hz⟩ := typInts (E := EL V mm L) rfl
  obtain ⟨ti, hti, hA⟩ := tyInt (E := EL V mm L) rfl
  intro r hr
  simp only [mrL, List.mem_cons, List.mem_nil_iff, or_false] at hr
  rcases hr with rfl | rfl | rfl | rfl | rfl | rfl
  · exact RowM.len hu h70 rfl ok
  · exact RowM.at (k := 0) (n := 0) hu hz h70 rfl (by omega) (by rw [h3]; rfl) ok
  · refine RowM.load h3 hti hA (fun w hw => ?_) ok
    obtain ⟨⟨c, t, fr, e1, e2⟩, _⟩ := hV w hw
    exact ⟨c, t, fr, _, e1, e2, fun ρ => rfl⟩
  · exact RowM.len hu h71 rfl ok
  · exact RowM.at (k := 0) (n := 0) hu hz h71 rfl (by omega) (by rw [h4]; rfl) ok
  · refine RowM.load h4 hti hA (fun w hw => ?_) ok
    obtain ⟨_, c, t, fr, e1, e2⟩ := hV w hw
    exact ⟨c, t, fr, _, e1, e2, fun ρ => rfl⟩
theorem c_lets {k1 o1 c1 k2 o2 c2 n : Nat} (h1 : 1 ≤ n) (h2 : n ≤ 3652059) : CallsV Tryz.prog gl fLets #[rV (slV k1 o1 c1) (slV k2 o2 c2), .int .i64 1, .int .i64 (n : Int)] (.bool false) (memR k1 o1 k2 o2) := by
  obtain ⟨y, mm, d, hd⟩ := dated n h1 h2
  have hL : longN (leapB (y : Int)) 2 = 28 ∨ longN (leapB (y : Int)) 2 = 29 := by
    cases leapB (y : Int)
    · exact .inl rfl
    · exact .inr rfl
  generalize hLg : longN (leapB (y : Int)) 2 = L at hL
  have hrun : rowRunG (EL (memR k1 o1 k2 o2) mm L) gl fLets [rA, .int .i64 1, .sym 74] 2000 (.bool false) = true := by
    rcases hL with rfl | rfl
    · exact allB_spec (runL0 _) mm (months12_mem hd.m1 hd.m2)
    · exact allB_spec (runL1 _) mm (months12_mem hd.m1 hd.m2)
  refine CallsV.scriptM (E := { E0 with V := memR k1 o1 k2 o2 }) (envMV _) rfl (σ := sgL (slV k1 o1 c1) (slV k2 o2 c2) k1 o1 k2 o2 n y d L) (orows := orL mm L) (mrows := mrL) (krows := krL mm L) (fun m r hr => ?_) (fun m r hr => ?_) (fun m r hr => ?_) hrun (fun m => ?_) (fun _ => rfl) rfl memR_all
  · have c2' : conc (withM (sgL (slV k1 o1 c1) (slV k2 o2 c2) k1 o1 k2 o2 n y d L) m) (.sym 2) = .int .i64 (d : Int) := rfl
    have c5' : conc (withM (sgL (slV k1 o1 c1) (slV k2 o2 c2) k1 o1 k2 o2 n y d L) m) (.sym 5) = .int .i64 ((d : Int) - L) := rfl
    have c6' : conc (withM (sgL (slV k1 o1 c1) (slV k2 o2 c2) k1 o1 k2 o2 n y d L) m) (.sym 6) = .int .i64 ((d : Int) - L - 1) := rfl
    have d31 := hd.d31
    have dd := hd.d2
    unfold orL at hr
    rw [bif_eq] at hr
    split at hr
    case isFalse => cases hr
    rename_i hmm
    have hmm := Nat.eq_of_beq_eq_true hmm
    subst hmm
    rw [hLg] at dd
    simp only [List.mem_cons, List.mem_nil_iff, or_false] at hr
    rcases hr with rfl | rfl | rfl | rfl
    · exact RowOK.cmp .i64 (x := (d : Int)) (y := 30) c2' rfl (.inl ⟨rfl, by symm; rw [decide_eq_false_iff_not]; omega⟩)
    · exact RowOK.sub64 (x := (d : Int)) (y := (L : Int)) c2' rfl c5' rfl (by omega) (by omega)
    · exact RowOK.sub64 (x := (d : Int) - L) (y := 1) c5' rfl c6' rfl (by omega) (by omega)
    · exact RowOK.cmp .i64 (x := (d : Int) - L - 1) (y := 30) c6' rfl (.inl ⟨rfl, by symm; rw [decide_eq_false_iff_not]; omega⟩)
  · exact mrL_ok (c1 := c1) (c2 := c2) rfl rfl rfl rfl (fun w h => h) r hr
  · simp only [krL, List.mem_cons, List.mem_nil_iff, or_false] at hr
    rcases hr with rfl | rfl
    · exact KRow.ofV glOK gl_bareM (withM_kM _ _) rfl (va := #[.int .i64 (n : Int)]) ⟨_, _, rfl, ⟨rfl, rfl⟩, rfl⟩ (.inr ⟨_, rfl, rfl⟩) (u := .tuple #[.int .i64 (y : Int), .int .i64 (mm : Int), .int .i64 (d : Int)]) ⟨_, rfl, _, _, rfl, ⟨rfl, rfl⟩, _, _, rfl, rfl, _, _, rfl, ⟨rfl, rfl⟩, rfl⟩ (hd.c.all.more fun _ _ => True.intro)
    · have c := c_long (y : Int) (m := 2) (by omega) (by omega)
      rw [hLg] at c
      exact KRow.ofV glOK gl_bareM (withM_kM _ _) rfl (va := #[.int .i64 (y : Int), .int .i64 (2 : Nat)]) ⟨_, _, rfl, ⟨rfl, rfl⟩, _, _, rfl, rfl, rfl⟩ (.inl rfl) (u := .int .i64 (L : Int)) rfl (c.all.more fun _ _ => True.intro)
  · exact ⟨_, _, rfl, ⟨_, rfl, _, _, rfl, rfl, _, _, rfl, rfl, _, _, rfl, rfl, _, _, rfl, rfl, _, _, rfl, ⟨rfl, rfl⟩, _, _, rfl, ⟨rfl, rfl⟩, _, _, rfl, rfl, _, _, rfl, rfl, rfl⟩, _, _, rfl, rfl, _, _, rfl, ⟨rfl, rfl⟩, rfl⟩

/-! ### The days of a period -/
def orI : List OR := [⟨14, [.sym 74, .sym 73], .bool true⟩, ⟨0, [.sym 74, .int .i64 1], .sym 75⟩]
def krI (i : Nat) : List KR := [⟨fLets, [rA, .int .i64 1, .sym i], ⟨.bool false, []⟩⟩]
def EI (V : World → Prop) : Env := ({ E0 with V := V } : Env).askM 9 orI [] (memoKH gl (krI 74))
def orI0 : List OR := [⟨14, [.sym 72, .sym 73], .bool true⟩, ⟨0, [.sym 72, .int .i64 1], .sym 75⟩]
def EI0 (V : World → Prop) : Env := ({ E0 with V := V } : Env).askM 9 orI0 [] (memoKH gl (krI 72))
def orIx : List OR := [⟨14, [.sym 74, .sym 73], .bool false⟩]
def EIx (V : World → Prop) : Env := ({ E0 with V := V } : Env).askM 9 orIx [] (memoKH gl [])
def argI : List AV := [rA, .int .i64 1, .agg [.sym 72, .sym 73]]
def keepI : List (Nat × AV) := [(0, rA), (1, .int .i64 1), (2, .agg [.sym 72, .sym 73]), (3, .ptr 1000 0), (5, .ptr 1001 0), (6, .nilslice), (7, .nilslice), (8, .nilslice), (9, .sym 74), (20, .agg [.unk, .unk, .unk, .unk, .unk, .unk, .unk, .unk])]
def bsI : List Blk := [.cells [.int .i64 3, .int .i64 1, .int .i64 0, .int .i64 366, .sym 70, .sym 71, .nilslice, .nilslice] tRule true, .cells [.sym 72, .sym 73] tSpan true]
def thI : List (Nat × AV) := [(70, .sym 70), (71, .sym 71), (72, .sym 72), (73, .sym 73), (74, .sym 75)]
def tdI : List AItem := match bnd (startM (EI0 fun _ => True) (stOf gl) fIn argI) (toPat (EI0 fun _ => True) gl [] 2 300 1 fIn 60 keepI bsI thI [1000, 1001]) with | some t => t | none => []
theorem run0 (V : World → Prop) : bnd (startM (EI0 V) (stOf gl) fIn argI) (toPat (EI0 V) gl [] 2 300 1 fIn 60 keepI bsI thI [1000, 1001]) = some tdI := by kernel_rfl
theorem run1 (V : World → Prop) : toPat (EI V) gl [] 2 300 0 fIn 60 keepI bsI thI [1000, 1001] (patM gl [] fIn 60 tdI keepI bsI) = some tdI := by kernel_rfl
theorem run2 (V : World → Prop) : retIs (EIx V) fIn .nilslice (runS (EIx V) doneA 300 (patM gl [] fIn 60 tdI keepI bsI)) = true := by kernel_rfl
theorem tdI_noD : noD tdI = true := by kernel_rfl
def sgI (s1 s2 : Value) (a b d : Nat) : Nat → Value
  | 70 => s1
  | 71 => s2
  | 72 => .int .i64 (a : Int)
  | 73 => .int .i64 (b : Int)
  | 74 => .int .i64 (d : Int)
  | 75 => .int .i64 ((d + 1 : Nat) : Int)
  | _ => .nilIface
theorem kr_lets {k1 o1 c1 k2 o2 c2 n i : Nat} {σ : Nat → Value} {m : Int} (hm : σ kM = .int .i64 m) (h1 : 1 ≤ n) (h2 : n ≤ 3652059) (h70 : σ 70 = slV k1 o1 c1) (h71 : σ 71 = slV k2 o2 c2) (hi : σ i = .int .i64 (n : Int)) : KRow Tryz.prog gl σ fLets [rA, .int .i64 1, .sym i] ⟨.bool false, []⟩ (memR k1 o1 k2 o2) :=
  KRow.ofC hm rfl rfl (va := #[rV (slV k1 o1 c1) (slV k2 o2 c2), .int .i64 1, .int .i64 (n : Int)])
    ⟨_, _, rfl, ⟨_, rfl, _, _, rfl, rfl, _, _, rfl, rfl, _, _, rfl, rfl, _, _, rfl, rfl, _, _, rfl, ⟨h70.symm, rfl⟩, _, _, rfl, ⟨h71.symm, rfl⟩, _, _, rfl, rfl, _, _, rfl, rfl, rfl⟩, _, _, rfl, rfl, _, _, rfl, ⟨hi.symm, rfl⟩, rfl⟩ (.inl rfl) (u := .bool false) rfl (c_lets h1 h2)
theorem okX_nil : okX gl [] = true := rfl

theorem c_in {k1 o1 c1 k2 o2 c2 a b : Nat} (h1 : 1 ≤ a) (h2 : a ≤ b) (h3 : b ≤ 3652059) : CallsV Tryz.prog gl fIn #[rV (slV k1 o1 c1) (slV k2 o2 c2), .int .i64 1, .agg #[.int .i64 (a : Int), .int .i64 (b : Int)]] (.slice none 0 0) (memR k1 o1 k2 o2) := by
  intro w ⟨m, hm⟩ hV cs
  -- the loop
  have loop : ∀ (k d : Nat), b + 1 - d = k → a ≤ d → d ≤ b + 1 → ∀ (b' : Nat → Prop) (ρ : Rho) (M : Machine) (w1 : World), Below w.heap.size w w1 → (∀ j, j < w.heap.size → b' j) → Hold (memR k1 o1 k2 o2) b' w1 →
      Live (EI (memR k1 o1 k2 o2)) b' ρ (withM (sgI (slV k1 o1 c1) (slV k2 o2 c2) a b d) m) cs (patM gl [] fIn 60 tdI keepI bsI) M w1 →
      Wins Tryz.prog fIn cs (fun e w' => e = .returned (.slice none 0 0) ∧ Below w.heap.size w w') M := by
    intro k
    induction k with
    | zero =>
      intro d hk ha hd b' ρ M w1 hB hb hH hL
      have hL' : Live (EIx (memR k1 o1 k2 o2)) b' ρ (withM (sgI (slV k1 o1 c1) (slV k2 o2 c2) a b d) m) cs (patM gl [] fIn 60 tdI keepI bsI) M w1 := Live.env hL rfl tdI_noD
      have ok : EnvS (EIx (memR k1 o1 k2 o2)) (withM (sgI (slV k1 o1 c1) (slV k2 o2 c2) a b d) m) := by
        refine EnvS.askM (envMV _) (fun r hr => ?_) (fun r hr => by cases hr)
        simp only [orIx, List.mem_cons, List.mem_nil_iff, or_false] at hr
        subst hr
        exact RowOK.cmp .i64 (x := (d : Int)) (y := (b : Int)) rfl rfl (.inr (.inr (.inr (.inl ⟨rfl, by symm; rw [decide_eq_false_iff_not]; omega⟩))))
      have mo : MemoOK (EIx (memR k1 o1 k2 o2)) (withM (sgI (slV k1 o1 c1) (slV k2 o2 c2) a b d) m) := memoKH_ok (E := EIx (memR k1 o1 k2 o2)) rfl fun r hr => by cases hr
      refine (hL'.wins ok mo hH (run2 _)).mono ?_
      rintro e w' ⟨u, ρ', rfl, hu, hK⟩
      have hu : u = .slice none 0 0 := hu
      subst hu
      exact ⟨rfl, Below.kept hB hK hb⟩
    | succ k ih =>
      intro d hk ha hd b' ρ M w1 hB hb hH hL
      have ok : EnvS (EI (memR k1 o1 k2 o2)) (withM (sgI (slV k1 o1 c1) (slV k2 o2 c2) a b d) m) := by
        refine EnvS.askM (envMV _) (fun r hr => ?_) (fun r hr => by cases hr)
        simp only [orI, List.mem_cons, List.mem_nil_iff, or_false] at hr
        rcases hr with rfl | rfl
        · exact RowOK.cmp .i64 (x := (d : Int)) (y := (b : Int)) rfl rfl (.inr (.inr (.inr (.inl ⟨rfl, by symm; rw [decide_eq_true_eq]; omega⟩))))
        · exact RowOK.add64 (x := (d : Int)) (y := 1) (z := ((d + 1 : Nat) : Int)) rfl rfl rfl (by omega) (by omega) (by omega)
      have mo : MemoOK (EI (memR k1 o1 k2 o2)) (withM (sgI (slV k1 o1 c1) (slV k2 o2 c2) a b d) m) := by
        refine memoKH_ok (E := EI (memR k1 o1 k2 o2)) rfl fun r hr => ?_
        simp only [krI, List.mem_cons, List.mem_nil_iff, or_false] at hr
        subst hr
        exact kr_lets (n := d) (withM_kM _ _) (by omega) (by omega) rfl rfl rfl
      obtain ⟨M', w', b2, g1, g2, g3, g4⟩ := hL.toPat (E' := EI (memR k1 o1 k2 o2)) (σ' := withM (sgI (slV k1 o1 c1) (slV k2 o2 c2) a b (d + 1)) m) ok mo hH (run1 _) glOK gl_bareM okX_nil rfl ⟨rfl, rfl, rfl, rfl, rfl, trivial⟩
      exact Wins.steps g1 (ih (d + 1) (by omega) (by omega) (by omega) b2 ρ M' w' (Below.kept hB g2 hb) (fun j hj => g3 j (hb j hj)) ((hH.kept g2).wide g3) g4)
  -- the way to it
  obtain ⟨ρ, hR⟩ := hm (withM (sgI (slV k1 o1 c1) (slV k2 o2 c2) a b a) m) (withM_kM _ _)
  obtain ⟨m0, hm0, hm1⟩ := bnd_some (run0 (memR k1 o1 k2 o2))
  obtain ⟨fr, hfr, rfl⟩ := startM_some hm0
  have hva : VRs ρ (withM (sgI (slV k1 o1 c1) (slV k2 o2 c2) a b a) m) argI (#[rV (slV k1 o1 c1) (slV k2 o2 c2), Value.int .i64 1, .agg #[.int .i64 (a : Int), .int .i64 (b : Int)]] : Array Value).toList :=
    ⟨_, _, rfl, ⟨_, rfl, _, _, rfl, rfl, _, _, rfl, rfl, _, _, rfl, rfl, _, _, rfl, rfl, _, _, rfl, ⟨rfl, rfl⟩, _, _, rfl, ⟨rfl, rfl⟩, _, _, rfl, rfl, _, _, rfl, rfl, rfl⟩, _, _, rfl, rfl, _, _, rfl, ⟨_, rfl, _, _, rfl, ⟨rfl, rfl⟩, _, _, rfl, ⟨rfl, rfl⟩, rfl⟩, rfl⟩
  have ok : EnvS (EI0 (memR k1 o1 k2 o2)) (withM (sgI (slV k1 o1 c1) (slV k2 o2 c2) a b a) m) := by
    refine EnvS.askM (envMV _) (fun r hr => ?_) (fun r hr => by cases hr)
    simp only [orI0, List.mem_cons, List.mem_nil_iff, or_false] at hr
    rcases hr with rfl | rfl
    · exact RowOK.cmp .i64 (x := (a : Int)) (y := (b : Int)) rfl rfl (.inr (.inr (.inr (.inl ⟨rfl, by symm; rw [decide_eq_true_eq]; omega⟩))))
    · exact RowOK.add64 (x := (a : Int)) (y := 1) (z := ((a + 1 : Nat) : Int)) rfl rfl rfl (by omega) (by omega) (by omega)
  have mo : MemoOK (EI0 (memR k1 o1 k2 o2)) (withM (sgI (slV k1 o1 c1) (slV k2 o2 c2) a b a) m) := by
    refine memoKH_ok (E := EI0 (memR k1 o1 k2 o2)) rfl fun r hr => ?_
    simp only [krI, List.mem_cons, List.mem_nil_iff, or_false] at hr
    subst hr
    exact kr_lets (n := a) (withM_kM _ _) (by omega) (by omega) rfl rfl rfl
  have hL0 := Live.start (E := EI0 (memR k1 o1 k2 o2)) (cs := cs) ok.ok hR hva hfr
  obtain ⟨M', w', b2, g1, g2, g3, g4⟩ := hL0.toPat (E' := EI (memR k1 o1 k2 o2)) (σ' := withM (sgI (slV k1 o1 c1) (slV k2 o2 c2) a b (a + 1)) m) ok mo (memR_all w hV) hm1 glOK gl_bareM okX_nil rfl ⟨rfl, rfl, rfl, rfl, rfl, trivial⟩
  exact Wins.steps g1 (loop _ (a + 1) rfl (by omega) (by omega) b2 ρ M' w' (Below.kept (Below.refl _ _) g2 fun _ h => h) (fun j hj => g3 j hj) (((memR_all w hV).kept g2).wide g3) g4)
end
end Go.Proofs.YtnnhijfbdkokkaaGreatDoor
