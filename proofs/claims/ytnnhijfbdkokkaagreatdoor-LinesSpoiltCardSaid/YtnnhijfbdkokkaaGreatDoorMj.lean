/- LinesSpoilt: the walk. No condition. -/
import Derived.Test.YtnnhijfbdkokkaaGreatDoorMo
import Derived.Test.YtnnhijfbdkokkaaGreatDoorMv
namespace Go.Proofs.YtnnhijfbdkokkaaGreatDoor
open Go Go.Eng Go.ChangeShapes Go.WideShapes Go.ChangeAt Go.RowKit
noncomputable section
set_option maxRecDepth 100000

/-! The symbols: 0 .. 4 the arguments; 22 the day, 23 its text, 28 where it is spoilt, 36 the spoilt text, 37 what is read of it, 38 that day's text, 50 the table. -/
def argS : List AV := [.sym 0, .sym 1, .sym 2, .sym 3, .sym 4]
def mSc : Option AM := bnd (startM (EL []) (stOf gl) fLinesSpoilt argS) (runS (EL []) (atCall fTable9) 1000)
def mSb : Option AM := bnd mSc behind
def tdS : List AItem := tdO (todoOf mSb)
def keepS1 : List (Nat × AV) := [(0, .sym 0), (1, .sym 1), (2, .sym 2), (3, .sym 3), (4, .sym 4), (19, .sym 50)]
def thS1 : List (Nat × AV) := [(0, .sym 0), (1, .sym 1), (2, .sym 2), (3, .sym 3), (4, .sym 4)]
theorem cS_fr : enterA (EL []) fTable9 [.sym 1] .normal = frOf mSc := by kernel_rfl
theorem cS_dst : isB mSc (fun m => dstIs m 19) = true := by kernel_rfl
theorem cS_gen : isB mSb (genOK gl [] fLinesSpoilt 78 keepS1 [] thS1 [] [19]) = true := by kernel_rfl
theorem cS_td : todoOf mSb = some tdS := by kernel_rfl
theorem tdS_noD : noD tdS = true := by kernel_rfl
def pS : AM := patM gl [] fLinesSpoilt 78 tdS keepS1 []
def orS0 (b : Bool) : List OR := [⟨20, [.sym 4], .sym 24⟩, ⟨15, [.sym 24, .int .i64 10], .bool b⟩]
def orS : List OR := [⟨4, [.sym 0, .int .u32 3652059], .sym 20⟩, ⟨cv tU32 tDay, [.sym 20], .sym 21⟩, ⟨0, [.int .i64 1, .sym 21], .sym 22⟩,
  ⟨cv tU8 tInt, [.sym 2], .sym 25⟩, ⟨20, [.sym 23], .sym 26⟩, ⟨0, [.sym 26, .int .i64 1], .sym 27⟩, ⟨4, [.sym 25, .sym 27], .sym 28⟩, ⟨24, [.sym 23, .sym 28], .sym 29⟩, ⟨0, [.sym 29, .sym 4], .sym 30⟩,
  ⟨4, [.sym 3, .int .u8 4], .sym 31⟩, ⟨cv tU8 tInt, [.sym 31], .sym 32⟩, ⟨0, [.sym 28, .sym 32], .sym 33⟩, ⟨25, [.sym 33, .sym 26], .sym 34⟩, ⟨23, [.sym 23, .sym 34], .sym 35⟩, ⟨0, [.sym 30, .sym 35], .sym 36⟩]
def orSe (ok : Bool) : List OR := ⟨12, [.sym 37, .int .i64 0], .bool ok⟩ :: bif_ ok [⟨11, [.sym 38, .sym 36], .bool true⟩] []
def krS (ok : Bool) : List KR := [⟨fText18, [.sym 50, .sym 22], ⟨.sym 23, []⟩⟩, ⟨fLRead, [.sym 50, .sym 36], ⟨.tuple [.sym 37, .bool ok], []⟩⟩, ⟨fText18, [.sym 50, .sym 37], ⟨.sym 38, []⟩⟩]
def ES (V : World → Prop) (ok : Bool) : Env := ER V (orS0 false ++ (orS ++ orSe ok)) mrNil (krS ok)
theorem runS_end (V : World → Prop) : ∀ ok : Bool, retIs (ES V ok) fLinesSpoilt (.bool true) (runS (ES V ok) doneA 2000 pS) = true := by
  intro ok
  cases ok <;> kernel_rfl
theorem runS_long (V : World → Prop) : retIs (ER V (orS0 true) mrNil []) fLinesSpoilt (.bool true) (runS (ER V (orS0 true) mrNil []) doneA 2000 pS) = true := by kernel_rfl

/-! ### What the symbols stand for -/
structure CtxS where
  n : Nat
  a : Nat
  at_ : Nat
  cut : Nat
  more : List UInt8
namespace CtxS
variable (x : CtxS)
def k : Nat := x.a % 4
def s0 : List UInt8 := lineF x.k (dayN x.n)
def i : Nat := x.at_ % (x.s0.length + 1)
def j : Nat := if x.s0.length < x.i + x.cut % 4 then x.s0.length else x.i + x.cut % 4
def s1 : List UInt8 := (x.s0.take x.i ++ x.more) ++ x.s0.drop x.j
def sg (p : Value) : Nat → Value
  | 0 => .int .u32 (x.n : Int)
  | 1 => .int .u8 (x.a : Int)
  | 2 => .int .u8 (x.at_ : Int)
  | 3 => .int .u8 (x.cut : Int)
  | 4 => strV x.more
  | 20 => .int .u32 ((x.n % 3652059 : Nat) : Int)
  | 21 => .int .i64 ((x.n % 3652059 : Nat) : Int)
  | 22 => .int .i64 ((dayN x.n : Nat) : Int)
  | 23 => strV x.s0
  | 24 => .int .i64 ((x.more.length : Nat) : Int)
  | 25 => .int .i64 (x.at_ : Int)
  | 26 => .int .i64 ((x.s0.length : Nat) : Int)
  | 27 => .int .i64 ((x.s0.length + 1 : Nat) : Int)
  | 28 => .int .i64 ((x.i : Nat) : Int)
  | 29 => strV (x.s0.take x.i)
  | 30 => strV (x.s0.take x.i ++ x.more)
  | 31 => .int .u8 ((x.cut % 4 : Nat) : Int)
  | 32 => .int .i64 ((x.cut % 4 : Nat) : Int)
  | 33 => .int .i64 ((x.i + x.cut % 4 : Nat) : Int)
  | 34 => .int .i64 ((x.j : Nat) : Int)
  | 35 => strV (x.s0.drop x.j)
  | 36 => strV x.s1
  | 37 => .int .i64 ((readN x.k x.s1 : Nat) : Int)
  | 38 => strV (lineI x.k ((readN x.k x.s1 : Nat) : Int))
  | 50 => p
  | _ => .nilIface
end CtxS
theorem conv_u8 {E : Env} (hT : E.ty = E0.ty) {σ : Nat → Value} {i j : Nat} {n : Nat} (hn : n < 256) (hi : conc σ (.sym i) = .int .u8 (n : Int)) (hj : conc σ (.sym j) = .int .i64 (n : Int)) : RowOK E 9 σ ⟨cv tU8 tInt, [.sym i], .sym j⟩ := by
  refine RowOK.conv (u := tU8) (d := tInt) (k := .u8) (k' := .i64) (n := (n : Int)) ?_ ?_ hi ?_ (by decide)
  · unfold und; rw [hT]; kernel_rfl
  · unfold und; rw [hT]; kernel_rfl
  · rw [hj, wrap64_id (by omega) (by omega)]
section
variable {x : CtxS} {p : Value} {m : Int} {E : Env}
theorem orS0_ok (hT : E.ty = E0.ty) {b : Bool} (hb : b = decide (10 < x.more.length)) : ∀ r ∈ orS0 b, RowOK E 9 (withM (x.sg p) m) r := by
  intro r hr
  simp only [orS0, List.mem_cons, List.mem_nil_iff, or_false] at hr
  rcases hr with rfl | rfl
  · exact RowOK.len (typ9 hT) (x := nats x.more) rfl (by rw [nats_len]; rfl)
  · exact RowOK.cmp .i64 (x := ((x.more.length : Nat) : Int)) (y := 10) rfl rfl (.inr (.inr (.inr (.inr (.inl ⟨rfl, by rw [hb, decide_eq_decide]; omega⟩)))))
theorem orS_ok (hT : E.ty = E0.ty) (ha : x.at_ < 256) (hm : x.more.length ≤ 10) (hl : x.s0.length ≤ 60) : ∀ r ∈ orS, RowOK E 9 (withM (x.sg p) m) r := by
  have hi : x.i ≤ x.s0.length := by have := Nat.mod_lt x.at_ (show 0 < x.s0.length + 1 by omega); show x.at_ % (x.s0.length + 1) ≤ _; omega
  have hj : x.j ≤ x.s0.length := by show (if x.s0.length < x.i + x.cut % 4 then x.s0.length else x.i + x.cut % 4) ≤ _; split <;> omega
  have et : ∀ k, (nats x.s0).take k = nats (x.s0.take k) := fun k => by unfold nats; rw [List.map_take]
  have ed : ∀ k, (nats x.s0).drop k = nats (x.s0.drop k) := fun k => by unfold nats; rw [List.map_drop]
  have ln := nats_len x.s0
  intro r hr
  simp only [orS, List.mem_cons, List.mem_nil_iff, or_false] at hr
  rcases hr with rfl | rfl | rfl | rfl | rfl | rfl | rfl | rfl | rfl | rfl | rfl | rfl | rfl | rfl | rfl
  · exact RowOK.rem .u32 (x := (x.n : Int)) (y := ((3652059 : Nat) : Int)) rfl rfl rfl (by decide) (tmodN x.n 3652059)
  · exact conv_u32 (σ := withM (x.sg p) m) (i := 20) (j := 21) hT (n := x.n % 3652059) (by omega) rfl rfl
  · exact RowOK.add64 (x := 1) (y := ((x.n % 3652059 : Nat) : Int)) (z := ((dayN x.n : Nat) : Int)) rfl rfl rfl (by unfold dayN; omega) (by omega) (by unfold dayN; omega)
  · exact conv_u8 (σ := withM (x.sg p) m) (i := 2) (j := 25) hT (n := x.at_) ha rfl rfl
  · exact RowOK.len (typ9 hT) (x := nats x.s0) rfl (by rw [ln]; rfl)
  · exact RowOK.add64 (x := ((x.s0.length : Nat) : Int)) (y := 1) (z := ((x.s0.length + 1 : Nat) : Int)) rfl rfl rfl (by omega) (by omega) (by omega)
  · exact RowOK.rem .i64 (x := (x.at_ : Int)) (y := ((x.s0.length + 1 : Nat) : Int)) (z := ((x.i : Nat) : Int)) rfl rfl rfl (by omega) (tmodN x.at_ (x.s0.length + 1))
  · exact RowOK.part (typ9 hT) (a := .sym 23) (x := nats x.s0) (lo := 0) (hi := x.i) rfl (by omega) (by omega) (by rw [List.drop_zero, Nat.sub_zero, et]; rfl) (.inr (.inr ⟨rfl, rfl, _, .i64, rfl, rfl⟩))
  · exact cat_row (p := x.s0.take x.i) (q := x.more) rfl rfl rfl (by rw [List.length_append, List.length_take]; omega)
  · exact RowOK.rem .u8 (x := (x.cut : Int)) (y := ((4 : Nat) : Int)) rfl rfl rfl (by decide) (tmodN x.cut 4)
  · exact conv_u8 (σ := withM (x.sg p) m) (i := 31) (j := 32) hT (n := x.cut % 4) (by omega) rfl rfl
  · exact RowOK.add64 (x := ((x.i : Nat) : Int)) (y := ((x.cut % 4 : Nat) : Int)) (z := ((x.i + x.cut % 4 : Nat) : Int)) rfl rfl rfl (by omega) (by omega) (by omega)
  · refine RowOK.min (x := ((x.i + x.cut % 4 : Nat) : Int)) (y := ((x.s0.length : Nat) : Int)) (z := ((x.j : Nat) : Int)) rfl rfl rfl ?_
    show (((if x.s0.length < x.i + x.cut % 4 then x.s0.length else x.i + x.cut % 4 : Nat)) : Int) = _
    split <;> split <;> omega
  · refine RowOK.part (typ9 hT) (a := .sym 23) (x := nats x.s0) (lo := x.j) (hi := x.s0.length) rfl hj (by omega) ?_ (.inr (.inl ⟨rfl, ln.symm, _, .i64, rfl, rfl⟩))
    rw [ed, List.take_of_length_le (by rw [nats_len, List.length_drop]; omega)]; rfl
  · exact cat_row (p := x.s0.take x.i ++ x.more) (q := x.s0.drop x.j) rfl rfl rfl (by rw [List.length_append, List.length_append, List.length_take, List.length_drop]; omega)
theorem orSe_ok {ok : Bool} (hok : ok = readB x.k x.s1) : ∀ r ∈ orSe ok, RowOK E 9 (withM (x.sg p) m) r := by
  have sp := read_spec x.k x.s1
  intro r hr
  rcases List.mem_cons.1 hr with rfl | hr
  · refine RowOK.cmp .i64 (x := ((readN x.k x.s1 : Nat) : Int)) (y := 0) rfl rfl (.inr (.inl ⟨rfl, ?_⟩))
    rcases sp with ⟨h1, h2, h3, _⟩ | ⟨h1, h2, _⟩
    · rw [hok, h1, decide_eq_false (by omega)]; rfl
    · rw [hok, h1, h2]; rfl
  · cases ok with
    | false => cases hr
    | true =>
      have hr : r ∈ [(⟨11, [.sym 38, .sym 36], .bool true⟩ : OR)] := hr
      simp only [List.mem_cons, List.mem_nil_iff, or_false] at hr
      subst hr
      refine RowOK.seq (p := nats (lineI x.k ((readN x.k x.s1 : Nat) : Int))) (q := nats x.s1) rfl rfl (.inl ⟨rfl, ?_⟩)
      rcases sp with ⟨_, h2, h3, h4⟩ | ⟨h1, _, _⟩
      · rw [lineI_nat h2 h3, h4]; simp
      · rw [h1] at hok; cases hok
end

/-- Whatever the input, LinesSpoilt hands back true. -/
theorem spoilt18_calls {W : World} (hL : laidMet Tryz.prog Tryz.laid W) (hS : W.ShapedOpen Tryz.prog) {n a t c : Nat} {s : ByteArray} (ht : t < 256) :
    Calls Tryz.prog fLinesSpoilt #[.int .u32 n, .int .u8 a, .int .u8 t, .int .u8 c, .string s] W (fun e W' => e = .returned (.bool true) ∧ Below W.heap.size W W') := by
  have hvars : Vars gl W := by
    obtain ⟨m, hm⟩ := vars_laid hL hS
    exact ⟨m, hm⟩
  have hE0 := errV_laid hL hS
  have hk : a % 4 < 4 := Nat.mod_lt _ (by omega)
  let x : CtxS := ⟨n, a, t, c, s.data.toList⟩
  intro cs
  obtain ⟨m, ρ0, ρt, p, M2, w2, hp, g1, hB, _, g4⟩ := via_start (a := a) (n := 1000) (o := []) (mc := mSc) (td := tdS) (σ0 := x.sg .nilIface) (va := #[.int .u32 n, .int .u8 a, .int .u8 t, .int .u8 c, .string s]) rfl cS_fr cS_dst cS_td cS_gen (by kernel_rfl) tdS_noD hvars hE0 (fun m ρ => ⟨_, _, rfl, ⟨rfl, rfl⟩, _, _, rfl, ⟨rfl, rfl⟩, _, _, rfl, ⟨rfl, rfl⟩, _, _, rfl, ⟨rfl, rfl⟩, _, _, rfl, ⟨rfl, rfl⟩, rfl⟩) (fun m r hr => by cases hr) (fun m => rfl) cs
  obtain ⟨b', q1, _, q3, q5⟩ := g4 (x.sg p) rfl ⟨rfl, rfl, rfl, rfl, rfl, trivial⟩
  have fin : ∀ {E : Env}, E.P = Tryz.prog → E.V = tabW (a % 4) ρt → EnvS E (withM (x.sg p) m) → MemoOK E (withM (x.sg p) m) → retIs E fLinesSpoilt (.bool true) (runS E doneA 2000 pS) = true → Wins Tryz.prog fLinesSpoilt cs (fun e W' => e = .returned (.bool true) ∧ Below W.heap.size W W') (lone (Frame.enter Tryz.prog fLinesSpoilt #[.int .u32 n, .int .u8 a, .int .u8 t, .int .u8 c, .string s] .normal) cs W) := by
    intro E hP hEV ok mo run
    have := (q5 E).wins ok mo (by rw [hEV]; exact q3) run
    rw [hP] at this
    refine Wins.steps g1 (this.mono ?_)
    rintro e w' ⟨u, ρ', rfl, hu, hK⟩
    have hu : u = .bool true := hu
    subst hu
    exact ⟨rfl, Below.kept hB hK q1⟩
  by_cases h10 : 10 < x.more.length
  · have eO : EnvOK (ER (tabW (a % 4) ρt) (orS0 true) mrNil []) := ⟨envOK.ty, envOK.fns, envOK.mixed⟩
    obtain ⟨ok, mo⟩ := envR (V := tabW (a % 4) ρt) (orS0 true) mrNil [] (σ := withM (x.sg p) m) (orS0_ok (by rfl) (decide_eq_true h10).symm) (mrNil_ok (by rfl) eO hp rfl) (fun r hr => by cases hr)
    exact fin (E := ER (tabW (a % 4) ρt) (orS0 true) mrNil []) rfl rfl ok mo (runS_long _)
  · have hd := dayN_ok n
    have l0 : x.s0.length ≤ 60 := line_len hk
    have el : lineI (a % 4) ((dayN n : Nat) : Int) = lineF (a % 4) (dayN n) := lineI_nat hd.1 hd.2
    have l1 : x.s1.length ≤ 1000 := by
      show ((x.s0.take x.i ++ x.more) ++ x.s0.drop x.j).length ≤ 1000
      rw [List.length_append, List.length_append, List.length_take, List.length_drop]; omega
    have eO : EnvOK (ES (tabW (a % 4) ρt) (readB x.k x.s1)) := ⟨envOK.ty, envOK.fns, envOK.mixed⟩
    obtain ⟨ok, mo⟩ := envR (V := tabW (a % 4) ρt) (orS0 false ++ (orS ++ orSe (readB x.k x.s1))) mrNil (krS (readB x.k x.s1)) (σ := withM (x.sg p) m) (fun r hr => by
      rcases List.mem_append.1 hr with hr | hr
      · exact orS0_ok (by rfl) (decide_eq_false h10).symm r hr
      rcases List.mem_append.1 hr with hr | hr
      · exact orS_ok (by rfl) ht (by omega) l0 r hr
      · exact orSe_ok rfl r hr) (mrNil_ok (by rfl) eO hp rfl) (fun r hr => by
      simp only [krS, List.mem_cons, List.mem_nil_iff, or_false] at hr
      rcases hr with rfl | rfl | rfl
      · exact kr_text18 hk hp (fun _ h => h) (withM_kM _ _) (z := ((dayN n : Nat) : Int)) rfl rfl (congrArg strV el.symm)
      · exact kr_read hk hp (fun _ h => h) (withM_kM _ _) (s := x.s1) l1 rfl rfl rfl rfl
      · exact kr_text18 hk hp (fun _ h => h) (withM_kM _ _) (z := ((readN x.k x.s1 : Nat) : Int)) rfl rfl rfl)
    exact fin (E := ES (tabW (a % 4) ρt) (readB x.k x.s1)) rfl rfl ok mo (runS_end _ _)

theorem spoilt18_lifted (os : Os) (started : os.Started) (H : Type) (enc : TypeId × Value → H) :
    ReturnsInHanded {} Tryz.checked os 6 .any (fun w args => (Rows.linesSpoiltSpec.pre enc Tryz.prog Tryz.f6 [] false w args ∧ laidMetH Tryz.prog Tryz.laid w) ∧ sizedMet enc Tryz.prog Tryz.f6 (OpenSpec.ofChange Rows.linesSpoiltSpec) false w args)
      (Rows.linesSpoiltSpec.post enc Tryz.prog Tryz.f6 false true false false) := by
  refine handed_shaped (C := Tryz.checked) (X := fun w _ => laidMetH Tryz.prog Tryz.laid w) (fun _ _ _ hh h => h.of_heap hh) Tryz.own started (by kernel_rfl) Tryz.func6
    (ChangeSpec.witness_shaped (enc := enc) (C := Tryz.checked) (os := os) (X := fun w _ => laidMetH Tryz.prog Tryz.laid w) false (World.laidAll Tryz.prog os Tryz.laid) #[.int .u32 0, .int .u8 0, .int .u8 0, .int .u8 0, .string ⟨#[]⟩] 8 (World.laidAll_os _ _ _)
      (World.shaped_of_ZipB (by kernel_rfl) (by kernel_rfl)) (by kernel_rfl) (by kernel_rfl) (by kernel_rfl)
      (by rw [MakeChecks.laidMetH_plain _ _ _ (by kernel_rfl)]; exact laidMet_laidAll _ (by kernel_rfl) (by kernel_rfl))) ?_
  intro W base args ds gs before hS hval0 hW hL
  have hval : ∀ (j : Nat) t v, Tryz.f6.params[j]? = some t → args[j]? = some v → Value.okWide Tryz.prog W .any base t v := hval0
  have hW' := hW
  obtain ⟨p, q, hA0, hV, rfl, _, _⟩ := hW
  have hA : DataW.TrodAll enc Tryz.prog W 0 (fun _ => true) true Tryz.f6.params.toList args.toList ds p := hA0
  rw [Tryz.params6] at hA hval
  rw [MakeChecks.laidMetH_plain _ _ _ (by kernel_rfl)] at hL
  obtain ⟨v0, v1, v2, v3, v4, d0, d1, d2, d3, d4, p0, p1, p2, p3, p4, rfl, rfl, rfl, h0, h1, h2, h3, h4⟩ := trodAll_five hA
  obtain ⟨rfl, rfl⟩ := trodVars_none hV
  obtain ⟨n, rfl, rfl, rfl, w0⟩ := open_int Tryz.underlying27 (hval 0 27 v0 rfl rfl) h0
  obtain ⟨a, rfl, rfl, rfl, w1⟩ := open_int Tryz.underlying5 (hval 1 5 v1 rfl rfl) h1
  obtain ⟨t, rfl, rfl, rfl, w2⟩ := open_int Tryz.underlying5 (hval 2 5 v2 rfl rfl) h2
  obtain ⟨c, rfl, rfl, rfl, w3⟩ := open_int Tryz.underlying5 (hval 3 5 v3 rfl rfl) h3
  obtain ⟨s, rfl, rfl, rfl, w4⟩ := ChangeMaps.open_string Tryz.underlying9 (hval 4 9 v4 rfl rfl) h4
  have e1 : Rows.linesSpoiltSpec.fn H ([.lit (.int .u32 n), .lit (.int .u8 a), .lit (.int .u8 t), .lit (.int .u8 c), .lit (.string s.data.toList)] ++ []) = { results := [.lit (.bool true)], args := [.lit (.int .u32 n), .lit (.int .u8 a), .lit (.int .u8 t), .lit (.int .u8 c), .lit (.string s.data.toList)] } := by simp [Rows.linesSpoiltSpec]
  obtain ⟨n, rfl, _⟩ := nat_of_wf (.inr rfl) w0
  obtain ⟨a, rfl, _⟩ := nat8_of_wf w1
  obtain ⟨t, rfl, hb2⟩ := nat8_of_wf w2
  obtain ⟨c, rfl, _⟩ := nat8_of_wf w3
  refine (spoilt18_calls hL hS hb2).mono fun e W' ⟨he, hB⟩ => ?_
  subst he
  refine ⟨_, rfl, _, _, _, [], [], [], hW', ?_, ?_, ?_, hB.frame _, fun h => by cases h⟩
  · rw [e1]; exact trodAll_mk1 (shut_bool Tryz.underlying4 true)
  · rw [e1]; exact trodAll_mk5 (shut_int Tryz.underlying27 w0) (shut_int Tryz.underlying5 w1) (shut_int Tryz.underlying5 w2) (shut_int Tryz.underlying5 w3) (ChangeMaps.shut_string Tryz.underlying9 w4)
  · rw [e1]; rfl
end
end Go.Proofs.YtnnhijfbdkokkaaGreatDoor
