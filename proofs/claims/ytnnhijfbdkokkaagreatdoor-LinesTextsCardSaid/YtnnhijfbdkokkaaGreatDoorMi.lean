/- LinesTexts: the walk. No condition. -/
import Derived.Test.YtnnhijfbdkokkaaGreatDoorMo
import Derived.Test.YtnnhijfbdkokkaaGreatDoorMv
namespace Go.Proofs.YtnnhijfbdkokkaaGreatDoor
open Go Go.Eng Go.ChangeShapes Go.WideShapes Go.ChangeAt Go.RowKit
noncomputable section
set_option maxRecDepth 100000

/-! The symbols: 0, 1, 2 the arguments, 3, 4 the day's reckoning, 8 the day, 9 its text, 12, 13 the other day and its text, 50 the table. -/
def argT : List AV := [.sym 0, .sym 1, .sym 2]
def mTc : Option AM := bnd (startM (EL []) (stOf gl) fLinesTexts argT) (runS (EL []) (atCall fTable9) 1000)
def mTb : Option AM := bnd mTc behind
def tdT : List AItem := tdO (todoOf mTb)
def keepT1 : List (Nat × AV) := [(0, .sym 0), (1, .sym 1), (2, .sym 2), (15, .sym 50)]
def thT1 : List (Nat × AV) := [(0, .sym 0), (1, .sym 1), (2, .sym 2)]
theorem cT_fr : enterA (EL []) fTable9 [.sym 1] .normal = frOf mTc := by kernel_rfl
theorem cT_dst : isB mTc (fun m => dstIs m 15) = true := by kernel_rfl
theorem cT_gen : isB mTb (genOK gl [] fLinesTexts 55 keepT1 [] thT1 [] [15]) = true := by kernel_rfl
theorem cT_td : todoOf mTb = some tdT := by kernel_rfl
theorem tdT_noD : noD tdT = true := by kernel_rfl
def pT : AM := patM gl [] fLinesTexts 55 tdT keepT1 []
def orT : List OR := [⟨4, [.sym 0, .int .u32 3652059], .sym 3⟩, ⟨cv tU32 tDay, [.sym 3], .sym 4⟩, ⟨0, [.int .i64 1, .sym 4], .sym 8⟩, ⟨11, [.sym 9, .sym 9], .bool true⟩, ⟨11, [.sym 8, .sym 8], .bool true⟩, ⟨cv tI32 tDay, [.sym 2], .sym 12⟩, ⟨11, [.sym 13, .sym 13], .bool true⟩]
def krT : List KR := [⟨fLText, [.sym 50, .sym 8], ⟨.sym 9, []⟩⟩, ⟨fLRead, [.sym 50, .sym 9], ⟨.tuple [.sym 8, .bool true], []⟩⟩, ⟨fText18, [.sym 50, .sym 8], ⟨.sym 9, []⟩⟩, ⟨fLText, [.sym 50, .sym 12], ⟨.sym 13, []⟩⟩, ⟨fText18, [.sym 50, .sym 12], ⟨.sym 13, []⟩⟩]
theorem runT_end (V : World → Prop) : retIs (ER V orT mrNil krT) fLinesTexts (.bool true) (runS (ER V orT mrNil krT) doneA 2000 pT) = true := by kernel_rfl

/-! ### What the symbols stand for -/
def sgTx (p : Value) (n a : Nat) (o : Int) : Nat → Value
  | 0 => .int .u32 (n : Int)
  | 1 => .int .u8 (a : Int)
  | 2 => .int .i32 o
  | 3 => .int .u32 ((n % 3652059 : Nat) : Int)
  | 4 => .int .i64 ((n % 3652059 : Nat) : Int)
  | 8 => .int .i64 ((dayN n : Nat) : Int)
  | 9 => strV (lineF (a % 4) (dayN n))
  | 12 => .int .i64 o
  | 13 => strV (lineI (a % 4) o)
  | 50 => p
  | _ => .nilIface
/-- Whatever the numbers, LinesTexts hands back true. -/
theorem texts_calls {W : World} (hL : laidMet Tryz.prog Tryz.laid W) (hS : W.ShapedOpen Tryz.prog) {n a : Nat} {o : Int} (ho : -2147483648 ≤ o ∧ o ≤ 2147483647) :
    Calls Tryz.prog fLinesTexts #[.int .u32 n, .int .u8 a, .int .i32 o] W (fun e W' => e = .returned (.bool true) ∧ Below W.heap.size W W') := by
  have hvars : Vars gl W := by
    obtain ⟨m, hm⟩ := vars_laid hL hS
    exact ⟨m, hm⟩
  have hE0 := errV_laid hL hS
  have hk : a % 4 < 4 := Nat.mod_lt _ (by omega)
  intro cs
  obtain ⟨m, ρ0, ρt, p, M2, w2, hp, g1, hB, _, g4⟩ := via_start (a := a) (n := 1000) (o := []) (mc := mTc) (td := tdT) (σ0 := sgTx .nilIface n a o) (va := #[.int .u32 n, .int .u8 a, .int .i32 o]) rfl cT_fr cT_dst cT_td cT_gen (by kernel_rfl) tdT_noD hvars hE0 (fun m ρ => ⟨_, _, rfl, ⟨rfl, rfl⟩, _, _, rfl, ⟨rfl, rfl⟩, _, _, rfl, ⟨rfl, rfl⟩, rfl⟩) (fun m r hr => by cases hr) (fun m => rfl) cs
  obtain ⟨b', q1, _, q3, q5⟩ := g4 (sgTx p n a o) rfl ⟨rfl, rfl, rfl, trivial⟩
  have hd := dayN_ok n
  have el : lineI (a % 4) ((dayN n : Nat) : Int) = lineF (a % 4) (dayN n) := lineI_nat hd.1 hd.2
  obtain ⟨r1, r2⟩ := read_hit hk hd.1 hd.2 rfl
  have eO : EnvOK (ER (tabW (a % 4) ρt) orT mrNil krT) := ⟨envOK.ty, envOK.fns, envOK.mixed⟩
  obtain ⟨ok2, mo2⟩ := envR (V := tabW (a % 4) ρt) orT mrNil krT (σ := withM (sgTx p n a o) m) (fun r hr => by
    simp only [orT, List.mem_cons, List.mem_nil_iff, or_false] at hr
    rcases hr with rfl | rfl | rfl | rfl | rfl | rfl | rfl
    · exact RowOK.rem .u32 (x := (n : Int)) (y := ((3652059 : Nat) : Int)) rfl rfl rfl (by decide) (tmodN n 3652059)
    · exact conv_u32 (σ := withM (sgTx p n a o) m) (i := 3) (j := 4) (by rfl) (n := n % 3652059) (by omega) rfl rfl
    · exact RowOK.add64 (x := 1) (y := ((n % 3652059 : Nat) : Int)) (z := ((dayN n : Nat) : Int)) rfl rfl rfl (by unfold dayN; omega) (by omega) (by omega)
    · exact RowOK.seq (p := nats (lineF (a % 4) (dayN n))) (q := nats (lineF (a % 4) (dayN n))) rfl rfl (.inl ⟨rfl, by simp⟩)
    · exact RowOK.cmp .i64 (x := ((dayN n : Nat) : Int)) (y := ((dayN n : Nat) : Int)) rfl rfl (.inl ⟨rfl, by simp⟩)
    · refine RowOK.conv (u := tI32) (d := tDay) (k := .i32) (k' := .i64) (n := o) (by show und E0 tI32 = some (.int .i32); kernel_rfl) (by show und E0 tDay = some (.int .i64); kernel_rfl) rfl ?_ (by decide)
      rw [wrap64_id (by omega) (by omega)]; rfl
    · exact RowOK.seq (p := nats (lineI (a % 4) o)) (q := nats (lineI (a % 4) o)) rfl rfl (.inl ⟨rfl, by simp⟩))
    (mrNil_ok (by rfl) eO hp rfl) (fun r hr => by
    simp only [krT, List.mem_cons, List.mem_nil_iff, or_false] at hr
    rcases hr with rfl | rfl | rfl | rfl | rfl
    · exact kr_text hk hp (fun _ h => h) (withM_kM _ _) (z := ((dayN n : Nat) : Int)) rfl rfl (congrArg strV el.symm)
    · refine kr_read hk hp (fun _ h => h) (withM_kM _ _) (s := lineF (a % 4) (dayN n)) (by have := line_len (k := a % 4) (n := dayN n) hk; omega) rfl rfl ?_ r2.symm
      rw [r1]; rfl
    · exact kr_text18 hk hp (fun _ h => h) (withM_kM _ _) (z := ((dayN n : Nat) : Int)) rfl rfl (congrArg strV el.symm)
    · exact kr_text hk hp (fun _ h => h) (withM_kM _ _) (z := o) rfl rfl rfl
    · exact kr_text18 hk hp (fun _ h => h) (withM_kM _ _) (z := o) rfl rfl rfl)
  have := (q5 (ER (tabW (a % 4) ρt) orT mrNil krT)).wins ok2 mo2 q3 (runT_end _)
  refine Wins.steps g1 (this.mono ?_)
  rintro e w' ⟨u, ρ', rfl, hu, hK⟩
  have hu : u = .bool true := hu
  subst hu
  exact ⟨rfl, Below.kept hB hK q1⟩

theorem texts_lifted (os : Os) (started : os.Started) (H : Type) (enc : TypeId × Value → H) :
    ReturnsInHanded {} Tryz.checked os 4 .any (fun w args => (Rows.linesTextsSpec.pre enc Tryz.prog Tryz.f4 [] false w args ∧ laidMetH Tryz.prog Tryz.laid w) ∧ sizedMet enc Tryz.prog Tryz.f4 (OpenSpec.ofChange Rows.linesTextsSpec) false w args)
      (Rows.linesTextsSpec.post enc Tryz.prog Tryz.f4 false true false false) := by
  refine handed_shaped (C := Tryz.checked) (X := fun w _ => laidMetH Tryz.prog Tryz.laid w) (fun _ _ _ hh h => h.of_heap hh) Tryz.own started (by kernel_rfl) Tryz.func4
    (ChangeSpec.witness_shaped (enc := enc) (C := Tryz.checked) (os := os) (X := fun w _ => laidMetH Tryz.prog Tryz.laid w) false (World.laidAll Tryz.prog os Tryz.laid) #[.int .u32 0, .int .u8 0, .int .i32 0] 8 (World.laidAll_os _ _ _)
      (World.shaped_of_ZipB (by kernel_rfl) (by kernel_rfl)) (by kernel_rfl) (by kernel_rfl) (by kernel_rfl)
      (by rw [MakeChecks.laidMetH_plain _ _ _ (by kernel_rfl)]; exact laidMet_laidAll _ (by kernel_rfl) (by kernel_rfl))) ?_
  intro W base args ds gs before hS hval0 hW hL
  have hval : ∀ (j : Nat) t v, Tryz.f4.params[j]? = some t → args[j]? = some v → Value.okWide Tryz.prog W .any base t v := hval0
  have hW' := hW
  obtain ⟨p, q, hA0, hV, rfl, _, _⟩ := hW
  have hA : DataW.TrodAll enc Tryz.prog W 0 (fun _ => true) true Tryz.f4.params.toList args.toList ds p := hA0
  rw [Tryz.params4] at hA hval
  rw [MakeChecks.laidMetH_plain _ _ _ (by kernel_rfl)] at hL
  obtain ⟨v0, v1, v2, d0, d1, d2, p0, p1, p2, rfl, rfl, rfl, h0, h1, h2⟩ := trodAll_three hA
  obtain ⟨rfl, rfl⟩ := trodVars_none hV
  obtain ⟨n, rfl, rfl, rfl, w0⟩ := open_int Tryz.underlying27 (hval 0 27 v0 rfl rfl) h0
  obtain ⟨a, rfl, rfl, rfl, w1⟩ := open_int Tryz.underlying5 (hval 1 5 v1 rfl rfl) h1
  obtain ⟨o, rfl, rfl, rfl, w2⟩ := open_int Tryz.underlying21 (hval 2 21 v2 rfl rfl) h2
  have e1 : Rows.linesTextsSpec.fn H ([.lit (.int .u32 n), .lit (.int .u8 a), .lit (.int .i32 o)] ++ []) = { results := [.lit (.bool true)], args := [.lit (.int .u32 n), .lit (.int .u8 a), .lit (.int .i32 o)] } := by simp [Rows.linesTextsSpec]
  obtain ⟨n, rfl, _⟩ := nat_of_wf (.inr rfl) w0
  obtain ⟨a, rfl, _⟩ := nat_of_wf (.inl rfl) w1
  refine (texts_calls hL hS (int_of_wf w2)).mono fun e W' ⟨he, hB⟩ => ?_
  subst he
  refine ⟨_, rfl, _, _, _, [], [], [], hW', ?_, ?_, ?_, hB.frame _, fun h => by cases h⟩
  · rw [e1]; exact trodAll_mk1 (shut_bool Tryz.underlying4 true)
  · rw [e1]; exact trodAll_mk3 (shut_int Tryz.underlying27 w0) (shut_int Tryz.underlying5 w1) (shut_int Tryz.underlying21 w2)
  · rw [e1]; rfl
end
end Go.Proofs.YtnnhijfbdkokkaaGreatDoor
