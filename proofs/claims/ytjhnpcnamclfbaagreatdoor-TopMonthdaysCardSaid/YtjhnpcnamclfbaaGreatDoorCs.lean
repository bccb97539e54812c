/- The program's environment for the engine; the variables that it reads. The program's numbers, by name. Contracts of civil's small functions, by closed runs under rows. What a day's date is: in numbers. The contract of a day's date: its runs. Decimal numerals with noughts ahead: read back; their bytes. No condition. -/
import Derived.Test.YtjhnpcnamclfbaaGreatDoorRows
import Derived.Test.YtjhnpcnamclfbaaGreatDoorE14
import Derived.KernelRfl
import Derived.Lib.ItoaMem
import Derived.Lib.AtoiTie
/-! The program's environment for the engine; the variables that it reads. -/
namespace Go.Proofs.YtjhnpcnamclfbaaGreatDoor
open Go Go.Eng

mutual
noncomputable def flatD : DataW Unit → List AV
  | .lit (.int k n) => [.int k n]
  | .lit (.bool b) => [.bool b]
  | .lit (.string s) => [.str (s.map UInt8.toNat)]
  | .agg l => flatDs l
  | _ => []
noncomputable def flatDs : List (DataW Unit) → List AV
  | [] => []
  | d :: l => flatD d ++ flatDs l
end
noncomputable def gl : List Gv := [⟨0, flatD Rows.laid_kalends_civil_months, 94⟩,
  ⟨1, [.str [112, 97, 114, 115, 101], .slice 500 0 3 3 1, .str [100, 101, 115, 99, 114, 105, 98, 101], .slice 501 0 2 2 1, .str [112, 114, 101, 118, 105, 101, 119], .slice 502 0 7 7 1, .str [99, 104, 101, 99, 107], .slice 503 0 1 1 1], 113⟩,
  ⟨500, [.int .i64 0, .int .i64 1, .int .i64 3], unkT⟩,
  ⟨501, [.int .i64 0, .int .i64 3], unkT⟩,
  ⟨502, [.int .i64 0, .int .i64 1, .int .i64 1, .int .i64 1, .int .i64 2, .int .i64 2, .int .i64 3], unkT⟩,
  ⟨503, [.int .i64 3], unkT⟩,
  ⟨2, flatD Rows.laid_kalends_rfc_freqs, 185⟩,
  ⟨3, flatD Rows.laid_internal_strconv_uint64pow10, 222⟩,
  ⟨4, [.sym 900], 3⟩,
  ⟨5, flatD Rows.laid_kalends_rfc_weekdays, 284⟩,
  ⟨6, [.unk], 90⟩,
  ⟨7, [.unk], 90⟩,
  ⟨8, flatD Rows.laid_unicode_utf8_first, 306⟩,
  ⟨9, flatD Rows.laid_unicode_utf8_acceptRanges, 309⟩,
  ⟨10, flatD Rows.laid_kalends_table_many, 311⟩,
  ⟨11, flatD Rows.laid_math_bits_deBruijn32tab, 364⟩,
  ⟨12, flatD Rows.laid_math_bits_deBruijn64tab, 365⟩]
noncomputable def E0 : Env := Env.of Tryz.prog
noncomputable def EM (rows : List (FuncId × Img)) : Env := { E0 with memo := memoI gl rows }
noncomputable def yes : Img := ⟨.bool true, []⟩

theorem envOK : EnvOK E0 := EnvOK.of (of_decide_eq_true (by kernel_rfl)) (of_decide_eq_true (by kernel_rfl)) (by kernel_rfl)

def allB {α : Type} (p : α → Bool) : List α → Bool
  | [] => true
  | a :: l => p a && allB p l
theorem allB_spec {α : Type} {p : α → Bool} : ∀ {l : List α}, allB p l = true → ∀ a ∈ l, p a = true
  | [], _, a, h => by cases h
  | b :: l, h, a, ha => by
    simp only [allB, Bool.and_eq_true] at h
    rcases List.mem_cons.1 ha with rfl | ha
    · exact h.1
    · exact allB_spec h.2 a ha
theorem gl_small : allB (fun x => Nat.blt x.g gN) gl = true := by kernel_rfl
theorem gl_low : allB (fun x => allB lowA x.cs) gl = true := by kernel_rfl
theorem glOK : GlOK gl :=
  ⟨fun x hx => Nat.le_of_ble_eq_true (allB_spec gl_small x hx), fun x hx a ha => allB_spec (allB_spec gl_low x hx) a ha⟩

/-- A run, with what is known, is known. -/
theorem knows (rows : List (FuncId × Img)) (h : ∀ x ∈ rows, KnownI Tryz.prog gl x.1 x.2) {f : FuncId} {n : Nat} {m : List Nat} {i : Img} (run : imgRun (EM rows) gl f n m i = true) : KnownI Tryz.prog gl f i :=
  KnownI.of (E := EM rows) (fun σ => (envOK.with _).quiet rfl σ) (MemoOK.ofI (E := E0) h) glOK run
end Go.Proofs.YtjhnpcnamclfbaaGreatDoor

/-! The program's numbers, by name. -/
namespace Go.Proofs.YtjhnpcnamclfbaaGreatDoor
open Go Go.Eng
abbrev fLeap : Nat := 58
abbrev fLong : Nat := 33
abbrev fAhead : Nat := 34
abbrev fDate : Nat := 28
abbrev fOf : Nat := 18
abbrev fParse : Nat := 101
abbrev fText : Nat := 12
abbrev fPadded : Nat := 29
abbrev fWeekday : Nat := 16
abbrev fItoa : Nat := 19
abbrev fAtoi : Nat := 55
abbrev fRepeat : Nat := 54
abbrev fCut : Nat := 72
abbrev fSplit : Nat := 25
abbrev fEnglish : Nat := 43
abbrev fGerman : Nat := 44
abbrev fFrench : Nat := 45
abbrev fPolish : Nat := 46
abbrev fDecode : Nat := 49
abbrev fLText : Nat := 31
abbrev fLRead : Nat := 14
abbrev fLAll : Nat := 81
abbrev fTable9 : Nat := 9
abbrev fNumber : Nat := 30
abbrev fAhead1 : Nat := 20
abbrev fLong1 : Nat := 22
abbrev fLeap1 : Nat := 38
abbrev fDate1 : Nat := 15
abbrev gMax : Nat := 4
abbrev gMonths : Nat := 0
abbrev gPow : Nat := 3
abbrev tMonths : Nat := 94
abbrev tPow : Nat := 222
abbrev tInt : Nat := 3
abbrev tDay : Nat := 26
abbrev tStrs : Nat := 27
/-- The code of a conversion. -/
abbrev cv (a b : Nat) : Nat := 1000 + (1000 * a + b)
end Go.Proofs.YtjhnpcnamclfbaaGreatDoor

/-! Contracts of civil's small functions, by closed runs under rows. -/
namespace Go.Proofs.YtjhnpcnamclfbaaGreatDoor
open Go Go.Eng Go.RowKit
noncomputable section
set_option maxRecDepth 100000

/-- The variables that civil and strconv read. -/
def glC : List Gv := [⟨gMax, [.sym 900], 3⟩, ⟨gMonths, flatD Rows.laid_kalends_civil_months, tMonths⟩, ⟨gPow, flatD Rows.laid_internal_strconv_uint64pow10, tPow⟩]
theorem glC_small : allB (fun x => Nat.blt x.g gN) glC = true := by kernel_rfl
theorem glC_low : allB (fun x => allB lowA x.cs) glC = true := by kernel_rfl
theorem glC_OK : GlOK glC := ⟨fun x hx => Nat.le_of_ble_eq_true (allB_spec glC_small x hx), fun x hx a ha => allB_spec (allB_spec glC_low x hx) a ha⟩
theorem glC_bare : bareMs glC = true := by kernel_rfl
theorem gl_bareM : bareMs gl = true := by kernel_rfl
theorem glC_in : hasG glC (stOf gl) = true := by kernel_rfl
theorem varsC {w : World} (h : Vars gl w) : Vars glC w := by
  obtain ⟨m, hm⟩ := h
  obtain ⟨ρ, hR⟩ := hm (fun _ => .int .i64 m) rfl
  exact Vars.of glC_OK glC_bare hR glC_in (m := m) rfl
abbrev CV (f : FuncId) (va : Array Value) (u : Value) : Prop := CallsV Tryz.prog glC f va u
theorem CV.all {f : FuncId} {va : Array Value} {u : Value} (h : CV f va u) : CallsV Tryz.prog gl f va u := fun w hw => h w (varsC hw)

/-! ### Leap -/
def sgLeap (y : Int) : Nat → Value
  | 0 => .int .i64 y
  | 1 => .int .i64 (y.tmod 4)
  | 2 => .int .i64 (y.tmod 100)
  | 3 => .int .i64 (y.tmod 400)
  | _ => .nilIface
def orLeap (a b c : Bool) : List OR := [⟨4, [.sym 0, .int .i64 4], .sym 1⟩, ⟨11, [.sym 1, .int .i64 0], .bool a⟩, ⟨4, [.sym 0, .int .i64 100], .sym 2⟩, ⟨12, [.sym 2, .int .i64 0], .bool b⟩, ⟨4, [.sym 0, .int .i64 400], .sym 3⟩, ⟨11, [.sym 3, .int .i64 0], .bool c⟩]
theorem runLeap : ∀ a b c : Bool, rowRun (E0.askH 9 (orLeap a b c) (memoKH glC [])) glC fLeap [.sym 0] 200 (.bool (a && (b || c))) = true := by
  intro a b c
  cases a <;> cases b <;> cases c <;> kernel_rfl
def leapB (y : Int) : Bool := decide (y.tmod 4 = 0) && (!decide (y.tmod 100 = 0) || decide (y.tmod 400 = 0))
theorem c_leap (y : Int) : CV fLeap #[.int .i64 y] (.bool (leapB y)) := by
  refine CallsV.script (E := E0) envOK 9 (σ := sgLeap y) (orows := orLeap (decide (y.tmod 4 = 0)) (!decide (y.tmod 100 = 0)) (decide (y.tmod 400 = 0))) (krows := []) (fun m r hr => ?_) (fun m r hr => by cases hr) (rowRun_H (runLeap _ _ _)) (fun m => ⟨_, _, rfl, ⟨rfl, rfl⟩, rfl⟩) (fun m => rfl) rfl
  simp only [orLeap, List.mem_cons, List.mem_nil_iff, or_false] at hr
  rcases hr with rfl | rfl | rfl | rfl | rfl | rfl
  · exact RowOK.rem .i64 (x := y) (y := 4) rfl rfl rfl (by decide) rfl
  · exact RowOK.cmp .i64 (x := y.tmod 4) (y := 0) rfl rfl (.inl ⟨rfl, rfl⟩)
  · exact RowOK.rem .i64 (x := y) (y := 100) rfl rfl rfl (by decide) rfl
  · exact RowOK.cmp .i64 (x := y.tmod 100) (y := 0) rfl rfl (.inr (.inl ⟨rfl, rfl⟩))
  · exact RowOK.rem .i64 (x := y) (y := 400) rfl rfl rfl (by decide) rfl
  · exact RowOK.cmp .i64 (x := y.tmod 400) (y := 0) rfl rfl (.inl ⟨rfl, rfl⟩)

/-! ### Long -/
def longN (l : Bool) (m : Nat) : Nat := match m with
  | 2 => bif_ l 29 28
  | 4 | 6 | 9 | 11 => 30
  | _ => 31
def krLeap (i : Nat) (l : Bool) : List KR := [⟨fLeap, [.sym i], ⟨.bool l, []⟩⟩]
def months12 : List Nat := [1, 2, 3, 4, 5, 6, 7, 8, 9, 10, 11, 12]
theorem runLong : ∀ l : Bool, allB (fun m => rowRun (E0.askH 9 [] (memoKH glC (krLeap 0 l))) glC fLong [.sym 0, .int .i64 (Int.ofNat m)] 200 (.int .i64 (Int.ofNat (longN l m)))) months12 = true := by
  intro l
  cases l <;> kernel_rfl
theorem months12_mem {m : Nat} (h1 : 1 ≤ m) (h2 : m ≤ 12) : m ∈ months12 := by
  have : ∀ k, k < 13 → 1 ≤ k → k ∈ months12 := by decide
  exact this m (by omega) h1
def sgY (y : Int) : Nat → Value
  | 0 => .int .i64 y
  | _ => .nilIface
theorem c_long (y : Int) {m : Nat} (h1 : 1 ≤ m) (h2 : m ≤ 12) : CV fLong #[.int .i64 y, .int .i64 m] (.int .i64 (longN (leapB y) m)) := by
  refine CallsV.script (E := E0) envOK 9 (σ := sgY y) (orows := []) (krows := krLeap 0 (leapB y)) (fun m r hr => by cases hr) (fun m r hr => ?_) (rowRun_H (allB_spec (runLong (leapB y)) m (months12_mem h1 h2))) (fun _ => ⟨_, _, rfl, ⟨rfl, rfl⟩, _, _, rfl, rfl, rfl⟩) (fun _ => rfl) rfl
  simp only [krLeap, List.mem_cons, List.mem_nil_iff, or_false] at hr
  subst hr
  exact KRow.ofV glC_OK glC_bare rfl rfl (va := #[.int .i64 y]) ⟨_, _, rfl, ⟨rfl, rfl⟩, rfl⟩ (.inl rfl) (u := .bool (leapB y)) rfl (c_leap y)

/-! ### ahead -/
def aheadI (y : Int) : Int := 365 * (y - 1) + (y - 1).tdiv 4 - (y - 1).tdiv 100 + (y - 1).tdiv 400
def sgAhead (y : Int) : Nat → Value
  | 0 => .int .i64 y
  | 1 => .int .i64 (y - 1)
  | 2 => .int .i64 (365 * (y - 1))
  | 3 => .int .i64 ((y - 1).tdiv 4)
  | 4 => .int .i64 (365 * (y - 1) + (y - 1).tdiv 4)
  | 5 => .int .i64 ((y - 1).tdiv 100)
  | 6 => .int .i64 (365 * (y - 1) + (y - 1).tdiv 4 - (y - 1).tdiv 100)
  | 7 => .int .i64 ((y - 1).tdiv 400)
  | 8 => .int .i64 (aheadI y)
  | _ => .nilIface
def orAhead : List OR := [⟨1, [.sym 0, .int .i64 1], .sym 1⟩, ⟨2, [.int .i64 365, .sym 1], .sym 2⟩, ⟨3, [.sym 1, .int .i64 4], .sym 3⟩, ⟨0, [.sym 2, .sym 3], .sym 4⟩, ⟨3, [.sym 1, .int .i64 100], .sym 5⟩, ⟨1, [.sym 4, .sym 5], .sym 6⟩, ⟨3, [.sym 1, .int .i64 400], .sym 7⟩, ⟨0, [.sym 6, .sym 7], .sym 8⟩]
theorem runAhead : rowRun (E0.askH 9 orAhead (memoKH glC [])) glC fAhead [.sym 0] 200 (.sym 8) = true := by kernel_rfl
theorem c_ahead {y : Int} (h1 : 1 ≤ y) (h2 : y ≤ 20000) : CV fAhead #[.int .i64 y] (.int .i64 (aheadI y)) := by
  have d4 : (y - 1).tdiv 4 = (y - 1) / 4 := Int.tdiv_eq_ediv_of_nonneg (by omega)
  have d100 : (y - 1).tdiv 100 = (y - 1) / 100 := Int.tdiv_eq_ediv_of_nonneg (by omega)
  have d400 : (y - 1).tdiv 400 = (y - 1) / 400 := Int.tdiv_eq_ediv_of_nonneg (by omega)
  refine CallsV.script (E := E0) envOK 9 (σ := sgAhead y) (orows := orAhead) (krows := []) (fun m r hr => ?_) (fun m r hr => by cases hr) (rowRun_H runAhead) (fun m => ⟨_, _, rfl, ⟨rfl, rfl⟩, rfl⟩) (fun m => ⟨rfl, rfl⟩) rfl
  simp only [orAhead, List.mem_cons, List.mem_nil_iff, or_false] at hr
  rcases hr with rfl | rfl | rfl | rfl | rfl | rfl | rfl | rfl
  · exact RowOK.sub64 (x := y) (y := 1) rfl rfl rfl rfl (by omega) (by omega)
  · exact RowOK.mul64 (x := 365) (y := y - 1) rfl rfl rfl rfl (by omega) (by omega)
  · exact RowOK.quo64 (x := y - 1) (y := 4) rfl rfl rfl (by decide) rfl (by omega) (by omega)
  · exact RowOK.add64 (x := 365 * (y - 1)) (y := (y - 1).tdiv 4) rfl rfl rfl rfl (by omega) (by omega)
  · exact RowOK.quo64 (x := y - 1) (y := 100) rfl rfl rfl (by decide) rfl (by omega) (by omega)
  · exact RowOK.sub64 (x := 365 * (y - 1) + (y - 1).tdiv 4) (y := (y - 1).tdiv 100) rfl rfl rfl rfl (by omega) (by omega)
  · exact RowOK.quo64 (x := y - 1) (y := 400) rfl rfl rfl (by decide) rfl (by omega) (by omega)
  · exact RowOK.add64 (x := 365 * (y - 1) + (y - 1).tdiv 4 - (y - 1).tdiv 100) (y := (y - 1).tdiv 400) rfl rfl rfl rfl (by unfold aheadI; omega) (by unfold aheadI; omega)
end
end Go.Proofs.YtjhnpcnamclfbaaGreatDoor

/-! What a day's date is: in numbers. -/
namespace Go.Proofs.YtjhnpcnamclfbaaGreatDoor
open Go Go.Eng Go.RowKit

/-- Days ahead of a year. -/
def aheadN (y : Nat) : Nat := 365 * (y - 1) + (y - 1) / 4 - (y - 1) / 100 + (y - 1) / 400
theorem ahead_eq {y : Nat} (h : 1 ≤ y) : aheadI (y : Int) = (aheadN y : Int) := by
  have d4 : ((y : Int) - 1).tdiv 4 = ((y : Int) - 1) / 4 := Int.tdiv_eq_ediv_of_nonneg (by omega)
  have d100 : ((y : Int) - 1).tdiv 100 = ((y : Int) - 1) / 100 := Int.tdiv_eq_ediv_of_nonneg (by omega)
  have d400 : ((y : Int) - 1).tdiv 400 = ((y : Int) - 1) / 400 := Int.tdiv_eq_ediv_of_nonneg (by omega)
  unfold aheadI aheadN
  rw [d4, d100, d400]
  omega
theorem leap_nat (y : Nat) : leapB (y : Int) = (decide (y % 4 = 0) && (!decide (y % 100 = 0) || decide (y % 400 = 0))) := by
  have t4 : (y : Int).tmod 4 = (y : Int) % 4 := Int.tmod_eq_emod_of_nonneg (by omega)
  have t100 : (y : Int).tmod 100 = (y : Int) % 100 := Int.tmod_eq_emod_of_nonneg (by omega)
  have t400 : (y : Int).tmod 400 = (y : Int) % 400 := Int.tmod_eq_emod_of_nonneg (by omega)
  unfold leapB
  rw [t4, t100, t400]
  have e4 : ((y : Int) % 4 = 0) = (y % 4 = 0) := by apply propext; omega
  have e100 : ((y : Int) % 100 = 0) = (y % 100 = 0) := by apply propext; omega
  have e400 : ((y : Int) % 400 = 0) = (y % 400 = 0) := by apply propext; omega
  simp only [e4, e100, e400]
theorem ahead_step (y : Nat) (h : 1 ≤ y) : aheadN (y + 1) = aheadN y + (if leapB (y : Int) then 366 else 365) := by
  rw [leap_nat]
  have a4 : y / 4 = (y - 1) / 4 + (if y % 4 = 0 then 1 else 0) := by split <;> omega
  have a100 : y / 100 = (y - 1) / 100 + (if y % 100 = 0 then 1 else 0) := by split <;> omega
  have a400 : y / 400 = (y - 1) / 400 + (if y % 400 = 0 then 1 else 0) := by split <;> omega
  have i1 : y % 400 = 0 → y % 100 = 0 := by omega
  have i2 : y % 100 = 0 → y % 4 = 0 := by omega
  have big : (y - 1) / 100 ≤ 365 * (y - 1) := by omega
  unfold aheadN
  rw [Nat.add_sub_cancel, a4, a100, a400]
  clear a4 a100 a400
  obtain ⟨z, rfl⟩ : ∃ z, y = z + 1 := ⟨y - 1, by omega⟩
  rw [Nat.add_sub_cancel] at big ⊢
  generalize z / 4 = p at *
  generalize z / 100 = q at *
  generalize z / 400 = r at *
  by_cases h4 : (z + 1) % 4 = 0
  · by_cases h100 : (z + 1) % 100 = 0
    · by_cases h400 : (z + 1) % 400 = 0
      · simp only [h4, h100, h400, if_true, decide_true, Bool.not_true, Bool.or_true, Bool.and_true]; omega
      · simp only [h4, h100, h400, if_true, if_false, decide_true, decide_false, Bool.not_true, Bool.or_false, Bool.and_false, Bool.false_eq_true]; omega
    · have h400 : ¬ (z + 1) % 400 = 0 := fun e => h100 (i1 e)
      simp only [h4, h100, h400, if_true, if_false, decide_true, decide_false, Bool.not_false, Bool.true_or, Bool.and_true]; omega
  · have h100 : ¬ (z + 1) % 100 = 0 := fun e => h4 (i2 e)
    have h400 : ¬ (z + 1) % 400 = 0 := fun e => h100 (i1 e)
    simp only [h4, h100, h400, if_false, decide_false, Bool.false_and, Bool.false_eq_true]; omega
theorem ahead_lt {y : Nat} (h : 1 ≤ y) : aheadN y + 365 ≤ aheadN (y + 1) ∧ aheadN (y + 1) ≤ aheadN y + 366 := by
  rw [ahead_step y h]; split <;> omega
theorem ahead_mono {y z : Nat} (h : 1 ≤ y) (k : y ≤ z) : aheadN y ≤ aheadN z := by
  induction z with
  | zero => omega
  | succ z ih =>
    rcases Nat.lt_or_ge z y with hz | hz
    · have : y = z + 1 := by omega
      rw [this]; exact Nat.le_refl _
    · have := ih hz
      have := (ahead_lt (y := z) (by omega)).1
      omega

/-- The year of a day. -/
theorem year_of (n : Nat) (h1 : 1 ≤ n) (h2 : n ≤ 3652059) : ∃ y, 1 ≤ y ∧ y ≤ 9999 ∧ aheadN y < n ∧ n ≤ aheadN (y + 1) := by
  have key : ∀ k, k ≤ 9999 → aheadN (k + 1) < n ∨ ∃ y, 1 ≤ y ∧ y ≤ k + 1 ∧ aheadN y < n ∧ (n ≤ aheadN (y + 1)) := by
    intro k
    induction k with
    | zero => intro _; exact .inl (by show aheadN 1 < n; have : aheadN 1 = 0 := rfl; omega)
    | succ k ih =>
      intro hk
      rcases ih (by omega) with h | ⟨y, a, b, c, d⟩
      · rcases Nat.lt_or_ge (aheadN (k + 1 + 1)) n with h' | h'
        · exact .inl h'
        · exact .inr ⟨k + 1, by omega, by omega, h, h'⟩
      · exact .inr ⟨y, a, by omega, c, d⟩
  rcases key 9999 (by omega) with h | ⟨y, a, b, c, d⟩
  · have : aheadN (9999 + 1) = 3652059 := by decide
    omega
  · rcases Nat.lt_or_ge y 10000 with hy | hy
    · exact ⟨y, a, by omega, c, d⟩
    · have : y = 10000 := by omega
      subst this
      have : aheadN 10000 = 3652059 := by decide
      omega

/-- The year that the search begins with. -/
def year0 (n : Nat) : Nat := (n - 1) / 366 + 1
theorem year0_le {n y : Nat} (h1 : 1 ≤ n) (h : n ≤ aheadN (y + 1)) : year0 n ≤ y := by
  have up : ∀ k, aheadN (k + 1) ≤ 366 * k := by
    intro k
    unfold aheadN
    omega
  have := up y
  unfold year0
  omega
theorem year0_near {n y : Nat} (hy : y ≤ 9999) (h : aheadN y < n) : y ≤ year0 n + 28 := by
  have lo : 365 * (y - 1) ≤ aheadN y := by unfold aheadN; omega
  unfold year0
  omega

/-- Days of a year ahead of a month. -/
noncomputable def daysM (l : Bool) : Nat → Nat
  | 0 => 0
  | m + 1 => daysM l m + longN l (m + 1)
theorem days12 (l : Bool) : daysM l 12 = if l then 366 else 365 := by cases l <;> rfl
theorem month_of (l : Bool) (d : Nat) (h1 : 1 ≤ d) (h2 : d ≤ daysM l 12) : ∃ m, 1 ≤ m ∧ m ≤ 12 ∧ daysM l (m - 1) < d ∧ d ≤ daysM l m := by
  have key : ∀ k, k ≤ 12 → daysM l k < d ∨ ∃ m, 1 ≤ m ∧ m ≤ k ∧ daysM l (m - 1) < d ∧ d ≤ daysM l m := by
    intro k
    induction k with
    | zero => intro _; exact .inl (by show 0 < d; omega)
    | succ k ih =>
      intro hk
      rcases ih (by omega) with h | ⟨m, a, b, c, e⟩
      · rcases Nat.lt_or_ge (daysM l (k + 1)) d with h' | h'
        · exact .inl h'
        · exact .inr ⟨k + 1, by omega, by omega, h, h'⟩
      · exact .inr ⟨m, a, by omega, c, e⟩
  rcases key 12 (by omega) with h | ⟨m, a, b, c, e⟩
  · omega
  · exact ⟨m, a, b, c, e⟩
end Go.Proofs.YtjhnpcnamclfbaaGreatDoor

/-! The contract of a day's date: its runs. -/
namespace Go.Proofs.YtjhnpcnamclfbaaGreatDoor
open Go Go.Eng Go.RowKit
noncomputable section
set_option maxRecDepth 100000

def upTo (n : Nat) : List Nat := Nat.rec (motive := fun _ => List Nat) [] (fun i l => i :: l) n
theorem upTo_mem {i n : Nat} : i ∈ upTo n ↔ i < n := by
  induction n with
  | zero => exact Iff.intro (fun h => nomatch h) (fun h => absurd h (Nat.not_lt_zero i))
  | succ n ih =>
    show i ∈ n :: upTo n ↔ _
    rw [List.mem_cons, ih]; omega

def orYear (k i : Nat) : List OR := [⟨0, [.sym (Nat.add 10 i), .int .i64 1], .sym (Nat.add 11 i)⟩, ⟨13, [.sym (Nat.add 50 i), .sym 0], .bool (Nat.blt i k)⟩]
def orMonth (l : Bool) (mm j : Nat) : List OR := [⟨15, [.sym (Nat.add 100 j), .int .i64 (Int.ofNat (longN l (Nat.succ j)))], .bool (Nat.blt (Nat.succ j) mm)⟩, ⟨1, [.sym (Nat.add 100 j), .int .i64 (Int.ofNat (longN l (Nat.succ j)))], .sym (Nat.add 101 j)⟩]
def flatR (f : Nat → List OR) (n : Nat) : List OR := Nat.rec (motive := fun _ => List OR) [] (fun i l => f i ++ l) n
theorem flatR_mem {f : Nat → List OR} {r : OR} : ∀ {n : Nat}, r ∈ flatR f n → ∃ i, i < n ∧ r ∈ f i
  | 0, h => by cases h
  | n + 1, h => by
    have h : r ∈ f n ++ flatR f n := h
    rcases List.mem_append.1 h with h | h
    · exact ⟨n, by omega, h⟩
    · obtain ⟨i, hi, h⟩ := flatR_mem h
      exact ⟨i, by omega, h⟩
def orDate (k mm : Nat) (l : Bool) : List OR :=
  [⟨16, [.sym 0, .int .i64 1], .bool true⟩, ⟨14, [.sym 0, .int .i64 3652059], .bool true⟩, ⟨1, [.sym 0, .int .i64 1], .sym 1⟩, ⟨3, [.sym 1, .int .i64 366], .sym 2⟩, ⟨0, [.sym 2, .int .i64 1], .sym 10⟩, ⟨1, [.sym 0, .sym (Nat.add 49 k)], .sym 100⟩,
   ⟨cv tDay tDay, [.sym 0], .sym 0⟩] ++ (flatR (orYear k) (Nat.succ k) ++ flatR (orMonth l mm) mm)
def krDate (k mm : Nat) (l : Bool) : List KR :=
  (upTo (k + 2)).map (fun j => ⟨fAhead, [.sym (Nat.add 10 j)], ⟨.sym (Nat.add 49 j), []⟩⟩) ++ (upTo mm).map (fun j => ⟨fLong, [.sym (Nat.add 10 k), .int .i64 (Int.ofNat (Nat.succ j))], ⟨.int .i64 (Int.ofNat (longN l (Nat.succ j))), []⟩⟩)
def runDate (k mm : Nat) (l : Bool) : Bool := rowRun (E0.askH 9 (orDate k mm l) (memoKH glC (krDate k mm l))) glC fDate [.sym 0] 3000 (.tuple [.sym (Nat.add 10 k), .int .i64 (Int.ofNat mm), .sym (Nat.add 99 mm)])
end
end Go.Proofs.YtjhnpcnamclfbaaGreatDoor

/-! Decimal numerals with noughts ahead: read back; their bytes. -/
namespace Go.Proofs.YtjhnpcnamclfbaaGreatDoor
open Go

theorem decFrom_append : ∀ (l m : List UInt8) (acc : Nat), Lib.decFrom acc (l ++ m) = (Lib.decFrom acc l).bind fun n => Lib.decFrom n m
  | [], _, _ => rfl
  | b :: l, m, acc => by
    show (match Lib.digitVal b with | some d => Lib.decFrom (acc * 10 + d) (l ++ m) | none => none) = (match Lib.digitVal b with | some d => Lib.decFrom (acc * 10 + d) l | none => none).bind _
    cases Lib.digitVal b with
    | none => rfl
    | some d => exact decFrom_append l m _
theorem digitVal_at {d : Nat} (h : d < 10) : Lib.digitVal (UInt8.ofNat (48 + d)) = some d := by
  have e : (UInt8.ofNat (48 + d)).toNat = 48 + d := by
    rw [UInt8.toNat_ofNat']; omega
  unfold Lib.digitVal
  rw [e, if_pos (by omega)]
  congr 1; omega
theorem decFrom_digits (u : Nat) : ∀ acc, Lib.decFrom acc (Lib.decDigits u) = some (acc * 10 ^ (Lib.nDigits u) + u) := by
  induction u using Nat.strongRecOn with
  | ind u ih =>
    intro acc
    rw [Lib.decDigits]
    by_cases h : u < 10
    · rw [dif_pos h, Lib.nDigits_small h]
      show (match Lib.digitVal (UInt8.ofNat (48 + u)) with | some d => Lib.decFrom (acc * 10 + d) [] | none => none) = _
      rw [digitVal_at h]
      show some (acc * 10 + u) = _
      rw [Nat.pow_one]
    · rw [dif_neg h, Lib.nDigits_big h, decFrom_append, ih (u / 10) (by omega)]
      show (match Lib.digitVal (UInt8.ofNat (48 + u % 10)) with | some d => Lib.decFrom ((acc * 10 ^ Lib.nDigits (u / 10) + u / 10) * 10 + d) [] | none => none) = _
      rw [digitVal_at (by omega)]
      show some ((acc * 10 ^ Lib.nDigits (u / 10) + u / 10) * 10 + u % 10) = _
      rw [Nat.pow_succ, ← Nat.mul_assoc]
      congr 1; omega

def zeros (k : Nat) : List UInt8 := List.replicate k 48
theorem decFrom_zeros (l : List UInt8) : ∀ k, Lib.decFrom 0 (zeros k ++ l) = Lib.decFrom 0 l
  | 0 => rfl
  | k + 1 => by
    show (match Lib.digitVal 48 with | some d => Lib.decFrom (0 * 10 + d) (zeros k ++ l) | none => none) = _
    exact decFrom_zeros l k
/-- Are all bytes digits? -/
theorem digits_all (u : Nat) : ∀ b ∈ Lib.decDigits u, 48 ≤ b.toNat ∧ b.toNat ≤ 57 := by
  induction u using Nat.strongRecOn with
  | ind u ih =>
    have dg : ∀ d, d < 10 → 48 ≤ (UInt8.ofNat (48 + d)).toNat ∧ (UInt8.ofNat (48 + d)).toNat ≤ 57 := fun d h => by
      rw [UInt8.toNat_ofNat']; omega
    intro b hb
    rw [Lib.decDigits] at hb
    by_cases h : u < 10
    · rw [dif_pos h] at hb
      have : b = UInt8.ofNat (48 + u) := by simpa using hb
      rw [this]; exact dg u h
    · rw [dif_neg h] at hb
      rcases List.mem_append.1 hb with hb | hb
      · exact ih (u / 10) (by omega) b hb
      · have : b = UInt8.ofNat (48 + u % 10) := by simpa using hb
        rw [this]; exact dg _ (by omega)
theorem digits_ne (u : Nat) : Lib.decDigits u ≠ [] := by
  have := Lib.decDigits_length u
  intro h
  rw [h] at this
  have h2 : 1 ≤ Lib.nDigits u := by
    by_cases h : u < 10
    · rw [Lib.nDigits_small h]; exact Nat.le_refl _
    · rw [Lib.nDigits_big h]; omega
  simp at this
  omega
def pad (u size : Nat) : List UInt8 := zeros (size - Lib.nDigits u) ++ Lib.decDigits u
theorem pad_all (u size : Nat) : ∀ b ∈ pad u size, 48 ≤ b.toNat ∧ b.toNat ≤ 57 := by
  intro b hb
  rcases List.mem_append.1 hb with hb | hb
  · have : b = 48 := (List.mem_replicate.1 hb).2
    subst this; decide
  · exact digits_all u b hb
theorem pad_length {u size : Nat} (h : Lib.nDigits u ≤ size) : (pad u size).length = size := by
  unfold pad zeros
  rw [List.length_append, List.length_replicate, Lib.decDigits_length]; omega
theorem nDigits_le : ∀ (k u : Nat), u < 10 ^ (k + 1) → Lib.nDigits u ≤ k + 1
  | 0, u, h => by rw [Lib.nDigits_small (by simpa using h)]; exact Nat.le_refl _
  | k + 1, u, h => by
    by_cases h10 : u < 10
    · rw [Lib.nDigits_small h10]; omega
    · rw [Lib.nDigits_big h10]
      have := nDigits_le k (u / 10) (by rw [Nat.pow_succ] at h; omega)
      omega
/-- It is read back. -/
theorem atoi_pad {u size : Nat} (h : Lib.nDigits u ≤ size) (hs : size ≤ 18) : Lib.atoiAll (pad u size) = .ok (u : Int) := by
  rw [Lib.atoiAll_short _ (by rw [pad_length h]; exact hs)]
  have hne : pad u size ≠ [] := by
    intro e
    have := digits_ne u
    unfold pad at e
    exact this (List.append_eq_nil_iff.1 e).2
  have hd : Lib.decFrom 0 (pad u size) = some u := by
    unfold pad
    rw [decFrom_zeros, decFrom_digits]; simp
  have hall := pad_all u size
  cases hp : pad u size with
  | nil => exact absurd hp hne
  | cons b r =>
    rw [hp] at hd hall
    have hb := hall b (by simp)
    have h45 : (b == 45) = false := by
      rw [beq_eq_false_iff_ne]; rintro rfl; exact absurd hb (by decide)
    have h43 : (b == 43) = false := by
      rw [beq_eq_false_iff_ne]; rintro rfl; exact absurd hb (by decide)
    have e : Lib.atoi (b :: r) = (if b == 45 then (Lib.decNat r).map fun (m : Nat) => -(m : Int) else if b == 43 then (Lib.decNat r).map fun (m : Nat) => (m : Int) else (Lib.decNat (b :: r)).map fun (m : Nat) => (m : Int)) := rfl
    have e2 : Lib.decNat (b :: r) = Lib.decFrom 0 (b :: r) := rfl
    rw [e, h45, h43]
    simp only [Bool.false_eq_true, if_false]
    rw [e2, hd]
    rfl
end Go.Proofs.YtjhnpcnamclfbaaGreatDoor
