/- The program's environment for the engine; the variables that it reads. The program's numbers, by name. No condition. -/
import Derived.Test.YtnnhijfbdkokkaaGreatDoorRows
import Derived.Test.YtnnhijfbdkokkaaGreatDoorE14
import Derived.KernelRfl
/-! The program's environment for the engine; the variables that it reads. -/
namespace Go.Proofs.YtnnhijfbdkokkaaGreatDoor
open Go Go.Eng

mutual
noncomputable def flatD : DataW Unit → List AV
  | .lit (.int k n) => [.int k n]
  | .lit (.bool b) => [.bool b]
  | .lit (.string s) => [.str (s.map UInt8.toNat)]
  | .agg l => flatDs l
  | _ => []
noncomputable def flatDs : List (DataW Unit) → List AV
  | [] => []
  | d :: l => flatD d ++ flatDs l
end
noncomputable def gl : List Gv := [⟨1, flatD Rows.laid_kalends_civil_months, 171⟩,
  ⟨2, [.unk], 38⟩,
  ⟨3, [.unk], 38⟩,
  ⟨4, flatD Rows.laid_kalends_rfc_freqs, 215⟩,
  ⟨5, [.sym 900], 3⟩,
  ⟨6, flatD Rows.laid_kalends_rfc_weekdays, 307⟩,
  ⟨7, flatD Rows.laid_internal_strconv_uint64pow10, 324⟩,
  ⟨8, flatD Rows.laid_unicode_utf8_first, 342⟩,
  ⟨9, flatD Rows.laid_unicode_utf8_acceptRanges, 345⟩,
  ⟨10, flatD Rows.laid_kalends_table_many, 349⟩,
  ⟨11, flatD Rows.laid_math_bits_deBruijn32tab, 438⟩,
  ⟨12, flatD Rows.laid_math_bits_deBruijn64tab, 439⟩]
noncomputable def E0 : Env := Env.of Tryz.prog
noncomputable def EM (rows : List (FuncId × Img)) : Env := { E0 with memo := memoI gl rows }
noncomputable def yes : Img := ⟨.bool true, []⟩

theorem envOK : EnvOK E0 := EnvOK.of (of_decide_eq_true (by kernel_rfl)) (of_decide_eq_true (by kernel_rfl)) (by kernel_rfl)

def allB {α : Type} (p : α → Bool) : List α → Bool
  | [] => true
  | a :: l => p a && allB p l
theorem allB_spec {α : Type} {p : α → Bool} : ∀ {l : List α}, allB p l = true → ∀ a ∈ l, p a = true
  | [], _, a, h => by cases h
  | b :: l, h, a, ha => by
    simp only [allB, Bool.and_eq_true] at h
    rcases List.mem_cons.1 ha with rfl | ha
    · exact h.1
    · exact allB_spec h.2 a ha
theorem gl_small : allB (fun x => Nat.blt x.g gN) gl = true := by kernel_rfl
theorem gl_low : allB (fun x => allB lowA x.cs) gl = true := by kernel_rfl
theorem glOK : GlOK gl :=
  ⟨fun x hx => Nat.le_of_ble_eq_true (allB_spec gl_small x hx), fun x hx a ha => allB_spec (allB_spec gl_low x hx) a ha⟩

/-- A run, with what is known, is known. -/
theorem knows (rows : List (FuncId × Img)) (h : ∀ x ∈ rows, KnownI Tryz.prog gl x.1 x.2) {f : FuncId} {n : Nat} {m : List Nat} {i : Img} (run : imgRun (EM rows) gl f n m i = true) : KnownI Tryz.prog gl f i :=
  KnownI.of (E := EM rows) (fun σ => (envOK.with _).quiet rfl σ) (MemoOK.ofI (E := E0) h) glOK run
end Go.Proofs.YtnnhijfbdkokkaaGreatDoor

/-! The program's numbers, by name. -/
namespace Go.Proofs.YtnnhijfbdkokkaaGreatDoor
open Go Go.Eng
abbrev fLeap : Nat := 122
abbrev fLong : Nat := 88
abbrev fAhead : Nat := 87
abbrev fDate : Nat := 50
abbrev fOf : Nat := 55
abbrev fParse : Nat := 62
abbrev fText : Nat := 65
abbrev fPadded : Nat := 98
abbrev fValid : Nat := 20
abbrev fWeekday : Nat := 53
abbrev fItoa : Nat := 35
abbrev fAtoi : Nat := 22
abbrev fRepeat : Nat := 129
abbrev fCut : Nat := 59
abbrev fJoin : Nat := 30
abbrev fSplit : Nat := 21
abbrev fContains : Nat := 38
abbrev fAwake18 : Nat := 14
abbrev fAwake19 : Nat := 24
abbrev fAwake20 : Nat := 32
abbrev fAwake21 : Nat := 40
abbrev fEnglish : Nat := 81
abbrev fGerman : Nat := 82
abbrev fFrench : Nat := 83
abbrev fPolish : Nat := 84
abbrev fServerNone : Nat := 12
abbrev fServerRange : Nat := 11
abbrev fDo : Nat := 33
abbrev fIn : Nat := 160
abbrev fLets : Nat := 223
abbrev fWireDecodes : Nat := 8
abbrev fWireSpoilt : Nat := 9
abbrev fWireWords : Nat := 10
abbrev fDecode : Nat := 25
abbrev fDecodeL : Nat := 26
abbrev fLinesAll : Nat := 3
abbrev fLinesTexts : Nat := 4
abbrev fLinesReads : Nat := 5
abbrev fLinesSpoilt : Nat := 6
abbrev fLinesApart : Nat := 7
abbrev fLText : Nat := 18
abbrev fLRead : Nat := 19
abbrev fLAll : Nat := 17
abbrev fText18 : Nat := 16
abbrev fTable9 : Nat := 15
abbrev fNumber : Nat := 54
abbrev fAhead1 : Nat := 23
abbrev fLong1 : Nat := 85
abbrev fLeap1 : Nat := 120
abbrev fDate1 : Nat := 46
abbrev fDeskRequests : Nat := 13
abbrev gMax : Nat := 5
abbrev gMonths : Nat := 1
abbrev gPow : Nat := 7
abbrev tMonths : Nat := 171
abbrev tPow : Nat := 324
abbrev tInt : Nat := 3
abbrev tU32 : Nat := 27
abbrev tDay : Nat := 28
abbrev tU64 : Nat := 114
abbrev tStrs : Nat := 35
abbrev tU8 : Nat := 5
abbrev tErrno : Nat := 49
abbrev tReq : Nat := 48
/-- The code of a conversion. -/
abbrev cv (a b : Nat) : Nat := 1000 + (1000 * a + b)
end Go.Proofs.YtnnhijfbdkokkaaGreatDoor
