/- The program's environment for the engine; the variables that it reads. No condition. -/
import Derived.Test.YtddeekefomhbmaaGreatDoorRows
import Derived.Test.YtddeekefomhbmaaGreatDoorE14
import Derived.KernelRfl
namespace Go.Proofs.YtddeekefomhbmaaGreatDoor
open Go Go.Eng

mutual
noncomputable def flatD : DataW Unit → List AV
  | .lit (.int k n) => [.int k n]
  | .lit (.bool b) => [.bool b]
  | .lit (.string s) => [.str (s.map UInt8.toNat)]
  | .agg l => flatDs l
  | _ => []
noncomputable def flatDs : List (DataW Unit) → List AV
  | [] => []
  | d :: l => flatD d ++ flatDs l
end
noncomputable def gl : List Gv := [⟨0, flatD Rows.laid_kalends_rfc_freqs, 211⟩,
  ⟨1, flatD Rows.laid_kalends_table_many, 238⟩,
  ⟨2, flatD Rows.laid_kalends_rfc_weekdays, 297⟩,
  ⟨3, flatD Rows.laid_kalends_civil_months, 351⟩,
  ⟨4, flatD Rows.laid_unicode_utf8_first, 353⟩,
  ⟨5, flatD Rows.laid_unicode_utf8_acceptRanges, 356⟩,
  ⟨6, [.sym 900], 3⟩,
  ⟨7, [.unk], 222⟩,
  ⟨8, [.unk], 222⟩,
  ⟨9, flatD Rows.laid_internal_strconv_uint64pow10, 394⟩,
  ⟨10, flatD Rows.laid_math_bits_deBruijn32tab, 432⟩,
  ⟨11, flatD Rows.laid_math_bits_deBruijn64tab, 433⟩]
noncomputable def E0 : Env := Env.of Tryz.prog
noncomputable def EM (rows : List (FuncId × Img)) : Env := { E0 with memo := memoI gl rows }
noncomputable def yes : Img := ⟨.bool true, []⟩

theorem envOK : EnvOK E0 := EnvOK.of (of_decide_eq_true (by kernel_rfl)) (of_decide_eq_true (by kernel_rfl)) (by kernel_rfl)

def allB {α : Type} (p : α → Bool) : List α → Bool
  | [] => true
  | a :: l => p a && allB p l
theorem allB_spec {α : Type} {p : α → Bool} : ∀ {l : List α}, allB p l = true → ∀ a ∈ l, p a = true
  | [], _, a, h => by cases h
  | b :: l, h, a, ha => by
    simp only [allB, Bool.and_eq_true] at h
    rcases List.mem_cons.1 ha with rfl | ha
    · exact h.1
    · exact allB_spec h.2 a ha
theorem gl_small : allB (fun x => Nat.blt x.g gN) gl = true := by kernel_rfl
theorem gl_low : allB (fun x => allB lowA x.cs) gl = true := by kernel_rfl
theorem glOK : GlOK gl :=
  ⟨fun x hx => Nat.le_of_ble_eq_true (allB_spec gl_small x hx), fun x hx a ha => allB_spec (allB_spec gl_low x hx) a ha⟩

/-- A run, with what is known, is known. -/
theorem knows (rows : List (FuncId × Img)) (h : ∀ x ∈ rows, KnownI Tryz.prog gl x.1 x.2) {f : FuncId} {n : Nat} {m : List Nat} {i : Img} (run : imgRun (EM rows) gl f n m i = true) : KnownI Tryz.prog gl f i :=
  KnownI.of (E := EM rows) (fun σ => (envOK.with _).quiet rfl σ) (MemoOK.ofI (E := E0) h) glOK run
end Go.Proofs.YtddeekefomhbmaaGreatDoor
