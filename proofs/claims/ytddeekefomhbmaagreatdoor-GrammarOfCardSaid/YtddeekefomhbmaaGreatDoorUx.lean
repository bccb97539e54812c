/- GrammarOf answers true at every input, where the listed variables read as the program lays them; its argument reads as it did: the row. Condition: the row's own. -/
import Derived.Test.YtddeekefomhbmaaGreatDoorUf
import Derived.Test.YtddeekefomhbmaaGreatDoorAw
namespace Go.Proofs.YtddeekefomhbmaaGreatDoor
open Go Go.Eng Go.ChangeShapes Go.WideShapes Go.ChangeAt Go.RowKit

theorem of_holds : Rows.GrammarOfSaid :=
  OpenClaim.holds_of_wide 4 Tryz.f4 rfl rfl rfl rfl rfl rfl rfl ⟨rfl, rfl, rfl, rfl, rfl⟩ rfl rfl rfl rfl rfl (by as_aux_lemma => kernel_rfl) Tryz.func4 of_facts
    (of_decide_eq_true (by as_aux_lemma => kernel_rfl)) (by unfold Func.isWrapper; first | (rw [if_pos (by decide +kernel)]; kernel_rfl) | (rw [if_neg (by decide +kernel)]; exact ⟨rfl, rfl⟩))
    (fun os started H enc _ => of_lifted os started H enc)

end Go.Proofs.YtddeekefomhbmaaGreatDoor
