/- TopMonthdays answers true at every input, where the listed variables read as the program lays them; its argument reads as it did: the row. Condition: the row's own. -/
import Derived.Test.YtjhnpcnamclfbaaGreatDoorTf
import Derived.Test.YtjhnpcnamclfbaaGreatDoorVn
namespace Go.Proofs.YtjhnpcnamclfbaaGreatDoor
open Go Go.Eng Go.ChangeShapes Go.WideShapes Go.ChangeAt Go.RowKit

theorem monthdays_holds : Rows.TopMonthdaysSaid :=
  OpenClaim.holds_of_wide 7 Tryz.f7 rfl rfl rfl rfl rfl rfl rfl ⟨rfl, rfl, rfl, rfl, rfl⟩ rfl rfl rfl rfl rfl (by as_aux_lemma => kernel_rfl) Tryz.func7 monthdays_facts
    (of_decide_eq_true (by as_aux_lemma => kernel_rfl)) (by unfold Func.isWrapper; first | (rw [if_pos (by decide +kernel)]; kernel_rfl) | (rw [if_neg (by decide +kernel)]; exact ⟨rfl, rfl⟩))
    (fun os started H enc _ => monthdays_lifted os started H enc)

end Go.Proofs.YtjhnpcnamclfbaaGreatDoor
