/- DeskRequests answers true at every input, where the listed variables read as the program lays them; its argument reads as it did: the row. Condition: the row's own. -/
import Derived.Test.YtnnhijfbdkokkaaGreatDoorZf
import Derived.Test.YtnnhijfbdkokkaaGreatDoorNi
namespace Go.Proofs.YtnnhijfbdkokkaaGreatDoor
open Go Go.Eng Go.ChangeShapes Go.WideShapes Go.ChangeAt Go.RowKit

theorem desk_holds : Rows.DeskRequestsSaid :=
  OpenClaim.holds_of_wide 13 Tryz.f13 rfl rfl rfl rfl rfl rfl rfl ⟨rfl, rfl, rfl, rfl, rfl⟩ rfl rfl rfl rfl rfl (by as_aux_lemma => kernel_rfl) Tryz.func13 desk_facts
    (of_decide_eq_true (by as_aux_lemma => kernel_rfl)) (by unfold Func.isWrapper; first | (rw [if_pos (by decide +kernel)]; kernel_rfl) | (rw [if_neg (by decide +kernel)]; exact ⟨rfl, rfl⟩))
    (fun os started H enc _ => desk_lifted os started H enc)

end Go.Proofs.YtnnhijfbdkokkaaGreatDoor
