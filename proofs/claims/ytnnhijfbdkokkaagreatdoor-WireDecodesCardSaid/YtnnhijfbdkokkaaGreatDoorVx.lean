/- WireDecodes answers true at every input, where the listed variables read as the program lays them; its argument reads as it did: the row. Condition: the row's own. -/
import Derived.Test.YtnnhijfbdkokkaaGreatDoorVf
import Derived.Test.YtnnhijfbdkokkaaGreatDoorVa
namespace Go.Proofs.YtnnhijfbdkokkaaGreatDoor
open Go Go.Eng Go.ChangeShapes Go.WideShapes Go.ChangeAt Go.RowKit

theorem decodes_holds : Rows.WireDecodesSaid :=
  OpenClaim.holds_of_wide 8 Tryz.f8 rfl rfl rfl rfl rfl rfl rfl ⟨rfl, rfl, rfl, rfl, rfl⟩ rfl rfl rfl rfl rfl (by as_aux_lemma => kernel_rfl) Tryz.func8 decodes_facts
    (of_decide_eq_true (by as_aux_lemma => kernel_rfl)) (by unfold Func.isWrapper; first | (rw [if_pos (by decide +kernel)]; kernel_rfl) | (rw [if_neg (by decide +kernel)]; exact ⟨rfl, rfl⟩))
    (fun os started H enc _ => decodes_lifted os started H enc)

end Go.Proofs.YtnnhijfbdkokkaaGreatDoor
