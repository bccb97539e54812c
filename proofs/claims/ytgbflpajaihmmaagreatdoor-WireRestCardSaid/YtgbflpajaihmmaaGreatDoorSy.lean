/- WireRest answers true at every input, where the listed variables read as the program lays them; its argument reads as it did: the row, and its tied card. Condition: the row's own. -/
import Derived.Test.YtgbflpajaihmmaaGreatDoorSx
namespace Go.Proofs.YtgbflpajaihmmaaGreatDoor
open Go Go.Eng Go.ChangeShapes Go.WideShapes Go.ChangeAt Go.RowKit

theorem rest_card : Rows.WireRestCardSaid :=
  Claim7.holds_tied_plain_at .later [] [.data, .data, .data, .data, .sentinel, .sentinel, .data, .widerDeep, .widerDeep, .data, .widerDeep, .pinned] true (true, "4ed9f9f7926e01aa5c7432597b38e0dee5e9059bdcb43e3f80b37343e4d93d0b") true
    rest_holds (fun _ h => by cases h) (by as_aux_lemma => kernel_rfl) (fun _ h => by cases h) wireRest_row_tie rfl ⟨rfl, rfl⟩ (by as_aux_lemma => kernel_rfl) rfl
    (fun f fn hf hfn => by
      obtain rfl : f = 11 := Option.some.inj ((show Tryz.prog.funcNamed "kalends/kalendslaw19.WireRest" = some 11 by kernel_rfl).symm.trans hf) |>.symm
      obtain rfl : fn = Tryz.f11 := (Option.some.inj (Tryz.func11.symm.trans hfn)).symm
      exact ⟨by kernel_rfl, fun j t ht => by
        rw [Tryz.params11] at ht
        have hm : t ∈ [55, 9] := by simpa using Array.mem_of_getElem? ht
        have hall : ([55, 9].all fun u => !Tryz.prog.wantsStandIn u) = true := by kernel_rfl
        exact (show Tryz.prog.wantsStandIn t = false by simpa using List.all_eq_true.1 hall t hm)⟩)
    (by as_aux_lemma => kernel_rfl)
#print axioms rest_card
end Go.Proofs.YtgbflpajaihmmaaGreatDoor
