/- The closed facts of WireLong's row, one by one. No condition. -/
import Derived.Test.YtgbflpajaihmmaaGreatDoorPw
namespace Go.Proofs.YtgbflpajaihmmaaGreatDoor
open Go Go.Eng Go.ChangeShapes Go.WideShapes Go.ChangeAt Go.RowKit

theorem fact00 : (Rows.wireLongRow.wf (OpenSpec.ofChange Rows.wireLongSpec)) = true := by kernel_rfl
theorem fact01 : (laidOutB Tryz.prog) = true := by kernel_rfl
theorem fact02 : (mapsRowed Tryz.prog) = true := by kernel_rfl
theorem fact03 : (Tryz.f10.params.all (Tryz.prog.readableRec ·)) = true := by kernel_rfl
theorem fact04 : (namedTie Tryz.prog Rows.wireLongRow.named Rows.wireLongSpec.vars) = true := by kernel_rfl
theorem fact05 : ((Rows.wireLongRow.stops == [])) = true := by kernel_rfl
theorem fact06 : ((Tryz.prog.stops == [])) = true := by kernel_rfl
theorem fact07 : ((Rows.wireLongRow.knobs == [])) = true := by kernel_rfl
theorem fact08 : ((Tryz.prog.stopKnobs == [])) = true := by kernel_rfl
theorem fact09 : ((Rows.wireLongRow.inPlace == Tryz.prog.inPlace 10)) = true := by kernel_rfl
theorem fact10 : ((Rows.wireLongRow.unfollowed == Tryz.prog.unfollowed 10)) = true := by kernel_rfl
theorem fact11 : ((Rows.wireLongRow.recurses == Tryz.prog.recurses 10)) = true := by kernel_rfl
theorem fact12 : ((Rows.wireLongRow.named == Tryz.prog.varsNamed 10)) = true := by kernel_rfl
theorem fact13 : ((Rows.wireLongRow.maps == (Tryz.f10.params.toList ++ Rows.wireLongSpec.plain.varTypes Tryz.prog).any (Tryz.prog.mapsRec ·))) = true := by kernel_rfl
theorem fact14 : ((Rows.wireLongRow.ifaces == (Tryz.f10.params.toList ++ Rows.wireLongSpec.plain.varTypes Tryz.prog).any (Tryz.prog.ifacesRec ·))) = true := by kernel_rfl
theorem fact15 : ((Rows.wireLongRow.mapsOut == Tryz.prog.mapsAmong Tryz.f10.resultTypes.toList)) = true := by kernel_rfl
theorem fact16 : ((Rows.wireLongRow.loops == (Tryz.f10.params.toList ++ Rows.wireLongSpec.plain.varTypes Tryz.prog).any (Tryz.prog.loopsFrom ·))) = true := by kernel_rfl
theorem fact17 : ((Rows.wireLongRow.wideKeys == (Tryz.f10.params.toList ++ Rows.wireLongSpec.plain.varTypes Tryz.prog ++ Tryz.f10.resultTypes.toList).any (Tryz.prog.wideKeysFrom ·))) = true := by kernel_rfl
theorem fact18 : (Rows.wireLongSpec.vars.all (Tryz.prog.varReadable ·)) = true := by kernel_rfl
theorem fact19 : (Tryz.f10.resultTypes.all (fun t => Tryz.prog.readableRec t && decide (t < Tryz.prog.types.size))) = true := by kernel_rfl
theorem fact20 : ((Rows.wireLongRow.ifacesOut == Tryz.f10.resultTypes.toList.any (Tryz.prog.ifacesRec ·))) = true := by kernel_rfl
theorem fact21 : ((Rows.wireLongRow.loopsOut == Tryz.f10.resultTypes.toList.any (Tryz.prog.loopsFrom ·))) = true := by kernel_rfl
theorem fact22 : ((Rows.wireLongRow.plainKeys == Tryz.prog.plainKeys)) = true := by kernel_rfl
theorem fact23 : (Rows.wireLongRow.shortTexts.isNone) = true := by kernel_rfl
theorem fact24 : (Tryz.prog.stopsHeard) = true := by kernel_rfl
theorem fact25 : (Tryz.prog.mayEnter) = true := by kernel_rfl
theorem fact26 : ((Rows.wireLongRow.lifted == Tryz.prog.liftsFinal)) = true := by kernel_rfl
theorem fact27 : ((Tryz.prog.make == some Rows.wireLongRow.make)) = true := by kernel_rfl
theorem fact28 : ((Rows.wireLongRow.kinds == (if Rows.wireLongRow.domain.isEmpty then [] else Tryz.f10.params.toList.map fun t => match Tryz.prog.underlying t with | some (.int k) => some k | _ => none))) = true := by kernel_rfl
theorem fact29 : ((Rows.wireLongRow.pinned == Rows.wireLongRow.pinnedBy)) = true := by kernel_rfl
theorem fact30 : ((Rows.wireLongRow.veiled == (Tryz.f10.params.toList ++ Rows.wireLongSpec.plain.varTypes Tryz.prog ++ Tryz.f10.resultTypes.toList).any (Tryz.prog.veiledRec ·))) = true := by kernel_rfl
theorem fact31 : (Rows.wireLongRow.veiledFits Tryz.prog Tryz.f10.params.toList (Tryz.f10.params.toList ++ Rows.wireLongSpec.plain.varTypes Tryz.prog ++ Tryz.f10.resultTypes.toList)) = true := by kernel_rfl
theorem and2 {a b : Bool} (h : a = true) (k : b = true) : (a && b) = true := by rw [h, k]; rfl
set_option maxRecDepth 100000 in
theorem long_facts : joinedFacts Tryz.prog 10 Tryz.f10 Rows.wireLongSpec Rows.wireLongRow = true := by
  unfold joinedFacts
  exact (and2 (and2 (and2 (and2 (and2 (and2 (and2 (and2 (and2 (and2 (and2 (and2 (and2 (and2 (and2 (and2 (and2 (and2 (and2 (and2 (and2 (and2 (and2 (and2 (and2 (and2 (and2 (and2 (and2 (and2 (and2 fact00 fact01) fact02) fact03) fact04) fact05) fact06) fact07) fact08) fact09) fact10) fact11) fact12) fact13) fact14) fact15) fact16) fact17) fact18) fact19) fact20) fact21) fact22) fact23) fact24) fact25) fact26) fact27) fact28) fact29) fact30) fact31)
end Go.Proofs.YtgbflpajaihmmaaGreatDoor
