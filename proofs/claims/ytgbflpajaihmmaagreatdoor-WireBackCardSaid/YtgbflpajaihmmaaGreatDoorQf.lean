/- The closed back_facts of WireBack's row, one by one. No condition. -/
import Derived.Test.YtgbflpajaihmmaaGreatDoorPw
namespace Go.Proofs.YtgbflpajaihmmaaGreatDoor
open Go Go.Eng Go.ChangeShapes Go.WideShapes Go.ChangeAt Go.RowKit

theorem back_fact00 : (Rows.wireBackRow.wf (OpenSpec.ofChange Rows.wireBackSpec)) = true := by kernel_rfl
theorem back_fact01 : (laidOutB Tryz.prog) = true := by kernel_rfl
theorem back_fact02 : (mapsRowed Tryz.prog) = true := by kernel_rfl
theorem back_fact03 : (Tryz.f13.params.all (Tryz.prog.readableRec ·)) = true := by kernel_rfl
theorem back_fact04 : (namedTie Tryz.prog Rows.wireBackRow.named Rows.wireBackSpec.vars) = true := by kernel_rfl
theorem back_fact05 : ((Rows.wireBackRow.stops == [])) = true := by kernel_rfl
theorem back_fact06 : ((Tryz.prog.stops == [])) = true := by kernel_rfl
theorem back_fact07 : ((Rows.wireBackRow.knobs == [])) = true := by kernel_rfl
theorem back_fact08 : ((Tryz.prog.stopKnobs == [])) = true := by kernel_rfl
theorem back_fact09 : ((Rows.wireBackRow.inPlace == Tryz.prog.inPlace 13)) = true := by kernel_rfl
theorem back_fact10 : ((Rows.wireBackRow.unfollowed == Tryz.prog.unfollowed 13)) = true := by kernel_rfl
theorem back_fact11 : ((Rows.wireBackRow.recurses == Tryz.prog.recurses 13)) = true := by kernel_rfl
theorem back_fact12 : ((Rows.wireBackRow.named == Tryz.prog.varsNamed 13)) = true := by kernel_rfl
theorem back_fact13 : ((Rows.wireBackRow.maps == (Tryz.f13.params.toList ++ Rows.wireBackSpec.plain.varTypes Tryz.prog).any (Tryz.prog.mapsRec ·))) = true := by kernel_rfl
theorem back_fact14 : ((Rows.wireBackRow.ifaces == (Tryz.f13.params.toList ++ Rows.wireBackSpec.plain.varTypes Tryz.prog).any (Tryz.prog.ifacesRec ·))) = true := by kernel_rfl
theorem back_fact15 : ((Rows.wireBackRow.mapsOut == Tryz.prog.mapsAmong Tryz.f13.resultTypes.toList)) = true := by kernel_rfl
theorem back_fact16 : ((Rows.wireBackRow.loops == (Tryz.f13.params.toList ++ Rows.wireBackSpec.plain.varTypes Tryz.prog).any (Tryz.prog.loopsFrom ·))) = true := by kernel_rfl
theorem back_fact17 : ((Rows.wireBackRow.wideKeys == (Tryz.f13.params.toList ++ Rows.wireBackSpec.plain.varTypes Tryz.prog ++ Tryz.f13.resultTypes.toList).any (Tryz.prog.wideKeysFrom ·))) = true := by kernel_rfl
theorem back_fact18 : (Rows.wireBackSpec.vars.all (Tryz.prog.varReadable ·)) = true := by kernel_rfl
theorem back_fact19 : (Tryz.f13.resultTypes.all (fun t => Tryz.prog.readableRec t && decide (t < Tryz.prog.types.size))) = true := by kernel_rfl
theorem back_fact20 : ((Rows.wireBackRow.ifacesOut == Tryz.f13.resultTypes.toList.any (Tryz.prog.ifacesRec ·))) = true := by kernel_rfl
theorem back_fact21 : ((Rows.wireBackRow.loopsOut == Tryz.f13.resultTypes.toList.any (Tryz.prog.loopsFrom ·))) = true := by kernel_rfl
theorem back_fact22 : ((Rows.wireBackRow.plainKeys == Tryz.prog.plainKeys)) = true := by kernel_rfl
theorem back_fact23 : (Rows.wireBackRow.shortTexts.isNone) = true := by kernel_rfl
theorem back_fact24 : (Tryz.prog.stopsHeard) = true := by kernel_rfl
theorem back_fact25 : (Tryz.prog.mayEnter) = true := by kernel_rfl
theorem back_fact26 : ((Rows.wireBackRow.lifted == Tryz.prog.liftsFinal)) = true := by kernel_rfl
theorem back_fact27 : ((Tryz.prog.make == some Rows.wireBackRow.make)) = true := by kernel_rfl
theorem back_fact28 : ((Rows.wireBackRow.kinds == (if Rows.wireBackRow.domain.isEmpty then [] else Tryz.f13.params.toList.map fun t => match Tryz.prog.underlying t with | some (.int k) => some k | _ => none))) = true := by kernel_rfl
theorem back_fact29 : ((Rows.wireBackRow.pinned == Rows.wireBackRow.pinnedBy)) = true := by kernel_rfl
theorem back_fact30 : ((Rows.wireBackRow.veiled == (Tryz.f13.params.toList ++ Rows.wireBackSpec.plain.varTypes Tryz.prog ++ Tryz.f13.resultTypes.toList).any (Tryz.prog.veiledRec ·))) = true := by kernel_rfl
theorem back_fact31 : (Rows.wireBackRow.veiledFits Tryz.prog Tryz.f13.params.toList (Tryz.f13.params.toList ++ Rows.wireBackSpec.plain.varTypes Tryz.prog ++ Tryz.f13.resultTypes.toList)) = true := by kernel_rfl
theorem back_and2 {a b : Bool} (h : a = true) (k : b = true) : (a && b) = true := by rw [h, k]; rfl
set_option maxRecDepth 100000 in
theorem back_facts : joinedFacts Tryz.prog 13 Tryz.f13 Rows.wireBackSpec Rows.wireBackRow = true := by
  unfold joinedFacts
  exact (back_and2 (back_and2 (back_and2 (back_and2 (back_and2 (back_and2 (back_and2 (back_and2 (back_and2 (back_and2 (back_and2 (back_and2 (back_and2 (back_and2 (back_and2 (back_and2 (back_and2 (back_and2 (back_and2 (back_and2 (back_and2 (back_and2 (back_and2 (back_and2 (back_and2 (back_and2 (back_and2 (back_and2 (back_and2 (back_and2 (back_and2 back_fact00 back_fact01) back_fact02) back_fact03) back_fact04) back_fact05) back_fact06) back_fact07) back_fact08) back_fact09) back_fact10) back_fact11) back_fact12) back_fact13) back_fact14) back_fact15) back_fact16) back_fact17) back_fact18) back_fact19) back_fact20) back_fact21) back_fact22) back_fact23) back_fact24) back_fact25) back_fact26) back_fact27) back_fact28) back_fact29) back_fact30) back_fact31)
end Go.Proofs.YtgbflpajaihmmaaGreatDoor
