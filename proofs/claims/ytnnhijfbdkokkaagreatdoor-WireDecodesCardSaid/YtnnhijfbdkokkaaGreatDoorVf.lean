/- The closed decodes_facts of WireDecodes's row, one by one. No condition. -/
import Derived.Test.YtnnhijfbdkokkaaGreatDoorPx
namespace Go.Proofs.YtnnhijfbdkokkaaGreatDoor
open Go Go.Eng Go.ChangeShapes Go.WideShapes Go.ChangeAt Go.RowKit

theorem decodes_fact00 : (Rows.wireDecodesRow.wf (OpenSpec.ofChange Rows.wireDecodesSpec)) = true := by kernel_rfl
theorem decodes_fact01 : (laidOutB Tryz.prog) = true := by kernel_rfl
theorem decodes_fact02 : (mapsRowed Tryz.prog) = true := by kernel_rfl
theorem decodes_fact03 : (Tryz.f8.params.all (Tryz.prog.readableRec ·)) = true := by kernel_rfl
theorem decodes_fact04 : (namedTie Tryz.prog Rows.wireDecodesRow.named Rows.wireDecodesSpec.vars) = true := by kernel_rfl
theorem decodes_fact05 : ((Rows.wireDecodesRow.stops == [])) = true := by kernel_rfl
theorem decodes_fact06 : ((Tryz.prog.stops == [])) = true := by kernel_rfl
theorem decodes_fact07 : ((Rows.wireDecodesRow.knobs == [])) = true := by kernel_rfl
theorem decodes_fact08 : ((Tryz.prog.stopKnobs == [])) = true := by kernel_rfl
theorem decodes_fact09 : ((Rows.wireDecodesRow.inPlace == Tryz.prog.inPlace 8)) = true := by kernel_rfl
theorem decodes_fact10 : ((Rows.wireDecodesRow.unfollowed == Tryz.prog.unfollowed 8)) = true := by kernel_rfl
theorem decodes_fact11 : ((Rows.wireDecodesRow.recurses == Tryz.prog.recurses 8)) = true := by kernel_rfl
theorem decodes_fact12 : ((Rows.wireDecodesRow.named == Tryz.prog.varsNamed 8)) = true := by kernel_rfl
theorem decodes_fact13 : ((Rows.wireDecodesRow.maps == (Tryz.f8.params.toList ++ Rows.wireDecodesSpec.plain.varTypes Tryz.prog).any (Tryz.prog.mapsRec ·))) = true := by kernel_rfl
theorem decodes_fact14 : ((Rows.wireDecodesRow.ifaces == (Tryz.f8.params.toList ++ Rows.wireDecodesSpec.plain.varTypes Tryz.prog).any (Tryz.prog.ifacesRec ·))) = true := by kernel_rfl
theorem decodes_fact15 : ((Rows.wireDecodesRow.mapsOut == Tryz.prog.mapsAmong Tryz.f8.resultTypes.toList)) = true := by kernel_rfl
theorem decodes_fact16 : ((Rows.wireDecodesRow.loops == (Tryz.f8.params.toList ++ Rows.wireDecodesSpec.plain.varTypes Tryz.prog).any (Tryz.prog.loopsFrom ·))) = true := by kernel_rfl
theorem decodes_fact17 : ((Rows.wireDecodesRow.wideKeys == (Tryz.f8.params.toList ++ Rows.wireDecodesSpec.plain.varTypes Tryz.prog ++ Tryz.f8.resultTypes.toList).any (Tryz.prog.wideKeysFrom ·))) = true := by kernel_rfl
theorem decodes_fact18 : (Rows.wireDecodesSpec.vars.all (Tryz.prog.varReadable ·)) = true := by kernel_rfl
theorem decodes_fact19 : (Tryz.f8.resultTypes.all (fun t => Tryz.prog.readableRec t && decide (t < Tryz.prog.types.size))) = true := by kernel_rfl
theorem decodes_fact20 : ((Rows.wireDecodesRow.ifacesOut == Tryz.f8.resultTypes.toList.any (Tryz.prog.ifacesRec ·))) = true := by kernel_rfl
theorem decodes_fact21 : ((Rows.wireDecodesRow.loopsOut == Tryz.f8.resultTypes.toList.any (Tryz.prog.loopsFrom ·))) = true := by kernel_rfl
theorem decodes_fact22 : ((Rows.wireDecodesRow.plainKeys == Tryz.prog.plainKeys)) = true := by kernel_rfl
theorem decodes_fact23 : (Rows.wireDecodesRow.shortTexts.isNone) = true := by kernel_rfl
theorem decodes_fact24 : (Tryz.prog.stopsHeard) = true := by kernel_rfl
theorem decodes_fact25 : (Tryz.prog.mayEnter) = true := by kernel_rfl
theorem decodes_fact26 : ((Rows.wireDecodesRow.lifted == Tryz.prog.liftsFinal)) = true := by kernel_rfl
theorem decodes_fact27 : ((Tryz.prog.make == some Rows.wireDecodesRow.make)) = true := by kernel_rfl
theorem decodes_fact28 : ((Rows.wireDecodesRow.kinds == (if Rows.wireDecodesRow.domain.isEmpty then [] else Tryz.f8.params.toList.map fun t => match Tryz.prog.underlying t with | some (.int k) => some k | _ => none))) = true := by kernel_rfl
theorem decodes_fact29 : ((Rows.wireDecodesRow.pinned == Rows.wireDecodesRow.pinnedBy)) = true := by kernel_rfl
theorem decodes_fact30 : ((Rows.wireDecodesRow.veiled == (Tryz.f8.params.toList ++ Rows.wireDecodesSpec.plain.varTypes Tryz.prog ++ Tryz.f8.resultTypes.toList).any (Tryz.prog.veiledRec ·))) = true := by kernel_rfl
theorem decodes_fact31 : (Rows.wireDecodesRow.veiledFits Tryz.prog Tryz.f8.params.toList (Tryz.f8.params.toList ++ Rows.wireDecodesSpec.plain.varTypes Tryz.prog ++ Tryz.f8.resultTypes.toList)) = true := by kernel_rfl
theorem decodes_and2 {a b : Bool} (h : a = true) (k : b = true) : (a && b) = true := by rw [h, k]; rfl
set_option maxRecDepth 100000 in
theorem decodes_facts : joinedFacts Tryz.prog 8 Tryz.f8 Rows.wireDecodesSpec Rows.wireDecodesRow = true := by
  unfold joinedFacts
  exact (decodes_and2 (decodes_and2 (decodes_and2 (decodes_and2 (decodes_and2 (decodes_and2 (decodes_and2 (decodes_and2 (decodes_and2 (decodes_and2 (decodes_and2 (decodes_and2 (decodes_and2 (decodes_and2 (decodes_and2 (decodes_and2 (decodes_and2 (decodes_and2 (decodes_and2 (decodes_and2 (decodes_and2 (decodes_and2 (decodes_and2 (decodes_and2 (decodes_and2 (decodes_and2 (decodes_and2 (decodes_and2 (decodes_and2 (decodes_and2 (decodes_and2 decodes_fact00 decodes_fact01) decodes_fact02) decodes_fact03) decodes_fact04) decodes_fact05) decodes_fact06) decodes_fact07) decodes_fact08) decodes_fact09) decodes_fact10) decodes_fact11) decodes_fact12) decodes_fact13) decodes_fact14) decodes_fact15) decodes_fact16) decodes_fact17) decodes_fact18) decodes_fact19) decodes_fact20) decodes_fact21) decodes_fact22) decodes_fact23) decodes_fact24) decodes_fact25) decodes_fact26) decodes_fact27) decodes_fact28) decodes_fact29) decodes_fact30) decodes_fact31)
end Go.Proofs.YtnnhijfbdkokkaaGreatDoor
