/- The closed texts_facts of LinesTexts's row, one by one. No condition. -/
import Derived.Test.YtnnhijfbdkokkaaGreatDoorPx
namespace Go.Proofs.YtnnhijfbdkokkaaGreatDoor
open Go Go.Eng Go.ChangeShapes Go.WideShapes Go.ChangeAt Go.RowKit

theorem texts_fact00 : (Rows.linesTextsRow.wf (OpenSpec.ofChange Rows.linesTextsSpec)) = true := by kernel_rfl
theorem texts_fact01 : (laidOutB Tryz.prog) = true := by kernel_rfl
theorem texts_fact02 : (mapsRowed Tryz.prog) = true := by kernel_rfl
theorem texts_fact03 : (Tryz.f4.params.all (Tryz.prog.readableRec ·)) = true := by kernel_rfl
theorem texts_fact04 : (namedTie Tryz.prog Rows.linesTextsRow.named Rows.linesTextsSpec.vars) = true := by kernel_rfl
theorem texts_fact05 : ((Rows.linesTextsRow.stops == [])) = true := by kernel_rfl
theorem texts_fact06 : ((Tryz.prog.stops == [])) = true := by kernel_rfl
theorem texts_fact07 : ((Rows.linesTextsRow.knobs == [])) = true := by kernel_rfl
theorem texts_fact08 : ((Tryz.prog.stopKnobs == [])) = true := by kernel_rfl
theorem texts_fact09 : ((Rows.linesTextsRow.inPlace == Tryz.prog.inPlace 4)) = true := by kernel_rfl
theorem texts_fact10 : ((Rows.linesTextsRow.unfollowed == Tryz.prog.unfollowed 4)) = true := by kernel_rfl
theorem texts_fact11 : ((Rows.linesTextsRow.recurses == Tryz.prog.recurses 4)) = true := by kernel_rfl
theorem texts_fact12 : ((Rows.linesTextsRow.named == Tryz.prog.varsNamed 4)) = true := by kernel_rfl
theorem texts_fact13 : ((Rows.linesTextsRow.maps == (Tryz.f4.params.toList ++ Rows.linesTextsSpec.plain.varTypes Tryz.prog).any (Tryz.prog.mapsRec ·))) = true := by kernel_rfl
theorem texts_fact14 : ((Rows.linesTextsRow.ifaces == (Tryz.f4.params.toList ++ Rows.linesTextsSpec.plain.varTypes Tryz.prog).any (Tryz.prog.ifacesRec ·))) = true := by kernel_rfl
theorem texts_fact15 : ((Rows.linesTextsRow.mapsOut == Tryz.prog.mapsAmong Tryz.f4.resultTypes.toList)) = true := by kernel_rfl
theorem texts_fact16 : ((Rows.linesTextsRow.loops == (Tryz.f4.params.toList ++ Rows.linesTextsSpec.plain.varTypes Tryz.prog).any (Tryz.prog.loopsFrom ·))) = true := by kernel_rfl
theorem texts_fact17 : ((Rows.linesTextsRow.wideKeys == (Tryz.f4.params.toList ++ Rows.linesTextsSpec.plain.varTypes Tryz.prog ++ Tryz.f4.resultTypes.toList).any (Tryz.prog.wideKeysFrom ·))) = true := by kernel_rfl
theorem texts_fact18 : (Rows.linesTextsSpec.vars.all (Tryz.prog.varReadable ·)) = true := by kernel_rfl
theorem texts_fact19 : (Tryz.f4.resultTypes.all (fun t => Tryz.prog.readableRec t && decide (t < Tryz.prog.types.size))) = true := by kernel_rfl
theorem texts_fact20 : ((Rows.linesTextsRow.ifacesOut == Tryz.f4.resultTypes.toList.any (Tryz.prog.ifacesRec ·))) = true := by kernel_rfl
theorem texts_fact21 : ((Rows.linesTextsRow.loopsOut == Tryz.f4.resultTypes.toList.any (Tryz.prog.loopsFrom ·))) = true := by kernel_rfl
theorem texts_fact22 : ((Rows.linesTextsRow.plainKeys == Tryz.prog.plainKeys)) = true := by kernel_rfl
theorem texts_fact23 : (Rows.linesTextsRow.shortTexts.isNone) = true := by kernel_rfl
theorem texts_fact24 : (Tryz.prog.stopsHeard) = true := by kernel_rfl
theorem texts_fact25 : (Tryz.prog.mayEnter) = true := by kernel_rfl
theorem texts_fact26 : ((Rows.linesTextsRow.lifted == Tryz.prog.liftsFinal)) = true := by kernel_rfl
theorem texts_fact27 : ((Tryz.prog.make == some Rows.linesTextsRow.make)) = true := by kernel_rfl
theorem texts_fact28 : ((Rows.linesTextsRow.kinds == (if Rows.linesTextsRow.domain.isEmpty then [] else Tryz.f4.params.toList.map fun t => match Tryz.prog.underlying t with | some (.int k) => some k | _ => none))) = true := by kernel_rfl
theorem texts_fact29 : ((Rows.linesTextsRow.pinned == Rows.linesTextsRow.pinnedBy)) = true := by kernel_rfl
theorem texts_fact30 : ((Rows.linesTextsRow.veiled == (Tryz.f4.params.toList ++ Rows.linesTextsSpec.plain.varTypes Tryz.prog ++ Tryz.f4.resultTypes.toList).any (Tryz.prog.veiledRec ·))) = true := by kernel_rfl
theorem texts_fact31 : (Rows.linesTextsRow.veiledFits Tryz.prog Tryz.f4.params.toList (Tryz.f4.params.toList ++ Rows.linesTextsSpec.plain.varTypes Tryz.prog ++ Tryz.f4.resultTypes.toList)) = true := by kernel_rfl
theorem texts_and2 {a b : Bool} (h : a = true) (k : b = true) : (a && b) = true := by rw [h, k]; rfl
set_option maxRecDepth 100000 in
theorem texts_facts : joinedFacts Tryz.prog 4 Tryz.f4 Rows.linesTextsSpec Rows.linesTextsRow = true := by
  unfold joinedFacts
  exact (texts_and2 (texts_and2 (texts_and2 (texts_and2 (texts_and2 (texts_and2 (texts_and2 (texts_and2 (texts_and2 (texts_and2 (texts_and2 (texts_and2 (texts_and2 (texts_and2 (texts_and2 (texts_and2 (texts_and2 (texts_and2 (texts_and2 (texts_and2 (texts_and2 (texts_and2 (texts_and2 (texts_and2 (texts_and2 (texts_and2 (texts_and2 (texts_and2 (texts_and2 (texts_and2 (texts_and2 texts_fact00 texts_fact01) texts_fact02) texts_fact03) texts_fact04) texts_fact05) texts_fact06) texts_fact07) texts_fact08) texts_fact09) texts_fact10) texts_fact11) texts_fact12) texts_fact13) texts_fact14) texts_fact15) texts_fact16) texts_fact17) texts_fact18) texts_fact19) texts_fact20) texts_fact21) texts_fact22) texts_fact23) texts_fact24) texts_fact25) texts_fact26) texts_fact27) texts_fact28) texts_fact29) texts_fact30) texts_fact31)
end Go.Proofs.YtnnhijfbdkokkaaGreatDoor
