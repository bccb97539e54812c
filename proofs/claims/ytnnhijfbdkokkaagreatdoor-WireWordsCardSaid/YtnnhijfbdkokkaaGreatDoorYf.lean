/- The closed words_facts of WireWords's row, one by one. No condition. -/
import Derived.Test.YtnnhijfbdkokkaaGreatDoorPx
namespace Go.Proofs.YtnnhijfbdkokkaaGreatDoor
open Go Go.Eng Go.ChangeShapes Go.WideShapes Go.ChangeAt Go.RowKit

theorem words_fact00 : (Rows.wireWordsRow.wf (OpenSpec.ofChange Rows.wireWordsSpec)) = true := by kernel_rfl
theorem words_fact01 : (laidOutB Tryz.prog) = true := by kernel_rfl
theorem words_fact02 : (mapsRowed Tryz.prog) = true := by kernel_rfl
theorem words_fact03 : (Tryz.f10.params.all (Tryz.prog.readableRec ·)) = true := by kernel_rfl
theorem words_fact04 : (namedTie Tryz.prog Rows.wireWordsRow.named Rows.wireWordsSpec.vars) = true := by kernel_rfl
theorem words_fact05 : ((Rows.wireWordsRow.stops == [])) = true := by kernel_rfl
theorem words_fact06 : ((Tryz.prog.stops == [])) = true := by kernel_rfl
theorem words_fact07 : ((Rows.wireWordsRow.knobs == [])) = true := by kernel_rfl
theorem words_fact08 : ((Tryz.prog.stopKnobs == [])) = true := by kernel_rfl
theorem words_fact09 : ((Rows.wireWordsRow.inPlace == Tryz.prog.inPlace 10)) = true := by kernel_rfl
theorem words_fact10 : ((Rows.wireWordsRow.unfollowed == Tryz.prog.unfollowed 10)) = true := by kernel_rfl
theorem words_fact11 : ((Rows.wireWordsRow.recurses == Tryz.prog.recurses 10)) = true := by kernel_rfl
theorem words_fact12 : ((Rows.wireWordsRow.named == Tryz.prog.varsNamed 10)) = true := by kernel_rfl
theorem words_fact13 : ((Rows.wireWordsRow.maps == (Tryz.f10.params.toList ++ Rows.wireWordsSpec.plain.varTypes Tryz.prog).any (Tryz.prog.mapsRec ·))) = true := by kernel_rfl
theorem words_fact14 : ((Rows.wireWordsRow.ifaces == (Tryz.f10.params.toList ++ Rows.wireWordsSpec.plain.varTypes Tryz.prog).any (Tryz.prog.ifacesRec ·))) = true := by kernel_rfl
theorem words_fact15 : ((Rows.wireWordsRow.mapsOut == Tryz.prog.mapsAmong Tryz.f10.resultTypes.toList)) = true := by kernel_rfl
theorem words_fact16 : ((Rows.wireWordsRow.loops == (Tryz.f10.params.toList ++ Rows.wireWordsSpec.plain.varTypes Tryz.prog).any (Tryz.prog.loopsFrom ·))) = true := by kernel_rfl
theorem words_fact17 : ((Rows.wireWordsRow.wideKeys == (Tryz.f10.params.toList ++ Rows.wireWordsSpec.plain.varTypes Tryz.prog ++ Tryz.f10.resultTypes.toList).any (Tryz.prog.wideKeysFrom ·))) = true := by kernel_rfl
theorem words_fact18 : (Rows.wireWordsSpec.vars.all (Tryz.prog.varReadable ·)) = true := by kernel_rfl
theorem words_fact19 : (Tryz.f10.resultTypes.all (fun t => Tryz.prog.readableRec t && decide (t < Tryz.prog.types.size))) = true := by kernel_rfl
theorem words_fact20 : ((Rows.wireWordsRow.ifacesOut == Tryz.f10.resultTypes.toList.any (Tryz.prog.ifacesRec ·))) = true := by kernel_rfl
theorem words_fact21 : ((Rows.wireWordsRow.loopsOut == Tryz.f10.resultTypes.toList.any (Tryz.prog.loopsFrom ·))) = true := by kernel_rfl
theorem words_fact22 : ((Rows.wireWordsRow.plainKeys == Tryz.prog.plainKeys)) = true := by kernel_rfl
theorem words_fact23 : (Rows.wireWordsRow.shortTexts.isNone) = true := by kernel_rfl
theorem words_fact24 : (Tryz.prog.stopsHeard) = true := by kernel_rfl
theorem words_fact25 : (Tryz.prog.mayEnter) = true := by kernel_rfl
theorem words_fact26 : ((Rows.wireWordsRow.lifted == Tryz.prog.liftsFinal)) = true := by kernel_rfl
theorem words_fact27 : ((Tryz.prog.make == some Rows.wireWordsRow.make)) = true := by kernel_rfl
theorem words_fact28 : ((Rows.wireWordsRow.kinds == (if Rows.wireWordsRow.domain.isEmpty then [] else Tryz.f10.params.toList.map fun t => match Tryz.prog.underlying t with | some (.int k) => some k | _ => none))) = true := by kernel_rfl
theorem words_fact29 : ((Rows.wireWordsRow.pinned == Rows.wireWordsRow.pinnedBy)) = true := by kernel_rfl
theorem words_fact30 : ((Rows.wireWordsRow.veiled == (Tryz.f10.params.toList ++ Rows.wireWordsSpec.plain.varTypes Tryz.prog ++ Tryz.f10.resultTypes.toList).any (Tryz.prog.veiledRec ·))) = true := by kernel_rfl
theorem words_fact31 : (Rows.wireWordsRow.veiledFits Tryz.prog Tryz.f10.params.toList (Tryz.f10.params.toList ++ Rows.wireWordsSpec.plain.varTypes Tryz.prog ++ Tryz.f10.resultTypes.toList)) = true := by kernel_rfl
theorem words_and2 {a b : Bool} (h : a = true) (k : b = true) : (a && b) = true := by rw [h, k]; rfl
set_option maxRecDepth 100000 in
theorem words_facts : joinedFacts Tryz.prog 10 Tryz.f10 Rows.wireWordsSpec Rows.wireWordsRow = true := by
  unfold joinedFacts
  exact (words_and2 (words_and2 (words_and2 (words_and2 (words_and2 (words_and2 (words_and2 (words_and2 (words_and2 (words_and2 (words_and2 (words_and2 (words_and2 (words_and2 (words_and2 (words_and2 (words_and2 (words_and2 (words_and2 (words_and2 (words_and2 (words_and2 (words_and2 (words_and2 (words_and2 (words_and2 (words_and2 (words_and2 (words_and2 (words_and2 (words_and2 words_fact00 words_fact01) words_fact02) words_fact03) words_fact04) words_fact05) words_fact06) words_fact07) words_fact08) words_fact09) words_fact10) words_fact11) words_fact12) words_fact13) words_fact14) words_fact15) words_fact16) words_fact17) words_fact18) words_fact19) words_fact20) words_fact21) words_fact22) words_fact23) words_fact24) words_fact25) words_fact26) words_fact27) words_fact28) words_fact29) words_fact30) words_fact31)
end Go.Proofs.YtnnhijfbdkokkaaGreatDoor
