/- The closed reads_facts of LinesReads's row, one by one. No condition. -/
import Derived.Test.YtnnhijfbdkokkaaGreatDoorPx
namespace Go.Proofs.YtnnhijfbdkokkaaGreatDoor
open Go Go.Eng Go.ChangeShapes Go.WideShapes Go.ChangeAt Go.RowKit

theorem reads_fact00 : (Rows.linesReadsRow.wf (OpenSpec.ofChange Rows.linesReadsSpec)) = true := by kernel_rfl
theorem reads_fact01 : (laidOutB Tryz.prog) = true := by kernel_rfl
theorem reads_fact02 : (mapsRowed Tryz.prog) = true := by kernel_rfl
theorem reads_fact03 : (Tryz.f5.params.all (Tryz.prog.readableRec ·)) = true := by kernel_rfl
theorem reads_fact04 : (namedTie Tryz.prog Rows.linesReadsRow.named Rows.linesReadsSpec.vars) = true := by kernel_rfl
theorem reads_fact05 : ((Rows.linesReadsRow.stops == [])) = true := by kernel_rfl
theorem reads_fact06 : ((Tryz.prog.stops == [])) = true := by kernel_rfl
theorem reads_fact07 : ((Rows.linesReadsRow.knobs == [])) = true := by kernel_rfl
theorem reads_fact08 : ((Tryz.prog.stopKnobs == [])) = true := by kernel_rfl
theorem reads_fact09 : ((Rows.linesReadsRow.inPlace == Tryz.prog.inPlace 5)) = true := by kernel_rfl
theorem reads_fact10 : ((Rows.linesReadsRow.unfollowed == Tryz.prog.unfollowed 5)) = true := by kernel_rfl
theorem reads_fact11 : ((Rows.linesReadsRow.recurses == Tryz.prog.recurses 5)) = true := by kernel_rfl
theorem reads_fact12 : ((Rows.linesReadsRow.named == Tryz.prog.varsNamed 5)) = true := by kernel_rfl
theorem reads_fact13 : ((Rows.linesReadsRow.maps == (Tryz.f5.params.toList ++ Rows.linesReadsSpec.plain.varTypes Tryz.prog).any (Tryz.prog.mapsRec ·))) = true := by kernel_rfl
theorem reads_fact14 : ((Rows.linesReadsRow.ifaces == (Tryz.f5.params.toList ++ Rows.linesReadsSpec.plain.varTypes Tryz.prog).any (Tryz.prog.ifacesRec ·))) = true := by kernel_rfl
theorem reads_fact15 : ((Rows.linesReadsRow.mapsOut == Tryz.prog.mapsAmong Tryz.f5.resultTypes.toList)) = true := by kernel_rfl
theorem reads_fact16 : ((Rows.linesReadsRow.loops == (Tryz.f5.params.toList ++ Rows.linesReadsSpec.plain.varTypes Tryz.prog).any (Tryz.prog.loopsFrom ·))) = true := by kernel_rfl
theorem reads_fact17 : ((Rows.linesReadsRow.wideKeys == (Tryz.f5.params.toList ++ Rows.linesReadsSpec.plain.varTypes Tryz.prog ++ Tryz.f5.resultTypes.toList).any (Tryz.prog.wideKeysFrom ·))) = true := by kernel_rfl
theorem reads_fact18 : (Rows.linesReadsSpec.vars.all (Tryz.prog.varReadable ·)) = true := by kernel_rfl
theorem reads_fact19 : (Tryz.f5.resultTypes.all (fun t => Tryz.prog.readableRec t && decide (t < Tryz.prog.types.size))) = true := by kernel_rfl
theorem reads_fact20 : ((Rows.linesReadsRow.ifacesOut == Tryz.f5.resultTypes.toList.any (Tryz.prog.ifacesRec ·))) = true := by kernel_rfl
theorem reads_fact21 : ((Rows.linesReadsRow.loopsOut == Tryz.f5.resultTypes.toList.any (Tryz.prog.loopsFrom ·))) = true := by kernel_rfl
theorem reads_fact22 : ((Rows.linesReadsRow.plainKeys == Tryz.prog.plainKeys)) = true := by kernel_rfl
theorem reads_fact23 : (Rows.linesReadsRow.shortTexts.isNone) = true := by kernel_rfl
theorem reads_fact24 : (Tryz.prog.stopsHeard) = true := by kernel_rfl
theorem reads_fact25 : (Tryz.prog.mayEnter) = true := by kernel_rfl
theorem reads_fact26 : ((Rows.linesReadsRow.lifted == Tryz.prog.liftsFinal)) = true := by kernel_rfl
theorem reads_fact27 : ((Tryz.prog.make == some Rows.linesReadsRow.make)) = true := by kernel_rfl
theorem reads_fact28 : ((Rows.linesReadsRow.kinds == (if Rows.linesReadsRow.domain.isEmpty then [] else Tryz.f5.params.toList.map fun t => match Tryz.prog.underlying t with | some (.int k) => some k | _ => none))) = true := by kernel_rfl
theorem reads_fact29 : ((Rows.linesReadsRow.pinned == Rows.linesReadsRow.pinnedBy)) = true := by kernel_rfl
theorem reads_fact30 : ((Rows.linesReadsRow.veiled == (Tryz.f5.params.toList ++ Rows.linesReadsSpec.plain.varTypes Tryz.prog ++ Tryz.f5.resultTypes.toList).any (Tryz.prog.veiledRec ·))) = true := by kernel_rfl
theorem reads_fact31 : (Rows.linesReadsRow.veiledFits Tryz.prog Tryz.f5.params.toList (Tryz.f5.params.toList ++ Rows.linesReadsSpec.plain.varTypes Tryz.prog ++ Tryz.f5.resultTypes.toList)) = true := by kernel_rfl
theorem reads_and2 {a b : Bool} (h : a = true) (k : b = true) : (a && b) = true := by rw [h, k]; rfl
set_option maxRecDepth 100000 in
theorem reads_facts : joinedFacts Tryz.prog 5 Tryz.f5 Rows.linesReadsSpec Rows.linesReadsRow = true := by
  unfold joinedFacts
  exact (reads_and2 (reads_and2 (reads_and2 (reads_and2 (reads_and2 (reads_and2 (reads_and2 (reads_and2 (reads_and2 (reads_and2 (reads_and2 (reads_and2 (reads_and2 (reads_and2 (reads_and2 (reads_and2 (reads_and2 (reads_and2 (reads_and2 (reads_and2 (reads_and2 (reads_and2 (reads_and2 (reads_and2 (reads_and2 (reads_and2 (reads_and2 (reads_and2 (reads_and2 (reads_and2 (reads_and2 reads_fact00 reads_fact01) reads_fact02) reads_fact03) reads_fact04) reads_fact05) reads_fact06) reads_fact07) reads_fact08) reads_fact09) reads_fact10) reads_fact11) reads_fact12) reads_fact13) reads_fact14) reads_fact15) reads_fact16) reads_fact17) reads_fact18) reads_fact19) reads_fact20) reads_fact21) reads_fact22) reads_fact23) reads_fact24) reads_fact25) reads_fact26) reads_fact27) reads_fact28) reads_fact29) reads_fact30) reads_fact31)
end Go.Proofs.YtnnhijfbdkokkaaGreatDoor
