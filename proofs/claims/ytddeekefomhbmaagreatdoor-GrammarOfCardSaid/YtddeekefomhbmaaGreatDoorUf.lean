/- The closed of_facts of GrammarOf's row, one by one. No condition. -/
import Derived.Test.YtddeekefomhbmaaGreatDoorAw
namespace Go.Proofs.YtddeekefomhbmaaGreatDoor
open Go Go.Eng Go.ChangeShapes Go.WideShapes Go.ChangeAt Go.RowKit

theorem of_fact00 : (Rows.grammarOfRow.wf (OpenSpec.ofChange Rows.grammarOfSpec)) = true := by kernel_rfl
theorem of_fact01 : (laidOutB Tryz.prog) = true := by kernel_rfl
theorem of_fact02 : (mapsRowed Tryz.prog) = true := by kernel_rfl
theorem of_fact03 : (Tryz.f4.params.all (Tryz.prog.readableRec ·)) = true := by kernel_rfl
theorem of_fact04 : (namedTie Tryz.prog Rows.grammarOfRow.named Rows.grammarOfSpec.vars) = true := by kernel_rfl
theorem of_fact05 : ((Rows.grammarOfRow.stops == [])) = true := by kernel_rfl
theorem of_fact06 : ((Tryz.prog.stops == [])) = true := by kernel_rfl
theorem of_fact07 : ((Rows.grammarOfRow.knobs == [])) = true := by kernel_rfl
theorem of_fact08 : ((Tryz.prog.stopKnobs == [])) = true := by kernel_rfl
theorem of_fact09 : ((Rows.grammarOfRow.inPlace == Tryz.prog.inPlace 4)) = true := by kernel_rfl
theorem of_fact10 : ((Rows.grammarOfRow.unfollowed == Tryz.prog.unfollowed 4)) = true := by kernel_rfl
theorem of_fact11 : ((Rows.grammarOfRow.recurses == Tryz.prog.recurses 4)) = true := by kernel_rfl
theorem of_fact12 : ((Rows.grammarOfRow.named == Tryz.prog.varsNamed 4)) = true := by kernel_rfl
theorem of_fact13 : ((Rows.grammarOfRow.maps == (Tryz.f4.params.toList ++ Rows.grammarOfSpec.plain.varTypes Tryz.prog).any (Tryz.prog.mapsRec ·))) = true := by kernel_rfl
theorem of_fact14 : ((Rows.grammarOfRow.ifaces == (Tryz.f4.params.toList ++ Rows.grammarOfSpec.plain.varTypes Tryz.prog).any (Tryz.prog.ifacesRec ·))) = true := by kernel_rfl
theorem of_fact15 : ((Rows.grammarOfRow.mapsOut == Tryz.prog.mapsAmong Tryz.f4.resultTypes.toList)) = true := by kernel_rfl
theorem of_fact16 : ((Rows.grammarOfRow.loops == (Tryz.f4.params.toList ++ Rows.grammarOfSpec.plain.varTypes Tryz.prog).any (Tryz.prog.loopsFrom ·))) = true := by kernel_rfl
theorem of_fact17 : ((Rows.grammarOfRow.wideKeys == (Tryz.f4.params.toList ++ Rows.grammarOfSpec.plain.varTypes Tryz.prog ++ Tryz.f4.resultTypes.toList).any (Tryz.prog.wideKeysFrom ·))) = true := by kernel_rfl
theorem of_fact18 : (Rows.grammarOfSpec.vars.all (Tryz.prog.varReadable ·)) = true := by kernel_rfl
theorem of_fact19 : (Tryz.f4.resultTypes.all (fun t => Tryz.prog.readableRec t && decide (t < Tryz.prog.types.size))) = true := by kernel_rfl
theorem of_fact20 : ((Rows.grammarOfRow.ifacesOut == Tryz.f4.resultTypes.toList.any (Tryz.prog.ifacesRec ·))) = true := by kernel_rfl
theorem of_fact21 : ((Rows.grammarOfRow.loopsOut == Tryz.f4.resultTypes.toList.any (Tryz.prog.loopsFrom ·))) = true := by kernel_rfl
theorem of_fact22 : ((Rows.grammarOfRow.plainKeys == Tryz.prog.plainKeys)) = true := by kernel_rfl
theorem of_fact23 : (Rows.grammarOfRow.shortTexts.isNone) = true := by kernel_rfl
theorem of_fact24 : (Tryz.prog.stopsHeard) = true := by kernel_rfl
theorem of_fact25 : (Tryz.prog.mayEnter) = true := by kernel_rfl
theorem of_fact26 : ((Rows.grammarOfRow.lifted == Tryz.prog.liftsFinal)) = true := by kernel_rfl
theorem of_fact27 : ((Tryz.prog.make == some Rows.grammarOfRow.make)) = true := by kernel_rfl
theorem of_fact28 : ((Rows.grammarOfRow.kinds == (if Rows.grammarOfRow.domain.isEmpty then [] else Tryz.f4.params.toList.map fun t => match Tryz.prog.underlying t with | some (.int k) => some k | _ => none))) = true := by kernel_rfl
theorem of_fact29 : ((Rows.grammarOfRow.pinned == Rows.grammarOfRow.pinnedBy)) = true := by kernel_rfl
theorem of_fact30 : ((Rows.grammarOfRow.veiled == (Tryz.f4.params.toList ++ Rows.grammarOfSpec.plain.varTypes Tryz.prog ++ Tryz.f4.resultTypes.toList).any (Tryz.prog.veiledRec ·))) = true := by kernel_rfl
theorem of_fact31 : (Rows.grammarOfRow.veiledFits Tryz.prog Tryz.f4.params.toList (Tryz.f4.params.toList ++ Rows.grammarOfSpec.plain.varTypes Tryz.prog ++ Tryz.f4.resultTypes.toList)) = true := by kernel_rfl
theorem of_and2 {a b : Bool} (h : a = true) (k : b = true) : (a && b) = true := by rw [h, k]; rfl
set_option maxRecDepth 100000 in
theorem of_facts : joinedFacts Tryz.prog 4 Tryz.f4 Rows.grammarOfSpec Rows.grammarOfRow = true := by
  unfold joinedFacts
  exact (of_and2 (of_and2 (of_and2 (of_and2 (of_and2 (of_and2 (of_and2 (of_and2 (of_and2 (of_and2 (of_and2 (of_and2 (of_and2 (of_and2 (of_and2 (of_and2 (of_and2 (of_and2 (of_and2 (of_and2 (of_and2 (of_and2 (of_and2 (of_and2 (of_and2 (of_and2 (of_and2 (of_and2 (of_and2 (of_and2 (of_and2 of_fact00 of_fact01) of_fact02) of_fact03) of_fact04) of_fact05) of_fact06) of_fact07) of_fact08) of_fact09) of_fact10) of_fact11) of_fact12) of_fact13) of_fact14) of_fact15) of_fact16) of_fact17) of_fact18) of_fact19) of_fact20) of_fact21) of_fact22) of_fact23) of_fact24) of_fact25) of_fact26) of_fact27) of_fact28) of_fact29) of_fact30) of_fact31)
end Go.Proofs.YtddeekefomhbmaaGreatDoor
