/- The closed more_facts of GrammarMore's row, one by one. No condition. -/
import Derived.Test.YtddeekefomhbmaaGreatDoorAq
namespace Go.Proofs.YtddeekefomhbmaaGreatDoor
open Go Go.Eng Go.ChangeShapes Go.WideShapes Go.ChangeAt Go.RowKit

theorem more_fact00 : (Rows.grammarMoreRow.wf (OpenSpec.ofChange Rows.grammarMoreSpec)) = true := by kernel_rfl
theorem more_fact01 : (laidOutB Tryz.prog) = true := by kernel_rfl
theorem more_fact02 : (mapsRowed Tryz.prog) = true := by kernel_rfl
theorem more_fact03 : (Tryz.f3.params.all (Tryz.prog.readableRec ·)) = true := by kernel_rfl
theorem more_fact04 : (namedTie Tryz.prog Rows.grammarMoreRow.named Rows.grammarMoreSpec.vars) = true := by kernel_rfl
theorem more_fact05 : ((Rows.grammarMoreRow.stops == [])) = true := by kernel_rfl
theorem more_fact06 : ((Tryz.prog.stops == [])) = true := by kernel_rfl
theorem more_fact07 : ((Rows.grammarMoreRow.knobs == [])) = true := by kernel_rfl
theorem more_fact08 : ((Tryz.prog.stopKnobs == [])) = true := by kernel_rfl
theorem more_fact09 : ((Rows.grammarMoreRow.inPlace == Tryz.prog.inPlace 3)) = true := by kernel_rfl
theorem more_fact10 : ((Rows.grammarMoreRow.unfollowed == Tryz.prog.unfollowed 3)) = true := by kernel_rfl
theorem more_fact11 : ((Rows.grammarMoreRow.recurses == Tryz.prog.recurses 3)) = true := by kernel_rfl
theorem more_fact12 : ((Rows.grammarMoreRow.named == Tryz.prog.varsNamed 3)) = true := by kernel_rfl
theorem more_fact13 : ((Rows.grammarMoreRow.maps == (Tryz.f3.params.toList ++ Rows.grammarMoreSpec.plain.varTypes Tryz.prog).any (Tryz.prog.mapsRec ·))) = true := by kernel_rfl
theorem more_fact14 : ((Rows.grammarMoreRow.ifaces == (Tryz.f3.params.toList ++ Rows.grammarMoreSpec.plain.varTypes Tryz.prog).any (Tryz.prog.ifacesRec ·))) = true := by kernel_rfl
theorem more_fact15 : ((Rows.grammarMoreRow.mapsOut == Tryz.prog.mapsAmong Tryz.f3.resultTypes.toList)) = true := by kernel_rfl
theorem more_fact16 : ((Rows.grammarMoreRow.loops == (Tryz.f3.params.toList ++ Rows.grammarMoreSpec.plain.varTypes Tryz.prog).any (Tryz.prog.loopsFrom ·))) = true := by kernel_rfl
theorem more_fact17 : ((Rows.grammarMoreRow.wideKeys == (Tryz.f3.params.toList ++ Rows.grammarMoreSpec.plain.varTypes Tryz.prog ++ Tryz.f3.resultTypes.toList).any (Tryz.prog.wideKeysFrom ·))) = true := by kernel_rfl
theorem more_fact18 : (Rows.grammarMoreSpec.vars.all (Tryz.prog.varReadable ·)) = true := by kernel_rfl
theorem more_fact19 : (Tryz.f3.resultTypes.all (fun t => Tryz.prog.readableRec t && decide (t < Tryz.prog.types.size))) = true := by kernel_rfl
theorem more_fact20 : ((Rows.grammarMoreRow.ifacesOut == Tryz.f3.resultTypes.toList.any (Tryz.prog.ifacesRec ·))) = true := by kernel_rfl
theorem more_fact21 : ((Rows.grammarMoreRow.loopsOut == Tryz.f3.resultTypes.toList.any (Tryz.prog.loopsFrom ·))) = true := by kernel_rfl
theorem more_fact22 : ((Rows.grammarMoreRow.plainKeys == Tryz.prog.plainKeys)) = true := by kernel_rfl
theorem more_fact23 : (Rows.grammarMoreRow.shortTexts.isNone) = true := by kernel_rfl
theorem more_fact24 : (Tryz.prog.stopsHeard) = true := by kernel_rfl
theorem more_fact25 : (Tryz.prog.mayEnter) = true := by kernel_rfl
theorem more_fact26 : ((Rows.grammarMoreRow.lifted == Tryz.prog.liftsFinal)) = true := by kernel_rfl
theorem more_fact27 : ((Tryz.prog.make == some Rows.grammarMoreRow.make)) = true := by kernel_rfl
theorem more_fact28 : ((Rows.grammarMoreRow.kinds == (if Rows.grammarMoreRow.domain.isEmpty then [] else Tryz.f3.params.toList.map fun t => match Tryz.prog.underlying t with | some (.int k) => some k | _ => none))) = true := by kernel_rfl
theorem more_fact29 : ((Rows.grammarMoreRow.pinned == Rows.grammarMoreRow.pinnedBy)) = true := by kernel_rfl
theorem more_fact30 : ((Rows.grammarMoreRow.veiled == (Tryz.f3.params.toList ++ Rows.grammarMoreSpec.plain.varTypes Tryz.prog ++ Tryz.f3.resultTypes.toList).any (Tryz.prog.veiledRec ·))) = true := by kernel_rfl
theorem more_fact31 : (Rows.grammarMoreRow.veiledFits Tryz.prog Tryz.f3.params.toList (Tryz.f3.params.toList ++ Rows.grammarMoreSpec.plain.varTypes Tryz.prog ++ Tryz.f3.resultTypes.toList)) = true := by kernel_rfl
theorem more_and2 {a b : Bool} (h : a = true) (k : b = true) : (a && b) = true := by rw [h, k]; rfl
set_option maxRecDepth 100000 in
theorem more_facts : joinedFacts Tryz.prog 3 Tryz.f3 Rows.grammarMoreSpec Rows.grammarMoreRow = true := by
  unfold joinedFacts
  exact (more_and2 (more_and2 (more_and2 (more_and2 (more_and2 (more_and2 (more_and2 (more_and2 (more_and2 (more_and2 (more_and2 (more_and2 (more_and2 (more_and2 (more_and2 (more_and2 (more_and2 (more_and2 (more_and2 (more_and2 (more_and2 (more_and2 (more_and2 (more_and2 (more_and2 (more_and2 (more_and2 (more_and2 (more_and2 (more_and2 (more_and2 more_fact00 more_fact01) more_fact02) more_fact03) more_fact04) more_fact05) more_fact06) more_fact07) more_fact08) more_fact09) more_fact10) more_fact11) more_fact12) more_fact13) more_fact14) more_fact15) more_fact16) more_fact17) more_fact18) more_fact19) more_fact20) more_fact21) more_fact22) more_fact23) more_fact24) more_fact25) more_fact26) more_fact27) more_fact28) more_fact29) more_fact30) more_fact31)
end Go.Proofs.YtddeekefomhbmaaGreatDoor
