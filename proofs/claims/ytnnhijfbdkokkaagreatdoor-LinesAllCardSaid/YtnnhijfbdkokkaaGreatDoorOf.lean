/- The closed all18_facts of LinesAll's row, one by one. No condition. -/
import Derived.Test.YtnnhijfbdkokkaaGreatDoorPx
namespace Go.Proofs.YtnnhijfbdkokkaaGreatDoor
open Go Go.Eng Go.ChangeShapes Go.WideShapes Go.ChangeAt Go.RowKit

theorem all18_fact00 : (Rows.linesAllRow.wf (OpenSpec.ofChange Rows.linesAllSpec)) = true := by kernel_rfl
theorem all18_fact01 : (laidOutB Tryz.prog) = true := by kernel_rfl
theorem all18_fact02 : (mapsRowed Tryz.prog) = true := by kernel_rfl
theorem all18_fact03 : (Tryz.f3.params.all (Tryz.prog.readableRec ·)) = true := by kernel_rfl
theorem all18_fact04 : (namedTie Tryz.prog Rows.linesAllRow.named Rows.linesAllSpec.vars) = true := by kernel_rfl
theorem all18_fact05 : ((Rows.linesAllRow.stops == [])) = true := by kernel_rfl
theorem all18_fact06 : ((Tryz.prog.stops == [])) = true := by kernel_rfl
theorem all18_fact07 : ((Rows.linesAllRow.knobs == [])) = true := by kernel_rfl
theorem all18_fact08 : ((Tryz.prog.stopKnobs == [])) = true := by kernel_rfl
theorem all18_fact09 : ((Rows.linesAllRow.inPlace == Tryz.prog.inPlace 3)) = true := by kernel_rfl
theorem all18_fact10 : ((Rows.linesAllRow.unfollowed == Tryz.prog.unfollowed 3)) = true := by kernel_rfl
theorem all18_fact11 : ((Rows.linesAllRow.recurses == Tryz.prog.recurses 3)) = true := by kernel_rfl
theorem all18_fact12 : ((Rows.linesAllRow.named == Tryz.prog.varsNamed 3)) = true := by kernel_rfl
theorem all18_fact13 : ((Rows.linesAllRow.maps == (Tryz.f3.params.toList ++ Rows.linesAllSpec.plain.varTypes Tryz.prog).any (Tryz.prog.mapsRec ·))) = true := by kernel_rfl
theorem all18_fact14 : ((Rows.linesAllRow.ifaces == (Tryz.f3.params.toList ++ Rows.linesAllSpec.plain.varTypes Tryz.prog).any (Tryz.prog.ifacesRec ·))) = true := by kernel_rfl
theorem all18_fact15 : ((Rows.linesAllRow.mapsOut == Tryz.prog.mapsAmong Tryz.f3.resultTypes.toList)) = true := by kernel_rfl
theorem all18_fact16 : ((Rows.linesAllRow.loops == (Tryz.f3.params.toList ++ Rows.linesAllSpec.plain.varTypes Tryz.prog).any (Tryz.prog.loopsFrom ·))) = true := by kernel_rfl
theorem all18_fact17 : ((Rows.linesAllRow.wideKeys == (Tryz.f3.params.toList ++ Rows.linesAllSpec.plain.varTypes Tryz.prog ++ Tryz.f3.resultTypes.toList).any (Tryz.prog.wideKeysFrom ·))) = true := by kernel_rfl
theorem all18_fact18 : (Rows.linesAllSpec.vars.all (Tryz.prog.varReadable ·)) = true := by kernel_rfl
theorem all18_fact19 : (Tryz.f3.resultTypes.all (fun t => Tryz.prog.readableRec t && decide (t < Tryz.prog.types.size))) = true := by kernel_rfl
theorem all18_fact20 : ((Rows.linesAllRow.ifacesOut == Tryz.f3.resultTypes.toList.any (Tryz.prog.ifacesRec ·))) = true := by kernel_rfl
theorem all18_fact21 : ((Rows.linesAllRow.loopsOut == Tryz.f3.resultTypes.toList.any (Tryz.prog.loopsFrom ·))) = true := by kernel_rfl
theorem all18_fact22 : ((Rows.linesAllRow.plainKeys == Tryz.prog.plainKeys)) = true := by kernel_rfl
theorem all18_fact23 : (Rows.linesAllRow.shortTexts.isNone) = true := by kernel_rfl
theorem all18_fact24 : (Tryz.prog.stopsHeard) = true := by kernel_rfl
theorem all18_fact25 : (Tryz.prog.mayEnter) = true := by kernel_rfl
theorem all18_fact26 : ((Rows.linesAllRow.lifted == Tryz.prog.liftsFinal)) = true := by kernel_rfl
theorem all18_fact27 : ((Tryz.prog.make == some Rows.linesAllRow.make)) = true := by kernel_rfl
theorem all18_fact28 : ((Rows.linesAllRow.kinds == (if Rows.linesAllRow.domain.isEmpty then [] else Tryz.f3.params.toList.map fun t => match Tryz.prog.underlying t with | some (.int k) => some k | _ => none))) = true := by kernel_rfl
theorem all18_fact29 : ((Rows.linesAllRow.pinned == Rows.linesAllRow.pinnedBy)) = true := by kernel_rfl
theorem all18_fact30 : ((Rows.linesAllRow.veiled == (Tryz.f3.params.toList ++ Rows.linesAllSpec.plain.varTypes Tryz.prog ++ Tryz.f3.resultTypes.toList).any (Tryz.prog.veiledRec ·))) = true := by kernel_rfl
theorem all18_fact31 : (Rows.linesAllRow.veiledFits Tryz.prog Tryz.f3.params.toList (Tryz.f3.params.toList ++ Rows.linesAllSpec.plain.varTypes Tryz.prog ++ Tryz.f3.resultTypes.toList)) = true := by kernel_rfl
theorem all18_and2 {a b : Bool} (h : a = true) (k : b = true) : (a && b) = true := by rw [h, k]; rfl
set_option maxRecDepth 100000 in
theorem all18_facts : joinedFacts Tryz.prog 3 Tryz.f3 Rows.linesAllSpec Rows.linesAllRow = true := by
  unfold joinedFacts
  exact (all18_and2 (all18_and2 (all18_and2 (all18_and2 (all18_and2 (all18_and2 (all18_and2 (all18_and2 (all18_and2 (all18_and2 (all18_and2 (all18_and2 (all18_and2 (all18_and2 (all18_and2 (all18_and2 (all18_and2 (all18_and2 (all18_and2 (all18_and2 (all18_and2 (all18_and2 (all18_and2 (all18_and2 (all18_and2 (all18_and2 (all18_and2 (all18_and2 (all18_and2 (all18_and2 (all18_and2 all18_fact00 all18_fact01) all18_fact02) all18_fact03) all18_fact04) all18_fact05) all18_fact06) all18_fact07) all18_fact08) all18_fact09) all18_fact10) all18_fact11) all18_fact12) all18_fact13) all18_fact14) all18_fact15) all18_fact16) all18_fact17) all18_fact18) all18_fact19) all18_fact20) all18_fact21) all18_fact22) all18_fact23) all18_fact24) all18_fact25) all18_fact26) all18_fact27) all18_fact28) all18_fact29) all18_fact30) all18_fact31)
end Go.Proofs.YtnnhijfbdkokkaaGreatDoor
