/- The closed range_facts of ServerRange's row, one by one. No condition. -/
import Derived.Test.YtnnhijfbdkokkaaGreatDoorPx
namespace Go.Proofs.YtnnhijfbdkokkaaGreatDoor
open Go Go.Eng Go.ChangeShapes Go.WideShapes Go.ChangeAt Go.RowKit

theorem range_fact00 : (Rows.serverRangeRow.wf (OpenSpec.ofChange Rows.serverRangeSpec)) = true := by kernel_rfl
theorem range_fact01 : (laidOutB Tryz.prog) = true := by kernel_rfl
theorem range_fact02 : (mapsRowed Tryz.prog) = true := by kernel_rfl
theorem range_fact03 : (Tryz.f11.params.all (Tryz.prog.readableRec ·)) = true := by kernel_rfl
theorem range_fact04 : (namedTie Tryz.prog Rows.serverRangeRow.named Rows.serverRangeSpec.vars) = true := by kernel_rfl
theorem range_fact05 : ((Rows.serverRangeRow.stops == [])) = true := by kernel_rfl
theorem range_fact06 : ((Tryz.prog.stops == [])) = true := by kernel_rfl
theorem range_fact07 : ((Rows.serverRangeRow.knobs == [])) = true := by kernel_rfl
theorem range_fact08 : ((Tryz.prog.stopKnobs == [])) = true := by kernel_rfl
theorem range_fact09 : ((Rows.serverRangeRow.inPlace == Tryz.prog.inPlace 11)) = true := by kernel_rfl
theorem range_fact10 : ((Rows.serverRangeRow.unfollowed == Tryz.prog.unfollowed 11)) = true := by kernel_rfl
theorem range_fact11 : ((Rows.serverRangeRow.recurses == Tryz.prog.recurses 11)) = true := by kernel_rfl
theorem range_fact12 : ((Rows.serverRangeRow.named == Tryz.prog.varsNamed 11)) = true := by kernel_rfl
theorem range_fact13 : ((Rows.serverRangeRow.maps == (Tryz.f11.params.toList ++ Rows.serverRangeSpec.plain.varTypes Tryz.prog).any (Tryz.prog.mapsRec ·))) = true := by kernel_rfl
theorem range_fact14 : ((Rows.serverRangeRow.ifaces == (Tryz.f11.params.toList ++ Rows.serverRangeSpec.plain.varTypes Tryz.prog).any (Tryz.prog.ifacesRec ·))) = true := by kernel_rfl
theorem range_fact15 : ((Rows.serverRangeRow.mapsOut == Tryz.prog.mapsAmong Tryz.f11.resultTypes.toList)) = true := by kernel_rfl
theorem range_fact16 : ((Rows.serverRangeRow.loops == (Tryz.f11.params.toList ++ Rows.serverRangeSpec.plain.varTypes Tryz.prog).any (Tryz.prog.loopsFrom ·))) = true := by kernel_rfl
theorem range_fact17 : ((Rows.serverRangeRow.wideKeys == (Tryz.f11.params.toList ++ Rows.serverRangeSpec.plain.varTypes Tryz.prog ++ Tryz.f11.resultTypes.toList).any (Tryz.prog.wideKeysFrom ·))) = true := by kernel_rfl
theorem range_fact18 : (Rows.serverRangeSpec.vars.all (Tryz.prog.varReadable ·)) = true := by kernel_rfl
theorem range_fact19 : (Tryz.f11.resultTypes.all (fun t => Tryz.prog.readableRec t && decide (t < Tryz.prog.types.size))) = true := by kernel_rfl
theorem range_fact20 : ((Rows.serverRangeRow.ifacesOut == Tryz.f11.resultTypes.toList.any (Tryz.prog.ifacesRec ·))) = true := by kernel_rfl
theorem range_fact21 : ((Rows.serverRangeRow.loopsOut == Tryz.f11.resultTypes.toList.any (Tryz.prog.loopsFrom ·))) = true := by kernel_rfl
theorem range_fact22 : ((Rows.serverRangeRow.plainKeys == Tryz.prog.plainKeys)) = true := by kernel_rfl
theorem range_fact23 : (Rows.serverRangeRow.shortTexts.isNone) = true := by kernel_rfl
theorem range_fact24 : (Tryz.prog.stopsHeard) = true := by kernel_rfl
theorem range_fact25 : (Tryz.prog.mayEnter) = true := by kernel_rfl
theorem range_fact26 : ((Rows.serverRangeRow.lifted == Tryz.prog.liftsFinal)) = true := by kernel_rfl
theorem range_fact27 : ((Tryz.prog.make == some Rows.serverRangeRow.make)) = true := by kernel_rfl
theorem range_fact28 : ((Rows.serverRangeRow.kinds == (if Rows.serverRangeRow.domain.isEmpty then [] else Tryz.f11.params.toList.map fun t => match Tryz.prog.underlying t with | some (.int k) => some k | _ => none))) = true := by kernel_rfl
theorem range_fact29 : ((Rows.serverRangeRow.pinned == Rows.serverRangeRow.pinnedBy)) = true := by kernel_rfl
theorem range_fact30 : ((Rows.serverRangeRow.veiled == (Tryz.f11.params.toList ++ Rows.serverRangeSpec.plain.varTypes Tryz.prog ++ Tryz.f11.resultTypes.toList).any (Tryz.prog.veiledRec ·))) = true := by kernel_rfl
theorem range_fact31 : (Rows.serverRangeRow.veiledFits Tryz.prog Tryz.f11.params.toList (Tryz.f11.params.toList ++ Rows.serverRangeSpec.plain.varTypes Tryz.prog ++ Tryz.f11.resultTypes.toList)) = true := by kernel_rfl
theorem range_and2 {a b : Bool} (h : a = true) (k : b = true) : (a && b) = true := by rw [h, k]; rfl
set_option maxRecDepth 100000 in
theorem range_facts : joinedFacts Tryz.prog 11 Tryz.f11 Rows.serverRangeSpec Rows.serverRangeRow = true := by
  unfold joinedFacts
  exact (range_and2 (range_and2 (range_and2 (range_and2 (range_and2 (range_and2 (range_and2 (range_and2 (range_and2 (range_and2 (range_and2 (range_and2 (range_and2 (range_and2 (range_and2 (range_and2 (range_and2 (range_and2 (range_and2 (range_and2 (range_and2 (range_and2 (range_and2 (range_and2 (range_and2 (range_and2 (range_and2 (range_and2 (range_and2 (range_and2 (range_and2 range_fact00 range_fact01) range_fact02) range_fact03) range_fact04) range_fact05) range_fact06) range_fact07) range_fact08) range_fact09) range_fact10) range_fact11) range_fact12) range_fact13) range_fact14) range_fact15) range_fact16) range_fact17) range_fact18) range_fact19) range_fact20) range_fact21) range_fact22) range_fact23) range_fact24) range_fact25) range_fact26) range_fact27) range_fact28) range_fact29) range_fact30) range_fact31)
end Go.Proofs.YtnnhijfbdkokkaaGreatDoor
