/- The closed none_facts of ServerNone's row, one by one. No condition. -/
import Derived.Test.YtnnhijfbdkokkaaGreatDoorPx
namespace Go.Proofs.YtnnhijfbdkokkaaGreatDoor
open Go Go.Eng Go.ChangeShapes Go.WideShapes Go.ChangeAt Go.RowKit

theorem none_fact00 : (Rows.serverNoneRow.wf (OpenSpec.ofChange Rows.serverNoneSpec)) = true := by kernel_rfl
theorem none_fact01 : (laidOutB Tryz.prog) = true := by kernel_rfl
theorem none_fact02 : (mapsRowed Tryz.prog) = true := by kernel_rfl
theorem none_fact03 : (Tryz.f12.params.all (Tryz.prog.readableRec ·)) = true := by kernel_rfl
theorem none_fact04 : (namedTie Tryz.prog Rows.serverNoneRow.named Rows.serverNoneSpec.vars) = true := by kernel_rfl
theorem none_fact05 : ((Rows.serverNoneRow.stops == [])) = true := by kernel_rfl
theorem none_fact06 : ((Tryz.prog.stops == [])) = true := by kernel_rfl
theorem none_fact07 : ((Rows.serverNoneRow.knobs == [])) = true := by kernel_rfl
theorem none_fact08 : ((Tryz.prog.stopKnobs == [])) = true := by kernel_rfl
theorem none_fact09 : ((Rows.serverNoneRow.inPlace == Tryz.prog.inPlace 12)) = true := by kernel_rfl
theorem none_fact10 : ((Rows.serverNoneRow.unfollowed == Tryz.prog.unfollowed 12)) = true := by kernel_rfl
theorem none_fact11 : ((Rows.serverNoneRow.recurses == Tryz.prog.recurses 12)) = true := by kernel_rfl
theorem none_fact12 : ((Rows.serverNoneRow.named == Tryz.prog.varsNamed 12)) = true := by kernel_rfl
theorem none_fact13 : ((Rows.serverNoneRow.maps == (Tryz.f12.params.toList ++ Rows.serverNoneSpec.plain.varTypes Tryz.prog).any (Tryz.prog.mapsRec ·))) = true := by kernel_rfl
theorem none_fact14 : ((Rows.serverNoneRow.ifaces == (Tryz.f12.params.toList ++ Rows.serverNoneSpec.plain.varTypes Tryz.prog).any (Tryz.prog.ifacesRec ·))) = true := by kernel_rfl
theorem none_fact15 : ((Rows.serverNoneRow.mapsOut == Tryz.prog.mapsAmong Tryz.f12.resultTypes.toList)) = true := by kernel_rfl
theorem none_fact16 : ((Rows.serverNoneRow.loops == (Tryz.f12.params.toList ++ Rows.serverNoneSpec.plain.varTypes Tryz.prog).any (Tryz.prog.loopsFrom ·))) = true := by kernel_rfl
theorem none_fact17 : ((Rows.serverNoneRow.wideKeys == (Tryz.f12.params.toList ++ Rows.serverNoneSpec.plain.varTypes Tryz.prog ++ Tryz.f12.resultTypes.toList).any (Tryz.prog.wideKeysFrom ·))) = true := by kernel_rfl
theorem none_fact18 : (Rows.serverNoneSpec.vars.all (Tryz.prog.varReadable ·)) = true := by kernel_rfl
theorem none_fact19 : (Tryz.f12.resultTypes.all (fun t => Tryz.prog.readableRec t && decide (t < Tryz.prog.types.size))) = true := by kernel_rfl
theorem none_fact20 : ((Rows.serverNoneRow.ifacesOut == Tryz.f12.resultTypes.toList.any (Tryz.prog.ifacesRec ·))) = true := by kernel_rfl
theorem none_fact21 : ((Rows.serverNoneRow.loopsOut == Tryz.f12.resultTypes.toList.any (Tryz.prog.loopsFrom ·))) = true := by kernel_rfl
theorem none_fact22 : ((Rows.serverNoneRow.plainKeys == Tryz.prog.plainKeys)) = true := by kernel_rfl
theorem none_fact23 : (Rows.serverNoneRow.shortTexts.isNone) = true := by kernel_rfl
theorem none_fact24 : (Tryz.prog.stopsHeard) = true := by kernel_rfl
theorem none_fact25 : (Tryz.prog.mayEnter) = true := by kernel_rfl
theorem none_fact26 : ((Rows.serverNoneRow.lifted == Tryz.prog.liftsFinal)) = true := by kernel_rfl
theorem none_fact27 : ((Tryz.prog.make == some Rows.serverNoneRow.make)) = true := by kernel_rfl
theorem none_fact28 : ((Rows.serverNoneRow.kinds == (if Rows.serverNoneRow.domain.isEmpty then [] else Tryz.f12.params.toList.map fun t => match Tryz.prog.underlying t with | some (.int k) => some k | _ => none))) = true := by kernel_rfl
theorem none_fact29 : ((Rows.serverNoneRow.pinned == Rows.serverNoneRow.pinnedBy)) = true := by kernel_rfl
theorem none_fact30 : ((Rows.serverNoneRow.veiled == (Tryz.f12.params.toList ++ Rows.serverNoneSpec.plain.varTypes Tryz.prog ++ Tryz.f12.resultTypes.toList).any (Tryz.prog.veiledRec ·))) = true := by kernel_rfl
theorem none_fact31 : (Rows.serverNoneRow.veiledFits Tryz.prog Tryz.f12.params.toList (Tryz.f12.params.toList ++ Rows.serverNoneSpec.plain.varTypes Tryz.prog ++ Tryz.f12.resultTypes.toList)) = true := by kernel_rfl
theorem none_and2 {a b : Bool} (h : a = true) (k : b = true) : (a && b) = true := by rw [h, k]; rfl
set_option maxRecDepth 100000 in
theorem none_facts : joinedFacts Tryz.prog 12 Tryz.f12 Rows.serverNoneSpec Rows.serverNoneRow = true := by
  unfold joinedFacts
  exact (none_and2 (none_and2 (none_and2 (none_and2 (none_and2 (none_and2 (none_and2 (none_and2 (none_and2 (none_and2 (none_and2 (none_and2 (none_and2 (none_and2 (none_and2 (none_and2 (none_and2 (none_and2 (none_and2 (none_and2 (none_and2 (none_and2 (none_and2 (none_and2 (none_and2 (none_and2 (none_and2 (none_and2 (none_and2 (none_and2 (none_and2 none_fact00 none_fact01) none_fact02) none_fact03) none_fact04) none_fact05) none_fact06) none_fact07) none_fact08) none_fact09) none_fact10) none_fact11) none_fact12) none_fact13) none_fact14) none_fact15) none_fact16) none_fact17) none_fact18) none_fact19) none_fact20) none_fact21) none_fact22) none_fact23) none_fact24) none_fact25) none_fact26) none_fact27) none_fact28) none_fact29) none_fact30) none_fact31)
end Go.Proofs.YtnnhijfbdkokkaaGreatDoor
