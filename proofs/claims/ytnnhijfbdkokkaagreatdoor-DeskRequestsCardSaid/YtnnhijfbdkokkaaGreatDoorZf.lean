/- The closed desk_facts of DeskRequests's row, one by one. No condition. -/
import Derived.Test.YtnnhijfbdkokkaaGreatDoorPx
namespace Go.Proofs.YtnnhijfbdkokkaaGreatDoor
open Go Go.Eng Go.ChangeShapes Go.WideShapes Go.ChangeAt Go.RowKit

theorem desk_fact00 : (Rows.deskRequestsRow.wf (OpenSpec.ofChange Rows.deskRequestsSpec)) = true := by kernel_rfl
theorem desk_fact01 : (laidOutB Tryz.prog) = true := by kernel_rfl
theorem desk_fact02 : (mapsRowed Tryz.prog) = true := by kernel_rfl
theorem desk_fact03 : (Tryz.f13.params.all (Tryz.prog.readableRec ·)) = true := by kernel_rfl
theorem desk_fact04 : (namedTie Tryz.prog Rows.deskRequestsRow.named Rows.deskRequestsSpec.vars) = true := by kernel_rfl
theorem desk_fact05 : ((Rows.deskRequestsRow.stops == [])) = true := by kernel_rfl
theorem desk_fact06 : ((Tryz.prog.stops == [])) = true := by kernel_rfl
theorem desk_fact07 : ((Rows.deskRequestsRow.knobs == [])) = true := by kernel_rfl
theorem desk_fact08 : ((Tryz.prog.stopKnobs == [])) = true := by kernel_rfl
theorem desk_fact09 : ((Rows.deskRequestsRow.inPlace == Tryz.prog.inPlace 13)) = true := by kernel_rfl
theorem desk_fact10 : ((Rows.deskRequestsRow.unfollowed == Tryz.prog.unfollowed 13)) = true := by kernel_rfl
theorem desk_fact11 : ((Rows.deskRequestsRow.recurses == Tryz.prog.recurses 13)) = true := by kernel_rfl
theorem desk_fact12 : ((Rows.deskRequestsRow.named == Tryz.prog.varsNamed 13)) = true := by kernel_rfl
theorem desk_fact13 : ((Rows.deskRequestsRow.maps == (Tryz.f13.params.toList ++ Rows.deskRequestsSpec.plain.varTypes Tryz.prog).any (Tryz.prog.mapsRec ·))) = true := by kernel_rfl
theorem desk_fact14 : ((Rows.deskRequestsRow.ifaces == (Tryz.f13.params.toList ++ Rows.deskRequestsSpec.plain.varTypes Tryz.prog).any (Tryz.prog.ifacesRec ·))) = true := by kernel_rfl
theorem desk_fact15 : ((Rows.deskRequestsRow.mapsOut == Tryz.prog.mapsAmong Tryz.f13.resultTypes.toList)) = true := by kernel_rfl
theorem desk_fact16 : ((Rows.deskRequestsRow.loops == (Tryz.f13.params.toList ++ Rows.deskRequestsSpec.plain.varTypes Tryz.prog).any (Tryz.prog.loopsFrom ·))) = true := by kernel_rfl
theorem desk_fact17 : ((Rows.deskRequestsRow.wideKeys == (Tryz.f13.params.toList ++ Rows.deskRequestsSpec.plain.varTypes Tryz.prog ++ Tryz.f13.resultTypes.toList).any (Tryz.prog.wideKeysFrom ·))) = true := by kernel_rfl
theorem desk_fact18 : (Rows.deskRequestsSpec.vars.all (Tryz.prog.varReadable ·)) = true := by kernel_rfl
theorem desk_fact19 : (Tryz.f13.resultTypes.all (fun t => Tryz.prog.readableRec t && decide (t < Tryz.prog.types.size))) = true := by kernel_rfl
theorem desk_fact20 : ((Rows.deskRequestsRow.ifacesOut == Tryz.f13.resultTypes.toList.any (Tryz.prog.ifacesRec ·))) = true := by kernel_rfl
theorem desk_fact21 : ((Rows.deskRequestsRow.loopsOut == Tryz.f13.resultTypes.toList.any (Tryz.prog.loopsFrom ·))) = true := by kernel_rfl
theorem desk_fact22 : ((Rows.deskRequestsRow.plainKeys == Tryz.prog.plainKeys)) = true := by kernel_rfl
theorem desk_fact23 : (Rows.deskRequestsRow.shortTexts.isNone) = true := by kernel_rfl
theorem desk_fact24 : (Tryz.prog.stopsHeard) = true := by kernel_rfl
theorem desk_fact25 : (Tryz.prog.mayEnter) = true := by kernel_rfl
theorem desk_fact26 : ((Rows.deskRequestsRow.lifted == Tryz.prog.liftsFinal)) = true := by kernel_rfl
theorem desk_fact27 : ((Tryz.prog.make == some Rows.deskRequestsRow.make)) = true := by kernel_rfl
theorem desk_fact28 : ((Rows.deskRequestsRow.kinds == (if Rows.deskRequestsRow.domain.isEmpty then [] else Tryz.f13.params.toList.map fun t => match Tryz.prog.underlying t with | some (.int k) => some k | _ => none))) = true := by kernel_rfl
theorem desk_fact29 : ((Rows.deskRequestsRow.pinned == Rows.deskRequestsRow.pinnedBy)) = true := by kernel_rfl
theorem desk_fact30 : ((Rows.deskRequestsRow.veiled == (Tryz.f13.params.toList ++ Rows.deskRequestsSpec.plain.varTypes Tryz.prog ++ Tryz.f13.resultTypes.toList).any (Tryz.prog.veiledRec ·))) = true := by kernel_rfl
theorem desk_fact31 : (Rows.deskRequestsRow.veiledFits Tryz.prog Tryz.f13.params.toList (Tryz.f13.params.toList ++ Rows.deskRequestsSpec.plain.varTypes Tryz.prog ++ Tryz.f13.resultTypes.toList)) = true := by kernel_rfl
theorem desk_and2 {a b : Bool} (h : a = true) (k : b = true) : (a && b) = true := by rw [h, k]; rfl
set_option maxRecDepth 100000 in
theorem desk_facts : joinedFacts Tryz.prog 13 Tryz.f13 Rows.deskRequestsSpec Rows.deskRequestsRow = true := by
  unfold joinedFacts
  exact (desk_and2 (desk_and2 (desk_and2 (desk_and2 (desk_and2 (desk_and2 (desk_and2 (desk_and2 (desk_and2 (desk_and2 (desk_and2 (desk_and2 (desk_and2 (desk_and2 (desk_and2 (desk_and2 (desk_and2 (desk_and2 (desk_and2 (desk_and2 (desk_and2 (desk_and2 (desk_and2 (desk_and2 (desk_and2 (desk_and2 (desk_and2 (desk_and2 (desk_and2 (desk_and2 (desk_and2 desk_fact00 desk_fact01) desk_fact02) desk_fact03) desk_fact04) desk_fact05) desk_fact06) desk_fact07) desk_fact08) desk_fact09) desk_fact10) desk_fact11) desk_fact12) desk_fact13) desk_fact14) desk_fact15) desk_fact16) desk_fact17) desk_fact18) desk_fact19) desk_fact20) desk_fact21) desk_fact22) desk_fact23) desk_fact24) desk_fact25) desk_fact26) desk_fact27) desk_fact28) desk_fact29) desk_fact30) desk_fact31)
end Go.Proofs.YtnnhijfbdkokkaaGreatDoor
