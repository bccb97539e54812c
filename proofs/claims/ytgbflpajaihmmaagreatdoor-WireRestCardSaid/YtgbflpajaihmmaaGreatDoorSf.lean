/- The closed rest_facts of WireRest's row, one by one. No condition. -/
import Derived.Test.YtgbflpajaihmmaaGreatDoorPw
namespace Go.Proofs.YtgbflpajaihmmaaGreatDoor
open Go Go.Eng Go.ChangeShapes Go.WideShapes Go.ChangeAt Go.RowKit

theorem rest_fact00 : (Rows.wireRestRow.wf (OpenSpec.ofChange Rows.wireRestSpec)) = true := by kernel_rfl
theorem rest_fact01 : (laidOutB Tryz.prog) = true := by kernel_rfl
theorem rest_fact02 : (mapsRowed Tryz.prog) = true := by kernel_rfl
theorem rest_fact03 : (Tryz.f11.params.all (Tryz.prog.readableRec ·)) = true := by kernel_rfl
theorem rest_fact04 : (namedTie Tryz.prog Rows.wireRestRow.named Rows.wireRestSpec.vars) = true := by kernel_rfl
theorem rest_fact05 : ((Rows.wireRestRow.stops == [])) = true := by kernel_rfl
theorem rest_fact06 : ((Tryz.prog.stops == [])) = true := by kernel_rfl
theorem rest_fact07 : ((Rows.wireRestRow.knobs == [])) = true := by kernel_rfl
theorem rest_fact08 : ((Tryz.prog.stopKnobs == [])) = true := by kernel_rfl
theorem rest_fact09 : ((Rows.wireRestRow.inPlace == Tryz.prog.inPlace 11)) = true := by kernel_rfl
theorem rest_fact10 : ((Rows.wireRestRow.unfollowed == Tryz.prog.unfollowed 11)) = true := by kernel_rfl
theorem rest_fact11 : ((Rows.wireRestRow.recurses == Tryz.prog.recurses 11)) = true := by kernel_rfl
theorem rest_fact12 : ((Rows.wireRestRow.named == Tryz.prog.varsNamed 11)) = true := by kernel_rfl
theorem rest_fact13 : ((Rows.wireRestRow.maps == (Tryz.f11.params.toList ++ Rows.wireRestSpec.plain.varTypes Tryz.prog).any (Tryz.prog.mapsRec ·))) = true := by kernel_rfl
theorem rest_fact14 : ((Rows.wireRestRow.ifaces == (Tryz.f11.params.toList ++ Rows.wireRestSpec.plain.varTypes Tryz.prog).any (Tryz.prog.ifacesRec ·))) = true := by kernel_rfl
theorem rest_fact15 : ((Rows.wireRestRow.mapsOut == Tryz.prog.mapsAmong Tryz.f11.resultTypes.toList)) = true := by kernel_rfl
theorem rest_fact16 : ((Rows.wireRestRow.loops == (Tryz.f11.params.toList ++ Rows.wireRestSpec.plain.varTypes Tryz.prog).any (Tryz.prog.loopsFrom ·))) = true := by kernel_rfl
theorem rest_fact17 : ((Rows.wireRestRow.wideKeys == (Tryz.f11.params.toList ++ Rows.wireRestSpec.plain.varTypes Tryz.prog ++ Tryz.f11.resultTypes.toList).any (Tryz.prog.wideKeysFrom ·))) = true := by kernel_rfl
theorem rest_fact18 : (Rows.wireRestSpec.vars.all (Tryz.prog.varReadable ·)) = true := by kernel_rfl
theorem rest_fact19 : (Tryz.f11.resultTypes.all (fun t => Tryz.prog.readableRec t && decide (t < Tryz.prog.types.size))) = true := by kernel_rfl
theorem rest_fact20 : ((Rows.wireRestRow.ifacesOut == Tryz.f11.resultTypes.toList.any (Tryz.prog.ifacesRec ·))) = true := by kernel_rfl
theorem rest_fact21 : ((Rows.wireRestRow.loopsOut == Tryz.f11.resultTypes.toList.any (Tryz.prog.loopsFrom ·))) = true := by kernel_rfl
theorem rest_fact22 : ((Rows.wireRestRow.plainKeys == Tryz.prog.plainKeys)) = true := by kernel_rfl
theorem rest_fact23 : (Rows.wireRestRow.shortTexts.isNone) = true := by kernel_rfl
theorem rest_fact24 : (Tryz.prog.stopsHeard) = true := by kernel_rfl
theorem rest_fact25 : (Tryz.prog.mayEnter) = true := by kernel_rfl
theorem rest_fact26 : ((Rows.wireRestRow.lifted == Tryz.prog.liftsFinal)) = true := by kernel_rfl
theorem rest_fact27 : ((Tryz.prog.make == some Rows.wireRestRow.make)) = true := by kernel_rfl
theorem rest_fact28 : ((Rows.wireRestRow.kinds == (if Rows.wireRestRow.domain.isEmpty then [] else Tryz.f11.params.toList.map fun t => match Tryz.prog.underlying t with | some (.int k) => some k | _ => none))) = true := by kernel_rfl
theorem rest_fact29 : ((Rows.wireRestRow.pinned == Rows.wireRestRow.pinnedBy)) = true := by kernel_rfl
theorem rest_fact30 : ((Rows.wireRestRow.veiled == (Tryz.f11.params.toList ++ Rows.wireRestSpec.plain.varTypes Tryz.prog ++ Tryz.f11.resultTypes.toList).any (Tryz.prog.veiledRec ·))) = true := by kernel_rfl
theorem rest_fact31 : (Rows.wireRestRow.veiledFits Tryz.prog Tryz.f11.params.toList (Tryz.f11.params.toList ++ Rows.wireRestSpec.plain.varTypes Tryz.prog ++ Tryz.f11.resultTypes.toList)) = true := by kernel_rfl
theorem rest_and2 {a b : Bool} (h : a = true) (k : b = true) : (a && b) = true := by rw [h, k]; rfl
set_option maxRecDepth 100000 in
theorem rest_facts : joinedFacts Tryz.prog 11 Tryz.f11 Rows.wireRestSpec Rows.wireRestRow = true := by
  unfold joinedFacts
  exact (rest_and2 (rest_and2 (rest_and2 (rest_and2 (rest_and2 (rest_and2 (rest_and2 (rest_and2 (rest_and2 (rest_and2 (rest_and2 (rest_and2 (rest_and2 (rest_and2 (rest_and2 (rest_and2 (rest_and2 (rest_and2 (rest_and2 (rest_and2 (rest_and2 (rest_and2 (rest_and2 (rest_and2 (rest_and2 (rest_and2 (rest_and2 (rest_and2 (rest_and2 (rest_and2 (rest_and2 rest_fact00 rest_fact01) rest_fact02) rest_fact03) rest_fact04) rest_fact05) rest_fact06) rest_fact07) rest_fact08) rest_fact09) rest_fact10) rest_fact11) rest_fact12) rest_fact13) rest_fact14) rest_fact15) rest_fact16) rest_fact17) rest_fact18) rest_fact19) rest_fact20) rest_fact21) rest_fact22) rest_fact23) rest_fact24) rest_fact25) rest_fact26) rest_fact27) rest_fact28) rest_fact29) rest_fact30) rest_fact31)
end Go.Proofs.YtgbflpajaihmmaaGreatDoor
