/- The closed monthdays_facts of TopMonthdays's row, one by one. No condition. -/
import Derived.Test.YtjhnpcnamclfbaaGreatDoorVn
namespace Go.Proofs.YtjhnpcnamclfbaaGreatDoor
open Go Go.Eng Go.ChangeShapes Go.WideShapes Go.ChangeAt Go.RowKit

theorem monthdays_fact00 : (Rows.topMonthdaysRow.wf (OpenSpec.ofChange Rows.topMonthdaysSpec)) = true := by kernel_rfl
theorem monthdays_fact01 : (laidOutB Tryz.prog) = true := by kernel_rfl
theorem monthdays_fact02 : (mapsRowed Tryz.prog) = true := by kernel_rfl
theorem monthdays_fact03 : (Tryz.f7.params.all (Tryz.prog.readableRec ·)) = true := by kernel_rfl
theorem monthdays_fact04 : (namedTie Tryz.prog Rows.topMonthdaysRow.named Rows.topMonthdaysSpec.vars) = true := by kernel_rfl
theorem monthdays_fact05 : ((Rows.topMonthdaysRow.stops == [])) = true := by kernel_rfl
theorem monthdays_fact06 : ((Tryz.prog.stops == [])) = true := by kernel_rfl
theorem monthdays_fact07 : ((Rows.topMonthdaysRow.knobs == [])) = true := by kernel_rfl
theorem monthdays_fact08 : ((Tryz.prog.stopKnobs == [])) = true := by kernel_rfl
theorem monthdays_fact09 : ((Rows.topMonthdaysRow.inPlace == Tryz.prog.inPlace 7)) = true := by kernel_rfl
theorem monthdays_fact10 : ((Rows.topMonthdaysRow.unfollowed == Tryz.prog.unfollowed 7)) = true := by kernel_rfl
theorem monthdays_fact11 : ((Rows.topMonthdaysRow.recurses == Tryz.prog.recurses 7)) = true := by kernel_rfl
theorem monthdays_fact12 : ((Rows.topMonthdaysRow.named == Tryz.prog.varsNamed 7)) = true := by kernel_rfl
theorem monthdays_fact13 : ((Rows.topMonthdaysRow.maps == (Tryz.f7.params.toList ++ Rows.topMonthdaysSpec.plain.varTypes Tryz.prog).any (Tryz.prog.mapsRec ·))) = true := by kernel_rfl
theorem monthdays_fact14 : ((Rows.topMonthdaysRow.ifaces == (Tryz.f7.params.toList ++ Rows.topMonthdaysSpec.plain.varTypes Tryz.prog).any (Tryz.prog.ifacesRec ·))) = true := by kernel_rfl
theorem monthdays_fact15 : ((Rows.topMonthdaysRow.mapsOut == Tryz.prog.mapsAmong Tryz.f7.resultTypes.toList)) = true := by kernel_rfl
theorem monthdays_fact16 : ((Rows.topMonthdaysRow.loops == (Tryz.f7.params.toList ++ Rows.topMonthdaysSpec.plain.varTypes Tryz.prog).any (Tryz.prog.loopsFrom ·))) = true := by kernel_rfl
theorem monthdays_fact17 : ((Rows.topMonthdaysRow.wideKeys == (Tryz.f7.params.toList ++ Rows.topMonthdaysSpec.plain.varTypes Tryz.prog ++ Tryz.f7.resultTypes.toList).any (Tryz.prog.wideKeysFrom ·))) = true := by kernel_rfl
theorem monthdays_fact18 : (Rows.topMonthdaysSpec.vars.all (Tryz.prog.varReadable ·)) = true := by kernel_rfl
theorem monthdays_fact19 : (Tryz.f7.resultTypes.all (fun t => Tryz.prog.readableRec t && decide (t < Tryz.prog.types.size))) = true := by kernel_rfl
theorem monthdays_fact20 : ((Rows.topMonthdaysRow.ifacesOut == Tryz.f7.resultTypes.toList.any (Tryz.prog.ifacesRec ·))) = true := by kernel_rfl
theorem monthdays_fact21 : ((Rows.topMonthdaysRow.loopsOut == Tryz.f7.resultTypes.toList.any (Tryz.prog.loopsFrom ·))) = true := by kernel_rfl
theorem monthdays_fact22 : ((Rows.topMonthdaysRow.plainKeys == Tryz.prog.plainKeys)) = true := by kernel_rfl
theorem monthdays_fact23 : (Rows.topMonthdaysRow.shortTexts.isNone) = true := by kernel_rfl
theorem monthdays_fact24 : (Tryz.prog.stopsHeard) = true := by kernel_rfl
theorem monthdays_fact25 : (Tryz.prog.mayEnter) = true := by kernel_rfl
theorem monthdays_fact26 : ((Rows.topMonthdaysRow.lifted == Tryz.prog.liftsFinal)) = true := by kernel_rfl
theorem monthdays_fact27 : ((Tryz.prog.make == some Rows.topMonthdaysRow.make)) = true := by kernel_rfl
theorem monthdays_fact28 : ((Rows.topMonthdaysRow.kinds == (if Rows.topMonthdaysRow.domain.isEmpty then [] else Tryz.f7.params.toList.map fun t => match Tryz.prog.underlying t with | some (.int k) => some k | _ => none))) = true := by kernel_rfl
theorem monthdays_fact29 : ((Rows.topMonthdaysRow.pinned == Rows.topMonthdaysRow.pinnedBy)) = true := by kernel_rfl
theorem monthdays_fact30 : ((Rows.topMonthdaysRow.veiled == (Tryz.f7.params.toList ++ Rows.topMonthdaysSpec.plain.varTypes Tryz.prog ++ Tryz.f7.resultTypes.toList).any (Tryz.prog.veiledRec ·))) = true := by kernel_rfl
theorem monthdays_fact31 : (Rows.topMonthdaysRow.veiledFits Tryz.prog Tryz.f7.params.toList (Tryz.f7.params.toList ++ Rows.topMonthdaysSpec.plain.varTypes Tryz.prog ++ Tryz.f7.resultTypes.toList)) = true := by kernel_rfl
theorem monthdays_and2 {a b : Bool} (h : a = true) (k : b = true) : (a && b) = true := by rw [h, k]; rfl
set_option maxRecDepth 100000 in
theorem monthdays_facts : joinedFacts Tryz.prog 7 Tryz.f7 Rows.topMonthdaysSpec Rows.topMonthdaysRow = true := by
  unfold joinedFacts
  exact (monthdays_and2 (monthdays_and2 (monthdays_and2 (monthdays_and2 (monthdays_and2 (monthdays_and2 (monthdays_and2 (monthdays_and2 (monthdays_and2 (monthdays_and2 (monthdays_and2 (monthdays_and2 (monthdays_and2 (monthdays_and2 (monthdays_and2 (monthdays_and2 (monthdays_and2 (monthdays_and2 (monthdays_and2 (monthdays_and2 (monthdays_and2 (monthdays_and2 (monthdays_and2 (monthdays_and2 (monthdays_and2 (monthdays_and2 (monthdays_and2 (monthdays_and2 (monthdays_and2 (monthdays_and2 (monthdays_and2 monthdays_fact00 monthdays_fact01) monthdays_fact02) monthdays_fact03) monthdays_fact04) monthdays_fact05) monthdays_fact06) monthdays_fact07) monthdays_fact08) monthdays_fact09) monthdays_fact10) monthdays_fact11) monthdays_fact12) monthdays_fact13) monthdays_fact14) monthdays_fact15) monthdays_fact16) monthdays_fact17) monthdays_fact18) monthdays_fact19) monthdays_fact20) monthdays_fact21) monthdays_fact22) monthdays_fact23) monthdays_fact24) monthdays_fact25) monthdays_fact26) monthdays_fact27) monthdays_fact28) monthdays_fact29) monthdays_fact30) monthdays_fact31)
end Go.Proofs.YtjhnpcnamclfbaaGreatDoor
