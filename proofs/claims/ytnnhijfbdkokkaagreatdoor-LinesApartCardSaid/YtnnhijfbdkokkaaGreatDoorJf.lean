/- The closed apart18_facts of LinesApart's row, one by one. No condition. -/
import Derived.Test.YtnnhijfbdkokkaaGreatDoorPx
namespace Go.Proofs.YtnnhijfbdkokkaaGreatDoor
open Go Go.Eng Go.ChangeShapes Go.WideShapes Go.ChangeAt Go.RowKit

theorem apart18_fact00 : (Rows.linesApartRow.wf (OpenSpec.ofChange Rows.linesApartSpec)) = true := by kernel_rfl
theorem apart18_fact01 : (laidOutB Tryz.prog) = true := by kernel_rfl
theorem apart18_fact02 : (mapsRowed Tryz.prog) = true := by kernel_rfl
theorem apart18_fact03 : (Tryz.f7.params.all (Tryz.prog.readableRec ·)) = true := by kernel_rfl
theorem apart18_fact04 : (namedTie Tryz.prog Rows.linesApartRow.named Rows.linesApartSpec.vars) = true := by kernel_rfl
theorem apart18_fact05 : ((Rows.linesApartRow.stops == [])) = true := by kernel_rfl
theorem apart18_fact06 : ((Tryz.prog.stops == [])) = true := by kernel_rfl
theorem apart18_fact07 : ((Rows.linesApartRow.knobs == [])) = true := by kernel_rfl
theorem apart18_fact08 : ((Tryz.prog.stopKnobs == [])) = true := by kernel_rfl
theorem apart18_fact09 : ((Rows.linesApartRow.inPlace == Tryz.prog.inPlace 7)) = true := by kernel_rfl
theorem apart18_fact10 : ((Rows.linesApartRow.unfollowed == Tryz.prog.unfollowed 7)) = true := by kernel_rfl
theorem apart18_fact11 : ((Rows.linesApartRow.recurses == Tryz.prog.recurses 7)) = true := by kernel_rfl
theorem apart18_fact12 : ((Rows.linesApartRow.named == Tryz.prog.varsNamed 7)) = true := by kernel_rfl
theorem apart18_fact13 : ((Rows.linesApartRow.maps == (Tryz.f7.params.toList ++ Rows.linesApartSpec.plain.varTypes Tryz.prog).any (Tryz.prog.mapsRec ·))) = true := by kernel_rfl
theorem apart18_fact14 : ((Rows.linesApartRow.ifaces == (Tryz.f7.params.toList ++ Rows.linesApartSpec.plain.varTypes Tryz.prog).any (Tryz.prog.ifacesRec ·))) = true := by kernel_rfl
theorem apart18_fact15 : ((Rows.linesApartRow.mapsOut == Tryz.prog.mapsAmong Tryz.f7.resultTypes.toList)) = true := by kernel_rfl
theorem apart18_fact16 : ((Rows.linesApartRow.loops == (Tryz.f7.params.toList ++ Rows.linesApartSpec.plain.varTypes Tryz.prog).any (Tryz.prog.loopsFrom ·))) = true := by kernel_rfl
theorem apart18_fact17 : ((Rows.linesApartRow.wideKeys == (Tryz.f7.params.toList ++ Rows.linesApartSpec.plain.varTypes Tryz.prog ++ Tryz.f7.resultTypes.toList).any (Tryz.prog.wideKeysFrom ·))) = true := by kernel_rfl
theorem apart18_fact18 : (Rows.linesApartSpec.vars.all (Tryz.prog.varReadable ·)) = true := by kernel_rfl
theorem apart18_fact19 : (Tryz.f7.resultTypes.all (fun t => Tryz.prog.readableRec t && decide (t < Tryz.prog.types.size))) = true := by kernel_rfl
theorem apart18_fact20 : ((Rows.linesApartRow.ifacesOut == Tryz.f7.resultTypes.toList.any (Tryz.prog.ifacesRec ·))) = true := by kernel_rfl
theorem apart18_fact21 : ((Rows.linesApartRow.loopsOut == Tryz.f7.resultTypes.toList.any (Tryz.prog.loopsFrom ·))) = true := by kernel_rfl
theorem apart18_fact22 : ((Rows.linesApartRow.plainKeys == Tryz.prog.plainKeys)) = true := by kernel_rfl
theorem apart18_fact23 : (Rows.linesApartRow.shortTexts.isNone) = true := by kernel_rfl
theorem apart18_fact24 : (Tryz.prog.stopsHeard) = true := by kernel_rfl
theorem apart18_fact25 : (Tryz.prog.mayEnter) = true := by kernel_rfl
theorem apart18_fact26 : ((Rows.linesApartRow.lifted == Tryz.prog.liftsFinal)) = true := by kernel_rfl
theorem apart18_fact27 : ((Tryz.prog.make == some Rows.linesApartRow.make)) = true := by kernel_rfl
theorem apart18_fact28 : ((Rows.linesApartRow.kinds == (if Rows.linesApartRow.domain.isEmpty then [] else Tryz.f7.params.toList.map fun t => match Tryz.prog.underlying t with | some (.int k) => some k | _ => none))) = true := by kernel_rfl
theorem apart18_fact29 : ((Rows.linesApartRow.pinned == Rows.linesApartRow.pinnedBy)) = true := by kernel_rfl
theorem apart18_fact30 : ((Rows.linesApartRow.veiled == (Tryz.f7.params.toList ++ Rows.linesApartSpec.plain.varTypes Tryz.prog ++ Tryz.f7.resultTypes.toList).any (Tryz.prog.veiledRec ·))) = true := by kernel_rfl
theorem apart18_fact31 : (Rows.linesApartRow.veiledFits Tryz.prog Tryz.f7.params.toList (Tryz.f7.params.toList ++ Rows.linesApartSpec.plain.varTypes Tryz.prog ++ Tryz.f7.resultTypes.toList)) = true := by kernel_rfl
theorem apart18_and2 {a b : Bool} (h : a = true) (k : b = true) : (a && b) = true := by rw [h, k]; rfl
set_option maxRecDepth 100000 in
theorem apart18_facts : joinedFacts Tryz.prog 7 Tryz.f7 Rows.linesApartSpec Rows.linesApartRow = true := by
  unfold joinedFacts
  exact (apart18_and2 (apart18_and2 (apart18_and2 (apart18_and2 (apart18_and2 (apart18_and2 (apart18_and2 (apart18_and2 (apart18_and2 (apart18_and2 (apart18_and2 (apart18_and2 (apart18_and2 (apart18_and2 (apart18_and2 (apart18_and2 (apart18_and2 (apart18_and2 (apart18_and2 (apart18_and2 (apart18_and2 (apart18_and2 (apart18_and2 (apart18_and2 (apart18_and2 (apart18_and2 (apart18_and2 (apart18_and2 (apart18_and2 (apart18_and2 (apart18_and2 apart18_fact00 apart18_fact01) apart18_fact02) apart18_fact03) apart18_fact04) apart18_fact05) apart18_fact06) apart18_fact07) apart18_fact08) apart18_fact09) apart18_fact10) apart18_fact11) apart18_fact12) apart18_fact13) apart18_fact14) apart18_fact15) apart18_fact16) apart18_fact17) apart18_fact18) apart18_fact19) apart18_fact20) apart18_fact21) apart18_fact22) apart18_fact23) apart18_fact24) apart18_fact25) apart18_fact26) apart18_fact27) apart18_fact28) apart18_fact29) apart18_fact30) apart18_fact31)
end Go.Proofs.YtnnhijfbdkokkaaGreatDoor
