/- The closed spoilt_facts of WireSpoilt's row, one by one. No condition. -/
import Derived.Test.YtnnhijfbdkokkaaGreatDoorPx
namespace Go.Proofs.YtnnhijfbdkokkaaGreatDoor
open Go Go.Eng Go.ChangeShapes Go.WideShapes Go.ChangeAt Go.RowKit

theorem spoilt_fact00 : (Rows.wireSpoiltRow.wf (OpenSpec.ofChange Rows.wireSpoiltSpec)) = true := by kernel_rfl
theorem spoilt_fact01 : (laidOutB Tryz.prog) = true := by kernel_rfl
theorem spoilt_fact02 : (mapsRowed Tryz.prog) = true := by kernel_rfl
theorem spoilt_fact03 : (Tryz.f9.params.all (Tryz.prog.readableRec ·)) = true := by kernel_rfl
theorem spoilt_fact04 : (namedTie Tryz.prog Rows.wireSpoiltRow.named Rows.wireSpoiltSpec.vars) = true := by kernel_rfl
theorem spoilt_fact05 : ((Rows.wireSpoiltRow.stops == [])) = true := by kernel_rfl
theorem spoilt_fact06 : ((Tryz.prog.stops == [])) = true := by kernel_rfl
theorem spoilt_fact07 : ((Rows.wireSpoiltRow.knobs == [])) = true := by kernel_rfl
theorem spoilt_fact08 : ((Tryz.prog.stopKnobs == [])) = true := by kernel_rfl
theorem spoilt_fact09 : ((Rows.wireSpoiltRow.inPlace == Tryz.prog.inPlace 9)) = true := by kernel_rfl
theorem spoilt_fact10 : ((Rows.wireSpoiltRow.unfollowed == Tryz.prog.unfollowed 9)) = true := by kernel_rfl
theorem spoilt_fact11 : ((Rows.wireSpoiltRow.recurses == Tryz.prog.recurses 9)) = true := by kernel_rfl
theorem spoilt_fact12 : ((Rows.wireSpoiltRow.named == Tryz.prog.varsNamed 9)) = true := by kernel_rfl
theorem spoilt_fact13 : ((Rows.wireSpoiltRow.maps == (Tryz.f9.params.toList ++ Rows.wireSpoiltSpec.plain.varTypes Tryz.prog).any (Tryz.prog.mapsRec ·))) = true := by kernel_rfl
theorem spoilt_fact14 : ((Rows.wireSpoiltRow.ifaces == (Tryz.f9.params.toList ++ Rows.wireSpoiltSpec.plain.varTypes Tryz.prog).any (Tryz.prog.ifacesRec ·))) = true := by kernel_rfl
theorem spoilt_fact15 : ((Rows.wireSpoiltRow.mapsOut == Tryz.prog.mapsAmong Tryz.f9.resultTypes.toList)) = true := by kernel_rfl
theorem spoilt_fact16 : ((Rows.wireSpoiltRow.loops == (Tryz.f9.params.toList ++ Rows.wireSpoiltSpec.plain.varTypes Tryz.prog).any (Tryz.prog.loopsFrom ·))) = true := by kernel_rfl
theorem spoilt_fact17 : ((Rows.wireSpoiltRow.wideKeys == (Tryz.f9.params.toList ++ Rows.wireSpoiltSpec.plain.varTypes Tryz.prog ++ Tryz.f9.resultTypes.toList).any (Tryz.prog.wideKeysFrom ·))) = true := by kernel_rfl
theorem spoilt_fact18 : (Rows.wireSpoiltSpec.vars.all (Tryz.prog.varReadable ·)) = true := by kernel_rfl
theorem spoilt_fact19 : (Tryz.f9.resultTypes.all (fun t => Tryz.prog.readableRec t && decide (t < Tryz.prog.types.size))) = true := by kernel_rfl
theorem spoilt_fact20 : ((Rows.wireSpoiltRow.ifacesOut == Tryz.f9.resultTypes.toList.any (Tryz.prog.ifacesRec ·))) = true := by kernel_rfl
theorem spoilt_fact21 : ((Rows.wireSpoiltRow.loopsOut == Tryz.f9.resultTypes.toList.any (Tryz.prog.loopsFrom ·))) = true := by kernel_rfl
theorem spoilt_fact22 : ((Rows.wireSpoiltRow.plainKeys == Tryz.prog.plainKeys)) = true := by kernel_rfl
theorem spoilt_fact23 : (Rows.wireSpoiltRow.shortTexts.isNone) = true := by kernel_rfl
theorem spoilt_fact24 : (Tryz.prog.stopsHeard) = true := by kernel_rfl
theorem spoilt_fact25 : (Tryz.prog.mayEnter) = true := by kernel_rfl
theorem spoilt_fact26 : ((Rows.wireSpoiltRow.lifted == Tryz.prog.liftsFinal)) = true := by kernel_rfl
theorem spoilt_fact27 : ((Tryz.prog.make == some Rows.wireSpoiltRow.make)) = true := by kernel_rfl
theorem spoilt_fact28 : ((Rows.wireSpoiltRow.kinds == (if Rows.wireSpoiltRow.domain.isEmpty then [] else Tryz.f9.params.toList.map fun t => match Tryz.prog.underlying t with | some (.int k) => some k | _ => none))) = true := by kernel_rfl
theorem spoilt_fact29 : ((Rows.wireSpoiltRow.pinned == Rows.wireSpoiltRow.pinnedBy)) = true := by kernel_rfl
theorem spoilt_fact30 : ((Rows.wireSpoiltRow.veiled == (Tryz.f9.params.toList ++ Rows.wireSpoiltSpec.plain.varTypes Tryz.prog ++ Tryz.f9.resultTypes.toList).any (Tryz.prog.veiledRec ·))) = true := by kernel_rfl
theorem spoilt_fact31 : (Rows.wireSpoiltRow.veiledFits Tryz.prog Tryz.f9.params.toList (Tryz.f9.params.toList ++ Rows.wireSpoiltSpec.plain.varTypes Tryz.prog ++ Tryz.f9.resultTypes.toList)) = true := by kernel_rfl
theorem spoilt_and2 {a b : Bool} (h : a = true) (k : b = true) : (a && b) = true := by rw [h, k]; rfl
set_option maxRecDepth 100000 in
theorem spoilt_facts : joinedFacts Tryz.prog 9 Tryz.f9 Rows.wireSpoiltSpec Rows.wireSpoiltRow = true := by
  unfold joinedFacts
  exact (spoilt_and2 (spoilt_and2 (spoilt_and2 (spoilt_and2 (spoilt_and2 (spoilt_and2 (spoilt_and2 (spoilt_and2 (spoilt_and2 (spoilt_and2 (spoilt_and2 (spoilt_and2 (spoilt_and2 (spoilt_and2 (spoilt_and2 (spoilt_and2 (spoilt_and2 (spoilt_and2 (spoilt_and2 (spoilt_and2 (spoilt_and2 (spoilt_and2 (spoilt_and2 (spoilt_and2 (spoilt_and2 (spoilt_and2 (spoilt_and2 (spoilt_and2 (spoilt_and2 (spoilt_and2 (spoilt_and2 spoilt_fact00 spoilt_fact01) spoilt_fact02) spoilt_fact03) spoilt_fact04) spoilt_fact05) spoilt_fact06) spoilt_fact07) spoilt_fact08) spoilt_fact09) spoilt_fact10) spoilt_fact11) spoilt_fact12) spoilt_fact13) spoilt_fact14) spoilt_fact15) spoilt_fact16) spoilt_fact17) spoilt_fact18) spoilt_fact19) spoilt_fact20) spoilt_fact21) spoilt_fact22) spoilt_fact23) spoilt_fact24) spoilt_fact25) spoilt_fact26) spoilt_fact27) spoilt_fact28) spoilt_fact29) spoilt_fact30) spoilt_fact31)
end Go.Proofs.YtnnhijfbdkokkaaGreatDoor
