/- The closed spoilt18_facts of LinesSpoilt's row, one by one. No condition. -/
import Derived.Test.YtnnhijfbdkokkaaGreatDoorPx
namespace Go.Proofs.YtnnhijfbdkokkaaGreatDoor
open Go Go.Eng Go.ChangeShapes Go.WideShapes Go.ChangeAt Go.RowKit

theorem spoilt18_fact00 : (Rows.linesSpoiltRow.wf (OpenSpec.ofChange Rows.linesSpoiltSpec)) = true := by kernel_rfl
theorem spoilt18_fact01 : (laidOutB Tryz.prog) = true := by kernel_rfl
theorem spoilt18_fact02 : (mapsRowed Tryz.prog) = true := by kernel_rfl
theorem spoilt18_fact03 : (Tryz.f6.params.all (Tryz.prog.readableRec ·)) = true := by kernel_rfl
theorem spoilt18_fact04 : (namedTie Tryz.prog Rows.linesSpoiltRow.named Rows.linesSpoiltSpec.vars) = true := by kernel_rfl
theorem spoilt18_fact05 : ((Rows.linesSpoiltRow.stops == [])) = true := by kernel_rfl
theorem spoilt18_fact06 : ((Tryz.prog.stops == [])) = true := by kernel_rfl
theorem spoilt18_fact07 : ((Rows.linesSpoiltRow.knobs == [])) = true := by kernel_rfl
theorem spoilt18_fact08 : ((Tryz.prog.stopKnobs == [])) = true := by kernel_rfl
theorem spoilt18_fact09 : ((Rows.linesSpoiltRow.inPlace == Tryz.prog.inPlace 6)) = true := by kernel_rfl
theorem spoilt18_fact10 : ((Rows.linesSpoiltRow.unfollowed == Tryz.prog.unfollowed 6)) = true := by kernel_rfl
theorem spoilt18_fact11 : ((Rows.linesSpoiltRow.recurses == Tryz.prog.recurses 6)) = true := by kernel_rfl
theorem spoilt18_fact12 : ((Rows.linesSpoiltRow.named == Tryz.prog.varsNamed 6)) = true := by kernel_rfl
theorem spoilt18_fact13 : ((Rows.linesSpoiltRow.maps == (Tryz.f6.params.toList ++ Rows.linesSpoiltSpec.plain.varTypes Tryz.prog).any (Tryz.prog.mapsRec ·))) = true := by kernel_rfl
theorem spoilt18_fact14 : ((Rows.linesSpoiltRow.ifaces == (Tryz.f6.params.toList ++ Rows.linesSpoiltSpec.plain.varTypes Tryz.prog).any (Tryz.prog.ifacesRec ·))) = true := by kernel_rfl
theorem spoilt18_fact15 : ((Rows.linesSpoiltRow.mapsOut == Tryz.prog.mapsAmong Tryz.f6.resultTypes.toList)) = true := by kernel_rfl
theorem spoilt18_fact16 : ((Rows.linesSpoiltRow.loops == (Tryz.f6.params.toList ++ Rows.linesSpoiltSpec.plain.varTypes Tryz.prog).any (Tryz.prog.loopsFrom ·))) = true := by kernel_rfl
theorem spoilt18_fact17 : ((Rows.linesSpoiltRow.wideKeys == (Tryz.f6.params.toList ++ Rows.linesSpoiltSpec.plain.varTypes Tryz.prog ++ Tryz.f6.resultTypes.toList).any (Tryz.prog.wideKeysFrom ·))) = true := by kernel_rfl
theorem spoilt18_fact18 : (Rows.linesSpoiltSpec.vars.all (Tryz.prog.varReadable ·)) = true := by kernel_rfl
theorem spoilt18_fact19 : (Tryz.f6.resultTypes.all (fun t => Tryz.prog.readableRec t && decide (t < Tryz.prog.types.size))) = true := by kernel_rfl
theorem spoilt18_fact20 : ((Rows.linesSpoiltRow.ifacesOut == Tryz.f6.resultTypes.toList.any (Tryz.prog.ifacesRec ·))) = true := by kernel_rfl
theorem spoilt18_fact21 : ((Rows.linesSpoiltRow.loopsOut == Tryz.f6.resultTypes.toList.any (Tryz.prog.loopsFrom ·))) = true := by kernel_rfl
theorem spoilt18_fact22 : ((Rows.linesSpoiltRow.plainKeys == Tryz.prog.plainKeys)) = true := by kernel_rfl
theorem spoilt18_fact23 : (Rows.linesSpoiltRow.shortTexts.isNone) = true := by kernel_rfl
theorem spoilt18_fact24 : (Tryz.prog.stopsHeard) = true := by kernel_rfl
theorem spoilt18_fact25 : (Tryz.prog.mayEnter) = true := by kernel_rfl
theorem spoilt18_fact26 : ((Rows.linesSpoiltRow.lifted == Tryz.prog.liftsFinal)) = true := by kernel_rfl
theorem spoilt18_fact27 : ((Tryz.prog.make == some Rows.linesSpoiltRow.make)) = true := by kernel_rfl
theorem spoilt18_fact28 : ((Rows.linesSpoiltRow.kinds == (if Rows.linesSpoiltRow.domain.isEmpty then [] else Tryz.f6.params.toList.map fun t => match Tryz.prog.underlying t with | some (.int k) => some k | _ => none))) = true := by kernel_rfl
theorem spoilt18_fact29 : ((Rows.linesSpoiltRow.pinned == Rows.linesSpoiltRow.pinnedBy)) = true := by kernel_rfl
theorem spoilt18_fact30 : ((Rows.linesSpoiltRow.veiled == (Tryz.f6.params.toList ++ Rows.linesSpoiltSpec.plain.varTypes Tryz.prog ++ Tryz.f6.resultTypes.toList).any (Tryz.prog.veiledRec ·))) = true := by kernel_rfl
theorem spoilt18_fact31 : (Rows.linesSpoiltRow.veiledFits Tryz.prog Tryz.f6.params.toList (Tryz.f6.params.toList ++ Rows.linesSpoiltSpec.plain.varTypes Tryz.prog ++ Tryz.f6.resultTypes.toList)) = true := by kernel_rfl
theorem spoilt18_and2 {a b : Bool} (h : a = true) (k : b = true) : (a && b) = true := by rw [h, k]; rfl
set_option maxRecDepth 100000 in
theorem spoilt18_facts : joinedFacts Tryz.prog 6 Tryz.f6 Rows.linesSpoiltSpec Rows.linesSpoiltRow = true := by
  unfold joinedFacts
  exact (spoilt18_and2 (spoilt18_and2 (spoilt18_and2 (spoilt18_and2 (spoilt18_and2 (spoilt18_and2 (spoilt18_and2 (spoilt18_and2 (spoilt18_and2 (spoilt18_and2 (spoilt18_and2 (spoilt18_and2 (spoilt18_and2 (spoilt18_and2 (spoilt18_and2 (spoilt18_and2 (spoilt18_and2 (spoilt18_and2 (spoilt18_and2 (spoilt18_and2 (spoilt18_and2 (spoilt18_and2 (spoilt18_and2 (spoilt18_and2 (spoilt18_and2 (spoilt18_and2 (spoilt18_and2 (spoilt18_and2 (spoilt18_and2 (spoilt18_and2 (spoilt18_and2 spoilt18_fact00 spoilt18_fact01) spoilt18_fact02) spoilt18_fact03) spoilt18_fact04) spoilt18_fact05) spoilt18_fact06) spoilt18_fact07) spoilt18_fact08) spoilt18_fact09) spoilt18_fact10) spoilt18_fact11) spoilt18_fact12) spoilt18_fact13) spoilt18_fact14) spoilt18_fact15) spoilt18_fact16) spoilt18_fact17) spoilt18_fact18) spoilt18_fact19) spoilt18_fact20) spoilt18_fact21) spoilt18_fact22) spoilt18_fact23) spoilt18_fact24) spoilt18_fact25) spoilt18_fact26) spoilt18_fact27) spoilt18_fact28) spoilt18_fact29) spoilt18_fact30) spoilt18_fact31)
end Go.Proofs.YtnnhijfbdkokkaaGreatDoor
