/- Runs of closed calls, by the kernel. Runs of closed calls, by the kernel. Runs of closed calls, by the kernel. No condition. -/
import Derived.Test.YtnnhijfbdkokkaaGreatDoorNm
/-! Runs of closed calls, by the kernel. -/
namespace Go.Proofs.YtnnhijfbdkokkaaGreatDoor
open Go Go.Eng

set_option maxRecDepth 100000
theorem run01 : imgRun (EM []) gl 391 40000 [] yes = true := by kernel_rfl
theorem know01 : KnownI Tryz.prog gl 391 yes := knows [] (fun _ h => by cases h) run01
theorem run02 : imgRun (EM [(391, yes)]) gl 390 40000 [] yes = true := by kernel_rfl
theorem know02 : KnownI Tryz.prog gl 390 yes := knows [(391, yes)] (by
  intro x hx
  simp only [List.mem_cons, List.mem_nil_iff, or_false] at hx
  rcases hx with rfl
  · exact know01) run02
theorem run03 : imgRun (EM [(390, yes)]) gl 388 40000 [] yes = true := by kernel_rfl
theorem know03 : KnownI Tryz.prog gl 388 yes := knows [(390, yes)] (by
  intro x hx
  simp only [List.mem_cons, List.mem_nil_iff, or_false] at hx
  rcases hx with rfl
  · exact know02) run03
theorem run04 : imgRun (EM [(388, yes)]) gl 386 40000 [] yes = true := by kernel_rfl
theorem know04 : KnownI Tryz.prog gl 386 yes := knows [(388, yes)] (by
  intro x hx
  simp only [List.mem_cons, List.mem_nil_iff, or_false] at hx
  rcases hx with rfl
  · exact know03) run04

end Go.Proofs.YtnnhijfbdkokkaaGreatDoor

/-! Runs of closed calls, by the kernel. -/
namespace Go.Proofs.YtnnhijfbdkokkaaGreatDoor
open Go Go.Eng

set_option maxRecDepth 100000
theorem run05 : imgRun (EM [(386, yes)]) gl 384 60000 [] yes = true := by kernel_rfl
theorem know05 : KnownI Tryz.prog gl 384 yes := knows [(386, yes)] (by
  intro x hx
  simp only [List.mem_cons, List.mem_nil_iff, or_false] at hx
  rcases hx with rfl
  · exact know04) run05

end Go.Proofs.YtnnhijfbdkokkaaGreatDoor

/-! Runs of closed calls, by the kernel. -/
namespace Go.Proofs.YtnnhijfbdkokkaaGreatDoor
open Go Go.Eng

set_option maxRecDepth 100000
theorem run06 : imgRun (EM [(384, yes)]) gl 381 40000 [] yes = true := by kernel_rfl
theorem know06 : KnownI Tryz.prog gl 381 yes := knows [(384, yes)] (by
  intro x hx
  simp only [List.mem_cons, List.mem_nil_iff, or_false] at hx
  rcases hx with rfl
  · exact know05) run06
theorem run07 : imgRun (EM [(381, yes)]) gl 378 40000 [] yes = true := by kernel_rfl
theorem know07 : KnownI Tryz.prog gl 378 yes := knows [(381, yes)] (by
  intro x hx
  simp only [List.mem_cons, List.mem_nil_iff, or_false] at hx
  rcases hx with rfl
  · exact know06) run07

end Go.Proofs.YtnnhijfbdkokkaaGreatDoor
