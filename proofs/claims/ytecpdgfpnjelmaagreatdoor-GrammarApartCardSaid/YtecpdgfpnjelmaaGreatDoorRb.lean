/- Runs of closed calls, by the kernel. No condition. -/
import Derived.Test.YtecpdgfpnjelmaaGreatDoorRa
namespace Go.Proofs.YtecpdgfpnjelmaaGreatDoor
open Go Go.Eng

set_option maxRecDepth 100000
theorem run01 : imgRun (EM []) gl 180 40000 [] yes = true := by kernel_rfl
theorem know01 : KnownI Tryz.prog gl 180 yes := knows [] (fun _ h => by cases h) run01
theorem run02 : imgRun (EM [(180, yes)]) gl 164 40000 [] yes = true := by kernel_rfl
theorem know02 : KnownI Tryz.prog gl 164 yes := knows [(180, yes)] (by
  intro x hx
  simp only [List.mem_cons, List.mem_nil_iff, or_false] at hx
  rcases hx with rfl
  · exact know01) run02
theorem run03 : imgRun (EM [(164, yes)]) gl 148 40000 [] yes = true := by kernel_rfl
theorem know03 : KnownI Tryz.prog gl 148 yes := knows [(164, yes)] (by
  intro x hx
  simp only [List.mem_cons, List.mem_nil_iff, or_false] at hx
  rcases hx with rfl
  · exact know02) run03
theorem run04 : imgRun (EM [(148, yes)]) gl 131 40000 [] yes = true := by kernel_rfl
theorem know04 : KnownI Tryz.prog gl 131 yes := knows [(148, yes)] (by
  intro x hx
  simp only [List.mem_cons, List.mem_nil_iff, or_false] at hx
  rcases hx with rfl
  · exact know03) run04

end Go.Proofs.YtecpdgfpnjelmaaGreatDoor
