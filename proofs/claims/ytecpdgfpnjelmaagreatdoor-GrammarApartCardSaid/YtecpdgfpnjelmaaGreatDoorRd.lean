/- Runs of closed calls, by the kernel. No condition. -/
import Derived.Test.YtecpdgfpnjelmaaGreatDoorRc
namespace Go.Proofs.YtecpdgfpnjelmaaGreatDoor
open Go Go.Eng

set_option maxRecDepth 100000
theorem run06 : imgRun (EM [(112, yes)]) gl 98 40000 [] yes = true := by kernel_rfl
theorem know06 : KnownI Tryz.prog gl 98 yes := knows [(112, yes)] (by
  intro x hx
  simp only [List.mem_cons, List.mem_nil_iff, or_false] at hx
  rcases hx with rfl
  · exact know05) run06
theorem run07 : imgRun (EM [(98, yes)]) gl 77 40000 [] yes = true := by kernel_rfl
theorem know07 : KnownI Tryz.prog gl 77 yes := knows [(98, yes)] (by
  intro x hx
  simp only [List.mem_cons, List.mem_nil_iff, or_false] at hx
  rcases hx with rfl
  · exact know06) run07

end Go.Proofs.YtecpdgfpnjelmaaGreatDoor
