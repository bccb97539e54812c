/- Runs of closed calls, by the kernel. No condition. -/
import Derived.Test.YtecpdgfpnjelmaaGreatDoorRd
namespace Go.Proofs.YtecpdgfpnjelmaaGreatDoor
open Go Go.Eng

set_option maxRecDepth 100000
theorem run08 : imgRun (EM [(77, yes)]) gl 51 60000 [] yes = true := by kernel_rfl
theorem know08 : KnownI Tryz.prog gl 51 yes := knows [(77, yes)] (by
  intro x hx
  simp only [List.mem_cons, List.mem_nil_iff, or_false] at hx
  rcases hx with rfl
  · exact know07) run08

end Go.Proofs.YtecpdgfpnjelmaaGreatDoor
