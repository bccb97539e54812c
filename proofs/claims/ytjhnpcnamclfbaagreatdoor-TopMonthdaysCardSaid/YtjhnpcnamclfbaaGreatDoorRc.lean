/- Runs of closed calls, by the kernel. No condition. -/
import Derived.Test.YtjhnpcnamclfbaaGreatDoorRb
namespace Go.Proofs.YtjhnpcnamclfbaaGreatDoor
open Go Go.Eng

set_option maxRecDepth 100000
theorem run05 : imgRun (EM [(372, yes)]) gl 369 60000 [] yes = true := by kernel_rfl
theorem know05 : KnownI Tryz.prog gl 369 yes := knows [(372, yes)] (by
  intro x hx
  simp only [List.mem_cons, List.mem_nil_iff, or_false] at hx
  rcases hx with rfl
  · exact know04) run05

end Go.Proofs.YtjhnpcnamclfbaaGreatDoor
