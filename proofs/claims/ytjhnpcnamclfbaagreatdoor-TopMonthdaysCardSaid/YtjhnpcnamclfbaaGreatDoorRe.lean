/- Runs of closed calls, by the kernel. No condition. -/
import Derived.Test.YtjhnpcnamclfbaaGreatDoorRd
namespace Go.Proofs.YtjhnpcnamclfbaaGreatDoor
open Go Go.Eng

set_option maxRecDepth 100000
theorem run08 : imgRun (EM [(363, yes)]) gl 361 60000 [] yes = true := by kernel_rfl
theorem know08 : KnownI Tryz.prog gl 361 yes := knows [(363, yes)] (by
  intro x hx
  simp only [List.mem_cons, List.mem_nil_iff, or_false] at hx
  rcases hx with rfl
  · exact know07) run08

end Go.Proofs.YtjhnpcnamclfbaaGreatDoor
