/- Runs of closed calls, by the kernel. No condition. -/
import Derived.Test.YtjhnpcnamclfbaaGreatDoorRc
namespace Go.Proofs.YtjhnpcnamclfbaaGreatDoor
open Go Go.Eng

set_option maxRecDepth 100000
theorem run06 : imgRun (EM [(369, yes)]) gl 366 40000 [] yes = true := by kernel_rfl
theorem know06 : KnownI Tryz.prog gl 366 yes := knows [(369, yes)] (by
  intro x hx
  simp only [List.mem_cons, List.mem_nil_iff, or_false] at hx
  rcases hx with rfl
  · exact know05) run06
theorem run07 : imgRun (EM [(366, yes)]) gl 363 40000 [] yes = true := by kernel_rfl
theorem know07 : KnownI Tryz.prog gl 363 yes := knows [(366, yes)] (by
  intro x hx
  simp only [List.mem_cons, List.mem_nil_iff, or_false] at hx
  rcases hx with rfl
  · exact know06) run07

end Go.Proofs.YtjhnpcnamclfbaaGreatDoor
