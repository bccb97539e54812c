/- Runs of closed calls, by the kernel. No condition. -/
import Derived.Test.YtnnhijfbdkokkaaGreatDoorRc
namespace Go.Proofs.YtnnhijfbdkokkaaGreatDoor
open Go Go.Eng

set_option maxRecDepth 100000
theorem run06 : imgRun (EM [(384, yes)]) gl 381 40000 [] yes = true := by kernel_rfl
theorem know06 : KnownI Tryz.prog gl 381 yes := knows [(384, yes)] (by
  intro x hx
  simp only [List.mem_cons, List.mem_nil_iff, or_false] at hx
  rcases hx with rfl
  · exact know05) run06
theorem run07 : imgRun (EM [(381, yes)]) gl 378 40000 [] yes = true := by kernel_rfl
theorem know07 : KnownI Tryz.prog gl 378 yes := knows [(381, yes)] (by
  intro x hx
  simp only [List.mem_cons, List.mem_nil_iff, or_false] at hx
  rcases hx with rfl
  · exact know06) run07

end Go.Proofs.YtnnhijfbdkokkaaGreatDoor
