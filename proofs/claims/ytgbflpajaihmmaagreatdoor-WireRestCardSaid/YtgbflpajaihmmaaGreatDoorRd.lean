/- Runs of closed calls, by the kernel. No condition. -/
import Derived.Test.YtgbflpajaihmmaaGreatDoorRc
namespace Go.Proofs.YtgbflpajaihmmaaGreatDoor
open Go Go.Eng

set_option maxRecDepth 100000
theorem run06 : imgRun (EM [(340, yes)]) gl 337 40000 [] yes = true := by kernel_rfl
theorem know06 : KnownI Tryz.prog gl 337 yes := knows [(340, yes)] (by
  intro x hx
  simp only [List.mem_cons, List.mem_nil_iff, or_false] at hx
  rcases hx with rfl
  · exact know05) run06
theorem run07 : imgRun (EM [(337, yes)]) gl 332 40000 [] yes = true := by kernel_rfl
theorem know07 : KnownI Tryz.prog gl 332 yes := knows [(337, yes)] (by
  intro x hx
  simp only [List.mem_cons, List.mem_nil_iff, or_false] at hx
  rcases hx with rfl
  · exact know06) run07

end Go.Proofs.YtgbflpajaihmmaaGreatDoor
