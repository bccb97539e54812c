/- Runs of closed calls, by the kernel. No condition. -/
import Derived.Test.YtgbflpajaihmmaaGreatDoorRg
namespace Go.Proofs.YtgbflpajaihmmaaGreatDoor
open Go Go.Eng

set_option maxRecDepth 100000
theorem run11 : imgRun (EM [(287, yes), (64, englishImg), (65, germanImg), (66, frenchImg), (67, polishImg)]) gl 252 40000 [] yes = true := by kernel_rfl
theorem know11 : KnownI Tryz.prog gl 252 yes := knows [(287, yes), (64, englishImg), (65, germanImg), (66, frenchImg), (67, polishImg)] (by
  intro x hx
  simp only [List.mem_cons, List.mem_nil_iff, or_false] at hx
  rcases hx with rfl | rfl | rfl | rfl | rfl
  · exact know10
  · exact knowenglish
  · exact knowgerman
  · exact knowfrench
  · exact knowpolish) run11

end Go.Proofs.YtgbflpajaihmmaaGreatDoor
