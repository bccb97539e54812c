/- Runs of closed calls, by the kernel. No condition. -/
import Derived.Test.YtecpdgfpnjelmaaGreatDoorRg
namespace Go.Proofs.YtecpdgfpnjelmaaGreatDoor
open Go Go.Eng

set_option maxRecDepth 100000
theorem run11 : imgRun (EM [(27, yes), (59, englishImg), (60, germanImg), (61, frenchImg), (62, polishImg)]) gl 19 40000 [] yes = true := by kernel_rfl
theorem know11 : KnownI Tryz.prog gl 19 yes := knows [(27, yes), (59, englishImg), (60, germanImg), (61, frenchImg), (62, polishImg)] (by
  intro x hx
  simp only [List.mem_cons, List.mem_nil_iff, or_false] at hx
  rcases hx with rfl | rfl | rfl | rfl | rfl
  · exact know10
  · exact knowenglish
  · exact knowgerman
  · exact knowfrench
  · exact knowpolish) run11

end Go.Proofs.YtecpdgfpnjelmaaGreatDoor
