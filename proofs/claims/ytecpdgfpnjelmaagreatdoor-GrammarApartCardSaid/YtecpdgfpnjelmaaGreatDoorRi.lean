/- Runs of closed calls, by the kernel. No condition. -/
import Derived.Test.YtecpdgfpnjelmaaGreatDoorRh
namespace Go.Proofs.YtecpdgfpnjelmaaGreatDoor
open Go Go.Eng

set_option maxRecDepth 100000
theorem run12 : imgRun (EM [(19, yes), (59, englishImg), (60, germanImg), (61, frenchImg), (62, polishImg)]) gl 6 60000 [] yes = true := by kernel_rfl
theorem know12 : KnownI Tryz.prog gl 6 yes := knows [(19, yes), (59, englishImg), (60, germanImg), (61, frenchImg), (62, polishImg)] (by
  intro x hx
  simp only [List.mem_cons, List.mem_nil_iff, or_false] at hx
  rcases hx with rfl | rfl | rfl | rfl | rfl
  · exact know11
  · exact knowenglish
  · exact knowgerman
  · exact knowfrench
  · exact knowpolish) run12

end Go.Proofs.YtecpdgfpnjelmaaGreatDoor
