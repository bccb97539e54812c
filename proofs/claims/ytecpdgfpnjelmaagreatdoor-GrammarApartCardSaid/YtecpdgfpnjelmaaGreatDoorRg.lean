/- Runs of closed calls, by the kernel. No condition. -/
import Derived.Test.YtecpdgfpnjelmaaGreatDoorRf3
namespace Go.Proofs.YtecpdgfpnjelmaaGreatDoor
open Go Go.Eng

set_option maxRecDepth 100000
theorem run09 : imgRun (EM [(51, yes), (59, englishImg), (60, germanImg), (61, frenchImg), (62, polishImg)]) gl 41 40000 [] yes = true := by kernel_rfl
theorem know09 : KnownI Tryz.prog gl 41 yes := knows [(51, yes), (59, englishImg), (60, germanImg), (61, frenchImg), (62, polishImg)] (by
  intro x hx
  simp only [List.mem_cons, List.mem_nil_iff, or_false] at hx
  rcases hx with rfl | rfl | rfl | rfl | rfl
  · exact know08
  · exact knowenglish
  · exact knowgerman
  · exact knowfrench
  · exact knowpolish) run09
theorem run10 : imgRun (EM [(41, yes), (59, englishImg), (60, germanImg), (61, frenchImg), (62, polishImg)]) gl 27 40000 [] yes = true := by kernel_rfl
theorem know10 : KnownI Tryz.prog gl 27 yes := knows [(41, yes), (59, englishImg), (60, germanImg), (61, frenchImg), (62, polishImg)] (by
  intro x hx
  simp only [List.mem_cons, List.mem_nil_iff, or_false] at hx
  rcases hx with rfl | rfl | rfl | rfl | rfl
  · exact know09
  · exact knowenglish
  · exact knowgerman
  · exact knowfrench
  · exact knowpolish) run10

end Go.Proofs.YtecpdgfpnjelmaaGreatDoor
