/- Runs of closed calls, by the kernel. No condition. -/
import Derived.Test.YtgbflpajaihmmaaGreatDoorRf3
namespace Go.Proofs.YtgbflpajaihmmaaGreatDoor
open Go Go.Eng

set_option maxRecDepth 100000
theorem run09 : imgRun (EM [(323, yes), (64, englishImg), (65, germanImg), (66, frenchImg), (67, polishImg)]) gl 301 40000 [] yes = true := by kernel_rfl
theorem know09 : KnownI Tryz.prog gl 301 yes := knows [(323, yes), (64, englishImg), (65, germanImg), (66, frenchImg), (67, polishImg)] (by
  intro x hx
  simp only [List.mem_cons, List.mem_nil_iff, or_false] at hx
  rcases hx with rfl | rfl | rfl | rfl | rfl
  · exact know08
  · exact knowenglish
  · exact knowgerman
  · exact knowfrench
  · exact knowpolish) run09
theorem run10 : imgRun (EM [(301, yes), (64, englishImg), (65, germanImg), (66, frenchImg), (67, polishImg)]) gl 287 40000 [] yes = true := by kernel_rfl
theorem know10 : KnownI Tryz.prog gl 287 yes := knows [(301, yes), (64, englishImg), (65, germanImg), (66, frenchImg), (67, polishImg)] (by
  intro x hx
  simp only [List.mem_cons, List.mem_nil_iff, or_false] at hx
  rcases hx with rfl | rfl | rfl | rfl | rfl
  · exact know09
  · exact knowenglish
  · exact knowgerman
  · exact knowfrench
  · exact knowpolish) run10

end Go.Proofs.YtgbflpajaihmmaaGreatDoor
