/- Runs of closed calls, by the kernel. No condition. -/
import Derived.Test.YtgbflpajaihmmaaGreatDoorRp
namespace Go.Proofs.YtgbflpajaihmmaaGreatDoor
open Go Go.Eng

set_option maxRecDepth 100000
theorem run12 : imgRun (EM [(252, yes), (64, englishImg), (65, germanImg), (66, frenchImg), (67, polishImg), (116, phrasesImg)]) gl 202 80000 [] yes = true := by kernel_rfl
theorem know12 : KnownI Tryz.prog gl 202 yes := knows [(252, yes), (64, englishImg), (65, germanImg), (66, frenchImg), (67, polishImg), (116, phrasesImg)] (by
  intro x hx
  simp only [List.mem_cons, List.mem_nil_iff, or_false] at hx
  rcases hx with rfl | rfl | rfl | rfl | rfl | rfl
  · exact know11
  · exact knowenglish
  · exact knowgerman
  · exact knowfrench
  · exact knowpolish
  · exact knowphrases) run12

end Go.Proofs.YtgbflpajaihmmaaGreatDoor
