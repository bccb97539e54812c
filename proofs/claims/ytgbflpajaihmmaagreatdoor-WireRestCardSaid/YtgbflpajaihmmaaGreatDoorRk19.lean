/- Runs of closed calls, by the kernel. No condition. -/
import Derived.Test.YtgbflpajaihmmaaGreatDoorRk18
namespace Go.Proofs.YtgbflpajaihmmaaGreatDoor
open Go Go.Eng

set_option maxRecDepth 100000
theorem run19 : imgRun (EM [(14, yes), (64, englishImg), (65, germanImg), (66, frenchImg), (67, polishImg), (116, phrasesImg)]) gl 24 80000 [] yes = true := by kernel_rfl
theorem know19 : KnownI Tryz.prog gl 24 yes := knows [(14, yes), (64, englishImg), (65, germanImg), (66, frenchImg), (67, polishImg), (116, phrasesImg)] (by
  intro x hx
  simp only [List.mem_cons, List.mem_nil_iff, or_false] at hx
  rcases hx with rfl | rfl | rfl | rfl | rfl | rfl
  · exact know18
  · exact knowenglish
  · exact knowgerman
  · exact knowfrench
  · exact knowpolish
  · exact knowphrases) run19

end Go.Proofs.YtgbflpajaihmmaaGreatDoor
