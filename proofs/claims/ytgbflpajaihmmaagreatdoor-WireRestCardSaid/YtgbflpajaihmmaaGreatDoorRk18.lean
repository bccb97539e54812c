/- Runs of closed calls, by the kernel. No condition. -/
import Derived.Test.YtgbflpajaihmmaaGreatDoorRk17
namespace Go.Proofs.YtgbflpajaihmmaaGreatDoor
open Go Go.Eng

set_option maxRecDepth 100000
theorem run18 : imgRun (EM [(36, yes), (64, englishImg), (65, germanImg), (66, frenchImg), (67, polishImg), (116, phrasesImg)]) gl 14 80000 [] yes = true := by kernel_rfl
theorem know18 : KnownI Tryz.prog gl 14 yes := knows [(36, yes), (64, englishImg), (65, germanImg), (66, frenchImg), (67, polishImg), (116, phrasesImg)] (by
  intro x hx
  simp only [List.mem_cons, List.mem_nil_iff, or_false] at hx
  rcases hx with rfl | rfl | rfl | rfl | rfl | rfl
  · exact know17
  · exact knowenglish
  · exact knowgerman
  · exact knowfrench
  · exact knowpolish
  · exact knowphrases) run18

end Go.Proofs.YtgbflpajaihmmaaGreatDoor
