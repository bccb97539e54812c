/- Runs of closed calls, by the kernel. No condition. -/
import Derived.Test.YtgbflpajaihmmaaGreatDoorRk16
namespace Go.Proofs.YtgbflpajaihmmaaGreatDoor
open Go Go.Eng

set_option maxRecDepth 100000
theorem run17 : imgRun (EM [(62, yes), (64, englishImg), (65, germanImg), (66, frenchImg), (67, polishImg), (116, phrasesImg)]) gl 36 80000 [] yes = true := by kernel_rfl
theorem know17 : KnownI Tryz.prog gl 36 yes := knows [(62, yes), (64, englishImg), (65, germanImg), (66, frenchImg), (67, polishImg), (116, phrasesImg)] (by
  intro x hx
  simp only [List.mem_cons, List.mem_nil_iff, or_false] at hx
  rcases hx with rfl | rfl | rfl | rfl | rfl | rfl
  · exact know16
  · exact knowenglish
  · exact knowgerman
  · exact knowfrench
  · exact knowpolish
  · exact knowphrases) run17

end Go.Proofs.YtgbflpajaihmmaaGreatDoor
