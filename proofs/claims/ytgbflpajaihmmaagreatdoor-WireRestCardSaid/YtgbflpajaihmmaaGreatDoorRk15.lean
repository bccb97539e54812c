/- Runs of closed calls, by the kernel. No condition. -/
import Derived.Test.YtgbflpajaihmmaaGreatDoorRk14
namespace Go.Proofs.YtgbflpajaihmmaaGreatDoor
open Go Go.Eng

set_option maxRecDepth 100000
theorem run15 : imgRun (EM [(112, yes), (64, englishImg), (65, germanImg), (66, frenchImg), (67, polishImg), (116, phrasesImg)]) gl 88 80000 [] yes = true := by kernel_rfl
theorem know15 : KnownI Tryz.prog gl 88 yes := knows [(112, yes), (64, englishImg), (65, germanImg), (66, frenchImg), (67, polishImg), (116, phrasesImg)] (by
  intro x hx
  simp only [List.mem_cons, List.mem_nil_iff, or_false] at hx
  rcases hx with rfl | rfl | rfl | rfl | rfl | rfl
  · exact know14
  · exact knowenglish
  · exact knowgerman
  · exact knowfrench
  · exact knowpolish
  · exact knowphrases) run15

end Go.Proofs.YtgbflpajaihmmaaGreatDoor
