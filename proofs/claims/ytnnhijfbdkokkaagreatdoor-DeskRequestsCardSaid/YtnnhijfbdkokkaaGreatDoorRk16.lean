/- Runs of closed calls, by the kernel. No condition. -/
import Derived.Test.YtnnhijfbdkokkaaGreatDoorRk15
namespace Go.Proofs.YtnnhijfbdkokkaaGreatDoor
open Go Go.Eng

set_option maxRecDepth 100000
theorem run16 : imgRun (EM [(110, yes), (81, englishImg), (82, germanImg), (83, frenchImg), (84, polishImg), (133, phrasesImg)]) gl 79 80000 [] yes = true := by kernel_rfl
theorem know16 : KnownI Tryz.prog gl 79 yes := knows [(110, yes), (81, englishImg), (82, germanImg), (83, frenchImg), (84, polishImg), (133, phrasesImg)] (by
  intro x hx
  simp only [List.mem_cons, List.mem_nil_iff, or_false] at hx
  rcases hx with rfl | rfl | rfl | rfl | rfl | rfl
  · exact know15
  · exact knowenglish
  · exact knowgerman
  · exact knowfrench
  · exact knowpolish
  · exact knowphrases) run16

end Go.Proofs.YtnnhijfbdkokkaaGreatDoor
