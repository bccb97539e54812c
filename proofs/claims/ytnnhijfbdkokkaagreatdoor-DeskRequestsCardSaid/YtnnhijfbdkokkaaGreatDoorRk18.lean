/- Runs of closed calls, by the kernel. Runs of closed calls, by the kernel. No condition. -/
import Derived.Test.YtnnhijfbdkokkaaGreatDoorRk16
/-! Runs of closed calls, by the kernel. -/
namespace Go.Proofs.YtnnhijfbdkokkaaGreatDoor
open Go Go.Eng

set_option maxRecDepth 100000
theorem run17 : imgRun (EM [(79, yes), (81, englishImg), (82, germanImg), (83, frenchImg), (84, polishImg), (133, phrasesImg)]) gl 44 80000 [] yes = true := by kernel_rfl
theorem know17 : KnownI Tryz.prog gl 44 yes := knows [(79, yes), (81, englishImg), (82, germanImg), (83, frenchImg), (84, polishImg), (133, phrasesImg)] (by
  intro x hx
  simp only [List.mem_cons, List.mem_nil_iff, or_false] at hx
  rcases hx with rfl | rfl | rfl | rfl | rfl | rfl
  · exact know16
  · exact knowenglish
  · exact knowgerman
  · exact knowfrench
  · exact knowpolish
  · exact knowphrases) run17

end Go.Proofs.YtnnhijfbdkokkaaGreatDoor

/-! Runs of closed calls, by the kernel. -/
namespace Go.Proofs.YtnnhijfbdkokkaaGreatDoor
open Go Go.Eng

set_option maxRecDepth 100000
theorem run18 : imgRun (EM [(44, yes), (81, englishImg), (82, germanImg), (83, frenchImg), (84, polishImg), (133, phrasesImg)]) gl 14 80000 [] yes = true := by kernel_rfl
theorem know18 : KnownI Tryz.prog gl 14 yes := knows [(44, yes), (81, englishImg), (82, germanImg), (83, frenchImg), (84, polishImg), (133, phrasesImg)] (by
  intro x hx
  simp only [List.mem_cons, List.mem_nil_iff, or_false] at hx
  rcases hx with rfl | rfl | rfl | rfl | rfl | rfl
  · exact know17
  · exact knowenglish
  · exact knowgerman
  · exact knowfrench
  · exact knowpolish
  · exact knowphrases) run18

end Go.Proofs.YtnnhijfbdkokkaaGreatDoor
