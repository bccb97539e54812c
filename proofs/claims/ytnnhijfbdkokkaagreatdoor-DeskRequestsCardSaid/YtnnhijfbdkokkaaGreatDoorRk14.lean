/- Runs of closed calls, by the kernel. Runs of closed calls, by the kernel. No condition. -/
import Derived.Test.YtnnhijfbdkokkaaGreatDoorRk12
/-! Runs of closed calls, by the kernel. -/
namespace Go.Proofs.YtnnhijfbdkokkaaGreatDoor
open Go Go.Eng

set_option maxRecDepth 100000
theorem run13 : imgRun (EM [(291, yes), (81, englishImg), (82, germanImg), (83, frenchImg), (84, polishImg), (133, phrasesImg)]) gl 232 80000 [] yes = true := by kernel_rfl
theorem know13 : KnownI Tryz.prog gl 232 yes := knows [(291, yes), (81, englishImg), (82, germanImg), (83, frenchImg), (84, polishImg), (133, phrasesImg)] (by
  intro x hx
  simp only [List.mem_cons, List.mem_nil_iff, or_false] at hx
  rcases hx with rfl | rfl | rfl | rfl | rfl | rfl
  · exact know12
  · exact knowenglish
  · exact knowgerman
  · exact knowfrench
  · exact knowpolish
  · exact knowphrases) run13

end Go.Proofs.YtnnhijfbdkokkaaGreatDoor

/-! Runs of closed calls, by the kernel. -/
namespace Go.Proofs.YtnnhijfbdkokkaaGreatDoor
open Go Go.Eng

set_option maxRecDepth 100000
theorem run14 : imgRun (EM [(232, yes), (81, englishImg), (82, germanImg), (83, frenchImg), (84, polishImg), (133, phrasesImg)]) gl 170 80000 [] yes = true := by kernel_rfl
theorem know14 : KnownI Tryz.prog gl 170 yes := knows [(232, yes), (81, englishImg), (82, germanImg), (83, frenchImg), (84, polishImg), (133, phrasesImg)] (by
  intro x hx
  simp only [List.mem_cons, List.mem_nil_iff, or_false] at hx
  rcases hx with rfl | rfl | rfl | rfl | rfl | rfl
  · exact know13
  · exact knowenglish
  · exact knowgerman
  · exact knowfrench
  · exact knowpolish
  · exact knowphrases) run14

end Go.Proofs.YtnnhijfbdkokkaaGreatDoor
