/- Runs of closed calls, by the kernel. Runs of closed calls, by the kernel. No condition. -/
import Derived.Test.YtnnhijfbdkokkaaGreatDoorRk18
/-! Runs of closed calls, by the kernel. -/
namespace Go.Proofs.YtnnhijfbdkokkaaGreatDoor
open Go Go.Eng

set_option maxRecDepth 100000
theorem run19 : imgRun (EM [(14, yes), (81, englishImg), (82, germanImg), (83, frenchImg), (84, polishImg), (133, phrasesImg)]) gl 24 80000 [] yes = true := by kernel_rfl
theorem know19 : KnownI Tryz.prog gl 24 yes := knows [(14, yes), (81, englishImg), (82, germanImg), (83, frenchImg), (84, polishImg), (133, phrasesImg)] (by
  intro x hx
  simp only [List.mem_cons, List.mem_nil_iff, or_false] at hx
  rcases hx with rfl | rfl | rfl | rfl | rfl | rfl
  · exact know18
  · exact knowenglish
  · exact knowgerman
  · exact knowfrench
  · exact knowpolish
  · exact knowphrases) run19

end Go.Proofs.YtnnhijfbdkokkaaGreatDoor

/-! Runs of closed calls, by the kernel. -/
namespace Go.Proofs.YtnnhijfbdkokkaaGreatDoor
open Go Go.Eng

set_option maxRecDepth 100000
theorem run20 : imgRun (EM [(24, yes), (81, englishImg), (82, germanImg), (83, frenchImg), (84, polishImg), (133, phrasesImg)]) gl 32 80000 [] yes = true := by kernel_rfl
theorem know20 : KnownI Tryz.prog gl 32 yes := knows [(24, yes), (81, englishImg), (82, germanImg), (83, frenchImg), (84, polishImg), (133, phrasesImg)] (by
  intro x hx
  simp only [List.mem_cons, List.mem_nil_iff, or_false] at hx
  rcases hx with rfl | rfl | rfl | rfl | rfl | rfl
  · exact know19
  · exact knowenglish
  · exact knowgerman
  · exact knowfrench
  · exact knowpolish
  · exact knowphrases) run20

end Go.Proofs.YtnnhijfbdkokkaaGreatDoor
