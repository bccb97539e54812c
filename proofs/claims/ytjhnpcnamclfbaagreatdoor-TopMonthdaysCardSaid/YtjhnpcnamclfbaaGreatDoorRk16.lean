/- Runs of closed calls, by the kernel. No condition. -/
import Derived.Test.YtjhnpcnamclfbaaGreatDoorRk15
namespace Go.Proofs.YtjhnpcnamclfbaaGreatDoor
open Go Go.Eng

set_option maxRecDepth 100000
theorem run16 : imgRun (EM [(264, yes), (43, englishImg), (44, germanImg), (45, frenchImg), (46, polishImg), (104, phrasesImg)]) gl 215 80000 [] yes = true := by kernel_rfl
theorem know16 : KnownI Tryz.prog gl 215 yes := knows [(264, yes), (43, englishImg), (44, germanImg), (45, frenchImg), (46, polishImg), (104, phrasesImg)] (by
  intro x hx
  simp only [List.mem_cons, List.mem_nil_iff, or_false] at hx
  rcases hx with rfl | rfl | rfl | rfl | rfl | rfl
  · exact know15
  · exact knowenglish
  · exact knowgerman
  · exact knowfrench
  · exact knowpolish
  · exact knowphrases) run16

end Go.Proofs.YtjhnpcnamclfbaaGreatDoor
