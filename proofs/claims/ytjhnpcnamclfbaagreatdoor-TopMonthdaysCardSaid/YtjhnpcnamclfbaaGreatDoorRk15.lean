/- Runs of closed calls, by the kernel. No condition. -/
import Derived.Test.YtjhnpcnamclfbaaGreatDoorRk14
namespace Go.Proofs.YtjhnpcnamclfbaaGreatDoor
open Go Go.Eng

set_option maxRecDepth 100000
theorem run15 : imgRun (EM [(287, yes), (43, englishImg), (44, germanImg), (45, frenchImg), (46, polishImg), (104, phrasesImg)]) gl 264 80000 [] yes = true := by kernel_rfl
theorem know15 : KnownI Tryz.prog gl 264 yes := knows [(287, yes), (43, englishImg), (44, germanImg), (45, frenchImg), (46, polishImg), (104, phrasesImg)] (by
  intro x hx
  simp only [List.mem_cons, List.mem_nil_iff, or_false] at hx
  rcases hx with rfl | rfl | rfl | rfl | rfl | rfl
  · exact know14
  · exact knowenglish
  · exact knowgerman
  · exact knowfrench
  · exact knowpolish
  · exact knowphrases) run15

end Go.Proofs.YtjhnpcnamclfbaaGreatDoor
