/- Runs of closed calls, by the kernel. No condition. -/
import Derived.Test.YtddeekefomhbmaaGreatDoorRp
namespace Go.Proofs.YtddeekefomhbmaaGreatDoor
open Go Go.Eng

set_option maxRecDepth 100000
theorem run12 : imgRun (EM [(20, yes), (68, englishImg), (69, germanImg), (70, frenchImg), (71, polishImg), (21, phrasesImg)]) gl 6 80000 [] yes = true := by kernel_rfl
theorem know12 : KnownI Tryz.prog gl 6 yes := knows [(20, yes), (68, englishImg), (69, germanImg), (70, frenchImg), (71, polishImg), (21, phrasesImg)] (by
  intro x hx
  simp only [List.mem_cons, List.mem_nil_iff, or_false] at hx
  rcases hx with rfl | rfl | rfl | rfl | rfl | rfl
  · exact know11
  · exact knowenglish
  · exact knowgerman
  · exact knowfrench
  · exact knowpolish
  · exact knowphrases) run12

end Go.Proofs.YtddeekefomhbmaaGreatDoor
