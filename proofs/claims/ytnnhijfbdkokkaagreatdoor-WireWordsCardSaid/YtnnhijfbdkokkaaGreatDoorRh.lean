/- Runs of closed calls, by the kernel. No condition. -/
import Derived.Test.YtnnhijfbdkokkaaGreatDoorRg
namespace Go.Proofs.YtnnhijfbdkokkaaGreatDoor
open Go Go.Eng

set_option maxRecDepth 100000
theorem run11 : imgRun (EM [(340, yes), (81, englishImg), (82, germanImg), (83, frenchImg), (84, polishImg)]) gl 323 40000 [] yes = true := by kernel_rfl
theorem know11 : KnownI Tryz.prog gl 323 yes := knows [(340, yes), (81, englishImg), (82, germanImg), (83, frenchImg), (84, polishImg)] (by
  intro x hx
  simp only [List.mem_cons, List.mem_nil_iff, or_false] at hx
  rcases hx with rfl | rfl | rfl | rfl | rfl
  · exact know10
  · exact knowenglish
  · exact knowgerman
  · exact knowfrench
  · exact knowpolish) run11

end Go.Proofs.YtnnhijfbdkokkaaGreatDoor
