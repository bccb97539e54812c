/- Runs of closed calls, by the kernel. Runs of closed calls, by the kernel. No condition. -/
import Derived.Test.YtnnhijfbdkokkaaGreatDoorRe
import Derived.Test.YtnnhijfbdkokkaaGreatDoorRf0
import Derived.Test.YtnnhijfbdkokkaaGreatDoorRf1
import Derived.Test.YtnnhijfbdkokkaaGreatDoorRf2
import Derived.Test.YtnnhijfbdkokkaaGreatDoorRf3
/-! Runs of closed calls, by the kernel. -/
namespace Go.Proofs.YtnnhijfbdkokkaaGreatDoor
open Go Go.Eng

set_option maxRecDepth 100000
theorem run09 : imgRun (EM [(374, yes), (81, englishImg), (82, germanImg), (83, frenchImg), (84, polishImg)]) gl 362 40000 [] yes = true := by kernel_rfl
theorem know09 : KnownI Tryz.prog gl 362 yes := knows [(374, yes), (81, englishImg), (82, germanImg), (83, frenchImg), (84, polishImg)] (by
  intro x hx
  simp only [List.mem_cons, List.mem_nil_iff, or_false] at hx
  rcases hx with rfl | rfl | rfl | rfl | rfl
  · exact know08
  · exact knowenglish
  · exact knowgerman
  · exact knowfrench
  · exact knowpolish) run09
theorem run10 : imgRun (EM [(362, yes), (81, englishImg), (82, germanImg), (83, frenchImg), (84, polishImg)]) gl 340 40000 [] yes = true := by kernel_rfl
theorem know10 : KnownI Tryz.prog gl 340 yes := knows [(362, yes), (81, englishImg), (82, germanImg), (83, frenchImg), (84, polishImg)] (by
  intro x hx
  simp only [List.mem_cons, List.mem_nil_iff, or_false] at hx
  rcases hx with rfl | rfl | rfl | rfl | rfl
  · exact know09
  · exact knowenglish
  · exact knowgerman
  · exact knowfrench
  · exact knowpolish) run10

end Go.Proofs.YtnnhijfbdkokkaaGreatDoor

/-! Runs of closed calls, by the kernel. -/
namespace Go.Proofs.YtnnhijfbdkokkaaGreatDoor
open Go Go.Eng

set_option maxRecDepth 100000
theorem run11 : imgRun (EM [(340, yes), (81, englishImg), (82, germanImg), (83, frenchImg), (84, polishImg)]) gl 323 40000 [] yes = true := by kernel_rfl
theorem know11 : KnownI Tryz.prog gl 323 yes := knows [(340, yes), (81, englishImg), (82, germanImg), (83, frenchImg), (84, polishImg)] (by
  intro x hx
  simp only [List.mem_cons, List.mem_nil_iff, or_false] at hx
  rcases hx with rfl | rfl | rfl | rfl | rfl
  · exact know10
  · exact knowenglish
  · exact knowgerman
  · exact knowfrench
  · exact knowpolish) run11

end Go.Proofs.YtnnhijfbdkokkaaGreatDoor
