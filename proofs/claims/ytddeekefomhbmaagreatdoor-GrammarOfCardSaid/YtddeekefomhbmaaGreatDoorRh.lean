/- Runs of closed calls, by the kernel. Runs of closed calls, by the kernel. No condition. -/
import Derived.Test.YtddeekefomhbmaaGreatDoorRf3
/-! Runs of closed calls, by the kernel. -/
namespace Go.Proofs.YtddeekefomhbmaaGreatDoor
open Go Go.Eng

set_option maxRecDepth 100000
theorem run09 : imgRun (EM [(121, yes), (68, englishImg), (69, germanImg), (70, frenchImg), (71, polishImg)]) gl 79 40000 [] yes = true := by kernel_rfl
theorem know09 : KnownI Tryz.prog gl 79 yes := knows [(121, yes), (68, englishImg), (69, germanImg), (70, frenchImg), (71, polishImg)] (by
  intro x hx
  simp only [List.mem_cons, List.mem_nil_iff, or_false] at hx
  rcases hx with rfl | rfl | rfl | rfl | rfl
  · exact know08
  · exact knowenglish
  · exact knowgerman
  · exact knowfrench
  · exact knowpolish) run09
theorem run10 : imgRun (EM [(79, yes), (68, englishImg), (69, germanImg), (70, frenchImg), (71, polishImg)]) gl 40 40000 [] yes = true := by kernel_rfl
theorem know10 : KnownI Tryz.prog gl 40 yes := knows [(79, yes), (68, englishImg), (69, germanImg), (70, frenchImg), (71, polishImg)] (by
  intro x hx
  simp only [List.mem_cons, List.mem_nil_iff, or_false] at hx
  rcases hx with rfl | rfl | rfl | rfl | rfl
  · exact know09
  · exact knowenglish
  · exact knowgerman
  · exact knowfrench
  · exact knowpolish) run10

end Go.Proofs.YtddeekefomhbmaaGreatDoor

/-! Runs of closed calls, by the kernel. -/
namespace Go.Proofs.YtddeekefomhbmaaGreatDoor
open Go Go.Eng

set_option maxRecDepth 100000
theorem run11 : imgRun (EM [(40, yes), (68, englishImg), (69, germanImg), (70, frenchImg), (71, polishImg)]) gl 20 40000 [] yes = true := by kernel_rfl
theorem know11 : KnownI Tryz.prog gl 20 yes := knows [(40, yes), (68, englishImg), (69, germanImg), (70, frenchImg), (71, polishImg)] (by
  intro x hx
  simp only [List.mem_cons, List.mem_nil_iff, or_false] at hx
  rcases hx with rfl | rfl | rfl | rfl | rfl
  · exact know10
  · exact knowenglish
  · exact knowgerman
  · exact knowfrench
  · exact knowpolish) run11

end Go.Proofs.YtddeekefomhbmaaGreatDoor
