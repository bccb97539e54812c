/- Runs of closed calls, by the kernel. Runs of closed calls, by the kernel. A law's beginning: to behind its first call of Table; rows that all laws share. No condition. -/
import Derived.Test.YtjhnpcnamclfbaaGreatDoorRk16
import Derived.Test.YtjhnpcnamclfbaaGreatDoorMh
/-! Runs of closed calls, by the kernel. -/
namespace Go.Proofs.YtjhnpcnamclfbaaGreatDoor
open Go Go.Eng

set_option maxRecDepth 100000
theorem run17 : imgRun (EM [(215, yes), (43, englishImg), (44, germanImg), (45, frenchImg), (46, polishImg), (104, phrasesImg)]) gl 155 80000 [] yes = true := by kernel_rfl
theorem know17 : KnownI Tryz.prog gl 155 yes := knows [(215, yes), (43, englishImg), (44, germanImg), (45, frenchImg), (46, polishImg), (104, phrasesImg)] (by
  intro x hx
  simp only [List.mem_cons, List.mem_nil_iff, or_false] at hx
  rcases hx with rfl | rfl | rfl | rfl | rfl | rfl
  · exact know16
  · exact knowenglish
  · exact knowgerman
  · exact knowfrench
  · exact knowpolish
  · exact knowphrases) run17

end Go.Proofs.YtjhnpcnamclfbaaGreatDoor

/-! Runs of closed calls, by the kernel. -/
namespace Go.Proofs.YtjhnpcnamclfbaaGreatDoor
open Go Go.Eng

set_option maxRecDepth 100000
theorem run18 : imgRun (EM [(155, yes), (43, englishImg), (44, germanImg), (45, frenchImg), (46, polishImg), (104, phrasesImg)]) gl 94 80000 [] yes = true := by kernel_rfl
theorem know18 : KnownI Tryz.prog gl 94 yes := knows [(155, yes), (43, englishImg), (44, germanImg), (45, frenchImg), (46, polishImg), (104, phrasesImg)] (by
  intro x hx
  simp only [List.mem_cons, List.mem_nil_iff, or_false] at hx
  rcases hx with rfl | rfl | rfl | rfl | rfl | rfl
  · exact know17
  · exact knowenglish
  · exact knowgerman
  · exact knowfrench
  · exact knowpolish
  · exact knowphrases) run18

end Go.Proofs.YtjhnpcnamclfbaaGreatDoor

/-! A law's beginning: to behind its first call of Table; rows that all laws share. -/
namespace Go.Proofs.YtjhnpcnamclfbaaGreatDoor
open Go Go.Eng Go.RowKit
noncomputable section
set_option maxRecDepth 100000

theorem PtrX.one {k : Nat} {ρt : Rho} {p : Value} (hp : PtrX k ρt p) : p.oneCell' = true := by obtain ⟨L, _, rfl, _⟩ := hp; rfl
end
end Go.Proofs.YtjhnpcnamclfbaaGreatDoor
