/- Runs of closed calls, by the kernel. Runs of closed calls, by the kernel. Runs of closed calls, by the kernel. No condition. -/
import Derived.Test.YtddeekefomhbmaaGreatDoorRa
/-! Runs of closed calls, by the kernel. -/
namespace Go.Proofs.YtddeekefomhbmaaGreatDoor
open Go Go.Eng

set_option maxRecDepth 100000
theorem run01 : imgRun (EM []) gl 344 40000 [] yes = true := by kernel_rfl
theorem know01 : KnownI Tryz.prog gl 344 yes := knows [] (fun _ h => by cases h) run01
theorem run02 : imgRun (EM [(344, yes)]) gl 337 40000 [] yes = true := by kernel_rfl
theorem know02 : KnownI Tryz.prog gl 337 yes := knows [(344, yes)] (by
  intro x hx
  simp only [List.mem_cons, List.mem_nil_iff, or_false] at hx
  rcases hx with rfl
  · exact know01) run02
theorem run03 : imgRun (EM [(337, yes)]) gl 326 40000 [] yes = true := by kernel_rfl
theorem know03 : KnownI Tryz.prog gl 326 yes := knows [(337, yes)] (by
  intro x hx
  simp only [List.mem_cons, List.mem_nil_iff, or_false] at hx
  rcases hx with rfl
  · exact know02) run03
theorem run04 : imgRun (EM [(326, yes)]) gl 301 40000 [] yes = true := by kernel_rfl
theorem know04 : KnownI Tryz.prog gl 301 yes := knows [(326, yes)] (by
  intro x hx
  simp only [List.mem_cons, List.mem_nil_iff, or_false] at hx
  rcases hx with rfl
  · exact know03) run04

end Go.Proofs.YtddeekefomhbmaaGreatDoor

/-! Runs of closed calls, by the kernel. -/
namespace Go.Proofs.YtddeekefomhbmaaGreatDoor
open Go Go.Eng

set_option maxRecDepth 100000
theorem run05 : imgRun (EM [(301, yes)]) gl 277 60000 [] yes = true := by kernel_rfl
theorem know05 : KnownI Tryz.prog gl 277 yes := knows [(301, yes)] (by
  intro x hx
  simp only [List.mem_cons, List.mem_nil_iff, or_false] at hx
  rcases hx with rfl
  · exact know04) run05

end Go.Proofs.YtddeekefomhbmaaGreatDoor

/-! Runs of closed calls, by the kernel. -/
namespace Go.Proofs.YtddeekefomhbmaaGreatDoor
open Go Go.Eng

set_option maxRecDepth 100000
theorem run06 : imgRun (EM [(277, yes)]) gl 248 40000 [] yes = true := by kernel_rfl
theorem know06 : KnownI Tryz.prog gl 248 yes := knows [(277, yes)] (by
  intro x hx
  simp only [List.mem_cons, List.mem_nil_iff, or_false] at hx
  rcases hx with rfl
  · exact know05) run06
theorem run07 : imgRun (EM [(248, yes)]) gl 193 40000 [] yes = true := by kernel_rfl
theorem know07 : KnownI Tryz.prog gl 193 yes := knows [(248, yes)] (by
  intro x hx
  simp only [List.mem_cons, List.mem_nil_iff, or_false] at hx
  rcases hx with rfl
  · exact know06) run07

end Go.Proofs.YtddeekefomhbmaaGreatDoor
