/- Runs of closed calls, by the kernel. No condition. -/
import Derived.Test.YtgbflpajaihmmaaGreatDoorRa
namespace Go.Proofs.YtgbflpajaihmmaaGreatDoor
open Go Go.Eng

set_option maxRecDepth 100000
theorem run01 : imgRun (EM []) gl 358 40000 [] yes = true := by kernel_rfl
theorem know01 : KnownI Tryz.prog gl 358 yes := knows [] (fun _ h => by cases h) run01
theorem run02 : imgRun (EM [(358, yes)]) gl 353 40000 [] yes = true := by kernel_rfl
theorem know02 : KnownI Tryz.prog gl 353 yes := knows [(358, yes)] (by
  intro x hx
  simp only [List.mem_cons, List.mem_nil_iff, or_false] at hx
  rcases hx with rfl
  · exact know01) run02
theorem run03 : imgRun (EM [(353, yes)]) gl 347 40000 [] yes = true := by kernel_rfl
theorem know03 : KnownI Tryz.prog gl 347 yes := knows [(353, yes)] (by
  intro x hx
  simp only [List.mem_cons, List.mem_nil_iff, or_false] at hx
  rcases hx with rfl
  · exact know02) run03
theorem run04 : imgRun (EM [(347, yes)]) gl 343 40000 [] yes = true := by kernel_rfl
theorem know04 : KnownI Tryz.prog gl 343 yes := knows [(347, yes)] (by
  intro x hx
  simp only [List.mem_cons, List.mem_nil_iff, or_false] at hx
  rcases hx with rfl
  · exact know03) run04

end Go.Proofs.YtgbflpajaihmmaaGreatDoor
