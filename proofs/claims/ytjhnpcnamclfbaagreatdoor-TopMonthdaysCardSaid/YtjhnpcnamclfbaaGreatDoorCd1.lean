/- Runs of a day's date, by the kernel (part 2). No condition. -/
import Derived.Test.YtjhnpcnamclfbaaGreatDoorCs
namespace Go.Proofs.YtjhnpcnamclfbaaGreatDoor
open Go Go.Eng Go.RowKit
set_option maxRecDepth 100000
theorem runDate08 : allB (fun mm => runDate 8 mm false && runDate 8 mm true) months12 = true := by kernel_rfl
theorem runDate09 : allB (fun mm => runDate 9 mm false && runDate 9 mm true) months12 = true := by kernel_rfl
theorem runDate10 : allB (fun mm => runDate 10 mm false && runDate 10 mm true) months12 = true := by kernel_rfl
theorem runDate11 : allB (fun mm => runDate 11 mm false && runDate 11 mm true) months12 = true := by kernel_rfl
theorem runDate12 : allB (fun mm => runDate 12 mm false && runDate 12 mm true) months12 = true := by kernel_rfl
theorem runDate13 : allB (fun mm => runDate 13 mm false && runDate 13 mm true) months12 = true := by kernel_rfl
theorem runDate14 : allB (fun mm => runDate 14 mm false && runDate 14 mm true) months12 = true := by kernel_rfl
end Go.Proofs.YtjhnpcnamclfbaaGreatDoor
