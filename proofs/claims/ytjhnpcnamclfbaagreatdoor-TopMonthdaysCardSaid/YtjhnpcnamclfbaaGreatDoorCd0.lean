/- Runs of a day's date, by the kernel (part 1). No condition. -/
import Derived.Test.YtjhnpcnamclfbaaGreatDoorCs
namespace Go.Proofs.YtjhnpcnamclfbaaGreatDoor
open Go Go.Eng Go.RowKit
set_option maxRecDepth 100000
theorem runDate00 : allB (fun mm => runDate 0 mm false && runDate 0 mm true) months12 = true := by kernel_rfl
theorem runDate01 : allB (fun mm => runDate 1 mm false && runDate 1 mm true) months12 = true := by kernel_rfl
theorem runDate02 : allB (fun mm => runDate 2 mm false && runDate 2 mm true) months12 = true := by kernel_rfl
theorem runDate03 : allB (fun mm => runDate 3 mm false && runDate 3 mm true) months12 = true := by kernel_rfl
theorem runDate04 : allB (fun mm => runDate 4 mm false && runDate 4 mm true) months12 = true := by kernel_rfl
theorem runDate05 : allB (fun mm => runDate 5 mm false && runDate 5 mm true) months12 = true := by kernel_rfl
theorem runDate06 : allB (fun mm => runDate 6 mm false && runDate 6 mm true) months12 = true := by kernel_rfl
theorem runDate07 : allB (fun mm => runDate 7 mm false && runDate 7 mm true) months12 = true := by kernel_rfl
end Go.Proofs.YtjhnpcnamclfbaaGreatDoor
