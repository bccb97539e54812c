/- Runs of a day's date, by the kernel (part 3). No condition. -/
import Derived.Test.YtjhnpcnamclfbaaGreatDoorCs
namespace Go.Proofs.YtjhnpcnamclfbaaGreatDoor
open Go Go.Eng Go.RowKit
set_option maxRecDepth 100000
theorem runDate15 : allB (fun mm => runDate 15 mm false && runDate 15 mm true) months12 = true := by kernel_rfl
theorem runDate16 : allB (fun mm => runDate 16 mm false && runDate 16 mm true) months12 = true := by kernel_rfl
theorem runDate17 : allB (fun mm => runDate 17 mm false && runDate 17 mm true) months12 = true := by kernel_rfl
theorem runDate18 : allB (fun mm => runDate 18 mm false && runDate 18 mm true) months12 = true := by kernel_rfl
theorem runDate19 : allB (fun mm => runDate 19 mm false && runDate 19 mm true) months12 = true := by kernel_rfl
theorem runDate20 : allB (fun mm => runDate 20 mm false && runDate 20 mm true) months12 = true := by kernel_rfl
theorem runDate21 : allB (fun mm => runDate 21 mm false && runDate 21 mm true) months12 = true := by kernel_rfl
end Go.Proofs.YtjhnpcnamclfbaaGreatDoor
