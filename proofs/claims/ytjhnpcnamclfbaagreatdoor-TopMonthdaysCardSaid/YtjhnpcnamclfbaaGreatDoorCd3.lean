/- Runs of a day's date, by the kernel (part 4). No condition. -/
import Derived.Test.YtjhnpcnamclfbaaGreatDoorCs
namespace Go.Proofs.YtjhnpcnamclfbaaGreatDoor
open Go Go.Eng Go.RowKit
set_option maxRecDepth 100000
theorem runDate22 : allB (fun mm => runDate 22 mm false && runDate 22 mm true) months12 = true := by kernel_rfl
theorem runDate23 : allB (fun mm => runDate 23 mm false && runDate 23 mm true) months12 = true := by kernel_rfl
theorem runDate24 : allB (fun mm => runDate 24 mm false && runDate 24 mm true) months12 = true := by kernel_rfl
theorem runDate25 : allB (fun mm => runDate 25 mm false && runDate 25 mm true) months12 = true := by kernel_rfl
theorem runDate26 : allB (fun mm => runDate 26 mm false && runDate 26 mm true) months12 = true := by kernel_rfl
theorem runDate27 : allB (fun mm => runDate 27 mm false && runDate 27 mm true) months12 = true := by kernel_rfl
theorem runDate28 : allB (fun mm => runDate 28 mm false && runDate 28 mm true) months12 = true := by kernel_rfl
end Go.Proofs.YtjhnpcnamclfbaaGreatDoor
