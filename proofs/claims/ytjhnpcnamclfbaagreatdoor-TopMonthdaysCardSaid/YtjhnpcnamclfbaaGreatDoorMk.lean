/- A day's text by the document: its runs, by language, weekday and month. No condition. -/
import Derived.Test.YtjhnpcnamclfbaaGreatDoorMh
namespace Go.Proofs.YtjhnpcnamclfbaaGreatDoor
open Go Go.Eng Go.RowKit
noncomputable section
set_option maxRecDepth 100000

end
end Go.Proofs.YtjhnpcnamclfbaaGreatDoor
