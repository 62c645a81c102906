/- Grids, boards, racks: what valid means, on both sides. -/
import Derived.Test.YtccoeheoifbpcaaGreatDoorPureT
import Derived.Lib.IndexLaws
namespace Go.Proofs.YtccoeheoifbpcaaGreatDoor
open Go Go.RowKit
set_option linter.unusedSimpArgs false
set_option linter.unusedVariables false
/-! ### Boards and racks -/
end Go.Proofs.YtccoeheoifbpcaaGreatDoor
