/- Grids, boards, racks: what valid means, on both sides. -/
import Derived.Test.YtdaoecpkgobelaaGreatDoorPureT
import Derived.Lib.IndexLaws
namespace Go.Proofs.YtdaoecpkgobelaaGreatDoor
open Go Go.RowKit
set_option linter.unusedSimpArgs false
set_option linter.unusedVariables false
/-! ### Boards and racks -/
end Go.Proofs.YtdaoecpkgobelaaGreatDoor
