/- Grids, boards, racks: what valid means, on both sides. -/
import Derived.Test.YtccoeheoifbpcaaDoorPureT
import Derived.Lib.IndexLaws
namespace Go.Proofs.YtccoeheoifbpcaaDoor
open Go Go.RowKit
set_option linter.unusedSimpArgs false
set_option linter.unusedVariables false

/-! ### Boards and racks -/

end Go.Proofs.YtccoeheoifbpcaaDoor
