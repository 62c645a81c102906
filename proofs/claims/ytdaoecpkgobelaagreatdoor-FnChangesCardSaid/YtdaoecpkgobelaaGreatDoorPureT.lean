/- What the laws' helpers compute. Printed by lawpure.py. -/
import Derived.Test.YtdaoecpkgobelaaGreatDoorPureA
namespace Go.Proofs.YtdaoecpkgobelaaGreatDoor
open Go Go.RowKit
set_option linter.unusedSimpArgs false
set_option linter.unusedVariables false
end Go.Proofs.YtdaoecpkgobelaaGreatDoor
