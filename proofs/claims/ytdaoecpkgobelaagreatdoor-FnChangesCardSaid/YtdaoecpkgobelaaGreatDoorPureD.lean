/- Words: what a word is, what fits a pattern, a word put into a slot. -/
import Derived.Test.YtdaoecpkgobelaaGreatDoorPureC
namespace Go.Proofs.YtdaoecpkgobelaaGreatDoor
open Go Go.RowKit
set_option linter.unusedSimpArgs false
set_option linter.unusedVariables false
end Go.Proofs.YtdaoecpkgobelaaGreatDoor
