/- Words: what a word is, what fits a pattern, a word put into a slot. -/
import Derived.Test.YtccoeheoifbpcaaGreatDoorPureC
namespace Go.Proofs.YtccoeheoifbpcaaGreatDoor
open Go Go.RowKit
set_option linter.unusedSimpArgs false
set_option linter.unusedVariables false
end Go.Proofs.YtccoeheoifbpcaaGreatDoor
