/- Numbers as texts. -/
import Derived.Test.YtbekokenomhgeaaGreatDoorPureT
namespace Go.Proofs.YtbekokenomhgeaaGreatDoor
open Go Go.RowKit
set_option linter.unusedSimpArgs false
set_option linter.unusedVariables false

end Go.Proofs.YtbekokenomhgeaaGreatDoor
