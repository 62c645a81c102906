/- Actions: valid ones, their texts. -/
import Derived.Test.YtbekokenomhgeaaGreatDoorPureP
import Derived.Test.YtbekokenomhgeaaGreatDoorPureB
namespace Go.Proofs.YtbekokenomhgeaaGreatDoor
open Go Go.RowKit
set_option linter.unusedSimpArgs false
set_option linter.unusedVariables false

def none0 : Play := ⟨0, 0, false, ([] : Str)⟩

/-! ### Records -/

end Go.Proofs.YtbekokenomhgeaaGreatDoor
