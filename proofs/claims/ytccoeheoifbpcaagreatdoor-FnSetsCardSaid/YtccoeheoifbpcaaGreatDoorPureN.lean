/- Numbers as texts. -/
import Derived.Test.YtccoeheoifbpcaaGreatDoorPureT
namespace Go.Proofs.YtccoeheoifbpcaaGreatDoor
open Go Go.RowKit
set_option linter.unusedSimpArgs false
set_option linter.unusedVariables false
theorem Decimal_eq (n : Int) : m_impl_Decimal n = some (Lib.itoa n) := rfl
end Go.Proofs.YtccoeheoifbpcaaGreatDoor
