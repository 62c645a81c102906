/- Numbers as texts. -/
import Derived.Test.YtdaoecpkgobelaaGreatDoorPureT
namespace Go.Proofs.YtdaoecpkgobelaaGreatDoor
open Go Go.RowKit
set_option linter.unusedSimpArgs false
set_option linter.unusedVariables false
theorem Decimal_eq (n : Int) : m_impl_Decimal n = some (Lib.itoa n) := rfl
end Go.Proofs.YtdaoecpkgobelaaGreatDoor
