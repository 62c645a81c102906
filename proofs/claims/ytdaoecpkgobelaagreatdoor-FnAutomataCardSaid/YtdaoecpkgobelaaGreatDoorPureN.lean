/- Numbers as texts. -/
import Derived.Test.YtdaoecpkgobelaaGreatDoorPureT
namespace Go.Proofs.YtdaoecpkgobelaaGreatDoor
open Go Go.RowKit
set_option linter.unusedSimpArgs false
set_option linter.unusedVariables false

theorem Decimal_eq (n : Int) : m_impl_Decimal n = some (Lib.itoa n) := rfl

theorem itoa_le {n : Int} (h : R64 n) : (Lib.itoa n).length ≤ 21 := Lib.itoa_length_le n h.1 h.2

end Go.Proofs.YtdaoecpkgobelaaGreatDoor
