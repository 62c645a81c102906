/- Grids: slots, patterns, words in slots. -/
import Derived.Test.YtdaoecpkgobelaaGreatDoorPureB
namespace Go.Proofs.YtdaoecpkgobelaaGreatDoor
open Go Go.RowKit
set_option linter.unusedSimpArgs false
set_option linter.unusedVariables false
set_option linter.unusedSectionVars false

theorem getL_getD {α : Type} {xs : List α} {i : Nat} (h : i < xs.length) (d : α) : getL xs (i : Int) = some (xs.getD i d) := by
  rw [getL_at h, List.getD_eq_getElem?_getD, List.getElem?_eq_getElem h]; rfl
end Go.Proofs.YtdaoecpkgobelaaGreatDoor
