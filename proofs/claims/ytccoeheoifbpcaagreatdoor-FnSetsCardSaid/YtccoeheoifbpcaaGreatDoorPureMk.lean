/- What the laws' marks do to a list of nodes. -/
import Derived.Test.YtccoeheoifbpcaaGreatDoorPureT
namespace Go.Proofs.YtccoeheoifbpcaaGreatDoor
open Go Go.RowKit
set_option linter.unusedSimpArgs false
set_option linter.unusedVariables false
theorem getL_mid {α : Type} (P t : List α) (x : α) : getL (P ++ x :: t) (P.length : Int) = some x := by
  rw [getL_at (by simp)]
  simp
theorem setL_mid {α : Type} (P t : List α) (x y : α) : setL (P ++ x :: t) (P.length : Int) y = some (P ++ y :: t) := by
  unfold setL
  rw [decide_eq_true (by omega), decide_eq_true (by simp; omega)]
  simp
end Go.Proofs.YtccoeheoifbpcaaGreatDoor
