/- TurnText: the models of the program and of the reference agree. -/
import Derived.Test.YtbekokenomhgeaaDoorPureR
namespace Go.Proofs.YtbekokenomhgeaaDoor
open Go Go.RowKit
set_option linter.unusedSimpArgs false
set_option linter.unusedVariables false

theorem m_laws_FnExactTurnText_true (x : Turn) (h : Lies TurnRep x) : m_laws_FnExactTurnText x = some true := by
  unfold m_laws_FnExactTurnText
  rw [sz_sub (bulk_Turn x) 1048576 (by omega) (szTurn_eq x h 1048576 (by omega) (by omega))]
  split
  case isFalse => rfl
  rename_i hc
  unfold bulk_Turn bulk_Play at hc
  unfold m_spec_TurnText
  simp only [toTurn_eq, Option.bind_some, TurnText_eq x (by omega) (by omega), l24Plain_eq x (by omega) (by omega)]
  cases ha : turnB x
  · rfl
  · simp only [Bool.not_true, cond_false, cond_true, l24Text_eq x ha, Option.bind_some, bne_self_eq_false]

end Go.Proofs.YtbekokenomhgeaaDoor
