/- ActionText: the models of the program and of the reference agree. -/
import Derived.Test.YtbekokenomhgeaaDoorPureQ
namespace Go.Proofs.YtbekokenomhgeaaDoor
open Go Go.RowKit
set_option linter.unusedSimpArgs false
set_option linter.unusedVariables false

theorem m_laws_FnExactActionText_true (a : Action) (h : Lies ActionRep a) : m_laws_FnExactActionText a = some true := by
  unfold m_laws_FnExactActionText
  rw [sz_sub (bulk_Action a) 1048576 (by omega) (szAction_eq a h 1048576 (by omega) (by omega))]
  split
  case isFalse => rfl
  rename_i hc
  unfold bulk_Action bulk_Play at hc
  unfold m_spec_ActionText
  simp only [toAction_eq, Option.bind_some, ActionText_eq a (by omega) (by omega), l20Action_eq a (by omega) (by omega)]
  cases ha : actB a
  · rfl
  · simp only [Bool.not_true, cond_false, cond_true, l20Text_eq a ha, Option.bind_some, bne_self_eq_false]

end Go.Proofs.YtbekokenomhgeaaDoor
