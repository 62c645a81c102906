/- ReplayTurns: the models of the program and of the reference agree. -/
import Derived.Test.YtbekokenomhgeaaGreatDoorPureJe
namespace Go.Proofs.YtbekokenomhgeaaGreatDoor
open Go Go.RowKit
set_option linter.unusedSimpArgs false
set_option linter.unusedVariables false

theorem m_laws_FnExactReplayTurns_true (b : Board) (l : List Turn) (h : Lies BoardRep b) (h' : Lies (sliceRep TurnRep) l) : m_laws_FnExactReplayTurns b l = some true := by
  unfold m_laws_FnExactReplayTurns
  rw [sz_sub (bulk_Board b) 1048576 (by omega) (szBoard_eq b h 1048576 (by omega) (by omega))]
  split
  case isFalse => rfl
  rename_i hc
  rw [sz_sub (bulk_TurnS l) _ (by omega) (szTurnS_eq l h' _ (by omega) (by omega))]
  split
  case isFalse => rfl
  rename_i hc'
  have hs := sm_TurnS_of (x := l) (by omega)
  have hb : b.Premium.length + b.Cells.length ≤ 1048576 := by unfold bulk_Board at hc; omega
  obtain ⟨r, r1, r2⟩ := replay_both b l (by omega) (by omega) (turn_small (by omega))
  unfold m_spec_ReplayTurns m_impl_ReplayTurns
  rw [toBoard_eq, Option.bind_some, toTurnS_eq l hs, Option.bind_some, r2, Option.bind_some]
  cases hr : r.2
  · rw [Bool.not_false, cond_true, Option.bind_some, Option.bind_some, Option.bind_some, r1, Option.bind_some, hr, Bool.not_false, cond_true, Option.bind_some, eqBoard_eq, decide_eq_true rfl, Option.bind_some, Bool.not_true, cond_false, bne_self_eq_false, Option.bind_some, cond_false, Option.bind_some, eqTurnS_eq _ _ hs, decide_eq_true rfl]
    rfl
  · rw [Bool.not_true, cond_false, Option.bind_some, Option.bind_some, Option.bind_some, r1, Option.bind_some, hr, Bool.not_true, cond_false, Option.bind_some, eqBoard_eq, decide_eq_true rfl, Option.bind_some, Bool.not_true, cond_false, bne_self_eq_false, Option.bind_some, cond_false, Option.bind_some, eqTurnS_eq _ _ hs, decide_eq_true rfl]
    rfl

end Go.Proofs.YtbekokenomhgeaaGreatDoor
