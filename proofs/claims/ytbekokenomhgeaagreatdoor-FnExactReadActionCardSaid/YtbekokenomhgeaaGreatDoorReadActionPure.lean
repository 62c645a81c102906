/- ReadAction: the models of the program and of the reference agree. -/
import Derived.Test.YtbekokenomhgeaaGreatDoorPureLd
namespace Go.Proofs.YtbekokenomhgeaaGreatDoor
open Go Go.RowKit
set_option linter.unusedSimpArgs false
set_option linter.unusedVariables false

theorem eqPlay_same (p : Play) : m_laws_eqPlay p p = some true := by
  unfold m_laws_eqPlay
  simp only [bne_self_eq_false, cond_false]

theorem eqAction_same (x : Action) : m_laws_eqAction x x = some true := by
  unfold m_laws_eqAction
  simp only [bne_self_eq_false, cond_false, eqPlay_same, Option.bind_some, Bool.not_true]

theorem ReadActionS_eq (s : Str) (h : s.length ≤ 1048576) : m_spec_ReadAction s = some (rdA s) := by
  unfold m_spec_ReadAction
  rw [l20Read_eq s h, readAction_same]
  rfl

theorem m_laws_FnExactReadAction_true (s : Str) (h : Lies strRep s) : m_laws_FnExactReadAction s = some true := by
  unfold m_laws_FnExactReadAction
  by_cases hl : s.length ≤ 1048576
  · rw [decide_eq_false (by omega), cond_false, ReadActionS_eq s hl, Option.bind_some, ReadAction_eq s hl, Option.bind_some, eqAction_same]
    simp only [Option.bind_some, Bool.not_true, cond_false, bne_self_eq_false]
  · rw [decide_eq_true (by omega), cond_true]

end Go.Proofs.YtbekokenomhgeaaGreatDoor
