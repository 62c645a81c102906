/- RecordText: the models of the program and of the reference agree. -/
import Derived.Test.YtbekokenomhgeaaDoorPureR
namespace Go.Proofs.YtbekokenomhgeaaDoor
open Go Go.RowKit
set_option linter.unusedSimpArgs false
set_option linter.unusedVariables false

theorem m_laws_FnExactRecordText_true (r : Record) (h : Lies RecordRep r) : m_laws_FnExactRecordText r = some true := by
  unfold m_laws_FnExactRecordText
  rw [sz_sub (bulk_Record r) 1048576 (by omega) (szRecord_eq r h 1048576 (by omega) (by omega))]
  split
  case isFalse => rfl
  rename_i hc
  have hs := sm_Record_of (x := r) (by omega)
  unfold m_spec_RecordText
  simp only [toRecord_eq r hs, Option.bind_some, RecordText_eq r (by omega), l20Ok_eq r (by omega), eqRecord_eq _ _ hs, decide_true]
  cases ha : recB r
  · rfl
  · simp only [Bool.not_true, cond_false, cond_true, l20Record_eq r ha, Option.bind_some, bne_self_eq_false]

end Go.Proofs.YtbekokenomhgeaaDoor
