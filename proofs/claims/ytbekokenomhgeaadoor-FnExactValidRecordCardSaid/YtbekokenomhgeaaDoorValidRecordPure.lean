/- ValidRecord: the models of the program and of the reference agree. -/
import Derived.Test.YtbekokenomhgeaaDoorPureQ
namespace Go.Proofs.YtbekokenomhgeaaDoor
open Go Go.RowKit
set_option linter.unusedSimpArgs false
set_option linter.unusedVariables false

theorem m_laws_FnExactValidRecord_true (r : Record) (h : Lies RecordRep r) : m_laws_FnExactValidRecord r = some true := by
  unfold m_laws_FnExactValidRecord
  rw [sz_sub (bulk_Record r) 1048576 (by omega) (szRecord_eq r h 1048576 (by omega) (by omega))]
  split
  case isFalse => rfl
  rename_i hc
  have hs := sm_Record_of (x := r) (by omega)
  simp only [toRecord_eq r hs, Option.bind_some, m_spec_ValidRecord, ValidRecord_eq r (by omega), l20Ok_eq r (by omega), bne_self_eq_false, cond_false, eqRecord_eq _ _ hs, decide_true, Bool.not_true]

end Go.Proofs.YtbekokenomhgeaaDoor
