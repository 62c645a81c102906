/- CaseText: the models of the program and of the reference agree. -/
import Derived.Test.YtgmbcolpchckbaaDoorPureN
namespace Go.Proofs.YtgmbcolpchckbaaDoor
open Go Go.RowKit
set_option linter.unusedSimpArgs false
set_option linter.unusedVariables false

theorem m_laws_FnExactCaseText_true (c : Case) (h : Lies CaseRep c) : m_laws_FnExactCaseText c = some true := by
  unfold m_laws_FnExactCaseText
  rw [sz_sub (bulk_Case c) 1048576 (by omega) (szCase_eq c h 1048576 (by omega) (by omega))]
  split
  case isFalse => rfl
  rename_i hc
  unfold bulk_Case at hc
  obtain ⟨w, S, row, h⟩ := h
  obtain ⟨_, q0, q1, q2⟩ := CaseRep_open h
  have h1 := itoa_le q1
  have h2 := itoa_le q2
  unfold m_spec_CaseText m_impl_CaseText
  simp only [toCase_eq, Option.bind_some, Decimal_eq, l01Dec_eq q1, l01Dec_eq q2]
  rw [catL_of (by simp; omega), Option.bind_some, catL_of (by simp; omega), Option.bind_some, catL_of (by simp; omega), Option.bind_some, catL_of (by simp; omega)]
  simp

end Go.Proofs.YtgmbcolpchckbaaDoor
