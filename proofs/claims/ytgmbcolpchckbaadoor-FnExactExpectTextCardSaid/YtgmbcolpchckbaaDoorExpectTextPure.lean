/- ExpectText: the models of the program and of the reference agree. -/
import Derived.Test.YtgmbcolpchckbaaDoorPureN
namespace Go.Proofs.YtgmbcolpchckbaaDoor
open Go Go.RowKit
set_option linter.unusedSimpArgs false
set_option linter.unusedVariables false

theorem m_laws_FnExactExpectText_true (e : Expect) (h : Lies ExpectRep e) : m_laws_FnExactExpectText e = some true := by
  unfold m_laws_FnExactExpectText
  obtain ⟨w, S, row, h⟩ := h
  obtain ⟨_, q1, q2⟩ := ExpectRep_open h
  have h1 := itoa_le q1
  have h2 := itoa_le q2
  unfold m_spec_ExpectText m_impl_ExpectText m_spec_l21Ok m_impl_validExpect
  simp only [toExpect_eq, Option.bind_some, Decimal_eq, l01Dec_eq q1, l01Dec_eq q2, within_eq, l00In_eq]
  cases inB e.Ways 1 1000000
  · rfl
  cases inB e.Sum (-1000000000) 1000000000
  · rfl
  simp only [cond_true, cond_false, Option.bind_some, Bool.not_true]
  rw [catL_of (by simp; omega), Option.bind_some, catL_of (by simp; omega)]
  simp

end Go.Proofs.YtgmbcolpchckbaaDoor
