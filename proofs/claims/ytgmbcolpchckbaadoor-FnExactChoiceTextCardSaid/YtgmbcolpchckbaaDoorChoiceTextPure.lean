/- ChoiceText: the models of the program and of the reference agree. -/
import Derived.Test.YtgmbcolpchckbaaDoorPureP
namespace Go.Proofs.YtgmbcolpchckbaaDoor
open Go Go.RowKit
set_option linter.unusedSimpArgs false
set_option linter.unusedVariables false

theorem m_laws_FnExactChoiceText_true (c : Choice) (h : Lies ChoiceRep c) : m_laws_FnExactChoiceText c = some true := by
  unfold m_laws_FnExactChoiceText
  rw [sz_sub (bulk_Choice c) 1048576 (by omega) (szChoice_eq c h 1048576 (by omega) (by omega))]
  split
  case isFalse => rfl
  rename_i hc
  unfold bulk_Choice bulk_Move bulk_Play at hc
  obtain ⟨w, S, row, h⟩ := h
  obtain ⟨_, q0, q1, q2, q3, q4⟩ := ChoiceRep_open h
  have h1 := moveT_len (m := c.Move) q3
  have h2 := itoa_le q4
  unfold m_spec_ChoiceText m_impl_ChoiceText
  simp only [toChoice_eq, Option.bind_some, MoveText_eq c.Move (by omega) q3, MoveTextS_eq c.Move (by omega) q3, Decimal_eq, l01Dec_eq q4]
  cases c.Pass
  · simp only [Bool.not_false, cond_true, cond_false, Option.bind_some]
    cases moveT c.Move == ([] : Str)
    · simp only [cond_false, Option.bind_some]
      rw [catL_of (by simp; omega), Option.bind_some, catL_of (by simp; omega)]
      simp
    · rfl
  · simp only [Bool.not_true, cond_true, cond_false, Option.bind_some]
    rw [show (([112, 97, 115, 115] : Str) == ([] : Str)) = false from rfl, cond_false, catL_of (by simp), Option.bind_some, catL_of (by simp; omega)]
    simp

end Go.Proofs.YtgmbcolpchckbaaDoor
