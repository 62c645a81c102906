/- NoteText: the models of the program and of the reference agree. -/
import Derived.Test.YtgmbcolpchckbaaDoorPureP
namespace Go.Proofs.YtgmbcolpchckbaaDoor
open Go Go.RowKit
set_option linter.unusedSimpArgs false
set_option linter.unusedVariables false

theorem m_laws_FnExactNoteText_true (n : Note) (h : Lies NoteRep n) : m_laws_FnExactNoteText n = some true := by
  unfold m_laws_FnExactNoteText
  rw [sz_sub (bulk_Note n) 1048576 (by omega) (szNote_eq n h 1048576 (by omega) (by omega))]
  split
  case isFalse => rfl
  rename_i hc
  unfold bulk_Note bulk_Move bulk_Play at hc
  obtain ⟨w, S, row, h⟩ := h
  obtain ⟨_, q0, q1, q2, q3, q4, q5, q6⟩ := NoteRep_open h
  have h1 := moveT_len (m := n.Best) q4
  have i0 := itoa_le q0
  have i5 := itoa_le q5
  have i6 := itoa_le q6
  unfold m_spec_NoteText m_spec_l24NoteText m_impl_NoteText m_impl_dashed m_impl_joined m_strings_Join
  simp only [toNote_eq, Option.bind_some, MoveText_eq n.Best (by omega) q4, MoveTextS_eq n.Best (by omega) q4, Decimal_eq, l01Dec_eq q0, l01Dec_eq q5, l01Dec_eq q6]
  have hd : ∃ t : Str, (bif moveT n.Best == ([] : Str) then some ([45] : Str) else some (moveT n.Best)) = some t ∧ t.length ≤ 100 := by
    cases moveT n.Best == ([] : Str)
    · exact ⟨_, rfl, h1⟩
    · exact ⟨_, rfl, by simp⟩
  obtain ⟨t, ht, hl⟩ := hd
  rw [ht]
  simp only [Option.bind_some]
  rw [catL_of (by simp; omega), Option.bind_some, catL_of (by simp; omega), Option.bind_some, catL_of (by simp; omega), Option.bind_some, catL_of (by simp; omega), Option.bind_some, catL_of (by simp; omega), Option.bind_some, catL_of (by simp; omega), Option.bind_some, Option.bind_some]
  have hj : Lib.join [Lib.itoa n.Score, Lib.itoa n.Loss, Lib.itoa n.Rank, t] [32] = Lib.itoa n.Score ++ [32] ++ Lib.itoa n.Loss ++ [32] ++ Lib.itoa n.Rank ++ [32] ++ t := by
    rw [Lib.join_cons]
    simp [Lib.joinTail]
  rw [hj, decide_eq_true (by unfold lim; simp), decide_eq_true (by unfold lim; simp; omega)]
  simp

end Go.Proofs.YtgmbcolpchckbaaDoor
