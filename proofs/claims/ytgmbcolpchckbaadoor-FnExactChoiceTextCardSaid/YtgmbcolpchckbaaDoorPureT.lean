/- What the laws' helpers compute. Printed by lawpure.py. -/
import Derived.Test.YtgmbcolpchckbaaDoorPureA
namespace Go.Proofs.YtgmbcolpchckbaaDoor
open Go Go.RowKit
set_option linter.unusedSimpArgs false
set_option linter.unusedVariables false

def bulk_Case (x : Case) : Nat := x.Tile.length

theorem szCase_eq (x : Case) (h : Lies CaseRep x) (l : Int) (h0 : 0 ≤ l) (h1 : l ≤ 1048576) : m_laws_szCase x l = some (szR (bulk_Case x) l) := by
  obtain ⟨w, S, row, h⟩ := h
  obtain ⟨_, q0, q1, q2⟩ := CaseRep_open h
  unfold m_laws_szCase
  rw [sz_len x.Tile.length (l) (by omega) (by omega) q0]
  split
  · unfold szR bulk_Case
    rw [if_pos (by push_cast; omega)]
    try (congr 1; push_cast; omega)
  · unfold szR bulk_Case
    rw [if_neg (by push_cast; omega)]

theorem toCase_eq (x : Case) : m_laws_toCase x = some x := by
  unfold m_laws_toCase
  rfl

theorem toExpect_eq (x : Expect) : m_laws_toExpect x = some x := by
  unfold m_laws_toExpect
  rfl

def bulk_Play (x : Play) : Nat := x.Word.length

theorem szPlay_eq (x : Play) (h : Lies PlayRep x) (l : Int) (h0 : 0 ≤ l) (h1 : l ≤ 1048576) : m_laws_szPlay x l = some (szR (bulk_Play x) l) := by
  obtain ⟨w, S, row, h⟩ := h
  obtain ⟨_, q0, q1, q3⟩ := PlayRep_open h
  unfold m_laws_szPlay
  rw [sz_len x.Word.length (l) (by omega) (by omega) q3]
  split
  · unfold szR bulk_Play
    rw [if_pos (by push_cast; omega)]
    try (congr 1; push_cast; omega)
  · unfold szR bulk_Play
    rw [if_neg (by push_cast; omega)]

def bulk_Move (x : Move) : Nat := bulk_Play x.Play

theorem szMove_eq (x : Move) (h : Lies MoveRep x) (l : Int) (h0 : 0 ≤ l) (h1 : l ≤ 1048576) : m_laws_szMove x l = some (szR (bulk_Move x) l) := by
  obtain ⟨w, S, row, h⟩ := h
  obtain ⟨_, q0, q1, q3, q4⟩ := MoveRep_open h
  unfold m_laws_szMove
  rw [sz_sub (bulk_Play x.Play) (l) (by omega) (szPlay_eq x.Play ⟨w, S, _, PlayRep_mk q0 q1 q3⟩ (l) (by omega) (by omega))]
  split
  · unfold szR bulk_Move
    rw [if_pos (by push_cast; omega)]
    try (congr 1; push_cast; omega)
  · unfold szR bulk_Move
    rw [if_neg (by push_cast; omega)]

def bulk_Choice (x : Choice) : Nat := bulk_Move x.Move

theorem szChoice_eq (x : Choice) (h : Lies ChoiceRep x) (l : Int) (h0 : 0 ≤ l) (h1 : l ≤ 1048576) : m_laws_szChoice x l = some (szR (bulk_Choice x) l) := by
  obtain ⟨w, S, row, h⟩ := h
  obtain ⟨_, q1, q2, q4, q5, q6⟩ := ChoiceRep_open h
  unfold m_laws_szChoice
  rw [sz_sub (bulk_Move x.Move) (l) (by omega) (szMove_eq x.Move ⟨w, S, _, MoveRep_mk q1 q2 q4 q5⟩ (l) (by omega) (by omega))]
  split
  · unfold szR bulk_Choice
    rw [if_pos (by push_cast; omega)]
    try (congr 1; push_cast; omega)
  · unfold szR bulk_Choice
    rw [if_neg (by push_cast; omega)]

theorem toPlay_eq (x : Play) : m_laws_toPlay x = some x := by
  unfold m_laws_toPlay
  rfl

theorem toMove_eq (x : Move) : m_laws_toMove x = some x := by
  unfold m_laws_toMove
  simp only [toPlay_eq x.Play, Option.bind_some]

theorem toChoice_eq (x : Choice) : m_laws_toChoice x = some x := by
  unfold m_laws_toChoice
  simp only [toMove_eq x.Move, Option.bind_some]

def bulk_Note (x : Note) : Nat := bulk_Move x.Best

theorem szNote_eq (x : Note) (h : Lies NoteRep x) (l : Int) (h0 : 0 ≤ l) (h1 : l ≤ 1048576) : m_laws_szNote x l = some (szR (bulk_Note x) l) := by
  obtain ⟨w, S, row, h⟩ := h
  obtain ⟨_, q0, q1, q2, q4, q5, q6, q7⟩ := NoteRep_open h
  unfold m_laws_szNote
  rw [sz_sub (bulk_Move x.Best) (l) (by omega) (szMove_eq x.Best ⟨w, S, _, MoveRep_mk q1 q2 q4 q5⟩ (l) (by omega) (by omega))]
  split
  · unfold szR bulk_Note
    rw [if_pos (by push_cast; omega)]
    try (congr 1; push_cast; omega)
  · unfold szR bulk_Note
    rw [if_neg (by push_cast; omega)]

theorem toNote_eq (x : Note) : m_laws_toNote x = some x := by
  unfold m_laws_toNote
  simp only [toMove_eq x.Best, Option.bind_some]

end Go.Proofs.YtgmbcolpchckbaaDoor
