/- What the laws' helpers compute. Printed by lawpure.py. -/
import Derived.Test.YtdngdgjlcfbdhaaPureA
namespace Go.Proofs.Ytdngdgjlcfbdhaa
open Go Go.RowKit
set_option linter.unusedSimpArgs false
set_option linter.unusedVariables false

def bulk_Grid (x : Grid) : Nat := x.Cells.length

theorem szGrid_eq (x : Grid) (h : Lies GridRep x) (l : Int) (h0 : 0 ≤ l) (h1 : l ≤ 1048576) : m_laws_szGrid x l = some (szR (bulk_Grid x) l) := by
  obtain ⟨w, S, row, h⟩ := h
  obtain ⟨_, q0, q1, q2⟩ := GridRep_open h
  unfold m_laws_szGrid
  rw [sz_len x.Cells.length (l) (by omega) (by omega) q2]
  split
  · unfold szR bulk_Grid
    rw [if_pos (by push_cast; omega)]
    try (congr 1; push_cast; omega)
  · unfold szR bulk_Grid
    rw [if_neg (by push_cast; omega)]

theorem toGrid_eq (x : Grid) : m_laws_toGrid x = some x := by
  unfold m_laws_toGrid
  rfl

theorem toExpect_eq (x : Expect) : m_laws_toExpect x = some x := by
  unfold m_laws_toExpect
  rfl

def bulk_Result (x : Result) : Nat := x.A.length + x.B.length

theorem szResult_eq (x : Result) (h : Lies ResultRep x) (l : Int) (h0 : 0 ≤ l) (h1 : l ≤ 1048576) : m_laws_szResult x l = some (szR (bulk_Result x) l) := by
  obtain ⟨w, S, row, h⟩ := h
  obtain ⟨_, q0, q1, q2, q3⟩ := ResultRep_open h
  unfold m_laws_szResult
  rw [sz_len x.A.length (l) (by omega) (by omega) q0]
  split
  · rw [sz_len x.B.length (l - (x.A.length : Nat)) (by omega) (by omega) q1]
    split
    · unfold szR bulk_Result
      rw [if_pos (by push_cast; omega)]
      try (congr 1; push_cast; omega)
    · unfold szR bulk_Result
      rw [if_neg (by push_cast; omega)]
  · unfold szR bulk_Result
    rw [if_neg (by push_cast; omega)]

def bulk_ResultS (x : (List Result)) : Nat := x.length + bulkS (fun e => bulk_Result e) x

theorem szResultS_eq (x : (List Result)) (h : Lies (sliceRep ResultRep) x) (l : Int) (h0 : 0 ≤ l) (h1 : l ≤ 1048576) : m_laws_szResultS x l = some (szR (bulk_ResultS x) l) := by
  unfold m_laws_szResultS
  exact szS_gen m_laws_szResult (fun e => bulk_Result e) x l h0 h1 h.list.1 (fun e he l h0 h1 => ⟨_, szResult_eq e (h.list.2 e he) l h0 h1, by unfold szR; split <;> omega⟩)

def sm_ResultS (x : (List Result)) : Prop := x.length ≤ 100000000

theorem sm_ResultS_of {x : (List Result)} (h : bulk_ResultS x ≤ 1048576) : sm_ResultS x := by
  unfold bulk_ResultS at h
  unfold sm_ResultS
  omega

theorem toResult_eq (x : Result) : m_laws_toResult x = some x := by
  unfold m_laws_toResult
  rfl

theorem toResultS_eq (x : (List Result)) (h : sm_ResultS x) : m_laws_toResultS x = some x := by
  unfold m_laws_toResultS
  exact toS_gen m_laws_toResult _ x (by unfold sm_ResultS at h; have := h; omega) (fun e he => toResult_eq e)

theorem eqResult_eq (x y : Result) : m_laws_eqResult x y = some (decide (x = y)) := by
  unfold m_laws_eqResult
  by_cases e_A : x.A = y.A
  case neg => rw [decide_eq_false (fun h => e_A (by rw [h]) : ¬ x = y), bne_iff_ne.2 e_A]; rfl
  rw [show (x.A != y.A) = false by rw [e_A]; exact bne_self_eq_false _, cond_false]
  by_cases e_B : x.B = y.B
  case neg => rw [decide_eq_false (fun h => e_B (by rw [h]) : ¬ x = y), bne_iff_ne.2 e_B]; rfl
  rw [show (x.B != y.B) = false by rw [e_B]; exact bne_self_eq_false _, cond_false]
  by_cases e_ScoreA : x.ScoreA = y.ScoreA
  case neg => rw [decide_eq_false (fun h => e_ScoreA (by rw [h]) : ¬ x = y), bne_iff_ne.2 e_ScoreA]; rfl
  rw [show (x.ScoreA != y.ScoreA) = false by rw [e_ScoreA]; exact bne_self_eq_false _, cond_false]
  by_cases e_ScoreB : x.ScoreB = y.ScoreB
  case neg => rw [decide_eq_false (fun h => e_ScoreB (by rw [h]) : ¬ x = y), bne_iff_ne.2 e_ScoreB]; rfl
  rw [show (x.ScoreB != y.ScoreB) = false by rw [e_ScoreB]; exact bne_self_eq_false _, cond_false]
  rw [decide_eq_true (by cases x; cases y; simp_all : x = y)]

theorem eqResultS_eq (x y : (List Result)) (h : sm_ResultS x) : m_laws_eqResultS x y = some (decide (x = y)) := by
  unfold m_laws_eqResultS
  exact eqS_gen m_laws_eqResult x y (by unfold sm_ResultS at h; have := h; omega) (fun a b => eqResult_eq a b)

theorem eqGrid_eq (x y : Grid) : m_laws_eqGrid x y = some (decide (x = y)) := by
  unfold m_laws_eqGrid
  by_cases e_Rows : x.Rows = y.Rows
  case neg => rw [decide_eq_false (fun h => e_Rows (by rw [h]) : ¬ x = y), bne_iff_ne.2 e_Rows]; rfl
  rw [show (x.Rows != y.Rows) = false by rw [e_Rows]; exact bne_self_eq_false _, cond_false]
  by_cases e_Cols : x.Cols = y.Cols
  case neg => rw [decide_eq_false (fun h => e_Cols (by rw [h]) : ¬ x = y), bne_iff_ne.2 e_Cols]; rfl
  rw [show (x.Cols != y.Cols) = false by rw [e_Cols]; exact bne_self_eq_false _, cond_false]
  by_cases e_Cells : x.Cells = y.Cells
  case neg => rw [decide_eq_false (fun h => e_Cells (by rw [h]) : ¬ x = y), bne_iff_ne.2 e_Cells]; rfl
  rw [show (x.Cells != y.Cells) = false by rw [e_Cells]; exact bne_self_eq_false _, cond_false]
  rw [decide_eq_true (by cases x; cases y; simp_all : x = y)]

def bulk_Member (x : Member) : Nat := x.Name.length

theorem szMember_eq (x : Member) (h : Lies MemberRep x) (l : Int) (h0 : 0 ≤ l) (h1 : l ≤ 1048576) : m_laws_szMember x l = some (szR (bulk_Member x) l) := by
  obtain ⟨w, S, row, h⟩ := h
  obtain ⟨_, q0, q1⟩ := MemberRep_open h
  unfold m_laws_szMember
  rw [sz_len x.Name.length (l) (by omega) (by omega) q0]
  split
  · unfold szR bulk_Member
    rw [if_pos (by push_cast; omega)]
    try (congr 1; push_cast; omega)
  · unfold szR bulk_Member
    rw [if_neg (by push_cast; omega)]

def bulk_MemberS (x : (List Member)) : Nat := x.length + bulkS (fun e => bulk_Member e) x

theorem szMemberS_eq (x : (List Member)) (h : Lies (sliceRep MemberRep) x) (l : Int) (h0 : 0 ≤ l) (h1 : l ≤ 1048576) : m_laws_szMemberS x l = some (szR (bulk_MemberS x) l) := by
  unfold m_laws_szMemberS
  exact szS_gen m_laws_szMember (fun e => bulk_Member e) x l h0 h1 h.list.1 (fun e he l h0 h1 => ⟨_, szMember_eq e (h.list.2 e he) l h0 h1, by unfold szR; split <;> omega⟩)

def sm_MemberS (x : (List Member)) : Prop := x.length ≤ 100000000

theorem sm_MemberS_of {x : (List Member)} (h : bulk_MemberS x ≤ 1048576) : sm_MemberS x := by
  unfold bulk_MemberS at h
  unfold sm_MemberS
  omega

def bulk_Club (x : Club) : Nat := bulk_MemberS x.Members

theorem szClub_eq (x : Club) (h : Lies ClubRep x) (l : Int) (h0 : 0 ≤ l) (h1 : l ≤ 1048576) : m_laws_szClub x l = some (szR (bulk_Club x) l) := by
  obtain ⟨w, S, row, h⟩ := h
  obtain ⟨A0, c0, _, q0⟩ := ClubRep_open h
  unfold m_laws_szClub
  rw [sz_sub (bulk_MemberS x.Members) (l) (by omega) (szMemberS_eq x.Members ⟨w, S, _, q0⟩ (l) (by omega) (by omega))]
  split
  · unfold szR bulk_Club
    rw [if_pos (by push_cast; omega)]
    try (congr 1; push_cast; omega)
  · unfold szR bulk_Club
    rw [if_neg (by push_cast; omega)]

def sm_Club (x : Club) : Prop := sm_MemberS x.Members

theorem sm_Club_of {x : Club} (h : bulk_Club x ≤ 1048576) : sm_Club x := by
  unfold bulk_Club at h
  unfold sm_Club
  exact sm_MemberS_of (by omega)

theorem toMember_eq (x : Member) : m_laws_toMember x = some x := by
  unfold m_laws_toMember
  rfl

theorem toMemberS_eq (x : (List Member)) (h : sm_MemberS x) : m_laws_toMemberS x = some x := by
  unfold m_laws_toMemberS
  exact toS_gen m_laws_toMember _ x (by unfold sm_MemberS at h; have := h; omega) (fun e he => toMember_eq e)

theorem toClub_eq (x : Club) (h : sm_Club x) : m_laws_toClub x = some x := by
  unfold m_laws_toClub
  simp only [toMemberS_eq x.Members h, Option.bind_some]

theorem eqMember_eq (x y : Member) : m_laws_eqMember x y = some (decide (x = y)) := by
  unfold m_laws_eqMember
  by_cases e_Name : x.Name = y.Name
  case neg => rw [decide_eq_false (fun h => e_Name (by rw [h]) : ¬ x = y), bne_iff_ne.2 e_Name]; rfl
  rw [show (x.Name != y.Name) = false by rw [e_Name]; exact bne_self_eq_false _, cond_false]
  by_cases e_Rating : x.Rating = y.Rating
  case neg => rw [decide_eq_false (fun h => e_Rating (by rw [h]) : ¬ x = y), bne_iff_ne.2 e_Rating]; rfl
  rw [show (x.Rating != y.Rating) = false by rw [e_Rating]; exact bne_self_eq_false _, cond_false]
  rw [decide_eq_true (by cases x; cases y; simp_all : x = y)]

theorem eqMemberS_eq (x y : (List Member)) (h : sm_MemberS x) : m_laws_eqMemberS x y = some (decide (x = y)) := by
  unfold m_laws_eqMemberS
  exact eqS_gen m_laws_eqMember x y (by unfold sm_MemberS at h; have := h; omega) (fun a b => eqMember_eq a b)

theorem eqClub_eq (x y : Club) (h : sm_Club x) : m_laws_eqClub x y = some (decide (x = y)) := by
  unfold m_laws_eqClub
  rw [eqMemberS_eq x.Members y.Members h, Option.bind_some]
  by_cases e_Members : x.Members = y.Members
  case neg => rw [decide_eq_false e_Members, decide_eq_false (fun h => e_Members (by rw [h]) : ¬ x = y)]; rfl
  rw [decide_eq_true e_Members, Bool.not_true, cond_false]
  rw [decide_eq_true (by cases x; cases y; simp_all : x = y)]

def bulk_Play (x : Play) : Nat := x.Word.length

theorem szPlay_eq (x : Play) (h : Lies PlayRep x) (l : Int) (h0 : 0 ≤ l) (h1 : l ≤ 1048576) : m_laws_szPlay x l = some (szR (bulk_Play x) l) := by
  obtain ⟨w, S, row, h⟩ := h
  obtain ⟨_, q0, q1, q3⟩ := PlayRep_open h
  unfold m_laws_szPlay
  rw [sz_len x.Word.length (l) (by omega) (by omega) q3]
  split
  · unfold szR bulk_Play
    rw [if_pos (by push_cast; omega)]
    try (congr 1; push_cast; omega)
  · unfold szR bulk_Play
    rw [if_neg (by push_cast; omega)]

def bulk_Move (x : Move) : Nat := bulk_Play x.Play

theorem szMove_eq (x : Move) (h : Lies MoveRep x) (l : Int) (h0 : 0 ≤ l) (h1 : l ≤ 1048576) : m_laws_szMove x l = some (szR (bulk_Move x) l) := by
  obtain ⟨w, S, row, h⟩ := h
  obtain ⟨_, q0, q1, q3, q4⟩ := MoveRep_open h
  unfold m_laws_szMove
  rw [sz_sub (bulk_Play x.Play) (l) (by omega) (szPlay_eq x.Play ⟨w, S, _, PlayRep_mk q0 q1 q3⟩ (l) (by omega) (by omega))]
  split
  · unfold szR bulk_Move
    rw [if_pos (by push_cast; omega)]
    try (congr 1; push_cast; omega)
  · unfold szR bulk_Move
    rw [if_neg (by push_cast; omega)]

def bulk_Note (x : Note) : Nat := bulk_Move x.Best

theorem szNote_eq (x : Note) (h : Lies NoteRep x) (l : Int) (h0 : 0 ≤ l) (h1 : l ≤ 1048576) : m_laws_szNote x l = some (szR (bulk_Note x) l) := by
  obtain ⟨w, S, row, h⟩ := h
  obtain ⟨_, q0, q1, q2, q4, q5, q6, q7⟩ := NoteRep_open h
  unfold m_laws_szNote
  rw [sz_sub (bulk_Move x.Best) (l) (by omega) (szMove_eq x.Best ⟨w, S, _, MoveRep_mk q1 q2 q4 q5⟩ (l) (by omega) (by omega))]
  split
  · unfold szR bulk_Note
    rw [if_pos (by push_cast; omega)]
    try (congr 1; push_cast; omega)
  · unfold szR bulk_Note
    rw [if_neg (by push_cast; omega)]

def bulk_NoteS (x : (List Note)) : Nat := x.length + bulkS (fun e => bulk_Note e) x

theorem szNoteS_eq (x : (List Note)) (h : Lies (sliceRep NoteRep) x) (l : Int) (h0 : 0 ≤ l) (h1 : l ≤ 1048576) : m_laws_szNoteS x l = some (szR (bulk_NoteS x) l) := by
  unfold m_laws_szNoteS
  exact szS_gen m_laws_szNote (fun e => bulk_Note e) x l h0 h1 h.list.1 (fun e he l h0 h1 => ⟨_, szNote_eq e (h.list.2 e he) l h0 h1, by unfold szR; split <;> omega⟩)

def sm_NoteS (x : (List Note)) : Prop := x.length ≤ 100000000

theorem sm_NoteS_of {x : (List Note)} (h : bulk_NoteS x ≤ 1048576) : sm_NoteS x := by
  unfold bulk_NoteS at h
  unfold sm_NoteS
  omega

theorem toPlay_eq (x : Play) : m_laws_toPlay x = some x := by
  unfold m_laws_toPlay
  rfl

theorem toMove_eq (x : Move) : m_laws_toMove x = some x := by
  unfold m_laws_toMove
  simp only [toPlay_eq x.Play, Option.bind_some]

theorem toNote_eq (x : Note) : m_laws_toNote x = some x := by
  unfold m_laws_toNote
  simp only [toMove_eq x.Best, Option.bind_some]

theorem toNoteS_eq (x : (List Note)) (h : sm_NoteS x) : m_laws_toNoteS x = some x := by
  unfold m_laws_toNoteS
  exact toS_gen m_laws_toNote _ x (by unfold sm_NoteS at h; have := h; omega) (fun e he => toNote_eq e)

theorem eqPlay_eq (x y : Play) : m_laws_eqPlay x y = some (decide (x = y)) := by
  unfold m_laws_eqPlay
  by_cases e_Row : x.Row = y.Row
  case neg => rw [decide_eq_false (fun h => e_Row (by rw [h]) : ¬ x = y), bne_iff_ne.2 e_Row]; rfl
  rw [show (x.Row != y.Row) = false by rw [e_Row]; exact bne_self_eq_false _, cond_false]
  by_cases e_Col : x.Col = y.Col
  case neg => rw [decide_eq_false (fun h => e_Col (by rw [h]) : ¬ x = y), bne_iff_ne.2 e_Col]; rfl
  rw [show (x.Col != y.Col) = false by rw [e_Col]; exact bne_self_eq_false _, cond_false]
  by_cases e_Down : x.Down = y.Down
  case neg => rw [decide_eq_false (fun h => e_Down (by rw [h]) : ¬ x = y), bne_iff_ne.2 e_Down]; rfl
  rw [show (x.Down != y.Down) = false by rw [e_Down]; exact bne_self_eq_false _, cond_false]
  by_cases e_Word : x.Word = y.Word
  case neg => rw [decide_eq_false (fun h => e_Word (by rw [h]) : ¬ x = y), bne_iff_ne.2 e_Word]; rfl
  rw [show (x.Word != y.Word) = false by rw [e_Word]; exact bne_self_eq_false _, cond_false]
  rw [decide_eq_true (by cases x; cases y; simp_all : x = y)]

theorem eqMove_eq (x y : Move) : m_laws_eqMove x y = some (decide (x = y)) := by
  unfold m_laws_eqMove
  rw [eqPlay_eq x.Play y.Play, Option.bind_some]
  by_cases e_Play : x.Play = y.Play
  case neg => rw [decide_eq_false e_Play, decide_eq_false (fun h => e_Play (by rw [h]) : ¬ x = y)]; rfl
  rw [decide_eq_true e_Play, Bool.not_true, cond_false]
  by_cases e_Score : x.Score = y.Score
  case neg => rw [decide_eq_false (fun h => e_Score (by rw [h]) : ¬ x = y), bne_iff_ne.2 e_Score]; rfl
  rw [show (x.Score != y.Score) = false by rw [e_Score]; exact bne_self_eq_false _, cond_false]
  rw [decide_eq_true (by cases x; cases y; simp_all : x = y)]

theorem eqNote_eq (x y : Note) : m_laws_eqNote x y = some (decide (x = y)) := by
  unfold m_laws_eqNote
  by_cases e_Score : x.Score = y.Score
  case neg => rw [decide_eq_false (fun h => e_Score (by rw [h]) : ¬ x = y), bne_iff_ne.2 e_Score]; rfl
  rw [show (x.Score != y.Score) = false by rw [e_Score]; exact bne_self_eq_false _, cond_false]
  rw [eqMove_eq x.Best y.Best, Option.bind_some]
  by_cases e_Best : x.Best = y.Best
  case neg => rw [decide_eq_false e_Best, decide_eq_false (fun h => e_Best (by rw [h]) : ¬ x = y)]; rfl
  rw [decide_eq_true e_Best, Bool.not_true, cond_false]
  by_cases e_Loss : x.Loss = y.Loss
  case neg => rw [decide_eq_false (fun h => e_Loss (by rw [h]) : ¬ x = y), bne_iff_ne.2 e_Loss]; rfl
  rw [show (x.Loss != y.Loss) = false by rw [e_Loss]; exact bne_self_eq_false _, cond_false]
  by_cases e_Rank : x.Rank = y.Rank
  case neg => rw [decide_eq_false (fun h => e_Rank (by rw [h]) : ¬ x = y), bne_iff_ne.2 e_Rank]; rfl
  rw [show (x.Rank != y.Rank) = false by rw [e_Rank]; exact bne_self_eq_false _, cond_false]
  rw [decide_eq_true (by cases x; cases y; simp_all : x = y)]

theorem eqNoteS_eq (x y : (List Note)) (h : sm_NoteS x) : m_laws_eqNoteS x y = some (decide (x = y)) := by
  unfold m_laws_eqNoteS
  exact eqS_gen m_laws_eqNote x y (by unfold sm_NoteS at h; have := h; omega) (fun a b => eqNote_eq a b)

def bulk_Board (x : Board) : Nat := x.Premium.length + x.Cells.length

theorem szBoard_eq (x : Board) (h : Lies BoardRep x) (l : Int) (h0 : 0 ≤ l) (h1 : l ≤ 1048576) : m_laws_szBoard x l = some (szR (bulk_Board x) l) := by
  obtain ⟨w, S, row, h⟩ := h
  obtain ⟨_, q0, q1, q2⟩ := BoardRep_open h
  unfold m_laws_szBoard
  rw [sz_len x.Premium.length (l) (by omega) (by omega) q1]
  split
  · rw [sz_len x.Cells.length (l - (x.Premium.length : Nat)) (by omega) (by omega) q2]
    split
    · unfold szR bulk_Board
      rw [if_pos (by push_cast; omega)]
      try (congr 1; push_cast; omega)
    · unfold szR bulk_Board
      rw [if_neg (by push_cast; omega)]
  · unfold szR bulk_Board
    rw [if_neg (by push_cast; omega)]

def bulk_End (x : End) : Nat := bulk_Board x.Board + x.Mine.length + x.Theirs.length

theorem szEnd_eq (x : End) (h : Lies EndRep x) (l : Int) (h0 : 0 ≤ l) (h1 : l ≤ 1048576) : m_laws_szEnd x l = some (szR (bulk_End x) l) := by
  obtain ⟨w, S, row, h⟩ := h
  obtain ⟨_, q0, q1, q2, q3, q4⟩ := EndRep_open h
  unfold m_laws_szEnd
  rw [sz_sub (bulk_Board x.Board) (l) (by omega) (szBoard_eq x.Board ⟨w, S, _, BoardRep_mk q0 q1 q2⟩ (l) (by omega) (by omega))]
  split
  · rw [sz_len x.Mine.length (l - (bulk_Board x.Board : Nat)) (by omega) (by omega) q3]
    split
    · rw [sz_len x.Theirs.length (l - (bulk_Board x.Board : Nat) - (x.Mine.length : Nat)) (by omega) (by omega) q4]
      split
      · unfold szR bulk_End
        rw [if_pos (by push_cast; omega)]
        try (congr 1; push_cast; omega)
      · unfold szR bulk_End
        rw [if_neg (by push_cast; omega)]
    · unfold szR bulk_End
      rw [if_neg (by push_cast; omega)]
  · unfold szR bulk_End
    rw [if_neg (by push_cast; omega)]

theorem toBoard_eq (x : Board) : m_laws_toBoard x = some x := by
  unfold m_laws_toBoard
  rfl

theorem toEnd_eq (x : End) : m_laws_toEnd x = some x := by
  unfold m_laws_toEnd
  simp only [toBoard_eq x.Board, Option.bind_some]

end Go.Proofs.Ytdngdgjlcfbdhaa
