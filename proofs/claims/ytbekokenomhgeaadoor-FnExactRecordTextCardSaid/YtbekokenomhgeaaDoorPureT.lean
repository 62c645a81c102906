/- What the laws' helpers compute. Printed by lawpure.py. -/
import Derived.Test.YtbekokenomhgeaaDoorPureA
namespace Go.Proofs.YtbekokenomhgeaaDoor
open Go Go.RowKit
set_option linter.unusedSimpArgs false
set_option linter.unusedVariables false

def bulk_Play (x : Play) : Nat := x.Word.length

theorem szPlay_eq (x : Play) (h : Lies PlayRep x) (l : Int) (h0 : 0 ≤ l) (h1 : l ≤ 1048576) : m_laws_szPlay x l = some (szR (bulk_Play x) l) := by
  obtain ⟨w, S, row, h⟩ := h
  obtain ⟨_, q0, q1, q3⟩ := PlayRep_open h
  unfold m_laws_szPlay
  rw [sz_len x.Word.length (l) (by omega) (by omega) q3]
  split
  · unfold szR bulk_Play
    rw [if_pos (by push_cast; omega)]
    try (congr 1; push_cast; omega)
  · unfold szR bulk_Play
    rw [if_neg (by push_cast; omega)]

def bulk_Turn (x : Turn) : Nat := x.Rack.length + bulk_Play x.Play

theorem szTurn_eq (x : Turn) (h : Lies TurnRep x) (l : Int) (h0 : 0 ≤ l) (h1 : l ≤ 1048576) : m_laws_szTurn x l = some (szR (bulk_Turn x) l) := by
  obtain ⟨w, S, row, h⟩ := h
  obtain ⟨_, q0, q2, q3, q5⟩ := TurnRep_open h
  unfold m_laws_szTurn
  rw [sz_len x.Rack.length (l) (by omega) (by omega) q0]
  split
  · rw [sz_sub (bulk_Play x.Play) (l - (x.Rack.length : Nat)) (by omega) (szPlay_eq x.Play ⟨w, S, _, PlayRep_mk q2 q3 q5⟩ (l - (x.Rack.length : Nat)) (by omega) (by omega))]
    split
    · unfold szR bulk_Turn
      rw [if_pos (by push_cast; omega)]
      try (congr 1; push_cast; omega)
    · unfold szR bulk_Turn
      rw [if_neg (by push_cast; omega)]
  · unfold szR bulk_Turn
    rw [if_neg (by push_cast; omega)]

theorem toPlay_eq (x : Play) : m_laws_toPlay x = some x := by
  unfold m_laws_toPlay
  rfl

theorem toTurn_eq (x : Turn) : m_laws_toTurn x = some x := by
  unfold m_laws_toTurn
  simp only [toPlay_eq x.Play, Option.bind_some]

def bulk_Action (x : Action) : Nat := bulk_Play x.Play + x.Tiles.length

theorem szAction_eq (x : Action) (h : Lies ActionRep x) (l : Int) (h0 : 0 ≤ l) (h1 : l ≤ 1048576) : m_laws_szAction x l = some (szR (bulk_Action x) l) := by
  obtain ⟨w, S, row, h⟩ := h
  obtain ⟨_, q0, q1, q2, q4, q5, q6⟩ := ActionRep_open h
  unfold m_laws_szAction
  rw [sz_sub (bulk_Play x.Play) (l) (by omega) (szPlay_eq x.Play ⟨w, S, _, PlayRep_mk q1 q2 q4⟩ (l) (by omega) (by omega))]
  split
  · rw [sz_len x.Tiles.length (l - (bulk_Play x.Play : Nat)) (by omega) (by omega) q5]
    split
    · unfold szR bulk_Action
      rw [if_pos (by push_cast; omega)]
      try (congr 1; push_cast; omega)
    · unfold szR bulk_Action
      rw [if_neg (by push_cast; omega)]
  · unfold szR bulk_Action
    rw [if_neg (by push_cast; omega)]

theorem toAction_eq (x : Action) : m_laws_toAction x = some x := by
  unfold m_laws_toAction
  simp only [toPlay_eq x.Play, Option.bind_some]

def bulk_ActionS (x : (List Action)) : Nat := x.length + bulkS (fun e => bulk_Action e) x

theorem szActionS_eq (x : (List Action)) (h : Lies (sliceRep ActionRep) x) (l : Int) (h0 : 0 ≤ l) (h1 : l ≤ 1048576) : m_laws_szActionS x l = some (szR (bulk_ActionS x) l) := by
  unfold m_laws_szActionS
  exact szS_gen m_laws_szAction (fun e => bulk_Action e) x l h0 h1 h.list.1 (fun e he l h0 h1 => ⟨_, szAction_eq e (h.list.2 e he) l h0 h1, by unfold szR; split <;> omega⟩)

def sm_ActionS (x : (List Action)) : Prop := x.length ≤ 100000000

theorem sm_ActionS_of {x : (List Action)} (h : bulk_ActionS x ≤ 1048576) : sm_ActionS x := by
  unfold bulk_ActionS at h
  unfold sm_ActionS
  omega

def bulk_Record (x : Record) : Nat := bulk_ActionS x.Actions

theorem szRecord_eq (x : Record) (h : Lies RecordRep x) (l : Int) (h0 : 0 ≤ l) (h1 : l ≤ 1048576) : m_laws_szRecord x l = some (szR (bulk_Record x) l) := by
  obtain ⟨w, S, row, h⟩ := h
  obtain ⟨A1, c1, _, q0, q1⟩ := RecordRep_open h
  unfold m_laws_szRecord
  rw [sz_sub (bulk_ActionS x.Actions) (l) (by omega) (szActionS_eq x.Actions ⟨w, S, _, q1⟩ (l) (by omega) (by omega))]
  split
  · unfold szR bulk_Record
    rw [if_pos (by push_cast; omega)]
    try (congr 1; push_cast; omega)
  · unfold szR bulk_Record
    rw [if_neg (by push_cast; omega)]

def sm_Record (x : Record) : Prop := sm_ActionS x.Actions

theorem sm_Record_of {x : Record} (h : bulk_Record x ≤ 1048576) : sm_Record x := by
  unfold bulk_Record at h
  unfold sm_Record
  exact sm_ActionS_of (by omega)

theorem toActionS_eq (x : (List Action)) (h : sm_ActionS x) : m_laws_toActionS x = some x := by
  unfold m_laws_toActionS
  exact toS_gen m_laws_toAction _ x (by unfold sm_ActionS at h; have := h; omega) (fun e he => toAction_eq e)

theorem toRecord_eq (x : Record) (h : sm_Record x) : m_laws_toRecord x = some x := by
  unfold m_laws_toRecord
  simp only [toActionS_eq x.Actions h, Option.bind_some]

theorem eqPlay_eq (x y : Play) : m_laws_eqPlay x y = some (decide (x = y)) := by
  unfold m_laws_eqPlay
  by_cases e_Row : x.Row = y.Row
  case neg => rw [decide_eq_false (fun h => e_Row (by rw [h]) : ¬ x = y), bne_iff_ne.2 e_Row]; rfl
  rw [show (x.Row != y.Row) = false by rw [e_Row]; exact bne_self_eq_false _, cond_false]
  by_cases e_Col : x.Col = y.Col
  case neg => rw [decide_eq_false (fun h => e_Col (by rw [h]) : ¬ x = y), bne_iff_ne.2 e_Col]; rfl
  rw [show (x.Col != y.Col) = false by rw [e_Col]; exact bne_self_eq_false _, cond_false]
  by_cases e_Down : x.Down = y.Down
  case neg => rw [decide_eq_false (fun h => e_Down (by rw [h]) : ¬ x = y), bne_iff_ne.2 e_Down]; rfl
  rw [show (x.Down != y.Down) = false by rw [e_Down]; exact bne_self_eq_false _, cond_false]
  by_cases e_Word : x.Word = y.Word
  case neg => rw [decide_eq_false (fun h => e_Word (by rw [h]) : ¬ x = y), bne_iff_ne.2 e_Word]; rfl
  rw [show (x.Word != y.Word) = false by rw [e_Word]; exact bne_self_eq_false _, cond_false]
  rw [decide_eq_true (by cases x; cases y; simp_all : x = y)]

theorem eqAction_eq (x y : Action) : m_laws_eqAction x y = some (decide (x = y)) := by
  unfold m_laws_eqAction
  by_cases e_Kind : x.Kind = y.Kind
  case neg => rw [decide_eq_false (fun h => e_Kind (by rw [h]) : ¬ x = y), bne_iff_ne.2 e_Kind]; rfl
  rw [show (x.Kind != y.Kind) = false by rw [e_Kind]; exact bne_self_eq_false _, cond_false]
  rw [eqPlay_eq x.Play y.Play, Option.bind_some]
  by_cases e_Play : x.Play = y.Play
  case neg => rw [decide_eq_false e_Play, decide_eq_false (fun h => e_Play (by rw [h]) : ¬ x = y)]; rfl
  rw [decide_eq_true e_Play, Bool.not_true, cond_false]
  by_cases e_Tiles : x.Tiles = y.Tiles
  case neg => rw [decide_eq_false (fun h => e_Tiles (by rw [h]) : ¬ x = y), bne_iff_ne.2 e_Tiles]; rfl
  rw [show (x.Tiles != y.Tiles) = false by rw [e_Tiles]; exact bne_self_eq_false _, cond_false]
  by_cases e_Seconds : x.Seconds = y.Seconds
  case neg => rw [decide_eq_false (fun h => e_Seconds (by rw [h]) : ¬ x = y), bne_iff_ne.2 e_Seconds]; rfl
  rw [show (x.Seconds != y.Seconds) = false by rw [e_Seconds]; exact bne_self_eq_false _, cond_false]
  rw [decide_eq_true (by cases x; cases y; simp_all : x = y)]

theorem eqActionS_eq (x y : (List Action)) (h : sm_ActionS x) : m_laws_eqActionS x y = some (decide (x = y)) := by
  unfold m_laws_eqActionS
  exact eqS_gen m_laws_eqAction x y (by unfold sm_ActionS at h; have := h; omega) (fun a b => eqAction_eq a b)

theorem eqRecord_eq (x y : Record) (h : sm_Record x) : m_laws_eqRecord x y = some (decide (x = y)) := by
  unfold m_laws_eqRecord
  by_cases e_Seed : x.Seed = y.Seed
  case neg => rw [decide_eq_false (fun h => e_Seed (by rw [h]) : ¬ x = y), bne_iff_ne.2 e_Seed]; rfl
  rw [show (x.Seed != y.Seed) = false by rw [e_Seed]; exact bne_self_eq_false _, cond_false]
  rw [eqActionS_eq x.Actions y.Actions h, Option.bind_some]
  by_cases e_Actions : x.Actions = y.Actions
  case neg => rw [decide_eq_false e_Actions, decide_eq_false (fun h => e_Actions (by rw [h]) : ¬ x = y)]; rfl
  rw [decide_eq_true e_Actions, Bool.not_true, cond_false]
  rw [decide_eq_true (by cases x; cases y; simp_all : x = y)]

end Go.Proofs.YtbekokenomhgeaaDoor
