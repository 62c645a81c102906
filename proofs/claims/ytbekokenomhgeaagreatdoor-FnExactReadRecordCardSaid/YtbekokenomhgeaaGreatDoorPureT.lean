/- What the laws' helpers compute. Printed by lawpure.py. -/
import Derived.Test.YtbekokenomhgeaaGreatDoorPureA
namespace Go.Proofs.YtbekokenomhgeaaGreatDoor
open Go Go.RowKit
set_option linter.unusedSimpArgs false
set_option linter.unusedVariables false

theorem eqPlay_eq (x y : Play) : m_laws_eqPlay x y = some (decide (x = y)) := by
  unfold m_laws_eqPlay
  by_cases e_Row : x.Row = y.Row
  case neg => rw [decide_eq_false (fun h => e_Row (by rw [h]) : ¬ x = y), bne_iff_ne.2 e_Row]; rfl
  rw [show (x.Row != y.Row) = false by rw [e_Row]; exact bne_self_eq_false _, cond_false]
  by_cases e_Col : x.Col = y.Col
  case neg => rw [decide_eq_false (fun h => e_Col (by rw [h]) : ¬ x = y), bne_iff_ne.2 e_Col]; rfl
  rw [show (x.Col != y.Col) = false by rw [e_Col]; exact bne_self_eq_false _, cond_false]
  by_cases e_Down : x.Down = y.Down
  case neg => rw [decide_eq_false (fun h => e_Down (by rw [h]) : ¬ x = y), bne_iff_ne.2 e_Down]; rfl
  rw [show (x.Down != y.Down) = false by rw [e_Down]; exact bne_self_eq_false _, cond_false]
  by_cases e_Word : x.Word = y.Word
  case neg => rw [decide_eq_false (fun h => e_Word (by rw [h]) : ¬ x = y), bne_iff_ne.2 e_Word]; rfl
  rw [show (x.Word != y.Word) = false by rw [e_Word]; exact bne_self_eq_false _, cond_false]
  rw [decide_eq_true (by cases x; cases y; simp_all : x = y)]

theorem eqAction_eq (x y : Action) : m_laws_eqAction x y = some (decide (x = y)) := by
  unfold m_laws_eqAction
  by_cases e_Kind : x.Kind = y.Kind
  case neg => rw [decide_eq_false (fun h => e_Kind (by rw [h]) : ¬ x = y), bne_iff_ne.2 e_Kind]; rfl
  rw [show (x.Kind != y.Kind) = false by rw [e_Kind]; exact bne_self_eq_false _, cond_false]
  rw [eqPlay_eq x.Play y.Play, Option.bind_some]
  by_cases e_Play : x.Play = y.Play
  case neg => rw [decide_eq_false e_Play, decide_eq_false (fun h => e_Play (by rw [h]) : ¬ x = y)]; rfl
  rw [decide_eq_true e_Play, Bool.not_true, cond_false]
  by_cases e_Tiles : x.Tiles = y.Tiles
  case neg => rw [decide_eq_false (fun h => e_Tiles (by rw [h]) : ¬ x = y), bne_iff_ne.2 e_Tiles]; rfl
  rw [show (x.Tiles != y.Tiles) = false by rw [e_Tiles]; exact bne_self_eq_false _, cond_false]
  by_cases e_Seconds : x.Seconds = y.Seconds
  case neg => rw [decide_eq_false (fun h => e_Seconds (by rw [h]) : ¬ x = y), bne_iff_ne.2 e_Seconds]; rfl
  rw [show (x.Seconds != y.Seconds) = false by rw [e_Seconds]; exact bne_self_eq_false _, cond_false]
  rw [decide_eq_true (by cases x; cases y; simp_all : x = y)]

def sm_ActionS (x : (List Action)) : Prop := x.length ≤ 100000000

theorem eqActionS_eq (x y : (List Action)) (h : sm_ActionS x) : m_laws_eqActionS x y = some (decide (x = y)) := by
  unfold m_laws_eqActionS
  exact eqS_gen m_laws_eqAction x y (by unfold sm_ActionS at h; have := h; omega) (fun a b => eqAction_eq a b)

def sm_Record (x : Record) : Prop := sm_ActionS x.Actions

theorem eqRecord_eq (x y : Record) (h : sm_Record x) : m_laws_eqRecord x y = some (decide (x = y)) := by
  unfold m_laws_eqRecord
  by_cases e_Seed : x.Seed = y.Seed
  case neg => rw [decide_eq_false (fun h => e_Seed (by rw [h]) : ¬ x = y), bne_iff_ne.2 e_Seed]; rfl
  rw [show (x.Seed != y.Seed) = false by rw [e_Seed]; exact bne_self_eq_false _, cond_false]
  rw [eqActionS_eq x.Actions y.Actions h, Option.bind_some]
  by_cases e_Actions : x.Actions = y.Actions
  case neg => rw [decide_eq_false e_Actions, decide_eq_false (fun h => e_Actions (by rw [h]) : ¬ x = y)]; rfl
  rw [decide_eq_true e_Actions, Bool.not_true, cond_false]
  rw [decide_eq_true (by cases x; cases y; simp_all : x = y)]

noncomputable def mk_ActionS (k : Int) : Action := (⟨k, ⟨k + 1, k + 1 + 1, (k + 1 + 1 + 1).tmod 3 == 0, mtext (k + 1 + 1 + 1 + 1)⟩, mtext (k + 1 + 1 + 1 + 1 + 1), k + 1 + 1 + 1 + 1 + 1 + 1⟩ : Action)

theorem markActionS_step (xs : List Action) (k : Int) (i : Nat) (hi : i < xs.length) (hi9 : i ≤ 1000000000) (h0 : 0 ≤ k) (h1 : k ≤ 10000000000 - 20) : m_laws_markActionS_l1 xs k i = some (.inl (xs.set i (mk_ActionS k), k + (7 : Nat), ((i + 1 : Nat) : Int))) := by
  unfold m_laws_markActionS_l1
  have hs : ∀ v : Action, i < (xs.set i v).length := fun v => by rw [List.length_set]; exact hi
  simp only [decide_eq_true (by omega : (i : Int) < (xs.length : Int)), cond_true, getL_at hi, setL_of hi, getL_at (hs _), setL_of (hs _), List.getElem_set_self, List.set_set, Option.bind_some, remI_3, chk_in (by omega : -9000000000000000000 ≤ k + 1) (by omega), chk_in (by omega : -9000000000000000000 ≤ k + 1 + 1) (by omega), chk_in (by omega : -9000000000000000000 ≤ k + 1 + 1 + 1) (by omega), chk_in (by omega : -9000000000000000000 ≤ k + 1 + 1 + 1 + 1) (by omega), chk_in (by omega : -9000000000000000000 ≤ k + 1 + 1 + 1 + 1 + 1) (by omega), chk_in (by omega : -9000000000000000000 ≤ k + 1 + 1 + 1 + 1 + 1 + 1) (by omega), chk_in (by omega : -9000000000000000000 ≤ k + 1 + 1 + 1 + 1 + 1 + 1 + 1) (by omega), markText_m (k + 1 + 1 + 1 + 1) (by omega), markText_m (k + 1 + 1 + 1 + 1 + 1) (by omega), chk_succ (by omega : i ≤ 8000000000000000000)]
  refine congrArg some (congrArg Sum.inl (Prod.ext rfl (Prod.ext ?_ rfl)))
  show _ = k + (7 : Nat)
  push_cast
  omega

theorem heldActionS_step (ys : List Action) (k : Int) (i : Nat) (hy : ys[i]? = some (mk_ActionS k)) (hi9 : i ≤ 1000000000) (h0 : 0 ≤ k) (h1 : k ≤ 10000000000 - 20) : m_laws_heldActionS_l1 ys k i = some (.inl (k + (7 : Nat), ((i + 1 : Nat) : Int))) := by
  have hi : i < ys.length := (List.getElem?_eq_some_iff.1 hy).1
  unfold m_laws_heldActionS_l1
  simp only [decide_eq_true (by omega : (i : Int) < (ys.length : Int)), cond_true, cond_false, getL_nat, hy, mk_ActionS, bne_self_eq_false, Option.bind_some, remI_3, chk_in (by omega : -9000000000000000000 ≤ k + 1) (by omega), chk_in (by omega : -9000000000000000000 ≤ k + 1 + 1) (by omega), chk_in (by omega : -9000000000000000000 ≤ k + 1 + 1 + 1) (by omega), chk_in (by omega : -9000000000000000000 ≤ k + 1 + 1 + 1 + 1) (by omega), chk_in (by omega : -9000000000000000000 ≤ k + 1 + 1 + 1 + 1 + 1) (by omega), chk_in (by omega : -9000000000000000000 ≤ k + 1 + 1 + 1 + 1 + 1 + 1) (by omega), chk_in (by omega : -9000000000000000000 ≤ k + 1 + 1 + 1 + 1 + 1 + 1 + 1) (by omega), markText_m (k + 1 + 1 + 1 + 1) (by omega), markText_m (k + 1 + 1 + 1 + 1 + 1) (by omega), chk_succ (by omega : i ≤ 8000000000000000000)]
  refine congrArg some (congrArg Sum.inl (Prod.ext ?_ rfl))
  show _ = k + (7 : Nat)
  push_cast
  omega

theorem marksActionS (xs : List Action) (hl : xs.length ≤ 100000000) (k0 : Int) (h0 : 0 ≤ k0) (h1 : k0 ≤ 5000000000) : ∃ (ys : List Action) (k' : Int), m_laws_markActionS xs k0 = some (k', ys) ∧ m_laws_heldActionS ys k0 = some k' ∧ 0 ≤ k' ∧ k' ≤ k0 + 20 * xs.length := by
  obtain ⟨ys, k', a1, a2, a3, a4⟩ := marks_both m_laws_markActionS_l1 m_laws_heldActionS_l1 mk_ActionS 7 (by omega) (fun xs k i a b c d => markActionS_step xs k i a b c d)
    (fun xs k => by unfold m_laws_markActionS_l1; rw [decide_eq_false (by omega)]; rfl) (fun ys k i a b c d => heldActionS_step ys k i a b c d) (fun ys k => by unfold m_laws_heldActionS_l1; rw [decide_eq_false (by omega)]; rfl) xs hl k0 h0 h1
  refine ⟨ys, k', ?_, ?_, a3, a4⟩
  · unfold m_laws_markActionS
    rw [a1]
    rfl
  · unfold m_laws_heldActionS
    rw [a2]
    rfl

end Go.Proofs.YtbekokenomhgeaaGreatDoor
