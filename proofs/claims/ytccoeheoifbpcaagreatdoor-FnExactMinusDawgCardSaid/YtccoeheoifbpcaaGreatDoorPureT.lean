/- What the laws' helpers compute. Printed by lawpure.py. -/
import Derived.Test.YtccoeheoifbpcaaGreatDoorPureA
namespace Go.Proofs.YtccoeheoifbpcaaGreatDoor
open Go Go.RowKit
set_option linter.unusedSimpArgs false
set_option linter.unusedVariables false
def bulk_Int64S (x : (List Int)) : Nat := x.length
theorem szInt64S_eq (x : (List Int)) (h : Lies (sliceRep intRep) x) (l : Int) (h0 : 0 ≤ l) (h1 : l ≤ 1048576) : m_laws_szInt64S x l = some (szR (bulk_Int64S x) l) := by
  unfold m_laws_szInt64S
  rw [sz_end x.length l h0 h1 h.list.1]
  rfl
def sm_Int64S (x : (List Int)) : Prop := x.length ≤ 100000000
theorem sm_Int64S_of {x : (List Int)} (h : bulk_Int64S x ≤ 1048576) : sm_Int64S x := by
  unfold bulk_Int64S at h
  unfold sm_Int64S
  omega
def bulk_Node (x : Node) : Nat := x.Letters.length + bulk_Int64S x.Next
theorem szNode_eq (x : Node) (h : Lies NodeRep x) (l : Int) (h0 : 0 ≤ l) (h1 : l ≤ 1048576) : m_laws_szNode x l = some (szR (bulk_Node x) l) := by
  obtain ⟨w, S, row, h⟩ := h
  obtain ⟨A2, c2, _, q1, q2⟩ := NodeRep_open h
  unfold m_laws_szNode
  rw [sz_len x.Letters.length (l) (by omega) (by omega) q1]
  split
  · rw [sz_sub (bulk_Int64S x.Next) (l - (x.Letters.length : Nat)) (by omega) (szInt64S_eq x.Next ⟨w, S, _, q2⟩ (l - (x.Letters.length : Nat)) (by omega) (by omega))]
    split
    · unfold szR bulk_Node
      rw [if_pos (by push_cast; omega)]
      try (congr 1; push_cast; omega)
    · unfold szR bulk_Node
      rw [if_neg (by push_cast; omega)]
  · unfold szR bulk_Node
    rw [if_neg (by push_cast; omega)]
def sm_Node (x : Node) : Prop := sm_Int64S x.Next
theorem sm_Node_of {x : Node} (h : bulk_Node x ≤ 1048576) : sm_Node x := by
  unfold bulk_Node at h
  unfold sm_Node
  exact sm_Int64S_of (by omega)
def bulk_NodeS (x : (List Node)) : Nat := x.length + bulkS (fun e => bulk_Node e) x
theorem szNodeS_eq (x : (List Node)) (h : Lies (sliceRep NodeRep) x) (l : Int) (h0 : 0 ≤ l) (h1 : l ≤ 1048576) : m_laws_szNodeS x l = some (szR (bulk_NodeS x) l) := by
  unfold m_laws_szNodeS
  exact szS_gen m_laws_szNode (fun e => bulk_Node e) x l h0 h1 h.list.1 (fun e he l h0 h1 => ⟨_, szNode_eq e (h.list.2 e he) l h0 h1, by unfold szR; split <;> omega⟩)
def sm_NodeS (x : (List Node)) : Prop := x.length ≤ 100000000 ∧ ∀ e ∈ x, sm_Node e
theorem sm_NodeS_of {x : (List Node)} (h : bulk_NodeS x ≤ 1048576) : sm_NodeS x := by
  unfold bulk_NodeS at h
  unfold sm_NodeS
  refine ⟨by omega, fun e he => sm_Node_of ?_⟩
  have := bulkS_mem (fun e => bulk_Node e) he
  try simp only at this
  omega
def bulk_Dawg (x : Dawg) : Nat := bulk_NodeS x.Nodes
theorem szDawg_eq (x : Dawg) (h : Lies DawgRep x) (l : Int) (h0 : 0 ≤ l) (h1 : l ≤ 1048576) : m_laws_szDawg x l = some (szR (bulk_Dawg x) l) := by
  obtain ⟨w, S, row, h⟩ := h
  obtain ⟨A0, c0, _, q0⟩ := DawgRep_open h
  unfold m_laws_szDawg
  rw [sz_sub (bulk_NodeS x.Nodes) (l) (by omega) (szNodeS_eq x.Nodes ⟨w, S, _, q0⟩ (l) (by omega) (by omega))]
  split
  · unfold szR bulk_Dawg
    rw [if_pos (by push_cast; omega)]
    try (congr 1; push_cast; omega)
  · unfold szR bulk_Dawg
    rw [if_neg (by push_cast; omega)]
def sm_Dawg (x : Dawg) : Prop := sm_NodeS x.Nodes
theorem sm_Dawg_of {x : Dawg} (h : bulk_Dawg x ≤ 1048576) : sm_Dawg x := by
  unfold bulk_Dawg at h
  unfold sm_Dawg
  exact sm_NodeS_of (by omega)
theorem toInt64S_eq (x : (List Int)) (h : sm_Int64S x) : m_laws_toInt64S x = some x := by
  unfold m_laws_toInt64S
  exact toS_gen some _ x (by unfold sm_Int64S at h; have := h; omega) (fun e he => rfl)
theorem toNode_eq (x : Node) (h : sm_Node x) : m_laws_toNode x = some x := by
  unfold m_laws_toNode
  simp only [toInt64S_eq x.Next h, Option.bind_some]
theorem toNodeS_eq (x : (List Node)) (h : sm_NodeS x) : m_laws_toNodeS x = some x := by
  unfold m_laws_toNodeS
  exact toS_gen m_laws_toNode _ x (by unfold sm_NodeS at h; have := h.1; omega) (fun e he => toNode_eq e (h.2 e he))
theorem toDawg_eq (x : Dawg) (h : sm_Dawg x) : m_laws_toDawg x = some x := by
  unfold m_laws_toDawg
  simp only [toNodeS_eq x.Nodes h, Option.bind_some]
theorem eqInt64S_step (x y : (List Int)) (n : Int) : m_laws_eqInt64S_l1 x y n = eqStep (fun (a b : Int) => some (a == b)) x y n := by
  unfold m_laws_eqInt64S_l1 eqStep
  cases decide (n < (x.length : Int))
  · rfl
  · cases getL x n with
    | none => rfl
    | some e =>
      cases getL y n with
      | none => rfl
      | some e' => simp only [cond_true, Option.bind_some]; rfl
theorem eqInt64S_eq (x y : (List Int)) (h : sm_Int64S x) : m_laws_eqInt64S x y = some (decide (x = y)) := by
  unfold m_laws_eqInt64S
  rw [show (fun s : Int => m_laws_eqInt64S_l1 x y s) = fun s => eqStep (fun (a b : Int) => some (a == b)) x y s from funext fun s => eqInt64S_step x y s]
  exact eqS_gen (fun (a b : Int) => some (a == b)) x y (by unfold sm_Int64S at h; have := h; omega) (fun a b => by by_cases e : a = b <;> simp [e])
theorem eqNode_eq (x y : Node) (h : sm_Node x) : m_laws_eqNode x y = some (decide (x = y)) := by
  unfold m_laws_eqNode
  by_cases e_Final : x.Final = y.Final
  case neg => rw [decide_eq_false (fun h => e_Final (by rw [h]) : ¬ x = y), bne_iff_ne.2 e_Final]; rfl
  rw [show (x.Final != y.Final) = false by rw [e_Final]; exact bne_self_eq_false _, cond_false]
  by_cases e_Letters : x.Letters = y.Letters
  case neg => rw [decide_eq_false (fun h => e_Letters (by rw [h]) : ¬ x = y), bne_iff_ne.2 e_Letters]; rfl
  rw [show (x.Letters != y.Letters) = false by rw [e_Letters]; exact bne_self_eq_false _, cond_false]
  rw [eqInt64S_eq x.Next y.Next h, Option.bind_some]
  by_cases e_Next : x.Next = y.Next
  case neg => rw [decide_eq_false e_Next, decide_eq_false (fun h => e_Next (by rw [h]) : ¬ x = y)]; rfl
  rw [decide_eq_true e_Next, Bool.not_true, cond_false]
  rw [decide_eq_true (by cases x; cases y; simp_all : x = y)]
theorem eqNodeS_eq (x y : (List Node)) (h : sm_NodeS x) : m_laws_eqNodeS x y = some (decide (x = y)) := by
  unfold m_laws_eqNodeS
  exact eqS_gen' m_laws_eqNode x y (by unfold sm_NodeS at h; have := h.1; omega) (fun a ha b => eqNode_eq a b (h.2 a ha))
theorem eqDawg_eq (x y : Dawg) (h : sm_Dawg x) : m_laws_eqDawg x y = some (decide (x = y)) := by
  unfold m_laws_eqDawg
  rw [eqNodeS_eq x.Nodes y.Nodes h, Option.bind_some]
  by_cases e_Nodes : x.Nodes = y.Nodes
  case neg => rw [decide_eq_false e_Nodes, decide_eq_false (fun h => e_Nodes (by rw [h]) : ¬ x = y)]; rfl
  rw [decide_eq_true e_Nodes, Bool.not_true, cond_false]
  rw [decide_eq_true (by cases x; cases y; simp_all : x = y)]
noncomputable def mk_Int64S (k : Int) : Int := (k : Int)
theorem markInt64S_step (xs : List Int) (k : Int) (i : Nat) (hi : i < xs.length) (hi9 : i ≤ 1000000000) (h0 : 0 ≤ k) (h1 : k ≤ 10000000000 - 20) : m_laws_markInt64S_l1 xs k i = some (.inl (xs.set i (mk_Int64S k), k + (1 : Nat), ((i + 1 : Nat) : Int))) := by
  unfold m_laws_markInt64S_l1
  have hs : ∀ v : Int, i < (xs.set i v).length := fun v => by rw [List.length_set]; exact hi
  simp only [decide_eq_true (by omega : (i : Int) < (xs.length : Int)), cond_true, getL_at hi, setL_of hi, getL_at (hs _), setL_of (hs _), List.getElem_set_self, List.set_set, Option.bind_some, remI_3, chk_in (by omega : -9000000000000000000 ≤ k + 1) (by omega), chk_succ (by omega : i ≤ 8000000000000000000)]
  refine congrArg some (congrArg Sum.inl (Prod.ext rfl (Prod.ext ?_ rfl)))
  show _ = k + (1 : Nat)
  push_cast
  omega
theorem heldInt64S_step (ys : List Int) (k : Int) (i : Nat) (hy : ys[i]? = some (mk_Int64S k)) (hi9 : i ≤ 1000000000) (h0 : 0 ≤ k) (h1 : k ≤ 10000000000 - 20) : m_laws_heldInt64S_l1 ys k i = some (.inl (k + (1 : Nat), ((i + 1 : Nat) : Int))) := by
  have hi : i < ys.length := (List.getElem?_eq_some_iff.1 hy).1
  unfold m_laws_heldInt64S_l1
  simp only [decide_eq_true (by omega : (i : Int) < (ys.length : Int)), cond_true, cond_false, getL_nat, hy, mk_Int64S, bne_self_eq_false, Option.bind_some, remI_3, chk_in (by omega : -9000000000000000000 ≤ k + 1) (by omega), chk_succ (by omega : i ≤ 8000000000000000000)]
  refine congrArg some (congrArg Sum.inl (Prod.ext ?_ rfl))
  show _ = k + (1 : Nat)
  push_cast
  omega
theorem marksInt64S (xs : List Int) (hl : xs.length ≤ 100000000) (k0 : Int) (h0 : 0 ≤ k0) (h1 : k0 ≤ 5000000000) : ∃ (ys : List Int) (k' : Int), m_laws_markInt64S xs k0 = some (k', ys) ∧ m_laws_heldInt64S ys k0 = some k' ∧ 0 ≤ k' ∧ k' ≤ k0 + 20 * xs.length := by
  obtain ⟨ys, k', a1, a2, a3, a4⟩ := marks_both m_laws_markInt64S_l1 m_laws_heldInt64S_l1 mk_Int64S 1 (by omega) (fun xs k i a b c d => markInt64S_step xs k i a b c d)
    (fun xs k => by unfold m_laws_markInt64S_l1; rw [decide_eq_false (by omega)]; rfl) (fun ys k i a b c d => heldInt64S_step ys k i a b c d) (fun ys k => by unfold m_laws_heldInt64S_l1; rw [decide_eq_false (by omega)]; rfl) xs hl k0 h0 h1
  refine ⟨ys, k', ?_, ?_, a3, a4⟩
  · unfold m_laws_markInt64S
    rw [a1]
    rfl
  · unfold m_laws_heldInt64S
    rw [a2]
    rfl
end Go.Proofs.YtccoeheoifbpcaaGreatDoor
