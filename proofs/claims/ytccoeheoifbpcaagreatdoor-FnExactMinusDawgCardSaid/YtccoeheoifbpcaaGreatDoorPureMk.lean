/- What the laws' marks do to a list of nodes. -/
import Derived.Test.YtccoeheoifbpcaaGreatDoorPureT
namespace Go.Proofs.YtccoeheoifbpcaaGreatDoor
open Go Go.RowKit
set_option linter.unusedSimpArgs false
set_option linter.unusedVariables false
theorem remN_3 (k : Int) : remI k 3 = some (k.tmod 3) := rfl
theorem getL_mid {α : Type} (P t : List α) (x : α) : getL (P ++ x :: t) (P.length : Int) = some x := by
  rw [getL_at (by simp)]
  simp
theorem setL_mid {α : Type} (P t : List α) (x y : α) : setL (P ++ x :: t) (P.length : Int) y = some (P ++ y :: t) := by
  unfold setL
  rw [decide_eq_true (by omega), decide_eq_true (by simp; omega)]
  simp
theorem bulkN_cons (x : Node) (t : List Node) : bulk_NodeS (x :: t) = bulk_NodeS t + 1 + bulk_Node x := by
  unfold bulk_NodeS
  show t.length + 1 + (bulk_Node x + bulkS (fun e => bulk_Node e) t) = _
  omega
theorem bulkN_next (x : Node) : x.Next.length ≤ bulk_Node x := by unfold bulk_Node bulk_Int64S; omega
theorem markI_loop : ∀ (t P : List Int) (k : Int), 0 ≤ k → k + t.length ≤ 8000000000 → (P ++ t).length ≤ 100000000 → ∃ t' : List Int, t'.length = t.length ∧
    loopM (fun s : (List Int) × Int × Int => m_laws_markInt64S_l1 s.1 s.2.1 s.2.2) (P ++ t, k, (P.length : Int)) = some (P ++ t', k + t.length)
  | [], P, k, h0, h1, h2 => by
    refine ⟨[], rfl, loopM_done ?_⟩
    show m_laws_markInt64S_l1 (P ++ []) k (P.length : Int) = _
    unfold m_laws_markInt64S_l1
    rw [decide_eq_false (by simp), cond_false]
    simp
  | x :: t, P, k, h0, h1, h2 => by
    have h2' : P.length + (t.length + 1) ≤ 100000000 := by simpa using h2
    have h1' : k + ((t.length : Int) + 1) ≤ 8000000000 := by simpa using h1
    have hst : m_laws_markInt64S_l1 (P ++ x :: t) k (P.length : Int) = some (.inl ((P ++ [k]) ++ t, k + 1, ((P ++ [k]).length : Int))) := by
      unfold m_laws_markInt64S_l1
      rw [decide_eq_true (by simp; omega), cond_true, getL_mid, Option.bind_some, setL_mid, Option.bind_some, chk_in (by omega) (by omega), Option.bind_some, chk_in (by omega) (by omega), Option.bind_some]
      simp
    obtain ⟨t', g1, g2⟩ := markI_loop t (P ++ [k]) (k + 1) (by omega) (by omega) (by simp; omega)
    refine ⟨k :: t', by simp [g1], ?_⟩
    rw [loopM_next hst, g2]
    simp
    omega
theorem markI_some (xs : List Int) (hl : xs.length ≤ 100000000) (k : Int) (h0 : 0 ≤ k) (h1 : k ≤ 5000000000) : ∃ (ys : List Int) (k' : Int), m_laws_markInt64S xs k = some (k', ys) ∧ 0 ≤ k' ∧ k' ≤ k + 20 * xs.length := by
  obtain ⟨t', g1, g2⟩ := markI_loop xs [] k h0 (by omega) (by simpa using hl)
  have g3 : loopM (fun s : (List Int) × Int × Int => m_laws_markInt64S_l1 s.1 s.2.1 s.2.2) (xs, k, 0) = some (t', k + xs.length) := g2
  refine ⟨t', k + xs.length, ?_, by omega, by omega⟩
  unfold m_laws_markInt64S
  rw [g3]
  rfl
theorem markN_loop : ∀ (t P : List Node) (k : Int), 0 ≤ k → k + 20 * (bulk_NodeS t : Nat) ≤ 2000000000 → (P ++ t).length ≤ 100000000 → ∃ (t' : List Node) (k' : Int),
    loopM (fun s : (List Node) × Int × Int => m_laws_markNodeS_l1 s.1 s.2.1 s.2.2) (P ++ t, k, (P.length : Int)) = some (P ++ t', k') ∧ 0 ≤ k' ∧ k' ≤ k + 20 * (bulk_NodeS t : Nat)
  | [], P, k, h0, h1, h2 => by
    refine ⟨[], k, loopM_done ?_, h0, by omega⟩
    show m_laws_markNodeS_l1 (P ++ []) k (P.length : Int) = _
    unfold m_laws_markNodeS_l1
    rw [decide_eq_false (by simp), cond_false]
  | x :: t, P, k, h0, h1, h2 => by
    have hB := bulkN_cons x t
    have hn := bulkN_next x
    have h2' : P.length + (t.length + 1) ≤ 100000000 := by simpa using h2
    obtain ⟨ys, k3, m1, m3, m4⟩ := markI_some x.Next (by omega) (k + 1 + 1) (by omega) (by omega)
    have hst : m_laws_markNodeS_l1 (P ++ x :: t) k (P.length : Int) = some (.inl ((P ++ [(⟨k.tmod 3 == 0, mtext (k + 1), ys⟩ : Node)]) ++ t, k3, ((P ++ [(⟨k.tmod 3 == 0, mtext (k + 1), ys⟩ : Node)]).length : Int))) := by
      unfold m_laws_markNodeS_l1
      rw [decide_eq_true (by simp; omega), cond_true, remN_3, Option.bind_some, getL_mid, Option.bind_some, setL_mid, Option.bind_some, chk_in (by omega) (by omega), Option.bind_some, markText_m (k + 1) (by omega), Option.bind_some, getL_mid, Option.bind_some, setL_mid, Option.bind_some, chk_in (by omega) (by omega), Option.bind_some, getL_mid, Option.bind_some, m1, Option.bind_some, setL_mid, Option.bind_some, chk_in (by omega) (by omega), Option.bind_some]
      simp
    obtain ⟨t', k', g1, g2, g3⟩ := markN_loop t (P ++ [(⟨k.tmod 3 == 0, mtext (k + 1), ys⟩ : Node)]) k3 m3 (by omega) (by simp; omega)
    refine ⟨(⟨k.tmod 3 == 0, mtext (k + 1), ys⟩ : Node) :: t', k', ?_, g2, by omega⟩
    rw [loopM_next hst, g1]
    simp
theorem markDawg_some (d : Dawg) (hb : bulk_Dawg d ≤ 1048576) (k : Int) (h0 : 0 ≤ k) (h1 : k ≤ 1000000000) : ∃ (ys : List Node) (k' : Int), m_laws_markDawg d k = some (k', ys) ∧ 0 ≤ k' ∧ k' ≤ k + 20 * (bulk_Dawg d : Nat) := by
  have hl : d.Nodes.length ≤ bulk_NodeS d.Nodes := by unfold bulk_NodeS; omega
  have hb' : bulk_NodeS d.Nodes ≤ 1048576 := hb
  obtain ⟨ys, k', g1, g2, g3⟩ := markN_loop d.Nodes [] k h0 (by omega) (by simp; omega)
  refine ⟨ys, k', ?_, g2, g3⟩
  unfold m_laws_markDawg m_laws_markNodeS
  show ((loopM (fun s : (List Node) × Int × Int => m_laws_markNodeS_l1 s.1 s.2.1 s.2.2) ([] ++ d.Nodes, k, ((([] : List Node)).length : Int))).bind _).bind _ = _
  rw [g1]
  rfl
end Go.Proofs.YtccoeheoifbpcaaGreatDoor
