/- ChanceOf: the models of the program and of the reference agree. -/
import Derived.Test.YtgmbcolpchckbaaPureZ6
import Derived.Test.YtgmbcolpchckbaaDrawsOfPure
namespace Go.Proofs.Ytgmbcolpchckbaa
open Go Go.RowKit
set_option linter.unusedSimpArgs false
set_option linter.unusedVariables false

/-- The ways of the first i draws that contain t. -/
def chN (s t : Str) (l : List Str) : Nat → Nat
  | 0 => 0
  | i + 1 => chN s t l i + (if remT (l.getD i []) t = [] then waysN s (l.getD i []) 27 else 0)
theorem chN_succ (s t : Str) (l : List Str) {i : Nat} (h : i < l.length) : chN s t l (i + 1) = chN s t l i + (if remT l[i] t = [] then waysN s l[i] 27 else 0) := by
  rw [chN, List.getD_eq_getElem?_getD, List.getElem?_eq_getElem h]
  rfl
theorem chN_le {s t : Str} {l : List Str} (hs : s.length ≤ 12) (hy : ∀ y ∈ l, y.length ≤ 12) : ∀ i, i ≤ l.length → chN s t l i ≤ i * 8916100448256
  | 0, _ => by simp [chN]
  | i + 1, h => by
    have ih := chN_le (t := t) hs hy i (by omega)
    have hm := waysN_max hs (hy _ (List.getElem_mem (by omega : i < l.length))) (Nat.le_refl 27)
    have hs : (i + 1) * 8916100448256 = i * 8916100448256 + 8916100448256 := Nat.succ_mul _ _
    rw [chN_succ _ _ _ (by omega), hs]
    split
    · exact Nat.add_le_add ih hm
    · exact Nat.le_trans (Nat.add_le_add ih (Nat.zero_le _)) (Nat.le_refl _)
section
variable {s : Str} {n : Nat} (hs : SortedB s) (ht : Tiles s) (hl : s.length ≤ 12) (hn : n ≤ s.length) (t : Str) (hp : pileB t = true) (hlt : t.length ≤ 120)
include hs ht hl hn hp hlt
theorem chance_fold : m_impl_fold_impl_Drawn_int64 (drawsL s n) 0 (fun u44 u46 => m_impl_ChanceOf_1 u44 u46 t) = some ((chN s t (subsP s n) (subsP s n).length : Nat) : Int) := by
  obtain ⟨hc, hy⟩ := subs_small hs ht hl hn
  obtain ⟨q1, q2⟩ := pile_sorted hp
  have hlen : (drawsL s n).length = (subsP s n).length := by unfold drawsL; rw [List.length_map]
  unfold m_impl_fold_impl_Drawn_int64
  have h := loop_run (step := fun q : Int × Int => m_impl_fold_impl_Drawn_int64_l1 (drawsL s n) (fun u44 u46 => m_impl_ChanceOf_1 u44 u46 t) q.1 q.2) (fun i => (((chN s t (subsP s n) i : Nat) : Int), (i : Int))) (subsP s n).length ((chN s t (subsP s n) (subsP s n).length : Nat) : Int) (fun i hi => by
      obtain ⟨y1, y2, y3⟩ := hy _ (List.getElem_mem hi)
      have hb := chN_le (t := t) hl (fun y hy' => (hy y hy').1) (i + 1) (by omega)
      have hb' := chN_succ s t (subsP s n) hi
      have hge : (drawsL s n)[i]'(by omega) = ⟨(subsP s n)[i], ((waysN s (subsP s n)[i] 27 : Nat) : Int)⟩ := by
        unfold drawsL
        rw [List.getElem_map]
      obtain ⟨p, ep⟩ := without_eq (subsP s n)[i] t y3 q1 y2 q2 (by omega) (by omega)
      show m_impl_fold_impl_Drawn_int64_l1 (drawsL s n) _ ((chN s t (subsP s n) i : Nat) : Int) (i : Int) = _
      unfold m_impl_fold_impl_Drawn_int64_l1 m_impl_ChanceOf_1
      rw [decide_eq_true (by omega : (i : Int) < (drawsL s n).length), cond_true, getL_at (by omega), Option.bind_some, hge]
      simp only
      rw [ep, Option.bind_some]
      by_cases hr : remT (subsP s n)[i] t = []
      · rw [if_pos hr] at hb'
        rw [decide_eq_true hr, cond_true, chk_to ((chN s t (subsP s n) (i + 1) : Nat) : Int) (by omega) (by omega) (by omega), Option.bind_some, Option.bind_some, Option.bind_some, chk_succ (by omega), Option.bind_some]
      · rw [if_neg hr] at hb'
        rw [decide_eq_false hr, cond_false, Option.bind_some, Option.bind_some, chk_succ (by omega), Option.bind_some, hb']
        rfl)
    (by
      show m_impl_fold_impl_Drawn_int64_l1 (drawsL s n) _ _ ((subsP s n).length : Int) = _
      unfold m_impl_fold_impl_Drawn_int64_l1
      rw [decide_eq_false (by omega)]
      rfl) 0 (Nat.zero_le _)
  rw [show (((chN s t (subsP s n) 0 : Nat) : Int), ((0 : Nat) : Int)) = ((0 : Int), (0 : Int)) from rfl] at h
  rw [h]
  rfl
theorem chance_loop : loopM (fun q : Int × Int => m_spec_ChanceOf_l1 (drawsL s n) t q.1 q.2) (0, 0) = some ((chN s t (subsP s n) (subsP s n).length : Nat) : Int) := by
  obtain ⟨hc, hy⟩ := subs_small hs ht hl hn
  have hlen : (drawsL s n).length = (subsP s n).length := by unfold drawsL; rw [List.length_map]
  have h := loop_run (step := fun q : Int × Int => m_spec_ChanceOf_l1 (drawsL s n) t q.1 q.2) (fun i => (((chN s t (subsP s n) i : Nat) : Int), (i : Int))) (subsP s n).length ((chN s t (subsP s n) (subsP s n).length : Nat) : Int) (fun i hi => by
      obtain ⟨y1, y2, y3⟩ := hy _ (List.getElem_mem hi)
      have hb := chN_le (t := t) hl (fun y hy' => (hy y hy').1) (i + 1) (by omega)
      have hb' := chN_succ s t (subsP s n) hi
      have hge : (drawsL s n)[i]'(by omega) = ⟨(subsP s n)[i], ((waysN s (subsP s n)[i] 27 : Nat) : Int)⟩ := by
        unfold drawsL
        rw [List.getElem_map]
      show m_spec_ChanceOf_l1 (drawsL s n) t ((chN s t (subsP s n) i : Nat) : Int) (i : Int) = _
      unfold m_spec_ChanceOf_l1
      rw [decide_eq_true (by omega : (i : Int) < (drawsL s n).length), cond_true, getL_at (by omega), Option.bind_some, Option.bind_some, hge]
      simp only
      rw [containsS_eq _ t (pile_of y3 y2 (by omega)) hp (by omega) (by omega), Option.bind_some]
      by_cases hr : remT (subsP s n)[i] t = []
      · rw [if_pos hr] at hb'
        rw [decide_eq_true hr, cond_true, chk_to ((chN s t (subsP s n) (i + 1) : Nat) : Int) (by omega) (by omega) (by omega), Option.bind_some, Option.bind_some, chk_succ (by omega), Option.bind_some]
      · rw [if_neg hr] at hb'
        rw [decide_eq_false hr, cond_false, Option.bind_some, chk_succ (by omega), Option.bind_some, hb']
        rfl)
    (by
      show m_spec_ChanceOf_l1 (drawsL s n) t _ ((subsP s n).length : Int) = _
      unfold m_spec_ChanceOf_l1
      rw [decide_eq_false (by omega)]
      rfl) 0 (Nat.zero_le _)
  exact h
end
theorem pileB_len {t : Str} (h : pileB t = true) : t.length ≤ 120 := by
  unfold pileB at h
  obtain ⟨h, h3⟩ := Bool.and_eq_true_iff.1 h
  obtain ⟨h1, h2⟩ := Bool.and_eq_true_iff.1 h
  exact of_decide_eq_true h1
def chanceR (s : Str) (n : Int) (t : Str) : Int × Int := bif !poolB s || !pileB t then (0, 1) else bif codeR s n == 0 then (((chN s t (subsP s n.toNat) (subsP s n.toNat).length : Nat) : Int), 0) else (0, codeR s n)
theorem ChanceOf_eq (s : Str) (n : Int) (t : Str) (hl : s.length ≤ 1048576) (hlt : t.length ≤ 1048576) : m_impl_ChanceOf s n t = some (chanceR s n t) := by
  unfold m_impl_ChanceOf chanceR
  rw [isPool_eq s (by omega), Option.bind_some, drawCode_eq s n (by omega)]
  cases hp : poolB s
  · rfl
  rw [Bool.not_true, cond_false, ValidPile_eq t (by omega), Option.bind_some, Option.bind_some]
  cases hq : pileB t
  · rfl
  rw [Bool.not_true, cond_false, Bool.or_false, cond_false, Option.bind_some]
  by_cases h0 : codeR s n = 0
  · obtain ⟨p1, p2, p3, p4, p5⟩ := code_zero h0
    obtain ⟨hs, ht⟩ := pile_sorted p1
    obtain ⟨m, rfl⟩ : ∃ m : Nat, n = m := ⟨n.toNat, by omega⟩
    rw [h0, bne_self_eq_false, cond_false, beq_self_eq_true, cond_true, draws_eq hs ht p2 (by omega), Option.bind_some, chance_fold hs ht p2 (by omega) t hq (pileB_len hq), Option.bind_some, Int.toNat_natCast]
  · rw [bne_iff_ne.2 h0, beq_eq_false_iff_ne.2 h0]
    rfl
theorem ChanceOfS_eq (s : Str) (n : Int) (t : Str) (hl : s.length ≤ 1048576) (hlt : t.length ≤ 1048576) : m_spec_ChanceOf s n t = some (chanceR s n t) := by
  unfold m_spec_ChanceOf chanceR
  rw [l21Pool_eq s (by omega), Option.bind_some, l21Code_eq s n (by omega)]
  cases hp : poolB s
  · rfl
  rw [Bool.not_true, cond_false, l03Pile_eq t (by omega), Option.bind_some, Option.bind_some]
  cases hq : pileB t
  · rfl
  rw [Bool.not_true, cond_false, Bool.or_false, cond_false, Option.bind_some]
  by_cases h0 : codeR s n = 0
  · obtain ⟨p1, p2, p3, p4, p5⟩ := code_zero h0
    obtain ⟨hs, ht⟩ := pile_sorted p1
    obtain ⟨m, rfl⟩ : ∃ m : Nat, n = m := ⟨n.toNat, by omega⟩
    rw [h0, bne_self_eq_false, cond_false, beq_self_eq_true, cond_true, drawsS_eq hs ht p2 (by omega), Option.bind_some, chance_loop hs ht p2 (by omega) t hq (pileB_len hq), Option.bind_some, Option.bind_some, Int.toNat_natCast]
  · rw [bne_iff_ne.2 h0, beq_eq_false_iff_ne.2 h0]
    rfl
theorem m_laws_FnExactChanceOf_true (s : Str) (n : Int) (t : Str) (h : Lies strRep s) (h' : Lies intRep n) (h'' : Lies strRep t) : m_laws_FnExactChanceOf s n t = some true := by
  unfold m_laws_FnExactChanceOf
  by_cases hc : s.length ≤ 1048576
  case neg => rw [decide_eq_true (by omega)]; rfl
  by_cases hd : t.length ≤ 1048576
  case neg => rw [decide_eq_false (by omega), cond_false, decide_eq_true (by omega)]; rfl
  rw [decide_eq_false (by omega), cond_false, decide_eq_false (by omega), cond_false, ChanceOfS_eq s n t hc hd, ChanceOf_eq s n t hc hd, Option.bind_some, Option.bind_some, bne_self_eq_false, cond_false, Option.bind_some, bne_self_eq_false]
  rfl

end Go.Proofs.Ytgmbcolpchckbaa
