/- Draws. -/
import Derived.Test.YtgmbcolpchckbaaPureZ3
import Derived.Test.YtgmbcolpchckbaaPureT
namespace Go.Proofs.Ytgmbcolpchckbaa
open Go Go.RowKit
set_option linter.unusedSimpArgs false
set_option linter.unusedVariables false

theorem sorted_of : ∀ {s : Str}, (∀ i (h : i + 1 < s.length), (s[i]'(by omega)).toNat ≤ (s[i + 1]).toNat) → SortedB s
  | [], _ => trivial
  | [x], _ => ⟨fun y hy => by simp at hy, trivial⟩
  | x :: z :: t, h => by
    have ht : SortedB (z :: t) := sorted_of fun i hi => h (i + 1) (by simpa using hi)
    have hx : x.toNat ≤ z.toNat := h 0 (by simp)
    refine ⟨fun y hy => ?_, ht⟩
    rcases List.mem_cons.1 hy with rfl | hy
    · exact hx
    · exact Nat.le_trans hx (ht.1 y hy)
theorem pile_sorted {s : Str} (h : pileB s = true) : SortedB s ∧ Tiles s := by
  unfold pileB at h
  obtain ⟨h, h3⟩ := Bool.and_eq_true_iff.1 h
  obtain ⟨h1, h2⟩ := Bool.and_eq_true_iff.1 h
  refine ⟨sorted_of fun i hi => ?_, tiles_of h2⟩
  unfold upB at h3
  have := allI_iff.1 h3 (i + 1) (by omega) (by omega)
  unfold upAt at this
  rw [Nat.add_sub_cancel, List.getElem?_eq_getElem (by omega : i < s.length), List.getElem?_eq_getElem hi] at this
  simp only [Bool.not_eq_true', decide_eq_false_iff_not] at this
  rcases Nat.lt_or_ge (s[i + 1]).toNat (s[i]'(by omega)).toNat with hl | hl
  · exact absurd (UInt8.lt_iff_toNat_lt.2 hl) this
  · exact hl
theorem subsP_sorted {s : Str} {n : Nat} : SortedB s → ∀ y ∈ subsP s n, SortedB y := by
  refine subs_ind (Q := fun s n => SortedB s → ∀ y ∈ subsP s n, SortedB y) (fun s _ y hy => ?_) (fun n _ y hy => ?_) (fun x t n h1 h2 hs y hy => ?_) s.length s n (Nat.le_refl _)
  · rw [subsP_zero, List.mem_singleton] at hy
    rw [hy]; trivial
  · rw [subsP_nil] at hy; cases hy
  · rw [subsP_cons, List.mem_append] at hy
    rcases hy with hy | hy
    · obtain ⟨z, hz, rfl⟩ := List.mem_map.1 hy
      exact ⟨fun b hb => hs.1 b (subsP_mem z hz b hb), h1 hs.2 z hz⟩
    · exact h2 hs.2.dropWhile y hy
def drawsL (s : Str) (n : Nat) : List Drawn := (subsP s n).map fun y => ⟨y, ((waysN s y 27 : Nat) : Int)⟩
theorem map_take {α β : Type} (f : α → β) (l : List α) (i : Nat) (h : i < l.length) : (l.map f).take (i + 1) = (l.map f).take i ++ [f l[i]] := by
  rw [List.take_add_one, List.getElem?_map, List.getElem?_eq_getElem h]
  rfl
section
variable {s : Str} {n : Nat} (hs : SortedB s) (ht : Tiles s) (hl : s.length ≤ 12) (hn : n ≤ s.length)
include hs ht hl hn
theorem subs_small : (subsP s n).length ≤ 4096 ∧ ∀ y ∈ subsP s n, y.length ≤ 12 ∧ Tiles y ∧ SortedB y := by
  have hcount := subsP_count (s := s) (n := n)
  have h12 : 2 ^ s.length ≤ 2 ^ 12 := Nat.pow_le_pow_right (by omega) hl
  refine ⟨by omega, fun y hy => ⟨by have := subsP_len_each y hy; omega, fun b hb => ht b (subsP_mem y hy b hb), subsP_sorted hs y hy⟩⟩
theorem draws_eq : m_impl_draws s (n : Int) = some (drawsL s n) := by
  obtain ⟨hc, hy⟩ := subs_small hs ht hl hn
  unfold m_impl_draws
  rw [countsOf_eq s ht (by omega), Option.bind_some, chk_in (by omega) (by omega), Option.bind_some, someDraws_eq s n hs ht hl hn, Option.bind_some]
  have h := loop_run (step := fun q : (List Drawn) × Int => m_impl_draws_l1 (subsP s n) (cnt s) q.1 q.2) (fun i => ((drawsL s n).take i, (i : Int))) (subsP s n).length (drawsL s n) (fun i hi => by
      obtain ⟨y1, y2, y3⟩ := hy _ (List.getElem_mem hi)
      show m_impl_draws_l1 (subsP s n) (cnt s) ((drawsL s n).take i) (i : Int) = _
      unfold m_impl_draws_l1
      rw [decide_eq_true (by omega : (i : Int) < (subsP s n).length), cond_true, getL_at hi, Option.bind_some, waysToDraw_eq s _ hl y1 y2, Option.bind_some, catL_of (by rw [List.length_take]; simp; omega), Option.bind_some, chk_succ (by omega), Option.bind_some]
      unfold drawsL
      rw [map_take _ _ _ hi])
    (by
      show m_impl_draws_l1 (subsP s n) (cnt s) _ ((subsP s n).length : Int) = _
      unfold m_impl_draws_l1
      rw [decide_eq_false (by omega), List.take_of_length_le (by unfold drawsL; rw [List.length_map]; exact Nat.le_refl _)]
      rfl) 0 (Nat.zero_le _)
  rw [List.take_zero, show ((0 : Nat) : Int) = 0 from rfl] at h
  rw [h]
  rfl
theorem drawsS_eq : m_spec_l21Draws s (n : Int) = some (drawsL s n) := by
  obtain ⟨hc, hy⟩ := subs_small hs ht hl hn
  unfold m_spec_l21Draws
  rw [l03Subs_eq s n (by omega) hs hl, Option.bind_some]
  have h := loop_run (step := fun q : (List Drawn) × Int => m_spec_l21Draws_l1 (subsP s n) s q.1 q.2) (fun i => ((drawsL s n).take i, (i : Int))) (subsP s n).length (drawsL s n) (fun i hi => by
      obtain ⟨y1, y2, y3⟩ := hy _ (List.getElem_mem hi)
      show m_spec_l21Draws_l1 (subsP s n) s ((drawsL s n).take i) (i : Int) = _
      unfold m_spec_l21Draws_l1
      rw [decide_eq_true (by omega : (i : Int) < (subsP s n).length), cond_true, getL_at hi, Option.bind_some, Option.bind_some, waysS_eq s _ hl y1 y2 y3, Option.bind_some, catL_of (by rw [List.length_take]; simp; omega), Option.bind_some, chk_succ (by omega), Option.bind_some]
      unfold drawsL
      rw [map_take _ _ _ hi])
    (by
      show m_spec_l21Draws_l1 (subsP s n) s _ ((subsP s n).length : Int) = _
      unfold m_spec_l21Draws_l1
      rw [decide_eq_false (by omega), List.take_of_length_le (by unfold drawsL; rw [List.length_map]; exact Nat.le_refl _)]
      rfl) 0 (Nat.zero_le _)
  rw [List.take_zero, show ((0 : Nat) : Int) = 0 from rfl] at h
  rw [h]
  rfl
end

end Go.Proofs.Ytgmbcolpchckbaa
