/- The program's way through the sub-piles: by counts of tiles. -/
import Derived.Test.YtbekokenomhgeaaGreatDoorPureX
namespace Go.Proofs.YtbekokenomhgeaaGreatDoor
open Go Go.RowKit
set_option linter.unusedSimpArgs false
set_option linter.unusedVariables false

def tileK (k : Nat) : UInt8 := if k = 0 then 63 else UInt8.ofNat (96 + k)

theorem tileK_nat {k : Nat} (h : k < 27) : (tileK k).toNat = if k = 0 then 63 else 96 + k := by
  unfold tileK
  split
  · rfl
  · rw [UInt8.toNat_ofNat']; omega

theorem tileK_lt {i j : Nat} (h : i < j) (hj : j < 27) : (tileK i).toNat < (tileK j).toNat := by
  rw [tileK_nat (by omega), tileK_nat hj]
  split <;> split <;> omega

theorem tileK_inj {i j : Nat} (hi : i < 27) (hj : j < 27) (h : tileK i = tileK j) : i = j := by
  rcases Nat.lt_trichotomy i j with hl | he | hl
  · have := tileK_lt hl hj; rw [h] at this; omega
  · exact he
  · have := tileK_lt hl hi; rw [h] at this; omega

theorem tileAt_eq {k : Nat} (h : k < 27) : m_impl_tileAt (k : Int) = some (tileK k) := by
  unfold m_impl_tileAt tileK
  by_cases h0 : k = 0
  · subst h0; rfl
  · rw [beq_eq_false_iff_ne.2 (by omega), cond_false, chk_in (by omega) (by omega), Option.bind_some, chk_in (by omega) (by omega), Option.bind_some, if_neg h0]
    congr 2
    omega

theorem count_drop {x y : UInt8} (h : x ≠ y) : ∀ t : Str, (t.dropWhile (· == x)).count y = t.count y
  | [] => rfl
  | z :: t => by
    rw [List.dropWhile_cons]
    by_cases hz : z = x
    · rw [if_pos (beq_iff_eq.2 hz), count_drop h t, List.count_cons, beq_eq_false_iff_ne.2 (by rw [hz]; exact h)]
      simp
    · rw [if_neg (fun e => hz (beq_iff_eq.1 e))]

/-- From k on, c counts the tiles of s. -/
def Cov (c : List Int) (s : Str) (k : Nat) : Prop := c.length = 27 ∧ (∀ j, k ≤ j → j < 27 → c[j]? = some ((s.count (tileK j) : Nat) : Int)) ∧ SortedB s ∧ (∀ y ∈ s, ∃ j, k ≤ j ∧ j < 27 ∧ y = tileK j) ∧ s.length ≤ 12

theorem Cov.skip {c : List Int} {s : Str} {k : Nat} (h : Cov c s k) (h0 : s.count (tileK k) = 0) : Cov c s (k + 1) := by
  obtain ⟨h1, h2, h3, h4, h5⟩ := h
  refine ⟨h1, fun j hj => h2 j (by omega), h3, fun y hy => ?_, h5⟩
  obtain ⟨j, j1, j2, rfl⟩ := h4 y hy
  refine ⟨j, ?_, j2, rfl⟩
  rcases Nat.eq_or_lt_of_le j1 with rfl | hl
  · exact absurd hy (List.count_eq_zero.1 h0)
  · exact hl

theorem Cov.head {c : List Int} {s : Str} {k : Nat} (h : Cov c s k) (hk : k < 27) (h0 : s.count (tileK k) ≠ 0) : ∃ t, s = tileK k :: t := by
  obtain ⟨h1, h2, h3, h4, h5⟩ := h
  have hm : tileK k ∈ s := List.count_pos_iff.1 (by omega)
  cases s with
  | nil => cases hm
  | cons y t =>
    obtain ⟨j, j1, j2, rfl⟩ := h4 y List.mem_cons_self
    rcases List.mem_cons.1 hm with e | hm
    · exact ⟨t, by rw [e]⟩
    · have hle := h3.1 _ hm
      rcases Nat.eq_or_lt_of_le j1 with rfl | hl
      · exact ⟨t, rfl⟩
      · have := tileK_lt hl j2
        omega

theorem Cov.take {c : List Int} {t : Str} {k : Nat} (h : Cov c (tileK k :: t) k) (hk : k < 27) : Cov (c.set k ((t.count (tileK k) : Nat) : Int)) t k := by
  obtain ⟨h1, h2, h3, h4, h5⟩ := h
  refine ⟨by rw [List.length_set]; exact h1, fun j hj hj' => ?_, h3.2, fun y hy => h4 y (List.mem_cons_of_mem _ hy), by simp at h5; omega⟩
  by_cases e : k = j
  · subst e
    rw [List.getElem?_set_self (by omega)]
  · rw [List.getElem?_set_ne e, h2 j hj hj', List.count_cons, beq_eq_false_iff_ne.2 (fun e' => e (tileK_inj hk hj' e'))]
    simp

theorem Cov.rest {c : List Int} {t : Str} {k : Nat} (h : Cov c (tileK k :: t) k) (hk : k < 27) : Cov c (t.dropWhile (· == tileK k)) (k + 1) := by
  obtain ⟨h1, h2, h3, h4, h5⟩ := h
  have hl := dropWhile_len (· == tileK k) t
  refine ⟨h1, fun j hj hj' => ?_, h3.2.dropWhile, fun y hy => ?_, by simp at h5; omega⟩
  · have hne : tileK k ≠ tileK j := fun e => by have := tileK_inj hk hj' e; omega
    rw [h2 j (by omega) hj', count_drop hne, List.count_cons, beq_eq_false_iff_ne.2 hne]
    simp
  · obtain ⟨j, j1, j2, rfl⟩ := h4 y (List.mem_cons_of_mem _ ((List.dropWhile_sublist _).subset hy))
    have hgt := UInt8.lt_iff_toNat_lt.1 (drop_gt h3.2 h3.1 _ hy)
    refine ⟨j, ?_, j2, rfl⟩
    rcases Nat.eq_or_lt_of_le j1 with rfl | hl'
    · omega
    · exact hl'

theorem Cov.nil {c : List Int} {s : Str} (h : Cov c s 27) : s = [] := by
  cases s with
  | nil => rfl
  | cons y t =>
    obtain ⟨j, j1, j2, _⟩ := h.2.2.2.1 y List.mem_cons_self
    omega

end Go.Proofs.YtbekokenomhgeaaGreatDoor
