/- Draws. -/
import Derived.Test.YtbekokenomhgeaaGreatDoorPureZ3
import Derived.Test.YtbekokenomhgeaaGreatDoorPureT
namespace Go.Proofs.YtbekokenomhgeaaGreatDoor
open Go Go.RowKit
set_option linter.unusedSimpArgs false
set_option linter.unusedVariables false

theorem sorted_of : ∀ {s : Str}, (∀ i (h : i + 1 < s.length), (s[i]'(by omega)).toNat ≤ (s[i + 1]).toNat) → SortedB s
  | [], _ => trivial
  | [x], _ => ⟨fun y hy => by simp at hy, trivial⟩
  | x :: z :: t, h => by
    have ht : SortedB (z :: t) := sorted_of fun i hi => h (i + 1) (by simpa using hi)
    have hx : x.toNat ≤ z.toNat := h 0 (by simp)
    refine ⟨fun y hy => ?_, ht⟩
    rcases List.mem_cons.1 hy with rfl | hy
    · exact hx
    · exact Nat.le_trans hx (ht.1 y hy)

theorem pile_sorted {s : Str} (h : pileB s = true) : SortedB s ∧ Tiles s := by
  unfold pileB at h
  obtain ⟨h, h3⟩ := Bool.and_eq_true_iff.1 h
  obtain ⟨h1, h2⟩ := Bool.and_eq_true_iff.1 h
  refine ⟨sorted_of fun i hi => ?_, tiles_of h2⟩
  unfold upB at h3
  have := allI_iff.1 h3 (i + 1) (by omega) (by omega)
  unfold upAt at this
  rw [Nat.add_sub_cancel, List.getElem?_eq_getElem (by omega : i < s.length), List.getElem?_eq_getElem hi] at this
  simp only [Bool.not_eq_true', decide_eq_false_iff_not] at this
  rcases Nat.lt_or_ge (s[i + 1]).toNat (s[i]'(by omega)).toNat with hl | hl
  · exact absurd (UInt8.lt_iff_toNat_lt.2 hl) this
  · exact hl

theorem subsP_sorted {s : Str} {n : Nat} : SortedB s → ∀ y ∈ subsP s n, SortedB y := by
  refine subs_ind (Q := fun s n => SortedB s → ∀ y ∈ subsP s n, SortedB y) (fun s _ y hy => ?_) (fun n _ y hy => ?_) (fun x t n h1 h2 hs y hy => ?_) s.length s n (Nat.le_refl _)
  · rw [subsP_zero, List.mem_singleton] at hy
    rw [hy]; trivial
  · rw [subsP_nil] at hy; cases hy
  · rw [subsP_cons, List.mem_append] at hy
    rcases hy with hy | hy
    · obtain ⟨z, hz, rfl⟩ := List.mem_map.1 hy
      exact ⟨fun b hb => hs.1 b (subsP_mem z hz b hb), h1 hs.2 z hz⟩
    · exact h2 hs.2.dropWhile y hy

theorem map_take {α β : Type} (f : α → β) (l : List α) (i : Nat) (h : i < l.length) : (l.map f).take (i + 1) = (l.map f).take i ++ [f l[i]] := by
  rw [List.take_add_one, List.getElem?_map, List.getElem?_eq_getElem h]
  rfl

section
variable {s : Str} {n : Nat} (hs : SortedB s) (ht : Tiles s) (hl : s.length ≤ 12) (hn : n ≤ s.length)
include hs ht hl hn

theorem subs_small : (subsP s n).length ≤ 4096 ∧ ∀ y ∈ subsP s n, y.length ≤ 12 ∧ Tiles y ∧ SortedB y := by
  have hcount := subsP_count (s := s) (n := n)
  have h12 : 2 ^ s.length ≤ 2 ^ 12 := Nat.pow_le_pow_right (by omega) hl
  refine ⟨by omega, fun y hy => ⟨by have := subsP_len_each y hy; omega, fun b hb => ht b (subsP_mem y hy b hb), subsP_sorted hs y hy⟩⟩

end

end Go.Proofs.YtbekokenomhgeaaGreatDoor
