/- Counts of tiles; all draws. -/
import Derived.Test.YtbekokenomhgeaaGreatDoorPureY
namespace Go.Proofs.YtbekokenomhgeaaGreatDoor
open Go Go.RowKit
set_option linter.unusedSimpArgs false
set_option linter.unusedVariables false

def cnt (s : Str) : List Int := (List.range 27).map fun k => ((s.count (tileK k) : Nat) : Int)

def Tiles (s : Str) : Prop := ∀ y ∈ s, ∃ j, j < 27 ∧ y = tileK j

theorem cnt_len (s : Str) : (cnt s).length = 27 := by unfold cnt; simp

theorem cnt_get (s : Str) {j : Nat} (h : j < 27) : (cnt s)[j]? = some ((s.count (tileK j) : Nat) : Int) := by
  unfold cnt
  rw [List.getElem?_map, List.getElem?_range h]
  rfl

theorem cnt_cov {s : Str} (hs : SortedB s) (ht : Tiles s) (hl : s.length ≤ 12) : Cov (cnt s) s 0 :=
  ⟨cnt_len s, fun j _ hj => cnt_get s hj, hs, fun y hy => by obtain ⟨j, hj, e⟩ := ht y hy; exact ⟨j, Nat.zero_le _, hj, e⟩, hl⟩

theorem cnt_set (u : Str) {j : Nat} (h : j < 27) : (cnt u).set j ((u.count (tileK j) + 1 : Nat) : Int) = cnt (u ++ [tileK j]) := by
  apply List.ext_getElem?
  intro i
  rcases Nat.lt_or_ge i 27 with hi | hi
  · rw [cnt_get _ hi, List.count_append]
    by_cases e : j = i
    · subst e
      rw [List.getElem?_set_self (by rw [cnt_len]; exact h)]
      simp
    · rw [List.getElem?_set_ne e, cnt_get _ hi]
      have : tileK j ≠ tileK i := fun e' => e (tileK_inj h hi e')
      simp [this]
  · rw [List.getElem?_eq_none (by rw [List.length_set, cnt_len]; exact hi), List.getElem?_eq_none (by rw [cnt_len]; exact hi)]

theorem place_all : ∀ k : Fin 27, (tileK k.val == 63) = decide (k.val = 0) ∧ (k.val ≠ 0 → smB (tileK k.val) = true ∧ (tileK k.val - 97).toNat + 1 = k.val) := by decide +kernel

theorem placeK_eq {k : Nat} (h : k < 27) : m_impl_place (tileK k) = some (k : Int) := by
  obtain ⟨h1, h2⟩ := place_all ⟨k, h⟩
  simp only at h1 h2
  unfold m_impl_place
  rw [h1]
  by_cases h0 : k = 0
  · subst h0; rfl
  · obtain ⟨h3, h4⟩ := h2 h0
    rw [decide_eq_false h0, cond_false, small_eq, Option.bind_some, h3, cond_true, chk_to (k : Int) (by omega) (by omega) (by omega)]
    rfl

theorem tileB_all : ∀ c : Fin 256, tileB (UInt8.ofNat c.val) = true → ∃ j : Fin 27, UInt8.ofNat c.val = tileK j.val := by decide +kernel

theorem tiles_of {s : Str} (h : s.all tileB = true) : Tiles s := fun y hy => by
  have := List.all_eq_true.1 h y hy
  obtain ⟨j, hj⟩ := tileB_all ⟨y.toNat, UInt8.toNat_lt y⟩ (by simpa using this)
  exact ⟨j.val, j.isLt, by simpa using hj⟩

theorem countsOf_eq (s : Str) (ht : Tiles s) (hl : s.length ≤ 1000) : m_impl_countsOf s = some (cnt s) := by
  unfold m_impl_countsOf
  have h0 : (List.replicate 27 (0 : Int)) = cnt [] := by rfl
  have hrun := loop_run (step := fun q : (List Int) × Int => m_impl_countsOf_l1 s q.1 q.2) (fun i => (cnt (s.take i), (i : Int))) s.length (cnt s) (fun i hi => by
      obtain ⟨j, hj, e⟩ := ht _ (List.getElem_mem hi)
      have hc : (s.take i).count (tileK j) ≤ 1000 := Nat.le_trans List.count_le_length (by rw [List.length_take]; omega)
      show m_impl_countsOf_l1 s (cnt (s.take i)) (i : Int) = _
      unfold m_impl_countsOf_l1
      rw [decide_eq_true (by omega : (i : Int) < s.length), cond_true, getL_at hi, Option.bind_some, e, placeK_eq hj, Option.bind_some, getL_nat, cnt_get _ hj, Option.bind_some, chk_succ (by omega), Option.bind_some, Option.bind_some, setL_of (by rw [cnt_len]; exact hj), Option.bind_some, chk_succ (by omega), Option.bind_some, cnt_set _ hj, List.take_add_one, List.getElem?_eq_getElem hi, e]
      rfl)
    (by
      show m_impl_countsOf_l1 s _ (s.length : Int) = _
      unfold m_impl_countsOf_l1
      rw [decide_eq_false (by omega), List.take_length]
      rfl) 0 (Nat.zero_le _)
  rw [h0]
  rw [show (cnt (s.take 0), ((0 : Nat) : Int)) = (cnt [], 0) from rfl] at hrun
  rw [hrun]
  rfl

end Go.Proofs.YtbekokenomhgeaaGreatDoor
