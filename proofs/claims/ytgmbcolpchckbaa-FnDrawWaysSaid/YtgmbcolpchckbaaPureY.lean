/- The program's way through the sub-piles: by counts of tiles. -/
import Derived.Test.YtgmbcolpchckbaaPureX
namespace Go.Proofs.Ytgmbcolpchckbaa
open Go Go.RowKit
set_option linter.unusedSimpArgs false
set_option linter.unusedVariables false

def tileK (k : Nat) : UInt8 := if k = 0 then 63 else UInt8.ofNat (96 + k)
theorem tileK_nat {k : Nat} (h : k < 27) : (tileK k).toNat = if k = 0 then 63 else 96 + k := by
  unfold tileK
  split
  · rfl
  · rw [UInt8.toNat_ofNat']; omega
theorem tileK_lt {i j : Nat} (h : i < j) (hj : j < 27) : (tileK i).toNat < (tileK j).toNat := by
  rw [tileK_nat (by omega), tileK_nat hj]
  split <;> split <;> omega
theorem tileK_inj {i j : Nat} (hi : i < 27) (hj : j < 27) (h : tileK i = tileK j) : i = j := by
  rcases Nat.lt_trichotomy i j with hl | he | hl
  · have := tileK_lt hl hj; rw [h] at this; omega
  · exact he
  · have := tileK_lt hl hi; rw [h] at this; omega
theorem tileAt_eq {k : Nat} (h : k < 27) : m_impl_tileAt (k : Int) = some (tileK k) := by
  unfold m_impl_tileAt tileK
  by_cases h0 : k = 0
  · subst h0; rfl
  · rw [beq_eq_false_iff_ne.2 (by omega), cond_false, chk_in (by omega) (by omega), Option.bind_some, chk_in (by omega) (by omega), Option.bind_some, if_neg h0]
    congr 2
    omega
theorem count_drop {x y : UInt8} (h : x ≠ y) : ∀ t : Str, (t.dropWhile (· == x)).count y = t.count y
  | [] => rfl
  | z :: t => by
    rw [List.dropWhile_cons]
    by_cases hz : z = x
    · rw [if_pos (beq_iff_eq.2 hz), count_drop h t, List.count_cons, beq_eq_false_iff_ne.2 (by rw [hz]; exact h)]
      simp
    · rw [if_neg (fun e => hz (beq_iff_eq.1 e))]
/-- From k on, c counts the tiles of s. -/
def Cov (c : List Int) (s : Str) (k : Nat) : Prop := c.length = 27 ∧ (∀ j, k ≤ j → j < 27 → c[j]? = some ((s.count (tileK j) : Nat) : Int)) ∧ SortedB s ∧ (∀ y ∈ s, ∃ j, k ≤ j ∧ j < 27 ∧ y = tileK j) ∧ s.length ≤ 12
theorem Cov.skip {c : List Int} {s : Str} {k : Nat} (h : Cov c s k) (h0 : s.count (tileK k) = 0) : Cov c s (k + 1) := by
  obtain ⟨h1, h2, h3, h4, h5⟩ := h
  refine ⟨h1, fun j hj => h2 j (by omega), h3, fun y hy => ?_, h5⟩
  obtain ⟨j, j1, j2, rfl⟩ := h4 y hy
  refine ⟨j, ?_, j2, rfl⟩
  rcases Nat.eq_or_lt_of_le j1 with rfl | hl
  · exact absurd hy (List.count_eq_zero.1 h0)
  · exact hl
theorem Cov.head {c : List Int} {s : Str} {k : Nat} (h : Cov c s k) (hk : k < 27) (h0 : s.count (tileK k) ≠ 0) : ∃ t, s = tileK k :: t := by
  obtain ⟨h1, h2, h3, h4, h5⟩ := h
  have hm : tileK k ∈ s := List.count_pos_iff.1 (by omega)
  cases s with
  | nil => cases hm
  | cons y t =>
    obtain ⟨j, j1, j2, rfl⟩ := h4 y List.mem_cons_self
    rcases List.mem_cons.1 hm with e | hm
    · exact ⟨t, by rw [e]⟩
    · have hle := h3.1 _ hm
      rcases Nat.eq_or_lt_of_le j1 with rfl | hl
      · exact ⟨t, rfl⟩
      · have := tileK_lt hl j2
        omega
theorem Cov.take {c : List Int} {t : Str} {k : Nat} (h : Cov c (tileK k :: t) k) (hk : k < 27) : Cov (c.set k ((t.count (tileK k) : Nat) : Int)) t k := by
  obtain ⟨h1, h2, h3, h4, h5⟩ := h
  refine ⟨by rw [List.length_set]; exact h1, fun j hj hj' => ?_, h3.2, fun y hy => h4 y (List.mem_cons_of_mem _ hy), by simp at h5; omega⟩
  by_cases e : k = j
  · subst e
    rw [List.getElem?_set_self (by omega)]
  · rw [List.getElem?_set_ne e, h2 j hj hj', List.count_cons, beq_eq_false_iff_ne.2 (fun e' => e (tileK_inj hk hj' e'))]
    simp
theorem Cov.rest {c : List Int} {t : Str} {k : Nat} (h : Cov c (tileK k :: t) k) (hk : k < 27) : Cov c (t.dropWhile (· == tileK k)) (k + 1) := by
  obtain ⟨h1, h2, h3, h4, h5⟩ := h
  have hl := dropWhile_len (· == tileK k) t
  refine ⟨h1, fun j hj hj' => ?_, h3.2.dropWhile, fun y hy => ?_, by simp at h5; omega⟩
  · have hne : tileK k ≠ tileK j := fun e => by have := tileK_inj hk hj' e; omega
    rw [h2 j (by omega) hj', count_drop hne, List.count_cons, beq_eq_false_iff_ne.2 hne]
    simp
  · obtain ⟨j, j1, j2, rfl⟩ := h4 y (List.mem_cons_of_mem _ ((List.dropWhile_sublist _).subset hy))
    have hgt := UInt8.lt_iff_toNat_lt.1 (drop_gt h3.2 h3.1 _ hy)
    refine ⟨j, ?_, j2, rfl⟩
    rcases Nat.eq_or_lt_of_le j1 with rfl | hl'
    · omega
    · exact hl'
theorem Cov.nil {c : List Int} {s : Str} (h : Cov c s 27) : s = [] := by
  cases s with
  | nil => rfl
  | cons y t =>
    obtain ⟨j, j1, j2, _⟩ := h.2.2.2.1 y List.mem_cons_self
    omega
theorem dfs_loop (rc : Int → Str → Int → (List Int) → (List Str) → Int → Option (Bool × Str × (List Int) × (List Str))) (m : Nat) (p : Str) (c : List Int) (most : Nat) (hp : p.length ≤ 100) (hmost : most ≤ 1000000)
    (hrc : ∀ (k : Nat) (x : UInt8) (t : Str) (c1 : List Int) (acc : List Str), k < 27 → Cov c1 t k → acc.length + (subsP t m).length ≤ most → rc (k : Int) (p ++ [x]) ((p.length + (m + 1) : Nat) : Int) c1 acc (most : Int) = some (true, p ++ [x], c1, acc ++ (subsP t m).map (fun y => p ++ [x] ++ y))) :
    ∀ (d k : Nat) (s : Str) (acc : List Str), k + d = 27 → Cov c s k → acc.length + (subsP s (m + 1)).length ≤ most → loopM (fun q : (List Int) × Str × (List Str) × Int => m_impl_subsets_1_l1 rc ((p.length + (m + 1) : Nat) : Int) (most : Int) q.1 q.2.1 q.2.2.1 q.2.2.2) (c, p, acc, (k : Int)) = some (.inl (c, p, acc ++ (subsP s (m + 1)).map (p ++ ·))) := by
  intro d
  induction d with
  | zero =>
    intro k s acc hk hc hb
    obtain rfl : k = 27 := by omega
    rw [hc.nil, subsP_nil, List.map_nil, List.append_nil]
    refine loopM_done ?_
    show m_impl_subsets_1_l1 rc _ _ c p acc ((27 : Nat) : Int) = _
    unfold m_impl_subsets_1_l1
    rw [decide_eq_false (by omega)]
    rfl
  | succ d ih =>
    intro k s acc hk hc hb
    have hk' : k < 27 := by omega
    have hlen := hc.1
    have hget := hc.2.1 k (Nat.le_refl _) hk'
    have hgl : getL c (k : Int) = some ((s.count (tileK k) : Nat) : Int) := by rw [getL_nat, hget]
    have hcl : s.count (tileK k) ≤ 12 := Nat.le_trans (List.count_le_length) hc.2.2.2.2
    by_cases h0 : s.count (tileK k) = 0
    · rw [← ih (k + 1) s acc (by omega) (hc.skip h0) hb]
      refine loopM_next ?_
      show m_impl_subsets_1_l1 rc _ _ c p acc (k : Int) = _
      unfold m_impl_subsets_1_l1
      rw [decide_eq_true (by omega), cond_true, hgl, Option.bind_some, beq_iff_eq.2 (by omega), cond_true, Option.bind_some]
      simp only
      rw [chk_succ (by omega), Option.bind_some]
    · obtain ⟨t, rfl⟩ := hc.head hk' h0
      have hq : ((tileK k :: t).count (tileK k) : Nat) = t.count (tileK k) + 1 := by rw [List.count_cons, beq_self_eq_true]; simp
      rw [subsP_cons, List.length_append, List.length_map] at hb
      rw [subsP_cons, List.map_append, ← List.append_assoc, List.map_map]
      rw [← ih (k + 1) (t.dropWhile (· == tileK k)) (acc ++ (subsP t m).map ((fun y => p ++ y) ∘ fun y => tileK k :: y)) (by omega) (hc.rest hk') (by rw [List.length_append, List.length_map]; omega)]
      refine loopM_next ?_
      show m_impl_subsets_1_l1 rc _ _ c p acc (k : Int) = _
      have hr := hrc k (tileK k) t (c.set k ((t.count (tileK k) : Nat) : Int)) acc hk' (hc.take hk') (by omega)
      have hset : (c.set k ((t.count (tileK k) : Nat) : Int)).set k (((t.count (tileK k) + 1 : Nat)) : Int) = c := by
        rw [List.set_set]
        apply List.ext_getElem?
        intro i
        by_cases e : k = i
        · subst e
          rw [List.getElem?_set_self (by omega), hget, hq]
        · rw [List.getElem?_set_ne e]
      have hfun : (subsP t m).map (fun y => p ++ [tileK k] ++ y) = (subsP t m).map ((fun y => p ++ y) ∘ fun y => tileK k :: y) := by
        apply List.map_congr_left
        intro y _
        simp
      rw [hq] at hgl hcl
      unfold m_impl_subsets_1_l1
      rw [decide_eq_true (by omega), cond_true, hgl, Option.bind_some, beq_eq_false_iff_ne.2 (by omega), cond_false, Option.bind_some, chk_to ((t.count (tileK k) : Nat) : Int) (by omega) (by omega) (by omega), Option.bind_some, Option.bind_some, setL_of (by omega), Option.bind_some, tileAt_eq hk', Option.bind_some, catL_of (by simp; omega), Option.bind_some, hr, Option.bind_some]
      have hpl : (((p ++ [tileK k]).length : Int) - 1) = ((p.length : Nat) : Int) := by rw [List.length_append]; simp
      have hsub : subL (p ++ [tileK k]) 0 ((p.length : Nat) : Int) = some p := by
        rw [subL_of (by omega) (by omega) (by rw [List.length_append]; simp; omega)]
        simp
      have hg2 : getL (c.set k ((t.count (tileK k) : Nat) : Int)) (k : Int) = some ((t.count (tileK k) : Nat) : Int) := by
        rw [getL_nat, List.getElem?_set_self (by omega)]
      have hs2 : setL (c.set k ((t.count (tileK k) : Nat) : Int)) (k : Int) (((t.count (tileK k) + 1 : Nat)) : Int) = some c := by
        rw [setL_of (by rw [List.length_set]; omega), hset]
      have hck : chk (((t.count (tileK k) : Nat) : Int) + 1) = some (((t.count (tileK k) + 1 : Nat)) : Int) := chk_succ (by omega)
      have hcp : chk ((p.length : Nat) : Int) = some ((p.length : Nat) : Int) := chk_nat (by omega)
      have hkk : chk ((k : Int) + 1) = some ((k + 1 : Nat) : Int) := chk_succ (by omega)
      show ((chk (((p ++ [tileK k]).length : Int) - 1)).bind _ : Option _).bind _ = _
      rw [hpl, hcp, Option.bind_some]
      show ((subL (p ++ [tileK k]) 0 ((p.length : Nat) : Int)).bind _ : Option _).bind _ = _
      rw [hsub, Option.bind_some]
      show ((getL (c.set k ((t.count (tileK k) : Nat) : Int)) (k : Int)).bind _ : Option _).bind _ = _
      rw [hg2, Option.bind_some, hck, Option.bind_some, Option.bind_some, hs2, Option.bind_some]
      dsimp only
      rw [Bool.not_true, cond_false, Option.bind_some]
      dsimp only
      rw [hkk, Option.bind_some, hfun]
theorem dfs_n (most : Nat) (hmost : most ≤ 1000000) : ∀ (m f k : Nat) (s p : Str) (c : List Int) (acc : List Str), m < f → k ≤ 27 → p.length + m ≤ 100 → Cov c s k → acc.length + (subsP s m).length ≤ most → m_impl_subsets_1_n f (k : Int) p ((p.length + m : Nat) : Int) c acc (most : Int) = some (true, p, c, acc ++ (subsP s m).map (p ++ ·))
  | 0, f + 1, k, s, p, c, acc, hf, hk, hp, hc, hb => by
    show m_impl_subsets_1_b (m_impl_subsets_1_n f) (k : Int) p _ c acc (most : Int) = _
    rw [subsP_zero] at hb ⊢
    simp only [List.length_cons, List.length_nil] at hb
    unfold m_impl_subsets_1_b m_impl_someDraws_1
    rw [show (((p.length : Int)) == ((p.length + 0 : Nat) : Int)) = true by simp, cond_true, catL_of (by simp; omega), Option.bind_some, Option.bind_some, decide_eq_true (by rw [List.length_append]; simp; omega)]
    simp
  | m + 1, f + 1, k, s, p, c, acc, hf, hk, hp, hc, hb => by
    show m_impl_subsets_1_b (m_impl_subsets_1_n f) (k : Int) p _ c acc (most : Int) = _
    unfold m_impl_subsets_1_b
    rw [beq_eq_false_iff_ne.2 (by omega), cond_false]
    rw [dfs_loop (m_impl_subsets_1_n f) m p c most (by omega) hmost (fun k x t c1 acc hk hc hb => by
      have := dfs_n most hmost m f k t (p ++ [x]) c1 acc (by omega) (by omega) (by simp; omega) hc hb
      rw [List.length_append, List.length_cons, List.length_nil, show p.length + (0 + 1) + m = p.length + (m + 1) by omega] at this
      exact this) (27 - k) k s acc (by omega) hc hb]
    rfl

end Go.Proofs.Ytgmbcolpchckbaa
