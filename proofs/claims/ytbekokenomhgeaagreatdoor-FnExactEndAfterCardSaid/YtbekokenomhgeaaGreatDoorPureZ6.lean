/- Tiles taken, the program's way; the chance of tiles. -/
import Derived.Test.YtbekokenomhgeaaGreatDoorPureZ5
import Derived.Test.YtbekokenomhgeaaGreatDoorPureF
namespace Go.Proofs.YtbekokenomhgeaaGreatDoor
open Go Go.RowKit
set_option linter.unusedSimpArgs false
set_option linter.unusedVariables false

/-- Are the first k counts of b within those of a? -/
def within27 (a b : Str) (k : Nat) : Bool := decide (b.count (tileK k) ≤ a.count (tileK k))

def diffN (a b : Str) : Nat → List Int
  | 0 => cnt a
  | k + 1 => (diffN a b k).set k (((a.count (tileK k) : Nat) : Int) - ((b.count (tileK k) : Nat) : Int))

theorem diffN_len (a b : Str) : ∀ k, (diffN a b k).length = 27
  | 0 => cnt_len a
  | k + 1 => by rw [diffN, List.length_set, diffN_len a b k]

theorem diffN_get (a b : Str) {j : Nat} (hj : j < 27) : ∀ k, (diffN a b k)[j]? = some (if j < k then ((a.count (tileK j) : Nat) : Int) - ((b.count (tileK j) : Nat) : Int) else ((a.count (tileK j) : Nat) : Int))
  | 0 => by rw [diffN, cnt_get _ hj, if_neg (by omega)]
  | k + 1 => by
    rw [diffN]
    by_cases e : k = j
    · subst e
      rw [List.getElem?_set_self (by rw [diffN_len]; exact hj), if_pos (by omega)]
    · rw [List.getElem?_set_ne e, diffN_get a b hj k]
      by_cases h : j < k
      · rw [if_pos h, if_pos (by omega)]
      · rw [if_neg h, if_neg (by omega)]

theorem diffN_zero (a b : Str) : diffN a b 0 = cnt a := rfl

theorem diffN_succ (a b : Str) (k : Nat) : diffN a b (k + 1) = (diffN a b k).set k (((a.count (tileK k) : Nat) : Int) - ((b.count (tileK k) : Nat) : Int)) := rfl

attribute [local irreducible] diffN

theorem less_eq (a b : Str) (ha : a.length ≤ 1000) (hb : b.length ≤ 1000) : m_impl_counts_less (cnt a) (cnt b) = some (bif allI (within27 a b) 0 27 then (diffN a b 27, true) else ((List.replicate 27 (0 : Int)), false)) := by
  unfold m_impl_counts_less
  have h := loop_allS (step := fun q : (List Int) × Int => m_impl_counts_less_l1 (cnt b) q.1 q.2) (fun i => (diffN a b i, (i : Int))) (within27 a b) 27 (.inl (diffN a b 27) : (List Int) ⊕ ((List Int) × Bool)) (.inr ((List.replicate 27 (0 : Int)), false)) (fun i hi _ => by
      have c1 : a.count (tileK i) ≤ 1000 := Nat.le_trans List.count_le_length ha
      have c2 : b.count (tileK i) ≤ 1000 := Nat.le_trans List.count_le_length hb
      have hlen := diffN_len a b i
      show m_impl_counts_less_l1 (cnt b) (diffN a b i) (i : Int) = _
      unfold m_impl_counts_less_l1
      rw [decide_eq_true (by omega), cond_true, getL_nat, cnt_get _ hi, Option.bind_some, getL_nat, diffN_get a b hi i, if_neg (by omega), Option.bind_some, chk_in (by omega) (by omega), Option.bind_some, Option.bind_some, setL_of (by omega), Option.bind_some, getL_nat, List.getElem?_set_self (by omega), Option.bind_some]
      unfold within27
      by_cases hw : b.count (tileK i) ≤ a.count (tileK i)
      · rw [decide_eq_false (by omega), cond_false, chk_succ (by omega), Option.bind_some, decide_eq_true hw, cond_true, diffN_succ]
      · rw [decide_eq_true (by omega), cond_true, decide_eq_false hw, cond_false])
    (fun _ => by
      show m_impl_counts_less_l1 (cnt b) _ ((27 : Nat) : Int) = _
      unfold m_impl_counts_less_l1
      rw [decide_eq_false (by omega), cond_false])
  rw [diffN_zero, show ((0 : Nat) : Int) = 0 from rfl] at h
  rw [h, Option.bind_some]
  cases allI (within27 a b) 0 27 <;> rfl

theorem pileInner (k : Nat) (hk : k < 27) : ∀ (m : Nat) (xs : Str), xs.length + m ≤ 1000000 → ∃ ys, loopM (fun q : Str × Int => m_impl_counts_pile_l2 (k : Int) q.1 q.2) (xs, (m : Int)) = some ys ∧ ys.length = xs.length + m
  | 0, xs, h => ⟨xs, loopM_done rfl, rfl⟩
  | m + 1, xs, h => by
    obtain ⟨ys, e, hy⟩ := pileInner k hk m (xs ++ [tileK k]) (by simp; omega)
    refine ⟨ys, ?_, by rw [hy]; simp; omega⟩
    rw [← e]
    refine loopM_next ?_
    show m_impl_counts_pile_l2 (k : Int) xs ((m + 1 : Nat) : Int) = _
    unfold m_impl_counts_pile_l2 m_strings_Builder_WriteByte m_strings_Builder_copyCheck
    rw [decide_eq_true (by omega), cond_true, tileAt_eq hk, Option.bind_some, Option.bind_some, catL_of (by simp; omega), Option.bind_some, Option.bind_some, chk_to (m : Int) (by omega) (by omega) (by omega), Option.bind_some]

theorem pile_ok (c : List Int) (hlen : c.length = 27) (hc : ∀ x ∈ c, 0 ≤ x ∧ x ≤ 1000) : ∃ r, m_impl_counts_pile c = some r := by
  have key : ∀ (d k : Nat) (xs : Str), k + d = 27 → xs.length ≤ 1000 * k → ∃ ys, loopM (fun q : Str × Int => m_impl_counts_pile_l1 c q.1 q.2) (xs, (k : Int)) = some ys := by
    intro d
    induction d with
    | zero =>
      intro k xs hk _
      refine ⟨xs, loopM_done ?_⟩
      show m_impl_counts_pile_l1 c xs (k : Int) = _
      unfold m_impl_counts_pile_l1
      rw [decide_eq_false (by omega)]
      rfl
    | succ d ih =>
      intro k xs hk hx
      have hk' : k < c.length := by omega
      obtain ⟨h1, h2⟩ := hc _ (List.getElem_mem hk')
      obtain ⟨m, hm⟩ : ∃ m : Nat, c[k] = m := ⟨c[k].toNat, by omega⟩
      obtain ⟨ys, e, hy⟩ := pileInner k (by omega) m xs (by omega)
      obtain ⟨zs, e'⟩ := ih (k + 1) ys (by omega) (by omega)
      refine ⟨zs, ?_⟩
      rw [← e']
      refine loopM_next ?_
      show m_impl_counts_pile_l1 c xs (k : Int) = _
      unfold m_impl_counts_pile_l1
      rw [decide_eq_true (by omega), cond_true, getL_at hk', Option.bind_some, hm, e, Option.bind_some, Option.bind_some, chk_succ (by omega), Option.bind_some]
  obtain ⟨ys, e⟩ := key 27 0 [] (by omega) (by simp)
  unfold m_impl_counts_pile m_strings_Builder_String
  rw [show ((0 : Nat) : Int) = 0 from rfl] at e
  rw [e]
  exact ⟨ys, rfl⟩

theorem within_all {a b : Str} (ha : SortedB a) (hb : SortedB b) (tb : Tiles b) : allI (within27 a b) 0 27 = decide (remT a b = []) := by
  rw [Bool.eq_iff_iff, allI_iff, decide_eq_true_eq, remT_iff a b ha hb]
  constructor
  · intro h c
    by_cases hc : c ∈ b
    · obtain ⟨j, hj, rfl⟩ := tb c hc
      exact of_decide_eq_true (h j (by omega) (by omega))
    · rw [List.count_eq_zero.2 hc]
      exact Nat.zero_le _
  · intro h j _ _
    exact decide_eq_true (h (tileK j))

theorem without_eq (a b : Str) (ha : SortedB a) (hb : SortedB b) (ta : Tiles a) (tb : Tiles b) (la : a.length ≤ 1000) (lb : b.length ≤ 1000) : ∃ p, m_impl_without a b = some (p, decide (remT a b = [])) := by
  unfold m_impl_without
  rw [countsOf_eq a ta la, Option.bind_some, countsOf_eq b tb lb, Option.bind_some, less_eq a b la lb, Option.bind_some, within_all ha hb tb]
  by_cases h : remT a b = []
  · rw [decide_eq_true h, cond_true]
    have hw := within_all ha hb tb
    rw [decide_eq_true h] at hw
    obtain ⟨r, er⟩ := pile_ok (diffN a b 27) (diffN_len a b 27) (fun x hx => by
      obtain ⟨j, hj, e⟩ := List.getElem_of_mem hx
      rw [diffN_len] at hj
      have hg := diffN_get a b hj 27
      rw [if_pos hj, List.getElem?_eq_getElem (by rw [diffN_len]; exact hj), e] at hg
      have hx' := Option.some.inj hg
      have hle := of_decide_eq_true (allI_iff.1 hw j (by omega) (by omega))
      have c1 : a.count (tileK j) ≤ 1000 := Nat.le_trans List.count_le_length la
      omega)
    simp only
    rw [er]
    exact ⟨r, rfl⟩
  · rw [decide_eq_false h, cond_false]
    obtain ⟨r, er⟩ := pile_ok (List.replicate 27 (0 : Int)) List.length_replicate (fun x hx => by rw [(List.mem_replicate.1 hx).2]; omega)
    simp only
    rw [er]
    exact ⟨r, rfl⟩

theorem tileB_K : ∀ j : Fin 27, tileB (tileK j.val) = true := by decide +kernel

theorem pile_of {s : Str} (hs : SortedB s) (ht : Tiles s) (hl : s.length ≤ 120) : pileB s = true := by
  unfold pileB
  have h2 : s.all tileB = true := List.all_eq_true.2 fun y hy => by
    obtain ⟨j, hj, rfl⟩ := ht y hy
    exact tileB_K ⟨j, hj⟩
  have h3 : upB s = true := by
    unfold upB
    rw [allI_iff]
    intro i h1 hlt
    have hle := sorted_le hs (by omega : i < s.length) (by omega : i - 1 ≤ i)
    unfold upAt
    rw [List.getElem?_eq_getElem (by omega : i - 1 < s.length), List.getElem?_eq_getElem (by omega : i < s.length)]
    simp only [Bool.not_eq_true', decide_eq_false_iff_not]
    intro hlt'
    have := UInt8.lt_iff_toNat_lt.1 hlt'
    omega
  rw [decide_eq_true hl, h2, h3]
  rfl

end Go.Proofs.YtbekokenomhgeaaGreatDoor
