/- All ways to draw together: the sum over the sub-piles. -/
import Derived.Test.YtgmbcolpchckbaaPureZ6
namespace Go.Proofs.Ytgmbcolpchckbaa
open Go Go.RowKit
set_option linter.unusedSimpArgs false
set_option linter.unusedVariables false

def sumL (f : Str → Nat) : List Str → Nat
  | [] => 0
  | y :: l => f y + sumL f l
theorem sumL_append (f : Str → Nat) : ∀ l m, sumL f (l ++ m) = sumL f l + sumL f m
  | [], m => by simp [sumL]
  | y :: l, m => by rw [List.cons_append, sumL, sumL, sumL_append f l m]; omega
theorem sumL_map (f : Str → Nat) (x : UInt8) : ∀ l, sumL f (l.map (x :: ·)) = sumL (fun z => f (x :: z)) l
  | [] => rfl
  | y :: l => by rw [List.map_cons, sumL, sumL, sumL_map f x l]
theorem sumL_congr {f g : Str → Nat} : ∀ {l : List Str}, (∀ y ∈ l, f y = g y) → sumL f l = sumL g l
  | [], _ => rfl
  | y :: l, h => by rw [sumL, sumL, h y List.mem_cons_self, sumL_congr fun z hz => h z (List.mem_cons_of_mem _ hz)]
theorem sumL_add (f g : Str → Nat) : ∀ l, sumL (fun y => f y + g y) l = sumL f l + sumL g l
  | [] => rfl
  | y :: l => by rw [sumL, sumL, sumL, sumL_add f g l]; omega
theorem sumL_zero {f : Str → Nat} : ∀ {l : List Str}, (∀ y ∈ l, f y = 0) → sumL f l = 0
  | [], _ => rfl
  | y :: l, h => by rw [sumL, h y List.mem_cons_self, sumL_zero fun z hz => h z (List.mem_cons_of_mem _ hz)]
theorem sumL_mem {f : Str → Nat} {y : Str} : ∀ {l : List Str}, y ∈ l → f y ≤ sumL f l
  | z :: l, h => by
    rw [sumL]
    rcases List.mem_cons.1 h with rfl | h
    · omega
    · have := sumL_mem (f := f) h; omega
theorem drop_none {x : UInt8} {t : Str} (h : t.count x = 0) : t.dropWhile (· == x) = t := by
  cases t with
  | nil => rfl
  | cons y t =>
    rw [List.dropWhile_cons]
    rw [List.count_cons] at h
    by_cases e : y = x
    · subst e; simp at h
    · rw [if_neg (fun e' => e (beq_iff_eq.1 e'))]
/-- One more tile of a kind makes no odds to a function that is nothing where the tiles do not reach. -/
theorem sum_more (x : UInt8) : ∀ (t : Str) (n : Nat) (f : Str → Nat), SortedB (x :: t) → (∀ y, t.count x < y.count x → f y = 0) → sumL f (subsP (x :: t) n) = sumL f (subsP t n)
  | t, 0, f, _, _ => by rw [subsP_zero, subsP_zero]
  | [], n + 1, f, hs, hf => by
    rw [subsP_cons, sumL_append, sumL_map]
    have : sumL (fun z => f (x :: z)) (subsP [] n) = 0 := sumL_zero fun y _ => hf _ (by simp)
    rw [this]
    simp
  | z :: t, n + 1, f, hs, hf => by
    rw [subsP_cons x (z :: t)]
    by_cases e : z = x
    · subst e
      have hd : (z :: t).dropWhile (· == z) = t.dropWhile (· == z) := by rw [List.dropWhile_cons, if_pos (beq_self_eq_true z)]
      rw [hd, subsP_cons z t, sumL_append, sumL_append, sumL_map, sumL_map]
      congr 1
      exact sum_more z t n (fun w => f (z :: w)) hs.2 fun y hy => hf _ (by rw [List.count_cons, List.count_cons, beq_self_eq_true]; simp; exact hy)
    · have h0 : (z :: t).count x = 0 := by
        refine List.count_eq_zero.2 fun hm => ?_
        have h1 := hs.1 z List.mem_cons_self
        rcases List.mem_cons.1 hm with e' | hm
        · exact e e'.symm
        · have h2 := hs.2.1 x hm
          exact e (UInt8.toNat_inj.1 (by omega))
      rw [drop_none h0, sumL_append, sumL_map]
      have : sumL (fun w => f (x :: w)) (subsP (z :: t) n) = 0 := sumL_zero fun y _ => hf _ (by rw [h0]; simp)
      rw [this, Nat.zero_add]
theorem pascal_all : ∀ n k : Fin 12, chooseV (n.val + 1) (k.val + 1) = chooseV n.val (k.val + 1) + chooseV n.val k.val := by decide +kernel
theorem chooseV_more {n k : Nat} (h : n < k) : chooseV n k = 0 := by unfold chooseV; rw [if_pos h]
theorem pascal {n : Nat} (h : n < 12) (k : Nat) : chooseV (n + 1) (k + 1) = chooseV n (k + 1) + chooseV n k := by
  rcases Nat.lt_or_ge k 12 with hk | hk
  · exact pascal_all ⟨n, h⟩ ⟨k, hk⟩
  · rw [chooseV_more (by omega), chooseV_more (by omega), chooseV_more (by omega)]
theorem waysN_zero (s y : Str) {k0 : Nat} (h : s.count (tileK k0) < y.count (tileK k0)) : ∀ k, k0 < k → waysN s y k = 0
  | 0, hk => by omega
  | k + 1, hk => by
    rw [waysN]
    rcases Nat.lt_or_ge k0 k with h' | h'
    · rw [waysN_zero s y h k h', Nat.zero_mul]
    · obtain rfl : k0 = k := by omega
      rw [chooseV_more h, Nat.mul_zero]
theorem waysN_low (t z : Str) {k0 : Nat} (hk0 : k0 < 27) : ∀ k, k ≤ k0 → waysN (tileK k0 :: t) (tileK k0 :: z) k = waysN t z k ∧ waysN t (tileK k0 :: z) k = waysN t z k
  | 0, _ => ⟨rfl, rfl⟩
  | k + 1, h => by
    obtain ⟨h1, h2⟩ := waysN_low t z hk0 k (by omega)
    have hne : tileK k0 ≠ tileK k := fun e => by have := tileK_inj hk0 (by omega) e; omega
    rw [waysN, waysN, waysN, h1, h2, List.count_cons, List.count_cons, beq_eq_false_iff_ne.2 hne]
    simp
theorem waysN_split (t z : Str) (ht : t.length < 12) {k0 : Nat} (hk0 : k0 < 27) : ∀ k, k0 < k → k ≤ 27 → waysN (tileK k0 :: t) (tileK k0 :: z) k = waysN t (tileK k0 :: z) k + waysN t z k
  | 0, h, _ => by omega
  | k + 1, h, hk => by
    rw [waysN, waysN, waysN]
    rcases Nat.lt_or_ge k0 k with h' | h'
    · have hne : tileK k0 ≠ tileK k := fun e => by have := tileK_inj hk0 (by omega) e; omega
      have hb : ∀ w : Str, (tileK k0 :: w).count (tileK k) = w.count (tileK k) := fun w => by
        rw [List.count_cons, beq_eq_false_iff_ne.2 hne]
        rfl
      rw [waysN_split t z ht hk0 k h' (by omega), hb, hb, Nat.add_mul]
    · obtain rfl : k0 = k := by omega
      obtain ⟨h1, h2⟩ := waysN_low t z hk0 k0 (Nat.le_refl _)
      have hc : t.count (tileK k0) < 12 := Nat.lt_of_le_of_lt List.count_le_length ht
      have hb : ∀ w : Str, (tileK k0 :: w).count (tileK k0) = w.count (tileK k0) + 1 := fun w => by
        rw [List.count_cons, beq_self_eq_true]
        rfl
      rw [h1, h2, hb, hb, pascal hc, Nat.mul_add]
theorem waysN_none (t y : Str) {k0 : Nat} (hk0 : k0 < 27) (hy : y.count (tileK k0) = 0) : ∀ k, k ≤ 27 → waysN (tileK k0 :: t) y k = waysN t y k
  | 0, _ => rfl
  | k + 1, h => by
    rw [waysN, waysN, waysN_none t y hk0 hy k (by omega)]
    by_cases e : k0 = k
    · subst e
      rw [hy, chooseV_zero, chooseV_zero]
    · have hne : tileK k0 ≠ tileK k := fun e' => e (tileK_inj hk0 (by omega) e')
      rw [List.count_cons, beq_eq_false_iff_ne.2 hne]
      simp
theorem waysN_nil (s : Str) : ∀ k, waysN s [] k = 1
  | 0 => rfl
  | k + 1 => by rw [waysN, waysN_nil s k, List.count_nil, chooseV_zero]
theorem ways_sum : ∀ (s : Str) (n : Nat), SortedB s → Tiles s → s.length ≤ 12 → sumL (fun y => waysN s y 27) (subsP s n) = chooseV s.length n
  | s, 0, _, _, _ => by
    rw [subsP_zero, chooseV_zero]
    show waysN s [] 27 + 0 = 1
    rw [waysN_nil]
  | [], n + 1, _, _, _ => by
    rw [subsP_nil, chooseV_more (by simp)]
    rfl
  | x :: t, n + 1, hs, ht, hl => by
    obtain ⟨k0, hk0, rfl⟩ := ht x List.mem_cons_self
    have ht' : Tiles t := fun y hy => ht y (List.mem_cons_of_mem _ hy)
    rw [List.length_cons] at hl
    have ih1 := ways_sum t n hs.2 ht' (by omega)
    have ih2 := ways_sum t (n + 1) hs.2 ht' (by omega)
    have hm := sum_more (tileK k0) t (n + 1) (fun y => waysN t y 27) hs fun y hy => waysN_zero t y hy 27 hk0
    rw [subsP_cons, sumL_append, sumL_map] at hm
    have e1 : sumL (fun z => waysN (tileK k0 :: t) (tileK k0 :: z) 27) (subsP t n) = sumL (fun z => waysN t (tileK k0 :: z) 27) (subsP t n) + sumL (fun z => waysN t z 27) (subsP t n) := by
      rw [← sumL_add]
      exact sumL_congr fun z _ => waysN_split t z (by omega) hk0 27 hk0 (Nat.le_refl _)
    have e2 : sumL (fun y => waysN (tileK k0 :: t) y 27) (subsP (t.dropWhile (· == tileK k0)) (n + 1)) = sumL (fun y => waysN t y 27) (subsP (t.dropWhile (· == tileK k0)) (n + 1)) :=
      sumL_congr fun y hy => waysN_none t y hk0 (List.count_eq_zero.2 fun hm => by
        have hd := subsP_mem y hy _ hm
        have := UInt8.lt_iff_toNat_lt.1 (drop_gt hs.2 hs.1 _ hd)
        omega) 27 (Nat.le_refl _)
    rw [subsP_cons, sumL_append, sumL_map, e1, e2, List.length_cons, pascal (by omega)]
    omega
theorem subsP_sub {s : Str} {n : Nat} : ∀ y ∈ subsP s n, y.Sublist s := by
  refine subs_ind (Q := fun s n => ∀ y ∈ subsP s n, y.Sublist s) (fun s y hy => ?_) (fun n y hy => ?_) (fun x t n h1 h2 y hy => ?_) s.length s n (Nat.le_refl _)
  · rw [subsP_zero, List.mem_singleton] at hy
    rw [hy]; exact List.nil_sublist _
  · rw [subsP_nil] at hy; cases hy
  · rw [subsP_cons, List.mem_append] at hy
    rcases hy with hy | hy
    · obtain ⟨z, hz, rfl⟩ := List.mem_map.1 hy
      exact (h1 z hz).cons_cons x
    · exact ((h2 y hy).trans (List.dropWhile_sublist _)).cons x
theorem choose_pos_all : ∀ n k : Fin 13, k.val ≤ n.val → 1 ≤ chooseV n.val k.val := by decide +kernel
theorem choose_max_all : ∀ n k : Fin 13, chooseV n.val k.val ≤ 924 := by decide +kernel
theorem waysN_pos {s y : Str} (hs : s.length ≤ 12) (h : y.Sublist s) : ∀ k, 1 ≤ waysN s y k
  | 0 => Nat.le_refl _
  | k + 1 => by
    have h1 := waysN_pos hs h k
    have hc : y.count (tileK k) ≤ s.count (tileK k) := h.count_le _
    have hc2 : s.count (tileK k) ≤ 12 := Nat.le_trans List.count_le_length hs
    have h2 := choose_pos_all ⟨s.count (tileK k), by omega⟩ ⟨y.count (tileK k), by omega⟩ hc
    rw [waysN]
    exact Nat.mul_le_mul h1 h2
theorem remT_self : ∀ y : Str, remT y y = []
  | [] => rfl
  | x :: y => by rw [remT, if_pos rfl, remT_self y]
theorem remT_len : ∀ (a b : Str), remT a b = [] → b.length ≤ a.length
  | [], b, h => by have : b = [] := h; rw [this]; simp
  | x :: a, [], _ => by simp
  | x :: a, y :: b, h => by
    rw [remT] at h
    split at h
    · have := remT_len a b h; simp; omega
    · have := remT_len a (y :: b) h; simp at this ⊢; omega
theorem remT_same : ∀ (a b : Str), remT a b = [] → a.length = b.length → a = b
  | [], b, h, _ => h.symm
  | x :: a, [], _, h => by simp at h
  | x :: a, y :: b, h, hl => by
    rw [remT] at h
    simp at hl
    split at h
    · rename_i e
      rw [e, remT_same a b h hl]
    · have := remT_len a (y :: b) h
      simp at this
      omega
theorem ltS_not : ∀ {x y : Str}, ltS x y = true → (ltS y x || y == x) = false
  | x, [], h => by rw [ltS_nil] at h; cases h
  | [], b :: y, _ => by rw [ltS_nil]; rfl
  | a :: x, b :: y, h => by
    rw [ltS_cons] at h ⊢
    rcases Bool.or_eq_true_iff.1 h with h | h
    · have h := of_decide_eq_true h
      have h' := UInt8.lt_iff_toNat_lt.1 h
      have hn : ¬ b < a := fun h2 => by have := UInt8.lt_iff_toNat_lt.1 h2; omega
      have hne : b ≠ a := fun e => by rw [e] at h'; omega
      rw [decide_eq_false hn, beq_eq_false_iff_ne.2 hne]
      simp [hne]
    · obtain ⟨h1, h2⟩ := Bool.and_eq_true_iff.1 h
      have e := beq_iff_eq.1 h1
      subst e
      have ih := ltS_not h2
      obtain ⟨i1, i2⟩ := Bool.or_eq_false_iff.1 ih
      rw [i1]
      have : ¬ y = x := fun e => by rw [e, beq_self_eq_true] at i2; cases i2
      simp [this]

end Go.Proofs.Ytgmbcolpchckbaa
