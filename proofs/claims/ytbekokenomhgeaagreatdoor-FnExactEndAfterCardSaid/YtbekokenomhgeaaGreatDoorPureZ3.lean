/- Ways to draw a sub-pile. -/
import Derived.Test.YtbekokenomhgeaaGreatDoorPureZ2
namespace Go.Proofs.YtbekokenomhgeaaGreatDoor
open Go Go.RowKit
set_option linter.unusedSimpArgs false
set_option linter.unusedVariables false

def waysN (s y : Str) : Nat → Nat
  | 0 => 1
  | k + 1 => waysN s y k * chooseV (s.count (tileK k)) (y.count (tileK k))

def sumN (y : Str) : Nat → Nat
  | 0 => 0
  | k + 1 => sumN y k + y.count (tileK k)

theorem sumN_other {c : UInt8} {t : Str} : ∀ k, (∀ j, j < k → c ≠ tileK j) → sumN (c :: t) k = sumN t k
  | 0, _ => rfl
  | k + 1, h => by
    rw [sumN, sumN, sumN_other k fun j hj => h j (by omega), List.count_cons, beq_eq_false_iff_ne.2 (h k (by omega))]
    simp

theorem sumN_cons {c : UInt8} {t : Str} : ∀ k, k ≤ 27 → sumN (c :: t) k ≤ sumN t k + 1
  | 0, _ => by simp [sumN]
  | k + 1, h => by
    rw [sumN, sumN, List.count_cons]
    by_cases e : c = tileK k
    · rw [sumN_other k fun j hj e' => by have := tileK_inj (by omega) (by omega) (e.symm.trans e'); omega, beq_iff_eq.2 e]
      simp; omega
    · have := sumN_cons (c := c) (t := t) k (by omega)
      rw [beq_eq_false_iff_ne.2 e]
      simp; omega

theorem sumN_nil : ∀ k, sumN [] k = 0
  | 0 => rfl
  | k + 1 => by rw [sumN, sumN_nil k]; rfl

theorem sumN_le {k : Nat} (hk : k ≤ 27) : ∀ y : Str, sumN y k ≤ y.length
  | [] => by rw [sumN_nil]; exact Nat.zero_le _
  | c :: t => by
    have h1 := sumN_cons (c := c) (t := t) k hk
    have h2 := sumN_le hk t
    rw [List.length_cons]
    omega

theorem waysN_le {s : Str} (hs : s.length ≤ 12) (y : Str) : ∀ k, waysN s y k ≤ 12 ^ sumN y k
  | 0 => by simp [waysN, sumN]
  | k + 1 => by
    rw [waysN, sumN, Nat.pow_add]
    exact Nat.mul_le_mul (waysN_le hs y k) (chooseV_le (Nat.le_trans List.count_le_length hs))

theorem waysN_max {s y : Str} (hs : s.length ≤ 12) (hy : y.length ≤ 12) {k : Nat} (hk : k ≤ 27) : waysN s y k ≤ 8916100448256 :=
  Nat.le_trans (waysN_le hs y k) (pow12 (Nat.le_trans (sumN_le hk y) hy))

/-! ### The reference's product -/
theorem sorted_le : ∀ {y : Str}, SortedB y → ∀ {p q : Nat} (hq : q < y.length) (h : p ≤ q), (y[p]'(by omega)).toNat ≤ y[q].toNat
  | [], _, p, q, hq, _ => by simp at hq
  | c :: t, hs, 0, 0, _, _ => Nat.le_refl _
  | c :: t, hs, 0, q + 1, hq, _ => hs.1 _ (List.getElem_mem _)
  | c :: t, hs, p + 1, q + 1, hq, h => sorted_le (y := t) hs.2 (by simpa using hq) (by omega)

theorem waysN_same (s y : Str) {a : Nat} : ∀ b, a ≤ b → (∀ l, a ≤ l → l < b → y.count (tileK l) = 0) → waysN s y b = waysN s y a
  | 0, h, _ => by rw [show a = 0 by omega]
  | b + 1, h, hz => by
    rcases Nat.eq_or_lt_of_le h with rfl | hl
    · rfl
    · rw [waysN, hz b (by omega) (by omega), chooseV_zero, Nat.mul_one, waysN_same s y b (by omega) fun l h1 h2 => hz l h1 (by omega)]

end Go.Proofs.YtbekokenomhgeaaGreatDoor
