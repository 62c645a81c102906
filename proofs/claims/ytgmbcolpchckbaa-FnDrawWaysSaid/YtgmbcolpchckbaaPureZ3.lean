/- Ways to draw a sub-pile. -/
import Derived.Test.YtgmbcolpchckbaaPureZ2
namespace Go.Proofs.Ytgmbcolpchckbaa
open Go Go.RowKit
set_option linter.unusedSimpArgs false
set_option linter.unusedVariables false

def waysN (s y : Str) : Nat → Nat
  | 0 => 1
  | k + 1 => waysN s y k * chooseV (s.count (tileK k)) (y.count (tileK k))
def sumN (y : Str) : Nat → Nat
  | 0 => 0
  | k + 1 => sumN y k + y.count (tileK k)
theorem sumN_other {c : UInt8} {t : Str} : ∀ k, (∀ j, j < k → c ≠ tileK j) → sumN (c :: t) k = sumN t k
  | 0, _ => rfl
  | k + 1, h => by
    rw [sumN, sumN, sumN_other k fun j hj => h j (by omega), List.count_cons, beq_eq_false_iff_ne.2 (h k (by omega))]
    simp
theorem sumN_cons {c : UInt8} {t : Str} : ∀ k, k ≤ 27 → sumN (c :: t) k ≤ sumN t k + 1
  | 0, _ => by simp [sumN]
  | k + 1, h => by
    rw [sumN, sumN, List.count_cons]
    by_cases e : c = tileK k
    · rw [sumN_other k fun j hj e' => by have := tileK_inj (by omega) (by omega) (e.symm.trans e'); omega, beq_iff_eq.2 e]
      simp; omega
    · have := sumN_cons (c := c) (t := t) k (by omega)
      rw [beq_eq_false_iff_ne.2 e]
      simp; omega
theorem sumN_nil : ∀ k, sumN [] k = 0
  | 0 => rfl
  | k + 1 => by rw [sumN, sumN_nil k]; rfl
theorem sumN_le {k : Nat} (hk : k ≤ 27) : ∀ y : Str, sumN y k ≤ y.length
  | [] => by rw [sumN_nil]; exact Nat.zero_le _
  | c :: t => by
    have h1 := sumN_cons (c := c) (t := t) k hk
    have h2 := sumN_le hk t
    rw [List.length_cons]
    omega
theorem waysN_le {s : Str} (hs : s.length ≤ 12) (y : Str) : ∀ k, waysN s y k ≤ 12 ^ sumN y k
  | 0 => by simp [waysN, sumN]
  | k + 1 => by
    rw [waysN, sumN, Nat.pow_add]
    exact Nat.mul_le_mul (waysN_le hs y k) (chooseV_le (Nat.le_trans List.count_le_length hs))
theorem waysN_max {s y : Str} (hs : s.length ≤ 12) (hy : y.length ≤ 12) {k : Nat} (hk : k ≤ 27) : waysN s y k ≤ 8916100448256 :=
  Nat.le_trans (waysN_le hs y k) (pow12 (Nat.le_trans (sumN_le hk y) hy))
theorem waysToDraw_eq (s y : Str) (hs : s.length ≤ 12) (hy : y.length ≤ 12) (ht : Tiles y) : m_impl_waysToDraw (cnt s) y = some ((waysN s y 27 : Nat) : Int) := by
  unfold m_impl_waysToDraw
  rw [countsOf_eq y ht (by omega), Option.bind_some]
  have h := loop_run (step := fun q : Int × Int => m_impl_waysToDraw_l1 (cnt y) (cnt s) q.1 q.2) (fun i => ((i : Int), ((waysN s y i : Nat) : Int))) 27 ((waysN s y 27 : Nat) : Int) (fun i hi => by
      have h1 := waysN_max hs hy (by omega : i + 1 ≤ 27)
      have hc : s.count (tileK i) ≤ 12 := Nat.le_trans List.count_le_length hs
      show m_impl_waysToDraw_l1 (cnt y) (cnt s) (i : Int) ((waysN s y i : Nat) : Int) = _
      unfold m_impl_waysToDraw_l1
      rw [decide_eq_true (by omega), cond_true, getL_nat, cnt_get _ hi, Option.bind_some, getL_nat, cnt_get _ hi, Option.bind_some, choose_eq _ hc, Option.bind_some, ← Int.natCast_mul]
      rw [waysN] at h1
      rw [chk_nat (by omega), Option.bind_some, chk_succ (by omega), Option.bind_some]
      rfl)
    (by
      show m_impl_waysToDraw_l1 (cnt y) (cnt s) ((27 : Nat) : Int) _ = _
      unfold m_impl_waysToDraw_l1
      rw [decide_eq_false (by omega)]
      rfl) 0 (Nat.zero_le _)
  rw [show (((0 : Nat) : Int), ((waysN s y 0 : Nat) : Int)) = ((0 : Int), (1 : Int)) from rfl] at h
  rw [h]
  rfl

/-! ### The reference's product -/
theorem sorted_le : ∀ {y : Str}, SortedB y → ∀ {p q : Nat} (hq : q < y.length) (h : p ≤ q), (y[p]'(by omega)).toNat ≤ y[q].toNat
  | [], _, p, q, hq, _ => by simp at hq
  | c :: t, hs, 0, 0, _, _ => Nat.le_refl _
  | c :: t, hs, 0, q + 1, hq, _ => hs.1 _ (List.getElem_mem _)
  | c :: t, hs, p + 1, q + 1, hq, h => sorted_le (y := t) hs.2 (by simpa using hq) (by omega)
theorem waysN_same (s y : Str) {a : Nat} : ∀ b, a ≤ b → (∀ l, a ≤ l → l < b → y.count (tileK l) = 0) → waysN s y b = waysN s y a
  | 0, h, _ => by rw [show a = 0 by omega]
  | b + 1, h, hz => by
    rcases Nat.eq_or_lt_of_le h with rfl | hl
    · rfl
    · rw [waysN, hz b (by omega) (by omega), chooseV_zero, Nat.mul_one, waysN_same s y b (by omega) fun l h1 h2 => hz l h1 (by omega)]
theorem waysS_eq (s y : Str) (hs : s.length ≤ 12) (hy : y.length ≤ 12) (ht : Tiles y) (hsort : SortedB y) : m_spec_l21Ways s y = some ((waysN s y 27 : Nat) : Int) := by
  unfold m_spec_l21Ways
  have key : ∀ (d i a : Nat), i + d = y.length → a ≤ 27 → (i = 0 → a = 0) → (∀ q, (hq : i = q + 1) → ∀ hq' : q < y.length, y[q] = tileK (a - 1) ∧ 1 ≤ a) → loopM (fun q : Int × Int => m_spec_l21Ways_l1 y s q.1 q.2) (((waysN s y a : Nat) : Int), (i : Int)) = some ((waysN s y 27 : Nat) : Int) := by
    intro d
    induction d with
    | zero =>
      intro i a hi ha h0 hp
      have hz : waysN s y 27 = waysN s y a := waysN_same s y 27 ha fun l h1 h2 => by
        refine List.count_eq_zero.2 fun hm => ?_
        obtain ⟨q, hq, e⟩ := List.getElem_of_mem hm
        obtain ⟨i', rfl⟩ : ∃ i', i = i' + 1 := ⟨i - 1, by omega⟩
        obtain ⟨p1, p2⟩ := hp i' rfl (by omega)
        have hle := sorted_le hsort (by omega : i' < y.length) (by omega : q ≤ i')
        rw [e, p1] at hle
        have := tileK_lt (by omega : a - 1 < l) h2
        omega
      rw [hz]
      refine loopM_done ?_
      show m_spec_l21Ways_l1 y s _ (i : Int) = _
      unfold m_spec_l21Ways_l1
      rw [decide_eq_false (by omega)]
      rfl
    | succ d ih =>
      intro i a hi ha h0 hp
      have hiy : i < y.length := by omega
      obtain ⟨j, hj, e⟩ := ht _ (List.getElem_mem hiy)
      have htest : (bif (i : Int) == 0 then some true else (getL y (i : Int)).bind fun c33 => (chk ((i : Int) - 1)).bind fun z35 => (getL y z35).bind fun c37 => some (c33 != c37) : Option Bool) = some (decide (i = 0 ∨ j + 1 ≠ a)) := by
        cases i with
        | zero => rfl
        | succ q =>
          obtain ⟨p1, p2⟩ := hp q rfl (by omega)
          rw [beq_eq_false_iff_ne.2 (by omega), cond_false, getL_at hiy, Option.bind_some, chk_to (q : Int) (by omega) (by omega) (by omega), Option.bind_some, getL_at (by omega), Option.bind_some, e, p1]
          congr 1
          rw [Bool.eq_iff_iff, bne_iff_ne, decide_eq_true_eq]
          constructor
          · intro h
            right
            intro e'
            exact h (by rw [show a - 1 = j by omega])
          · rintro (h | h) e'
            · omega
            · have := tileK_inj hj (by omega : a - 1 < 27) e'
              omega
      by_cases hnew : i = 0 ∨ j + 1 ≠ a
      · -- a new tile
        have hge : a ≤ j := by
          cases i with
          | zero => have := h0 rfl; omega
          | succ q =>
            obtain ⟨p1, p2⟩ := hp q rfl (by omega)
            have hle := sorted_le hsort hiy (by omega : q ≤ q + 1)
            rw [e, p1] at hle
            rcases hnew with h | h
            · omega
            · rcases Nat.lt_or_ge j (a - 1) with hl | hl
              · have := tileK_lt hl (by omega); omega
              · omega
        have hz : waysN s y j = waysN s y a := waysN_same s y j hge fun l h1 h2 => by
          refine List.count_eq_zero.2 fun hm => ?_
          obtain ⟨q, hq, e'⟩ := List.getElem_of_mem hm
          rcases Nat.lt_or_ge q i with hqi | hqi
          · obtain ⟨i', rfl⟩ : ∃ i', i = i' + 1 := ⟨i - 1, by omega⟩
            obtain ⟨p1, p2⟩ := hp i' rfl (by omega)
            have hle := sorted_le hsort (by omega : i' < y.length) (by omega : q ≤ i')
            rw [e', p1] at hle
            have := tileK_lt (by omega : a - 1 < l) (by omega)
            omega
          · have hle := sorted_le hsort hq hqi
            rw [e', e] at hle
            have := tileK_lt h2 hj
            omega
        have hmax := waysN_max hs hy (by omega : j + 1 ≤ 27)
        rw [← ih (i + 1) (j + 1) (by omega) (by omega) (by omega) (fun q hq hq' => by
          obtain rfl : q = i := by omega
          exact ⟨e, by omega⟩)]
        refine loopM_next ?_
        show m_spec_l21Ways_l1 y s ((waysN s y a : Nat) : Int) (i : Int) = _
        rw [← hz]
        rw [waysN] at hmax ⊢
        unfold m_spec_l21Ways_l1
        rw [decide_eq_true (by omega), cond_true, htest, decide_eq_true hnew, Option.bind_some, cond_true, getL_at hiy, Option.bind_some, Option.bind_some, e, countS_eq s _ (by omega), Option.bind_some, countS_eq y _ (by omega), Option.bind_some, chooseS_eq _ (Nat.le_trans List.count_le_length hs), Option.bind_some, ← Int.natCast_mul, chk_nat (by omega), Option.bind_some, Option.bind_some, chk_succ (by omega), Option.bind_some]
      · -- one more of the same
        have hja : j + 1 = a := by omega
        rw [← ih (i + 1) a (by omega) ha (by omega) (fun q hq hq' => by
          obtain rfl : q = i := by omega
          exact ⟨by rw [e, ← hja]; rfl, by omega⟩)]
        refine loopM_next ?_
        show m_spec_l21Ways_l1 y s ((waysN s y a : Nat) : Int) (i : Int) = _
        unfold m_spec_l21Ways_l1
        rw [decide_eq_true (by omega), cond_true, htest, decide_eq_false hnew, Option.bind_some, cond_false, Option.bind_some, chk_succ (by omega), Option.bind_some]
  have := key y.length 0 0 (by omega) (by omega) (fun _ => rfl) (fun q hq => by omega)
  rw [show (((waysN s y 0 : Nat) : Int), ((0 : Nat) : Int)) = ((1 : Int), (0 : Int)) from rfl] at this
  rw [this]
  rfl

end Go.Proofs.Ytgmbcolpchckbaa
