/- Ways to choose. -/
import Derived.Test.YtgmbcolpchckbaaPureZ
namespace Go.Proofs.Ytgmbcolpchckbaa
open Go Go.RowKit
set_option linter.unusedSimpArgs false
set_option linter.unusedVariables false

/-- The number that the loops of both hold behind i steps. -/
def cv (n k : Nat) : Nat → Nat
  | 0 => 1
  | i + 1 => cv n k i * (n - k + (i + 1)) / (i + 1)
theorem cv_le {n k : Nat} (hn : n ≤ 12) (hk : k ≤ n) : ∀ i, i ≤ k → cv n k i ≤ 12 ^ i
  | 0, _ => by simp [cv]
  | i + 1, h => by
    have ih := cv_le hn hk i (by omega)
    have h1 : cv n k i * (n - k + (i + 1)) ≤ 12 ^ i * 12 := Nat.mul_le_mul ih (by omega)
    rw [cv, Nat.pow_succ]
    exact Nat.le_trans (Nat.div_le_self _ _) h1
theorem quo_nat {x i : Nat} (hi : 0 < i) (hx : x ≤ 1000000000000000) : quoI (x : Int) (i : Int) = some ((x / i : Nat) : Int) := by
  have e : (x : Int).tdiv (i : Int) = ((x / i : Nat) : Int) := by rw [Int.tdiv_eq_ediv_of_nonneg (by omega)]; rfl
  have hle := Nat.div_le_self x i
  unfold quoI
  rw [beq_eq_false_iff_ne.2 (by omega), cond_false, e]
  exact chk_nat (by omega)
theorem pow12 {i : Nat} (h : i ≤ 12) : 12 ^ i ≤ 8916100448256 := Nat.le_trans (Nat.pow_le_pow_right (by omega) h) (by decide)
theorem choose_loop {n k : Nat} (hn : n ≤ 12) (hk : k ≤ n) : loopM (fun s : Int × Int => m_impl_choose_l1 (k : Int) (n : Int) s.1 s.2) (1, 1) = some (cv n k k : Int) := by
  have h := loop_run (step := fun s : Int × Int => m_impl_choose_l1 (k : Int) (n : Int) s.1 s.2) (fun i => ((cv n k i : Int), ((i + 1 : Nat) : Int))) k ((cv n k k : Nat) : Int) (fun i hi => by
      have h1 := cv_le hn hk i (by omega)
      have h2 := pow12 (by omega : i ≤ 12)
      have h3 : cv n k i * (n - k + (i + 1)) ≤ 8916100448256 * 12 := Nat.mul_le_mul (by omega) (by omega)
      have e : ((n - k : Nat) : Int) + ((i + 1 : Nat) : Int) = ((n - k + (i + 1) : Nat) : Int) := by omega
      show m_impl_choose_l1 (k : Int) (n : Int) (cv n k i : Int) ((i + 1 : Nat) : Int) = _
      unfold m_impl_choose_l1
      rw [decide_eq_true (by omega), cond_true, chk_to ((n - k : Nat) : Int) (by omega) (by omega) (by omega), Option.bind_some, e, chk_nat (by omega), Option.bind_some, ← Int.natCast_mul, chk_nat (by omega), Option.bind_some, quo_nat (by omega) (by omega), Option.bind_some, chk_succ (by omega), Option.bind_some]
      rfl)
    (by
      show m_impl_choose_l1 (k : Int) (n : Int) _ ((k + 1 : Nat) : Int) = _
      unfold m_impl_choose_l1
      rw [decide_eq_false (by omega)]
      rfl) 0 (Nat.zero_le _)
  exact h
def chooseV (n k : Nat) : Nat := if n < k then 0 else cv n k k
theorem choose_eq {n : Nat} (k : Nat) (hn : n ≤ 12) : m_impl_choose (n : Int) (k : Int) = some (chooseV n k : Int) := by
  unfold m_impl_choose chooseV
  by_cases h : n < k
  · rw [decide_eq_true (by omega), if_pos h]
    rfl
  · rw [decide_eq_false (by omega), if_neg h, cond_false, choose_loop hn (by omega)]
    rfl
theorem chooseS_eq {n : Nat} (k : Nat) (hn : n ≤ 12) : m_spec_l21Choose (n : Int) (k : Int) = some (chooseV n k : Int) := by
  unfold m_spec_l21Choose chooseV
  rw [l00In_eq, Option.bind_some]
  by_cases h : n < k
  · have : inB (k : Int) 0 (n : Int) = false := by rw [Bool.eq_false_iff]; intro h'; rw [inB_iff] at h'; omega
    rw [this, if_pos h]
    rfl
  · rw [(inB_iff.2 ⟨by omega, by omega⟩ : inB (k : Int) 0 (n : Int) = true), if_neg h, Bool.not_true, cond_false]
    show Option.bind (Option.bind (loopM (fun s : Int × Int => m_impl_choose_l1 (k : Int) (n : Int) s.1 s.2) (1, 1)) _) _ = _
    rw [choose_loop hn (by omega)]
    rfl
theorem chooseV_le {n k : Nat} (hn : n ≤ 12) : chooseV n k ≤ 12 ^ k := by
  unfold chooseV
  split
  · exact Nat.zero_le _
  · exact cv_le hn (by omega) k (Nat.le_refl _)
theorem chooseV_zero (n : Nat) : chooseV n 0 = 1 := by
  unfold chooseV
  rw [if_neg (by omega)]
  rfl
theorem countS_eq (s : Str) (c : UInt8) (hl : s.length ≤ 1000) : m_spec_l21Count s c = some ((s.count c : Nat) : Int) := by
  unfold m_spec_l21Count
  have h := loop_run (step := fun q : Int × Int => m_spec_l21Count_l1 s c q.1 q.2) (fun i => ((((s.take i).count c : Nat) : Int), (i : Int))) s.length ((s.count c : Nat) : Int) (fun i hi => by
      have hc : (s.take i).count c ≤ 1000 := Nat.le_trans List.count_le_length (by rw [List.length_take]; omega)
      show m_spec_l21Count_l1 s c (((s.take i).count c : Nat) : Int) (i : Int) = _
      unfold m_spec_l21Count_l1
      rw [decide_eq_true (by omega : (i : Int) < s.length), cond_true, getL_at hi, Option.bind_some, List.take_add_one, List.getElem?_eq_getElem hi, List.count_append]
      cases hx : s[i] == c
      · rw [cond_false, Option.bind_some, chk_succ (by omega), Option.bind_some]
        simp [List.count_cons, hx]
      · rw [cond_true, chk_succ (by omega), Option.bind_some, Option.bind_some, chk_succ (by omega), Option.bind_some]
        simp [List.count_cons, hx])
    (by
      show m_spec_l21Count_l1 s c _ (s.length : Int) = _
      unfold m_spec_l21Count_l1
      rw [decide_eq_false (by omega), List.take_length]
      rfl) 0 (Nat.zero_le _)
  rw [show ((((s.take 0).count c : Nat) : Int), ((0 : Nat) : Int)) = ((0 : Int), (0 : Int)) from rfl] at h
  rw [h]
  rfl

end Go.Proofs.Ytgmbcolpchckbaa
