/- Ways to choose. -/
import Derived.Test.YtbekokenomhgeaaGreatDoorPureZ
namespace Go.Proofs.YtbekokenomhgeaaGreatDoor
open Go Go.RowKit
set_option linter.unusedSimpArgs false
set_option linter.unusedVariables false

/-- The number that the loops of both hold behind i steps. -/
def cv (n k : Nat) : Nat → Nat
  | 0 => 1
  | i + 1 => cv n k i * (n - k + (i + 1)) / (i + 1)

theorem cv_le {n k : Nat} (hn : n ≤ 12) (hk : k ≤ n) : ∀ i, i ≤ k → cv n k i ≤ 12 ^ i
  | 0, _ => by simp [cv]
  | i + 1, h => by
    have ih := cv_le hn hk i (by omega)
    have h1 : cv n k i * (n - k + (i + 1)) ≤ 12 ^ i * 12 := Nat.mul_le_mul ih (by omega)
    rw [cv, Nat.pow_succ]
    exact Nat.le_trans (Nat.div_le_self _ _) h1

theorem quo_nat {x i : Nat} (hi : 0 < i) (hx : x ≤ 1000000000000000) : quoI (x : Int) (i : Int) = some ((x / i : Nat) : Int) := by
  have e : (x : Int).tdiv (i : Int) = ((x / i : Nat) : Int) := by rw [Int.tdiv_eq_ediv_of_nonneg (by omega)]; rfl
  have hle := Nat.div_le_self x i
  unfold quoI
  rw [beq_eq_false_iff_ne.2 (by omega), cond_false, e]
  exact chk_nat (by omega)

theorem pow12 {i : Nat} (h : i ≤ 12) : 12 ^ i ≤ 8916100448256 := Nat.le_trans (Nat.pow_le_pow_right (by omega) h) (by decide)

def chooseV (n k : Nat) : Nat := if n < k then 0 else cv n k k

theorem chooseV_le {n k : Nat} (hn : n ≤ 12) : chooseV n k ≤ 12 ^ k := by
  unfold chooseV
  split
  · exact Nat.zero_le _
  · exact cv_le hn (by omega) k (Nat.le_refl _)

theorem chooseV_zero (n : Nat) : chooseV n 0 = 1 := by
  unfold chooseV
  rw [if_neg (by omega)]
  rfl

end Go.Proofs.YtbekokenomhgeaaGreatDoor
