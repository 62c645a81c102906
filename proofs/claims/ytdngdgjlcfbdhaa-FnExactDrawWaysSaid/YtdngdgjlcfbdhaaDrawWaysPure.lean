/- DrawWays: the models of the program and of the reference agree. -/
import Derived.Test.YtdngdgjlcfbdhaaPureA
namespace Go.Proofs.Ytdngdgjlcfbdhaa
open Go Go.RowKit
set_option linter.unusedSimpArgs false
set_option linter.unusedVariables false

theorem l21Pool_eq (s : Str) (hl : s.length ≤ 8000000000000000000) : m_spec_l21Pool s = some (pileB s && decide (s.length ≤ 12)) := by
  unfold m_spec_l21Pool
  rw [l03Pile_eq s hl, Option.bind_some, show decide ((s.length : Int) ≤ 12) = decide (s.length ≤ 12) by rw [Bool.eq_iff_iff]; simp; omega]
  cases pileB s <;> rfl
theorem isPool_eq (s : Str) (hl : s.length ≤ 8000000000000000000) : m_impl_isPool s = some (pileB s && decide (s.length ≤ 12)) := by
  unfold m_impl_isPool
  rw [ValidPile_eq s hl, Option.bind_some, show decide ((s.length : Int) ≤ 12) = decide (s.length ≤ 12) by rw [Bool.eq_iff_iff]; simp; omega]
  cases decide (s.length ≤ 12) <;> cases pileB s <;> rfl

def drawCode (s : Str) (n : Int) : Int := bif !(pileB s && decide (s.length ≤ 12)) then 1 else bif !(inB n 0 (min 7 s.length)) then 2 else 0
theorem l21Code_eq (s : Str) (n : Int) (hl : s.length ≤ 8000000000000000000) : m_spec_l21Code s n = some (drawCode s n) := by
  unfold m_spec_l21Code drawCode
  rw [l21Pool_eq s hl, Option.bind_some, l00Min_eq, Option.bind_some, l00In_eq, Option.bind_some]
  cases !(pileB s && decide (s.length ≤ 12)) <;> cases !(inB n 0 (min 7 s.length)) <;> rfl
theorem drawCode_eq (s : Str) (n : Int) (hl : s.length ≤ 8000000000000000000) : m_impl_drawCode s n = some (drawCode s n) := by
  unfold m_impl_drawCode drawCode
  rw [isPool_eq s hl, Option.bind_some, within_eq, Option.bind_some]
  cases !(pileB s && decide (s.length ≤ 12))
  · simp only [cond_false]
    have e : (!inB n 0 (min 7 s.length)) = (!inB n 0 7 || decide ((s.length : Int) < n)) := by
      rw [Bool.eq_iff_iff]; simp [inB]; omega
    rw [e]
    cases !inB n 0 7 <;> cases decide ((s.length : Int) < n) <;> rfl
  · rfl
theorem drawCode_zero {s : Str} {n : Int} (h : (drawCode s n != 0) = false) : s.length ≤ 12 ∧ 0 ≤ n ∧ n ≤ 7 ∧ n ≤ s.length := by
  unfold drawCode at h
  cases h1 : pileB s && decide (s.length ≤ 12)
  · rw [h1] at h; simp at h
  · cases h2 : inB n 0 (min 7 s.length)
    · rw [h1, h2] at h; simp at h
    · rw [inB_iff] at h2
      simp at h1
      omega

/-- Binomials of small numbers are found, and the two programs find the same. -/
theorem choose_eq (n k : Int) (h0 : 0 ≤ k) (h1 : k ≤ n) (h2 : n ≤ 12) : ∃ v, m_impl_choose n k = some v ∧ m_spec_l21Choose n k = some v := by
  have hs : ∀ a b, m_spec_l21Choose_l1 k n a b = m_impl_choose_l1 k n a b := fun a b => rfl
  obtain ⟨v, hv, _⟩ := loopM_inv (step := fun s : Int × Int => m_impl_choose_l1 k n s.1 s.2) (fun s => 1 ≤ s.2 ∧ s.2 ≤ k + 1 ∧ 0 ≤ s.1 ∧ s.1 ≤ 12 ^ (s.2.toNat - 1)) (fun s => (k + 1 - s.2).toNat) (fun _ => True) (fun s hI => by
      obtain ⟨a, b⟩ := s
      obtain ⟨i1, i2, i3, i4⟩ := hI
      simp only at i1 i2 i3 i4
      show (∃ s', m_impl_choose_l1 k n a b = some (.inl s') ∧ _) ∨ (∃ r, m_impl_choose_l1 k n a b = some (.inr r) ∧ _)
      unfold m_impl_choose_l1
      by_cases hb : b ≤ k
      · left
        have hp : (12 : Int) ^ (b.toNat - 1) ≤ 12 ^ 12 := by
          have : 12 ^ (b.toNat - 1) ≤ 12 ^ 12 := Nat.pow_le_pow_right (n := 12) (by omega) (by omega)
          exact_mod_cast this
        have hp' : (12 : Int) ^ 12 = 8916100448256 := by decide
        have hm : a * (n - k + b) ≤ 12 ^ (b.toNat - 1) * 12 := Int.mul_le_mul i4 (by omega) (by omega) (Int.le_trans i3 i4)
        have hm0 : 0 ≤ a * (n - k + b) := Int.mul_nonneg i3 (by omega)
        have hd : (a * (n - k + b)).tdiv b ≤ a * (n - k + b) := by
          rw [Int.tdiv_eq_ediv_of_nonneg hm0]
          exact Int.ediv_le_self _ hm0
        have hd0 : 0 ≤ (a * (n - k + b)).tdiv b := by
          rw [Int.tdiv_eq_ediv_of_nonneg hm0]
          exact Int.ediv_nonneg hm0 (by omega)
        rw [decide_eq_true hb, cond_true, chk_in (by omega) (by omega), Option.bind_some, chk_in (by omega) (by omega), Option.bind_some, chk_in (by omega) (by omega), Option.bind_some]
        have hq : quoI (a * (n - k + b)) b = some ((a * (n - k + b)).tdiv b) := by
          unfold quoI
          have : (b == 0) = false := by simp; omega
          rw [this, cond_false, chk_in (by omega) (by omega)]
        rw [hq, Option.bind_some, chk_in (by omega) (by omega), Option.bind_some]
        refine ⟨_, rfl, ⟨by simp only; omega, by simp only; omega, hd0, ?_⟩, by simp only; omega⟩
        simp only
        have e : (12 : Int) ^ ((b + 1).toNat - 1) = 12 ^ (b.toNat - 1) * 12 := by
          rw [show (b + 1).toNat - 1 = (b.toNat - 1) + 1 by omega, Int.pow_succ]
        omega
      · right
        rw [decide_eq_false hb]
        exact ⟨_, rfl, trivial⟩) (1, 1) ⟨by simp, by simp; omega, by simp, by simp⟩
  refine ⟨v, ?_, ?_⟩
  · unfold m_impl_choose
    rw [decide_eq_false (by omega), cond_false, hv]
    rfl
  · unfold m_spec_l21Choose
    rw [l00In_eq, Option.bind_some, (inB_iff.2 ⟨h0, h1⟩ : inB k 0 n = true)]
    simp only [Bool.not_true, cond_false]
    rw [show (fun s : Int × Int => m_spec_l21Choose_l1 k n s.1 s.2) = fun s => m_impl_choose_l1 k n s.1 s.2 from rfl, hv]
    rfl

theorem DrawWays_eq (s : Str) (n : Int) (hl : s.length ≤ 8000000000000000000) : ∃ v, m_spec_DrawWays s n = some v ∧ m_impl_DrawWays s n = some v := by
  unfold m_spec_DrawWays m_impl_DrawWays
  rw [l21Code_eq s n hl, drawCode_eq s n hl]
  simp only [Option.bind_some]
  cases hc : drawCode s n != 0
  · obtain ⟨h1, h2, h3, h4⟩ := drawCode_zero hc
    obtain ⟨v, hv, hv'⟩ := choose_eq s.length n h2 h4 (by omega)
    rw [hv, hv']
    exact ⟨_, rfl, rfl⟩
  · exact ⟨_, rfl, rfl⟩

theorem m_laws_FnExactDrawWays_true (s : Str) (n : Int) (h : Lies strRep s) (h' : Lies intRep n) : m_laws_FnExactDrawWays s n = some true := by
  unfold m_laws_FnExactDrawWays
  by_cases hl : 1048576 < (s.length : Int)
  · rw [decide_eq_true hl]; rfl
  · obtain ⟨v, hv, hv'⟩ := DrawWays_eq s n (by omega)
    rw [decide_eq_false hl, hv, hv']
    simp

end Go.Proofs.Ytdngdgjlcfbdhaa
