/- DrawsOf: the models of the program and of the reference agree. -/
import Derived.Test.YtgmbcolpchckbaaPureZ4
namespace Go.Proofs.Ytgmbcolpchckbaa
open Go Go.RowKit
set_option linter.unusedSimpArgs false
set_option linter.unusedVariables false

def poolB (s : Str) : Bool := pileB s && decide (s.length ≤ 12)
theorem dec12 (s : Str) : decide ((s.length : Int) ≤ 12) = decide (s.length ≤ 12) := by rw [Bool.eq_iff_iff]; simp; omega
theorem isPool_eq (s : Str) (hl : s.length ≤ 8000000000000000000) : m_impl_isPool s = some (poolB s) := by
  unfold m_impl_isPool poolB
  rw [ValidPile_eq s hl, dec12]
  cases decide (s.length ≤ 12) <;> cases pileB s <;> rfl
theorem l21Pool_eq (s : Str) (hl : s.length ≤ 8000000000000000000) : m_spec_l21Pool s = some (poolB s) := by
  unfold m_spec_l21Pool poolB
  rw [l03Pile_eq s hl, dec12]
  cases pileB s <;> cases decide (s.length ≤ 12) <;> rfl
def codeR (s : Str) (n : Int) : Int := bif !poolB s then 1 else bif inB n 0 7 && decide (n ≤ s.length) then 0 else 2
theorem drawCode_eq (s : Str) (n : Int) (hl : s.length ≤ 8000000000000000000) : m_impl_drawCode s n = some (codeR s n) := by
  unfold m_impl_drawCode codeR
  rw [isPool_eq s hl, Option.bind_some, within_eq]
  cases poolB s
  · rfl
  · cases inB n 0 7
    · rfl
    · by_cases h : n ≤ (s.length : Int)
      · simp only [Bool.not_true, cond_false, Option.bind_some, decide_eq_false (by omega : ¬ (s.length : Int) < n), decide_eq_true h]
        rfl
      · simp only [Bool.not_true, cond_false, Option.bind_some, decide_eq_true (by omega : (s.length : Int) < n), decide_eq_false h]
        rfl
theorem l21Code_eq (s : Str) (n : Int) (hl : s.length ≤ 8000000000000000000) : m_spec_l21Code s n = some (codeR s n) := by
  unfold m_spec_l21Code codeR
  rw [l21Pool_eq s hl, Option.bind_some]
  cases poolB s
  · rfl
  · have hmin : ∃ m : Int, m_spec_l00Min 7 (s.length : Int) = some m ∧ m ≤ 7 ∧ m ≤ s.length ∧ (m = 7 ∨ m = s.length) := by
      unfold m_spec_l00Min
      by_cases h : (7 : Int) < (s.length : Int)
      · rw [decide_eq_true h]
        exact ⟨7, rfl, by omega, by omega, .inl rfl⟩
      · rw [decide_eq_false h]
        exact ⟨s.length, rfl, by omega, by omega, .inr rfl⟩
    obtain ⟨m, hm, m1, m2, m3⟩ := hmin
    have hin : inB n 0 m = (inB n 0 7 && decide (n ≤ (s.length : Int))) := by
      rw [Bool.eq_iff_iff, Bool.and_eq_true, inB_iff, inB_iff, decide_eq_true_eq]
      omega
    rw [Bool.not_true, cond_false, cond_false, hm, Option.bind_some, l00In_eq, Option.bind_some, hin]
    cases (inB n 0 7 && decide (n ≤ (s.length : Int))) <;> rfl
def drawsR (s : Str) (n : Int) : List Drawn × Int := bif codeR s n == 0 then (bif decide (40 < ((drawsL s n.toNat).length : Int)) then ([], 5) else (drawsL s n.toNat, 0)) else ([], codeR s n)
theorem code_zero {s : Str} {n : Int} (h : codeR s n = 0) : pileB s = true ∧ s.length ≤ 12 ∧ 0 ≤ n ∧ n ≤ 7 ∧ n ≤ s.length := by
  unfold codeR at h
  cases hp : poolB s
  · rw [hp] at h
    exact absurd (show (1 : Int) = 0 from h) (by decide)
  · rw [hp, Bool.not_true, cond_false] at h
    cases hi : (inB n 0 7 && decide (n ≤ (s.length : Int)))
    · rw [hi] at h
      exact absurd (show (2 : Int) = 0 from h) (by decide)
    · obtain ⟨i1, i2⟩ := Bool.and_eq_true_iff.1 hi
      rw [inB_iff] at i1
      have i2 := of_decide_eq_true i2
      unfold poolB at hp
      obtain ⟨p1, p2⟩ := Bool.and_eq_true_iff.1 hp
      exact ⟨p1, of_decide_eq_true p2, i1.1, i1.2, i2⟩
theorem DrawsOf_eq (s : Str) (n : Int) (hl : s.length ≤ 1048576) : m_impl_DrawsOf s n = some (drawsR s n) ∧ m_spec_DrawsOf s n = some (drawsR s n) ∧ (drawsR s n).1.length ≤ 5000 := by
  unfold m_impl_DrawsOf m_spec_DrawsOf m_spec_l21List drawsR
  rw [drawCode_eq s n (by omega), l21Code_eq s n (by omega), Option.bind_some, Option.bind_some]
  by_cases h0 : codeR s n = 0
  · obtain ⟨p1, p2, p3, p4, p5⟩ := code_zero h0
    obtain ⟨hs, ht⟩ := pile_sorted p1
    obtain ⟨m, rfl⟩ : ∃ m : Nat, n = m := ⟨n.toNat, by omega⟩
    have hsm := (subs_small (n := m) hs ht p2 (by omega)).1
    have hlen : (drawsL s m).length ≤ 5000 := by unfold drawsL; rw [List.length_map]; omega
    rw [h0, bne_self_eq_false, cond_false, cond_false, draws_eq hs ht p2 (by omega), drawsS_eq hs ht p2 (by omega), Option.bind_some, beq_self_eq_true, cond_true, Int.toNat_natCast]
    cases decide (40 < ((drawsL s m).length : Int))
    · exact ⟨rfl, rfl, hlen⟩
    · exact ⟨rfl, rfl, by simp⟩
  · rw [bne_iff_ne.2 h0, beq_eq_false_iff_ne.2 h0]
    exact ⟨rfl, rfl, by simp⟩

theorem m_laws_FnExactDrawsOf_true (s : Str) (n : Int) (h : Lies strRep s) (h' : Lies intRep n) : m_laws_FnExactDrawsOf s n = some true := by
  unfold m_laws_FnExactDrawsOf
  by_cases hc : s.length ≤ 1048576
  case neg => rw [decide_eq_true (by omega)]; rfl
  obtain ⟨h1, h2, h3⟩ := DrawsOf_eq s n hc
  obtain ⟨ys, k', m1, m2, m3, m4⟩ := marksDrawnS (drawsR s n).1 (by omega) 1 (by omega) (by omega)
  rw [decide_eq_false (by omega), cond_false, h1, h2, Option.bind_some, Option.bind_some]
  have he := eqDrawnS_eq _ (drawsR s n).1 (show sm_DrawnS (drawsR s n).1 by unfold sm_DrawnS; omega)
  simp only [he, decide_true, Bool.not_true, cond_false, Option.bind_some, bne_self_eq_false, m1, m2, decide_eq_false (by omega : ¬ k' < 0)]

end Go.Proofs.Ytgmbcolpchckbaa
