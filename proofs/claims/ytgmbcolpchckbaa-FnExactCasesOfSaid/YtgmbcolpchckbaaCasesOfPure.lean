/- CasesOf: the models of the program and of the reference agree. -/
import Derived.Test.YtgmbcolpchckbaaPureZ4
namespace Go.Proofs.Ytgmbcolpchckbaa
open Go Go.RowKit
set_option linter.unusedSimpArgs false
set_option linter.unusedVariables false

def unseenB (s : Str) : Bool := pileB s && inB s.length 2 8
theorem isUnseen_eq (s : Str) (hl : s.length ≤ 8000000000000000000) : m_impl_isUnseen s = some (unseenB s) := by
  unfold m_impl_isUnseen unseenB inB
  rw [ValidPile_eq s hl]
  cases decide ((2 : Int) ≤ (s.length : Int)) <;> cases decide ((s.length : Int) ≤ 8) <;> cases pileB s <;> rfl
theorem l23Unseen_eq (s : Str) (hl : s.length ≤ 8000000000000000000) : m_spec_l23Unseen s = some (unseenB s) := by
  unfold m_spec_l23Unseen unseenB
  rw [l03Pile_eq s hl, l00In_eq]
  cases pileB s <;> cases inB (s.length : Int) 2 8 <;> rfl
def casesR (s : Str) : List Drawn × Int := bif unseenB s then (drawsL s 1, 0) else ([], 1)
theorem CasesOf_eq (s : Str) (hl : s.length ≤ 1048576) : m_impl_CasesOf s = some (casesR s) ∧ m_spec_CasesOf s = some (casesR s) ∧ (casesR s).1.length ≤ 5000 := by
  unfold m_impl_CasesOf m_spec_CasesOf casesR
  rw [isUnseen_eq s (by omega), l23Unseen_eq s (by omega)]
  cases hu : unseenB s
  · exact ⟨rfl, rfl, by simp⟩
  · unfold unseenB at hu
    obtain ⟨h1, h2⟩ := Bool.and_eq_true_iff.1 hu
    rw [inB_iff] at h2
    obtain ⟨hs, ht⟩ := pile_sorted h1
    have hi := draws_eq (n := 1) hs ht (by omega) (by omega)
    have hS := drawsS_eq (n := 1) hs ht (by omega) (by omega)
    have hsm := (subs_small (n := 1) hs ht (by omega) (by omega)).1
    rw [show ((1 : Nat) : Int) = 1 from rfl] at hi hS
    rw [Option.bind_some, Option.bind_some, Bool.not_true, cond_false, cond_false, cond_true, hi, hS]
    exact ⟨rfl, rfl, by unfold drawsL; simp only [List.length_map]; omega⟩

theorem m_laws_FnExactCasesOf_true (s : Str) (h : Lies strRep s) : m_laws_FnExactCasesOf s = some true := by
  unfold m_laws_FnExactCasesOf
  by_cases hc : s.length ≤ 1048576
  case neg => rw [decide_eq_true (by omega)]; rfl
  obtain ⟨h1, h2, h3⟩ := CasesOf_eq s hc
  obtain ⟨ys, k', m1, m2, m3, m4⟩ := marksDrawnS (casesR s).1 (by omega) 1 (by omega) (by omega)
  rw [decide_eq_false (by omega), cond_false, h1, h2, Option.bind_some, Option.bind_some]
  have he := eqDrawnS_eq _ (casesR s).1 (show sm_DrawnS (casesR s).1 by unfold sm_DrawnS; omega)
  simp only [he, decide_true, Bool.not_true, cond_false, Option.bind_some, bne_self_eq_false, m1, m2, decide_eq_false (by omega : ¬ k' < 0)]

end Go.Proofs.Ytgmbcolpchckbaa
