/- CountsOf: the models of the program and of the reference agree. -/
import Derived.Test.YtdaoecpkgobelaaDoorPureK13
import Derived.Test.YtdaoecpkgobelaaDoorPureMk
namespace Go.Proofs.YtdaoecpkgobelaaDoor
open Go Go.RowKit
set_option linter.unusedSimpArgs false
set_option linter.unusedVariables false

theorem CountsOf_eq (d : Dawg) (hlen : ∀ x ∈ d.Nodes, x.Next.length ≤ 2000000) : ∃ v : List Int × Int, m_impl_CountsOf d = some v ∧ m_spec_CountsOf d = some v ∧ v.1.length ≤ d.Nodes.length := by
  obtain ⟨r, h1, h2, h3⟩ := tests_agree d hlen
  unfold m_impl_CountsOf m_spec_CountsOf
  rw [h1, h2]
  cases r with
  | false => exact ⟨([], 1), rfl, rfl, Nat.zero_le _⟩
  | true =>
    have hG := h3.1 rfl
    refine ⟨(cntL d.Nodes, 0), ?_, ?_, by rw [cntL_len]; exact Nat.le_refl _⟩
    · rw [Option.bind_some, Bool.not_true, cond_false, behind_eq d hG hlen, Option.bind_some]
    · rw [Option.bind_some, Bool.not_true, cond_false, Counts_eq d hG hlen, Option.bind_some]

theorem m_laws_FnExactCountsOf_true (d : Dawg) (h : Lies DawgRep d) : m_laws_FnExactCountsOf d = some true := by
  unfold m_laws_FnExactCountsOf
  rw [szDawg_eq d h 1048576 (by omega) (by omega), Option.bind_some, szR_neg (by omega)]
  by_cases hb : (1048576 : Int) < bulk_Dawg d
  · rw [decide_eq_true hb]; rfl
  · rw [decide_eq_false hb, cond_false]
    have hbn : bulk_Dawg d ≤ 1048576 := by omega
    have hsm := sm_Dawg_of hbn
    have hl : d.Nodes.length ≤ bulk_Dawg d := by unfold bulk_Dawg bulk_NodeS; omega
    obtain ⟨v, h1, h2, h3⟩ := CountsOf_eq d (dawg_small hbn)
    obtain ⟨ns, k1, n1, n2, n3⟩ := markDawg_some d hbn 1 (by omega) (by omega)
    obtain ⟨ys, k', m1, m2, m3, m4⟩ := marksInt64S v.1 (by omega) 1 (by omega) (by omega)
    have he := eqInt64S_eq v.1 v.1 (show sm_Int64S v.1 by unfold sm_Int64S; omega)
    have hd := eqDawg_eq d d hsm
    simp only [toDawg_eq d hsm, h1, h2, he, hd, n1, m1, m2, Option.bind_some, decide_true, Bool.not_true, cond_false, bne_self_eq_false, decide_eq_false (by omega : ¬ k1 < 0), decide_eq_false (by omega : ¬ k' < 0)]

end Go.Proofs.YtdaoecpkgobelaaDoor
