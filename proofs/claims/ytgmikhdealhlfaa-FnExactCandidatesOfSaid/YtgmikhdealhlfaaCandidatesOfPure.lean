/- CandidatesOf: the models of the program and of the reference agree. -/
import Derived.Test.YtgmikhdealhlfaaPureE
namespace Go.Proofs.Ytgmikhdealhlfaa
open Go Go.RowKit
set_option linter.unusedSimpArgs false
set_option linter.unusedVariables false

theorem CandidatesOf_eq (g : Grid) (l : Lexicon) (k : Int) (hl : g.Cells.length ≤ 8000000000000000000) (hn : l.Words.length ≤ 1048576) (hw : ∀ w ∈ l.Words, w.length ≤ 1048576) : ∃ v : List Str × Int, m_impl_CandidatesOf g l k = some v ∧ m_spec_CandidatesOf g l k = some v ∧ v.1.length ≤ 1000 := by
  unfold m_impl_CandidatesOf m_spec_CandidatesOf m_spec_l25Code
  have hw' : ∀ w ∈ l.Words, w.length ≤ 8000000000000000000 := fun w h => by have := hw w h; omega
  rw [ValidGrid_eq g hl, l25Ok_eq g hl, ValidLexicon_eq l (by omega) hw', l05Ok_eq l (by omega) hw']
  cases hg : gridB g
  · cases lexB l
    · exact ⟨_, rfl, rfl, by simp⟩
    · exact ⟨_, rfl, rfl, by simp⟩
  cases hx : lexB l
  · exact ⟨_, rfl, rfl, by simp⟩
  obtain ⟨R, C, e1, e2, h1, h2, h3, h4, h5, h6⟩ := gridB_iff.1 hg
  have hlen := slotsT_len h2 h4 g.Cells
  obtain ⟨x1, x2, x3⟩ := lexB_all hx
  unfold m_impl_Grid_slotAt
  simp only [Option.bind_some, Bool.not_true, cond_false, cond_true, slotsI_eq e1 e2 h2 h4 h5, slotsS_eq e1 e2 h2 h4 h5, chk_in (by omega : -9000000000000000000 ≤ ((slotsT g.Cells R C).length : Int) - 1) (by omega), within_eq, l00In_eq]
  cases hk : inB k 0 (((slotsT g.Cells R C).length : Int) - 1)
  · exact ⟨_, rfl, rfl, by simp⟩
  · rw [inB_iff] at hk
    have hi : k.toNat < (slotsT g.Cells R C).length := by omega
    have hin := slotsT_in (List.getElem_mem hi)
    simp only [Bool.not_true, cond_false, Option.bind_some, getL_int hk.1 hi, bne_self_eq_false, candidates_eq e2 h2 h4 h5 hin l hx, wordsS_eq e2 h2 h4 h5 hin l.Words (by omega) hw']
    refine ⟨_, rfl, rfl, ?_⟩
    have := List.length_filter_le (fitB (patT g.Cells C (slotsT g.Cells R C)[k.toNat])) l.Words
    simp only
    omega
theorem m_laws_FnExactCandidatesOf_true (g : Grid) (l : Lexicon) (k : Int) (h : Lies GridRep g) (h' : Lies LexiconRep l) (h'' : Lies intRep k) : m_laws_FnExactCandidatesOf g l k = some true := by
  unfold m_laws_FnExactCandidatesOf
  rw [sz_sub (bulk_Grid g) 1048576 (by omega) (szGrid_eq g h 1048576 (by omega) (by omega))]
  split
  case isFalse => rfl
  rename_i hb
  rw [sz_sub (bulk_Lexicon l) _ (by omega) (szLexicon_eq l h' _ (by omega) (by omega))]
  split
  case isFalse => rfl
  rename_i hc
  obtain ⟨hn, hw⟩ := lex_small (l := l) (by omega)
  have hs := sm_Lexicon_of (x := l) (by omega)
  have hg : g.Cells.length ≤ 1048576 := by unfold bulk_Grid at hb; omega
  obtain ⟨v, h1, h2, h3⟩ := CandidatesOf_eq g l k (by omega) hn hw
  obtain ⟨ys, k', m1, m2, m3, m4⟩ := marksStringS v.1 (by omega) 1 (by omega) (by omega)
  obtain ⟨zs, q', n1, n2, n3, n4⟩ := marksStringS l.Words (by omega) 1 (by omega) (by omega)
  have hsv : sm_StringS v.1 := by unfold sm_StringS; omega
  simp only [toGrid_eq g, toLexicon_eq l hs, Option.bind_some, h1, h2, eqStringS_eq _ _ hsv, eqLexicon_eq _ _ hs, decide_true, Bool.not_true, cond_false, bne_self_eq_false, m_laws_markLexicon, n1, decide_eq_false (by omega : ¬ q' < 0), m1, m2, decide_eq_false (by omega : ¬ k' < 0)]

end Go.Proofs.Ytgmikhdealhlfaa
