/- IsFilled: the models of the program and of the reference agree. -/
import Derived.Test.YtgmikhdealhlfaaPureE
namespace Go.Proofs.Ytgmikhdealhlfaa
open Go Go.RowKit
set_option linter.unusedSimpArgs false
set_option linter.unusedVariables false

theorem IsFilled_eq (g : Grid) (l : Lexicon) (hl : g.Cells.length ≤ 8000000000000000000) (hn : l.Words.length ≤ 1048576) (hw : ∀ w ∈ l.Words, w.length ≤ 1048576) : ∃ v, m_impl_IsFilled g l = some v ∧ m_spec_IsFilled g l = some v := by
  unfold m_impl_IsFilled m_spec_IsFilled
  have hw' : ∀ w ∈ l.Words, w.length ≤ 8000000000000000000 := fun w h => by have := hw w h; omega
  rw [ValidGrid_eq g hl, l25Ok_eq g hl, ValidLexicon_eq l (by omega) hw', l05Ok_eq l (by omega) hw']
  cases hg : gridB g
  · exact ⟨_, rfl, rfl⟩
  cases hx : lexB l
  · exact ⟨_, rfl, rfl⟩
  obtain ⟨R, C, e1, e2, h1, h2, h3, h4, h5, h6⟩ := gridB_iff.1 hg
  have hlen := slotsT_len h2 h4 g.Cells
  obtain ⟨x1, x2, x3⟩ := lexB_all hx
  simp only [Option.bind_some, Bool.not_true, cond_false, cond_true, slotsI_eq e1 e2 h2 h4 h5, slotsS_eq e1 e2 h2 h4 h5]
  -- what is found for each slot
  have hfind : ∀ s : Slot, ∃ v, m_impl_Lexicon_has l (patT g.Cells C s) = some v ∧ m_spec_l05Has l.Words (patT g.Cells C s) = some v := fun s => has_eq l _ (by omega) x2
  let f : Nat → Bool := fun i => (m_impl_Lexicon_has l (patT g.Cells C ((slotsT g.Cells R C).getD i ⟨0, 0, false, 0⟩))).getD true
  have hf : ∀ i (hi : i < (slotsT g.Cells R C).length), m_impl_Lexicon_has l (patT g.Cells C (slotsT g.Cells R C)[i]) = some (f i) ∧ m_spec_l05Has l.Words (patT g.Cells C (slotsT g.Cells R C)[i]) = some (f i) := fun i hi => by
    obtain ⟨v, a, b⟩ := hfind (slotsT g.Cells R C)[i]
    have e : f i = v := by
      show (m_impl_Lexicon_has l (patT g.Cells C ((slotsT g.Cells R C).getD i ⟨0, 0, false, 0⟩))).getD true = v
      rw [List.getD_eq_getElem?_getD, List.getElem?_eq_getElem hi, Option.getD_some, a]
      rfl
    rw [e]
    exact ⟨a, b⟩
  have hI := loop_all (step := fun i : Int => m_impl_IsFilled_l1 (slotsT g.Cells R C) g l i) f (slotsT g.Cells R C).length (.inl () : Unit ⊕ Bool) (.inr false) (fun i hi => by
      unfold m_impl_IsFilled_l1
      rw [decide_eq_true (by omega : (i : Int) < (slotsT g.Cells R C).length), cond_true, getL_at hi, Option.bind_some, pattern_eq e2 h2 h4 h5 (slotsT_in (List.getElem_mem hi)), Option.bind_some, (hf i hi).1, Option.bind_some, chk_succ (by omega)]
      cases f i <;> rfl)
    (by unfold m_impl_IsFilled_l1; rw [decide_eq_false (by omega)]; rfl) (slotsT g.Cells R C).length 0 (by omega)
  have hS := loop_all (step := fun i : Int => m_spec_IsFilled_l1 (slotsT g.Cells R C) g l i) f (slotsT g.Cells R C).length (.inl () : Unit ⊕ Bool) (.inr false) (fun i hi => by
      unfold m_spec_IsFilled_l1
      rw [decide_eq_true (by omega : (i : Int) < (slotsT g.Cells R C).length), cond_true, getL_at hi, Option.bind_some, patternS_rfl, pattern_eq e2 h2 h4 h5 (slotsT_in (List.getElem_mem hi)), Option.bind_some, (hf i hi).2, Option.bind_some, chk_succ (by omega)]
      cases f i <;> rfl)
    (by unfold m_spec_IsFilled_l1; rw [decide_eq_false (by omega)]; rfl) (slotsT g.Cells R C).length 0 (by omega)
  rw [show ((0 : Nat) : Int) = 0 from rfl] at hI hS
  rw [hI, hS]
  cases allI f 0 (slotsT g.Cells R C).length
  · exact ⟨_, rfl, rfl⟩
  · exact ⟨_, rfl, rfl⟩
theorem m_laws_FnExactIsFilled_true (g : Grid) (l : Lexicon) (h : Lies GridRep g) (h' : Lies LexiconRep l) : m_laws_FnExactIsFilled g l = some true := by
  unfold m_laws_FnExactIsFilled
  rw [sz_sub (bulk_Grid g) 1048576 (by omega) (szGrid_eq g h 1048576 (by omega) (by omega))]
  split
  case isFalse => rfl
  rename_i hb
  rw [sz_sub (bulk_Lexicon l) _ (by omega) (szLexicon_eq l h' _ (by omega) (by omega))]
  split
  case isFalse => rfl
  rename_i hc
  obtain ⟨hn, hw⟩ := lex_small (l := l) (by omega)
  have hs := sm_Lexicon_of (x := l) (by omega)
  have hg : g.Cells.length ≤ 1048576 := by unfold bulk_Grid at hb; omega
  obtain ⟨v, h1, h2⟩ := IsFilled_eq g l (by omega) hn hw
  simp only [toGrid_eq g, toLexicon_eq l hs, Option.bind_some, h1, h2, eqLexicon_eq _ _ hs, decide_true, Bool.not_true, cond_false, bne_self_eq_false]

end Go.Proofs.Ytgmikhdealhlfaa
