/- CandidatesOf: the models of the program and of the reference agree. -/
import Derived.Test.YtgmikhdealhlfaaGreatDoorPureE
namespace Go.Proofs.YtgmikhdealhlfaaGreatDoor
open Go Go.RowKit
set_option linter.unusedSimpArgs false
set_option linter.unusedVariables false

theorem CandidatesOf_eq (g : Grid) (l : Lexicon) (k : Int) (hl : g.Cells.length ≤ 8000000000000000000) (hn : l.Words.length ≤ 1048576) (hw : ∀ w ∈ l.Words, w.length ≤ 1048576) : ∃ v : List Str × Int, m_impl_CandidatesOf g l k = some v ∧ m_spec_CandidatesOf g l k = some v ∧ v.1.length ≤ 1000 := by
  unfold m_impl_CandidatesOf m_spec_CandidatesOf m_spec_l25Code
  have hw' : ∀ w ∈ l.Words, w.length ≤ 8000000000000000000 := fun w h => by have := hw w h; omega
  rw [ValidGrid_eq g hl, l25Ok_eq g hl, ValidLexicon_eq l (by omega) hw', l05Ok_eq l (by omega) hw']
  cases hg : gridB g
  · cases lexB l
    · exact ⟨_, rfl, rfl, by simp⟩
    · exact ⟨_, rfl, rfl, by simp⟩
  cases hx : lexB l
  · exact ⟨_, rfl, rfl, by simp⟩
  obtain ⟨R, C, e1, e2, h1, h2, h3, h4, h5, h6⟩ := gridB_iff.1 hg
  have hlen := slotsT_len h2 h4 g.Cells
  obtain ⟨x1, x2, x3⟩ := lexB_all hx
  unfold m_impl_Grid_slotAt
  simp only [Option.bind_some, Bool.not_true, cond_false, cond_true, slotsI_eq e1 e2 h2 h4 h5, slotsS_eq e1 e2 h2 h4 h5, chk_in (by omega : -9000000000000000000 ≤ ((slotsT g.Cells R C).length : Int) - 1) (by omega), within_eq, l00In_eq]
  cases hk : inB k 0 (((slotsT g.Cells R C).length : Int) - 1)
  · exact ⟨_, rfl, rfl, by simp⟩
  · rw [inB_iff] at hk
    have hi : k.toNat < (slotsT g.Cells R C).length := by omega
    have hin := slotsT_in (List.getElem_mem hi)
    simp only [Bool.not_true, cond_false, Option.bind_some, getL_int hk.1 hi, bne_self_eq_false, candidates_eq e2 h2 h4 h5 hin l hx, wordsS_eq e2 h2 h4 h5 hin l.Words (by omega) hw']
    refine ⟨_, rfl, rfl, ?_⟩
    have := List.length_filter_le (fitB (patT g.Cells C (slotsT g.Cells R C)[k.toNat])) l.Words
    simp only
    omega

end Go.Proofs.YtgmikhdealhlfaaGreatDoor
