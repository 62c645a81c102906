/- PutWord: the models of the program and of the reference agree. -/
import Derived.Test.YtgmikhdealhlfaaGreatDoorPureD
namespace Go.Proofs.YtgmikhdealhlfaaGreatDoor
open Go Go.RowKit
set_option linter.unusedSimpArgs false
set_option linter.unusedVariables false

theorem PutWord_eq (g : Grid) (k : Int) (w : Str) (hl : g.Cells.length ≤ 8000000000000000000) (hw : w.length ≤ 8000000000000000000) : ∃ v, m_impl_PutWord g k w = some v ∧ m_spec_PutWord g k w = some v := by
  unfold m_impl_PutWord m_spec_PutWord m_spec_l25Code
  rw [ValidGrid_eq g hl, l25Ok_eq g hl]
  cases hg : gridB g
  · exact ⟨_, rfl, rfl⟩
  · obtain ⟨R, C, e1, e2, h1, h2, h3, h4, h5, h6⟩ := gridB_iff.1 hg
    have hlen := slotsT_len h2 h4 g.Cells
    unfold m_impl_Grid_slotAt
    simp only [Option.bind_some, Bool.not_true, cond_false, cond_true, slotsI_eq e1 e2 h2 h4 h5, slotsS_eq e1 e2 h2 h4 h5, chk_in (by omega : -9000000000000000000 ≤ ((slotsT g.Cells R C).length : Int) - 1) (by omega), within_eq, l00In_eq]
    cases hk : inB k 0 (((slotsT g.Cells R C).length : Int) - 1)
    · exact ⟨_, rfl, rfl⟩
    · rw [inB_iff] at hk
      have hi : k.toNat < (slotsT g.Cells R C).length := by omega
      have hin := slotsT_in (List.getElem_mem hi)
      have hp := pattern_eq e2 h2 h4 h5 hin
      have hpl := patT_len g.Cells hin h2 h4
      simp only [Bool.not_true, cond_false, Option.bind_some, getL_int hk.1 hi, patternS_rfl, hp, bne_self_eq_false, IsWord_eq w hw, IsWordS_eq w hw]
      cases hwb : wordB w
      · exact ⟨_, rfl, rfl⟩
      · obtain ⟨hs, _, _⟩ := wordB_iff.1 hwb
        simp only [Bool.not_true, cond_false, fitsPattern_eq _ w hs, l25Fits_eq _ w hw, Option.bind_some]
        cases hf : fitB (patT g.Cells C (slotsT g.Cells R C)[k.toNat]) w
        · exact ⟨_, rfl, rfl⟩
        · unfold fitB at hf
          have hle := of_decide_eq_true (Bool.and_eq_true_iff.1 hf).1
          have hn : (w.length : Int) = ((slotsT g.Cells R C)[k.toNat]).Length := by rw [← hpl.1, hle]
          simp only [Bool.not_true, cond_false, putI_eq e2 h2 h4 h5 hin hs hn, putS_eq e2 h2 h4 h5 hin hn, Option.bind_some]
          exact ⟨_, rfl, rfl⟩

end Go.Proofs.YtgmikhdealhlfaaGreatDoor
