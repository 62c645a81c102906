/- SlotsOf: the models of the program and of the reference agree. -/
import Derived.Test.YtgmikhdealhlfaaPureC
namespace Go.Proofs.Ytgmikhdealhlfaa
open Go Go.RowKit
set_option linter.unusedSimpArgs false
set_option linter.unusedVariables false

def slotsR (g : Grid) : List Slot × Int := bif gridB g then (slotsT g.Cells g.Rows.toNat g.Cols.toNat, 0) else ([], 1)
theorem SlotsOf_eq (g : Grid) (hl : g.Cells.length ≤ 8000000000000000000) : m_impl_SlotsOf g = some (slotsR g) ∧ m_spec_SlotsOf g = some (slotsR g) ∧ (slotsR g).1.length ≤ 50 := by
  unfold m_impl_SlotsOf m_spec_SlotsOf slotsR
  rw [ValidGrid_eq g hl, l25Ok_eq g hl]
  cases hg : gridB g
  · exact ⟨rfl, rfl, by simp⟩
  · obtain ⟨R, C, e1, e2, h1, h2, h3, h4, h5, h6⟩ := gridB_iff.1 hg
    simp only [Option.bind_some, Bool.not_true, cond_false, cond_true, slotsI_eq e1 e2 h2 h4 h5, slotsS_eq e1 e2 h2 h4 h5, e1, e2, Int.toNat_natCast]
    exact ⟨trivial, trivial, slotsT_len h2 h4 _⟩
theorem m_laws_FnExactSlotsOf_true (g : Grid) (h : Lies GridRep g) : m_laws_FnExactSlotsOf g = some true := by
  unfold m_laws_FnExactSlotsOf
  rw [szGrid_eq g h 1048576 (by omega) (by omega), Option.bind_some, szR_neg (by omega)]
  by_cases hb : (1048576 : Int) < bulk_Grid g
  · rw [decide_eq_true hb]; rfl
  · rw [decide_eq_false hb]
    unfold bulk_Grid at hb
    obtain ⟨h1, h2, h3⟩ := SlotsOf_eq g (by omega)
    obtain ⟨ys, k', m1, m2, m3, m4⟩ := marksSlotS (slotsR g).1 (by omega) 1 (by omega) (by omega)
    simp only [cond_false, cond_true, toGrid_eq g, Option.bind_some, h1, h2, eqSlotS_eq _ _ (show sm_SlotS (slotsR g).1 by unfold sm_SlotS; omega), decide_true, Bool.not_true, bne_self_eq_false, m1, m2, decide_eq_false (by omega : ¬ k' < 0)]

end Go.Proofs.Ytgmikhdealhlfaa
