/- SlotsOf: the models of the program and of the reference agree. -/
import Derived.Test.YtgmikhdealhlfaaGreatDoorPureC
namespace Go.Proofs.YtgmikhdealhlfaaGreatDoor
open Go Go.RowKit
set_option linter.unusedSimpArgs false
set_option linter.unusedVariables false

def slotsR (g : Grid) : List Slot × Int := bif gridB g then (slotsT g.Cells g.Rows.toNat g.Cols.toNat, 0) else ([], 1)
theorem SlotsOf_eq (g : Grid) (hl : g.Cells.length ≤ 8000000000000000000) : m_impl_SlotsOf g = some (slotsR g) ∧ m_spec_SlotsOf g = some (slotsR g) ∧ (slotsR g).1.length ≤ 50 := by
  unfold m_impl_SlotsOf m_spec_SlotsOf slotsR
  rw [ValidGrid_eq g hl, l25Ok_eq g hl]
  cases hg : gridB g
  · exact ⟨rfl, rfl, by simp⟩
  · obtain ⟨R, C, e1, e2, h1, h2, h3, h4, h5, h6⟩ := gridB_iff.1 hg
    simp only [Option.bind_some, Bool.not_true, cond_false, cond_true, slotsI_eq e1 e2 h2 h4 h5, slotsS_eq e1 e2 h2 h4 h5, e1, e2, Int.toNat_natCast]
    exact ⟨trivial, trivial, slotsT_len h2 h4 _⟩

end Go.Proofs.YtgmikhdealhlfaaGreatDoor
