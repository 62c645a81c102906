/- Grids, boards, racks: what valid means, on both sides. -/
import Derived.Test.YtbekokenomhgeaaGreatDoorPureT
import Derived.Lib.IndexLaws
namespace Go.Proofs.YtbekokenomhgeaaGreatDoor
open Go Go.RowKit
set_option linter.unusedSimpArgs false
set_option linter.unusedVariables false

/-! ### Boards and racks -/

def rackB (s : Str) : Bool := pileB s && decide (s.length ≤ 7)
theorem ValidRack_eq (s : Str) (hl : s.length ≤ 8000000000000000000) : m_impl_ValidRack s = some (rackB s) := by
  unfold m_impl_ValidRack rackB
  rw [ValidPile_eq s hl, show decide ((s.length : Int) ≤ 7) = decide (s.length ≤ 7) by rw [Bool.eq_iff_iff]; simp; omega]
  cases decide (s.length ≤ 7) <;> cases pileB s <;> rfl
theorem l03Rack_eq (s : Str) (hl : s.length ≤ 8000000000000000000) : m_spec_l03Rack s = some (rackB s) := by
  unfold m_spec_l03Rack rackB
  rw [l03Pile_eq s hl, show decide ((s.length : Int) ≤ 7) = decide (s.length ≤ 7) by rw [Bool.eq_iff_iff]; simp; omega]
  cases decide (s.length ≤ 7) <;> cases pileB s <;> rfl

end Go.Proofs.YtbekokenomhgeaaGreatDoor
