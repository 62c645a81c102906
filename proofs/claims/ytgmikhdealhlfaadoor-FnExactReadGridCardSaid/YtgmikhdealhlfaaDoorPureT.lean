/- What the laws' helpers compute. Printed by lawpure.py. -/
import Derived.Test.YtgmikhdealhlfaaDoorPureA
namespace Go.Proofs.YtgmikhdealhlfaaDoor
open Go Go.RowKit
set_option linter.unusedSimpArgs false
set_option linter.unusedVariables false

theorem eqGrid_eq (x y : Grid) : m_laws_eqGrid x y = some (decide (x = y)) := by
  unfold m_laws_eqGrid
  by_cases e_Rows : x.Rows = y.Rows
  case neg => rw [decide_eq_false (fun h => e_Rows (by rw [h]) : ¬ x = y), bne_iff_ne.2 e_Rows]; rfl
  rw [show (x.Rows != y.Rows) = false by rw [e_Rows]; exact bne_self_eq_false _, cond_false]
  by_cases e_Cols : x.Cols = y.Cols
  case neg => rw [decide_eq_false (fun h => e_Cols (by rw [h]) : ¬ x = y), bne_iff_ne.2 e_Cols]; rfl
  rw [show (x.Cols != y.Cols) = false by rw [e_Cols]; exact bne_self_eq_false _, cond_false]
  by_cases e_Cells : x.Cells = y.Cells
  case neg => rw [decide_eq_false (fun h => e_Cells (by rw [h]) : ¬ x = y), bne_iff_ne.2 e_Cells]; rfl
  rw [show (x.Cells != y.Cells) = false by rw [e_Cells]; exact bne_self_eq_false _, cond_false]
  rw [decide_eq_true (by cases x; cases y; simp_all : x = y)]

end Go.Proofs.YtgmikhdealhlfaaDoor
