/- The program's structs as Lean data, and how they lie in memory. Printed by drive.py. -/
import Derived.Test.YtgmikhdealhlfaaDoorEngJ
namespace Go.Proofs.YtgmikhdealhlfaaDoor
open Go Go.RowKit
set_option linter.unusedSimpArgs false
set_option linter.unusedVariables false

structure Grid where
  Rows : Int
  Cols : Int
  Cells : Str
  deriving DecidableEq

def GridRep : Rep Grid := Rep.via (Rep.seq intRep (Rep.seq intRep strRep)) (fun x => (x.Rows, x.Cols, x.Cells))

theorem GridRep_open {w : World} {S : Nat → Prop} {x : Grid} {row : List Value} (h : GridRep.R w S x row) : row = [vI x.Rows, vI x.Cols, vS x.Cells] ∧ R64 x.Rows ∧ R64 x.Cols ∧ x.Cells.length ≤ maxLen := by
  obtain ⟨_, _, rfl, ⟨rfl, h1⟩, _, _, rfl, ⟨rfl, h2⟩, ⟨rfl, h3⟩⟩ := h
  exact ⟨rfl, h1, h2, h3⟩

theorem GridRep_mk {w : World} {S : Nat → Prop} {x : Grid} (h0 : R64 x.Rows) (h1 : R64 x.Cols) (h2 : x.Cells.length ≤ maxLen) : GridRep.R w S x [vI x.Rows, vI x.Cols, vS x.Cells] :=
  ⟨[vI x.Rows], _, rfl, ⟨rfl, h0⟩, [vI x.Cols], _, rfl, ⟨rfl, h1⟩, ⟨rfl, h2⟩⟩

theorem GridRep_flat : GridRep.Flat := via_flat (seq_flat intRep_flat (seq_flat intRep_flat strRep_flat))

structure Slot where
  Row : Int
  Col : Int
  Down : Bool
  Length : Int
  deriving DecidableEq

def SlotRep : Rep Slot := Rep.via (Rep.seq intRep (Rep.seq intRep (Rep.seq boolRep intRep))) (fun x => (x.Row, x.Col, x.Down, x.Length))

theorem SlotRep_open {w : World} {S : Nat → Prop} {x : Slot} {row : List Value} (h : SlotRep.R w S x row) : row = [vI x.Row, vI x.Col, .bool x.Down, vI x.Length] ∧ R64 x.Row ∧ R64 x.Col ∧ R64 x.Length := by
  obtain ⟨_, _, rfl, ⟨rfl, h1⟩, _, _, rfl, ⟨rfl, h2⟩, _, _, rfl, rfl, ⟨rfl, h3⟩⟩ := h
  exact ⟨rfl, h1, h2, h3⟩

theorem SlotRep_mk {w : World} {S : Nat → Prop} {x : Slot} (h0 : R64 x.Row) (h1 : R64 x.Col) (h2 : R64 x.Length) : SlotRep.R w S x [vI x.Row, vI x.Col, .bool x.Down, vI x.Length] :=
  ⟨[vI x.Row], _, rfl, ⟨rfl, h0⟩, [vI x.Col], _, rfl, ⟨rfl, h1⟩, [.bool x.Down], _, rfl, rfl, ⟨rfl, h2⟩⟩

theorem SlotRep_flat : SlotRep.Flat := via_flat (seq_flat intRep_flat (seq_flat intRep_flat (seq_flat boolRep_flat intRep_flat)))

end Go.Proofs.YtgmikhdealhlfaaDoor
