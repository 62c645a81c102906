/- The program's structs as Lean data, and how they lie in memory. Printed by drive.py. -/
import Derived.Test.YtbekokenomhgeaaGreatDoorEngR
namespace Go.Proofs.YtbekokenomhgeaaGreatDoor
open Go Go.RowKit
set_option linter.unusedSimpArgs false
set_option linter.unusedVariables false

structure Play where
  Row : Int
  Col : Int
  Down : Bool
  Word : Str
  deriving DecidableEq

def PlayRep : Rep Play := Rep.via (Rep.seq intRep (Rep.seq intRep (Rep.seq boolRep strRep))) (fun x => (x.Row, x.Col, x.Down, x.Word))

theorem PlayRep_open {w : World} {S : Nat → Prop} {x : Play} {row : List Value} (h : PlayRep.R w S x row) : row = [vI x.Row, vI x.Col, .bool x.Down, vS x.Word] ∧ R64 x.Row ∧ R64 x.Col ∧ x.Word.length ≤ maxLen := by
  obtain ⟨_, _, rfl, ⟨rfl, h1⟩, _, _, rfl, ⟨rfl, h2⟩, _, _, rfl, rfl, ⟨rfl, h3⟩⟩ := h
  exact ⟨rfl, h1, h2, h3⟩

theorem PlayRep_mk {w : World} {S : Nat → Prop} {x : Play} (h0 : R64 x.Row) (h1 : R64 x.Col) (h2 : x.Word.length ≤ maxLen) : PlayRep.R w S x [vI x.Row, vI x.Col, .bool x.Down, vS x.Word] :=
  ⟨[vI x.Row], _, rfl, ⟨rfl, h0⟩, [vI x.Col], _, rfl, ⟨rfl, h1⟩, [.bool x.Down], _, rfl, rfl, ⟨rfl, h2⟩⟩

structure Turn where
  Rack : Str
  Pass : Bool
  Play : Play
  deriving DecidableEq

def TurnRep : Rep Turn := Rep.via (Rep.seq strRep (Rep.seq boolRep PlayRep)) (fun x => (x.Rack, x.Pass, x.Play))

theorem TurnRep_open {w : World} {S : Nat → Prop} {x : Turn} {row : List Value} (h : TurnRep.R w S x row) : row = [vS x.Rack, .bool x.Pass, vI x.Play.Row, vI x.Play.Col, .bool x.Play.Down, vS x.Play.Word] ∧ x.Rack.length ≤ maxLen ∧ R64 x.Play.Row ∧ R64 x.Play.Col ∧ x.Play.Word.length ≤ maxLen := by
  obtain ⟨_, _, rfl, ⟨rfl, h1⟩, _, _, rfl, rfl, k2⟩ := h
  obtain ⟨rfl, q3, q4, q5⟩ := PlayRep_open k2
  exact ⟨rfl, h1, q3, q4, q5⟩

theorem TurnRep_mk {w : World} {S : Nat → Prop} {x : Turn} (h0 : x.Rack.length ≤ maxLen) (h1 : R64 x.Play.Row) (h2 : R64 x.Play.Col) (h3 : x.Play.Word.length ≤ maxLen) : TurnRep.R w S x [vS x.Rack, .bool x.Pass, vI x.Play.Row, vI x.Play.Col, .bool x.Play.Down, vS x.Play.Word] :=
  ⟨[vS x.Rack], _, rfl, ⟨rfl, h0⟩, [.bool x.Pass], _, rfl, rfl, PlayRep_mk h1 h2 h3⟩

end Go.Proofs.YtbekokenomhgeaaGreatDoor
