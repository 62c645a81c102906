/- The program's structs as Lean data, and how they lie in memory. Printed by drive.py. -/
import Derived.Test.YtbekokenomhgeaaGreatDoorEngR
namespace Go.Proofs.YtbekokenomhgeaaGreatDoor
open Go Go.RowKit
set_option linter.unusedSimpArgs false
set_option linter.unusedVariables false

structure Play where
  Row : Int
  Col : Int
  Down : Bool
  Word : Str
  deriving DecidableEq

def PlayRep : Rep Play := Rep.via (Rep.seq intRep (Rep.seq intRep (Rep.seq boolRep strRep))) (fun x => (x.Row, x.Col, x.Down, x.Word))

theorem PlayRep_open {w : World} {S : Nat → Prop} {x : Play} {row : List Value} (h : PlayRep.R w S x row) : row = [vI x.Row, vI x.Col, .bool x.Down, vS x.Word] ∧ R64 x.Row ∧ R64 x.Col ∧ x.Word.length ≤ maxLen := by
  obtain ⟨_, _, rfl, ⟨rfl, h1⟩, _, _, rfl, ⟨rfl, h2⟩, _, _, rfl, rfl, ⟨rfl, h3⟩⟩ := h
  exact ⟨rfl, h1, h2, h3⟩

theorem PlayRep_mk {w : World} {S : Nat → Prop} {x : Play} (h0 : R64 x.Row) (h1 : R64 x.Col) (h2 : x.Word.length ≤ maxLen) : PlayRep.R w S x [vI x.Row, vI x.Col, .bool x.Down, vS x.Word] :=
  ⟨[vI x.Row], _, rfl, ⟨rfl, h0⟩, [vI x.Col], _, rfl, ⟨rfl, h1⟩, [.bool x.Down], _, rfl, rfl, ⟨rfl, h2⟩⟩

structure Action where
  Kind : Int
  Play : Play
  Tiles : Str
  Seconds : Int
  deriving DecidableEq

def ActionRep : Rep Action := Rep.via (Rep.seq intRep (Rep.seq PlayRep (Rep.seq strRep intRep))) (fun x => (x.Kind, x.Play, x.Tiles, x.Seconds))

theorem ActionRep_open {w : World} {S : Nat → Prop} {x : Action} {row : List Value} (h : ActionRep.R w S x row) : row = [vI x.Kind, vI x.Play.Row, vI x.Play.Col, .bool x.Play.Down, vS x.Play.Word, vS x.Tiles, vI x.Seconds] ∧ R64 x.Kind ∧ R64 x.Play.Row ∧ R64 x.Play.Col ∧ x.Play.Word.length ≤ maxLen ∧ x.Tiles.length ≤ maxLen ∧ R64 x.Seconds := by
  obtain ⟨_, _, rfl, ⟨rfl, h1⟩, _, _, rfl, k2, _, _, rfl, ⟨rfl, h3⟩, ⟨rfl, h4⟩⟩ := h
  obtain ⟨rfl, q5, q6, q7⟩ := PlayRep_open k2
  exact ⟨rfl, h1, q5, q6, q7, h3, h4⟩

theorem ActionRep_mk {w : World} {S : Nat → Prop} {x : Action} (h0 : R64 x.Kind) (h1 : R64 x.Play.Row) (h2 : R64 x.Play.Col) (h3 : x.Play.Word.length ≤ maxLen) (h4 : x.Tiles.length ≤ maxLen) (h5 : R64 x.Seconds) : ActionRep.R w S x [vI x.Kind, vI x.Play.Row, vI x.Play.Col, .bool x.Play.Down, vS x.Play.Word, vS x.Tiles, vI x.Seconds] :=
  ⟨[vI x.Kind], _, rfl, ⟨rfl, h0⟩, [vI x.Play.Row, vI x.Play.Col, .bool x.Play.Down, vS x.Play.Word], _, rfl, PlayRep_mk h1 h2 h3, [vS x.Tiles], _, rfl, ⟨rfl, h4⟩, ⟨rfl, h5⟩⟩

structure Record where
  Seed : Int
  Actions : (List Action)
  deriving DecidableEq

def RecordRep : Rep Record := Rep.via (Rep.seq intRep (sliceRep ActionRep)) (fun x => (x.Seed, x.Actions))

theorem RecordRep_open {w : World} {S : Nat → Prop} {x : Record} {row : List Value} (h : RecordRep.R w S x row) : ∃ (A0 : Option Addr) (c0 : Nat), row = [vI x.Seed, vL A0 x.Actions c0] ∧ R64 x.Seed ∧ (sliceRep ActionRep).R w S x.Actions [vL A0 x.Actions c0] := by
  obtain ⟨_, _, rfl, ⟨rfl, h1⟩, ⟨B2, d2, rfl, g2⟩⟩ := h
  exact ⟨B2, d2, rfl, h1, ⟨B2, d2, rfl, g2⟩⟩

theorem RecordRep_mk {w : World} {S : Nat → Prop} {x : Record} {A0 : Option Addr} {c0 : Nat} (h0 : R64 x.Seed) (h1 : (sliceRep ActionRep).R w S x.Actions [vL A0 x.Actions c0]) : RecordRep.R w S x [vI x.Seed, vL A0 x.Actions c0] :=
  ⟨[vI x.Seed], _, rfl, ⟨rfl, h0⟩, h1⟩

end Go.Proofs.YtbekokenomhgeaaGreatDoor
