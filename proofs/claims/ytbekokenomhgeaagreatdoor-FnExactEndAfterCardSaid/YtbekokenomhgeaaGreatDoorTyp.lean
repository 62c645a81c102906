/- The program's structs as Lean data, and how they lie in memory. Printed by drive.py. -/
import Derived.Test.YtbekokenomhgeaaGreatDoorEngJ
namespace Go.Proofs.YtbekokenomhgeaaGreatDoor
open Go Go.RowKit
set_option linter.unusedSimpArgs false
set_option linter.unusedVariables false

structure Board where
  Size : Int
  Premium : Str
  Cells : Str
  deriving DecidableEq

def BoardRep : Rep Board := Rep.via (Rep.seq intRep (Rep.seq strRep strRep)) (fun x => (x.Size, x.Premium, x.Cells))

theorem BoardRep_open {w : World} {S : Nat → Prop} {x : Board} {row : List Value} (h : BoardRep.R w S x row) : row = [vI x.Size, vS x.Premium, vS x.Cells] ∧ R64 x.Size ∧ x.Premium.length ≤ maxLen ∧ x.Cells.length ≤ maxLen := by
  obtain ⟨_, _, rfl, ⟨rfl, h1⟩, _, _, rfl, ⟨rfl, h2⟩, ⟨rfl, h3⟩⟩ := h
  exact ⟨rfl, h1, h2, h3⟩

theorem BoardRep_mk {w : World} {S : Nat → Prop} {x : Board} (h0 : R64 x.Size) (h1 : x.Premium.length ≤ maxLen) (h2 : x.Cells.length ≤ maxLen) : BoardRep.R w S x [vI x.Size, vS x.Premium, vS x.Cells] :=
  ⟨[vI x.Size], _, rfl, ⟨rfl, h0⟩, [vS x.Premium], _, rfl, ⟨rfl, h1⟩, ⟨rfl, h2⟩⟩

theorem BoardRep_flat : BoardRep.Flat := via_flat (seq_flat intRep_flat (seq_flat strRep_flat strRep_flat))

structure Play where
  Row : Int
  Col : Int
  Down : Bool
  Word : Str
  deriving DecidableEq

def PlayRep : Rep Play := Rep.via (Rep.seq intRep (Rep.seq intRep (Rep.seq boolRep strRep))) (fun x => (x.Row, x.Col, x.Down, x.Word))

theorem PlayRep_open {w : World} {S : Nat → Prop} {x : Play} {row : List Value} (h : PlayRep.R w S x row) : row = [vI x.Row, vI x.Col, .bool x.Down, vS x.Word] ∧ R64 x.Row ∧ R64 x.Col ∧ x.Word.length ≤ maxLen := by
  obtain ⟨_, _, rfl, ⟨rfl, h1⟩, _, _, rfl, ⟨rfl, h2⟩, _, _, rfl, rfl, ⟨rfl, h3⟩⟩ := h
  exact ⟨rfl, h1, h2, h3⟩

theorem PlayRep_mk {w : World} {S : Nat → Prop} {x : Play} (h0 : R64 x.Row) (h1 : R64 x.Col) (h2 : x.Word.length ≤ maxLen) : PlayRep.R w S x [vI x.Row, vI x.Col, .bool x.Down, vS x.Word] :=
  ⟨[vI x.Row], _, rfl, ⟨rfl, h0⟩, [vI x.Col], _, rfl, ⟨rfl, h1⟩, [.bool x.Down], _, rfl, rfl, ⟨rfl, h2⟩⟩

theorem PlayRep_flat : PlayRep.Flat := via_flat (seq_flat intRep_flat (seq_flat intRep_flat (seq_flat boolRep_flat strRep_flat)))

structure End where
  Board : Board
  Mine : Str
  Theirs : Str
  Passed : Bool
  deriving DecidableEq

def EndRep : Rep End := Rep.via (Rep.seq BoardRep (Rep.seq strRep (Rep.seq strRep boolRep))) (fun x => (x.Board, x.Mine, x.Theirs, x.Passed))

theorem EndRep_open {w : World} {S : Nat → Prop} {x : End} {row : List Value} (h : EndRep.R w S x row) : row = [vI x.Board.Size, vS x.Board.Premium, vS x.Board.Cells, vS x.Mine, vS x.Theirs, .bool x.Passed] ∧ R64 x.Board.Size ∧ x.Board.Premium.length ≤ maxLen ∧ x.Board.Cells.length ≤ maxLen ∧ x.Mine.length ≤ maxLen ∧ x.Theirs.length ≤ maxLen := by
  obtain ⟨_, _, rfl, k1, _, _, rfl, ⟨rfl, h2⟩, _, _, rfl, ⟨rfl, h3⟩, rfl⟩ := h
  obtain ⟨rfl, q4, q5, q6⟩ := BoardRep_open k1
  exact ⟨rfl, q4, q5, q6, h2, h3⟩

theorem EndRep_mk {w : World} {S : Nat → Prop} {x : End} (h0 : R64 x.Board.Size) (h1 : x.Board.Premium.length ≤ maxLen) (h2 : x.Board.Cells.length ≤ maxLen) (h3 : x.Mine.length ≤ maxLen) (h4 : x.Theirs.length ≤ maxLen) : EndRep.R w S x [vI x.Board.Size, vS x.Board.Premium, vS x.Board.Cells, vS x.Mine, vS x.Theirs, .bool x.Passed] :=
  ⟨[vI x.Board.Size, vS x.Board.Premium, vS x.Board.Cells], _, rfl, BoardRep_mk h0 h1 h2, [vS x.Mine], _, rfl, ⟨rfl, h3⟩, [vS x.Theirs], _, rfl, ⟨rfl, h4⟩, rfl⟩

theorem EndRep_flat : EndRep.Flat := via_flat (seq_flat BoardRep_flat (seq_flat strRep_flat (seq_flat strRep_flat boolRep_flat)))

structure Turn where
  Rack : Str
  Pass : Bool
  Play : Play
  deriving DecidableEq

def TurnRep : Rep Turn := Rep.via (Rep.seq strRep (Rep.seq boolRep PlayRep)) (fun x => (x.Rack, x.Pass, x.Play))

theorem TurnRep_open {w : World} {S : Nat → Prop} {x : Turn} {row : List Value} (h : TurnRep.R w S x row) : row = [vS x.Rack, .bool x.Pass, vI x.Play.Row, vI x.Play.Col, .bool x.Play.Down, vS x.Play.Word] ∧ x.Rack.length ≤ maxLen ∧ R64 x.Play.Row ∧ R64 x.Play.Col ∧ x.Play.Word.length ≤ maxLen := by
  obtain ⟨_, _, rfl, ⟨rfl, h1⟩, _, _, rfl, rfl, k2⟩ := h
  obtain ⟨rfl, q3, q4, q5⟩ := PlayRep_open k2
  exact ⟨rfl, h1, q3, q4, q5⟩

theorem TurnRep_mk {w : World} {S : Nat → Prop} {x : Turn} (h0 : x.Rack.length ≤ maxLen) (h1 : R64 x.Play.Row) (h2 : R64 x.Play.Col) (h3 : x.Play.Word.length ≤ maxLen) : TurnRep.R w S x [vS x.Rack, .bool x.Pass, vI x.Play.Row, vI x.Play.Col, .bool x.Play.Down, vS x.Play.Word] :=
  ⟨[vS x.Rack], _, rfl, ⟨rfl, h0⟩, [.bool x.Pass], _, rfl, rfl, PlayRep_mk h1 h2 h3⟩

theorem TurnRep_flat : TurnRep.Flat := via_flat (seq_flat strRep_flat (seq_flat boolRep_flat PlayRep_flat))

structure Action where
  Kind : Int
  Play : Play
  Tiles : Str
  Seconds : Int
  deriving DecidableEq

def ActionRep : Rep Action := Rep.via (Rep.seq intRep (Rep.seq PlayRep (Rep.seq strRep intRep))) (fun x => (x.Kind, x.Play, x.Tiles, x.Seconds))

theorem ActionRep_open {w : World} {S : Nat → Prop} {x : Action} {row : List Value} (h : ActionRep.R w S x row) : row = [vI x.Kind, vI x.Play.Row, vI x.Play.Col, .bool x.Play.Down, vS x.Play.Word, vS x.Tiles, vI x.Seconds] ∧ R64 x.Kind ∧ R64 x.Play.Row ∧ R64 x.Play.Col ∧ x.Play.Word.length ≤ maxLen ∧ x.Tiles.length ≤ maxLen ∧ R64 x.Seconds := by
  obtain ⟨_, _, rfl, ⟨rfl, h1⟩, _, _, rfl, k2, _, _, rfl, ⟨rfl, h3⟩, ⟨rfl, h4⟩⟩ := h
  obtain ⟨rfl, q5, q6, q7⟩ := PlayRep_open k2
  exact ⟨rfl, h1, q5, q6, q7, h3, h4⟩

theorem ActionRep_mk {w : World} {S : Nat → Prop} {x : Action} (h0 : R64 x.Kind) (h1 : R64 x.Play.Row) (h2 : R64 x.Play.Col) (h3 : x.Play.Word.length ≤ maxLen) (h4 : x.Tiles.length ≤ maxLen) (h5 : R64 x.Seconds) : ActionRep.R w S x [vI x.Kind, vI x.Play.Row, vI x.Play.Col, .bool x.Play.Down, vS x.Play.Word, vS x.Tiles, vI x.Seconds] :=
  ⟨[vI x.Kind], _, rfl, ⟨rfl, h0⟩, [vI x.Play.Row, vI x.Play.Col, .bool x.Play.Down, vS x.Play.Word], _, rfl, PlayRep_mk h1 h2 h3, [vS x.Tiles], _, rfl, ⟨rfl, h4⟩, ⟨rfl, h5⟩⟩

theorem ActionRep_flat : ActionRep.Flat := via_flat (seq_flat intRep_flat (seq_flat PlayRep_flat (seq_flat strRep_flat intRep_flat)))

structure Record where
  Seed : Int
  Actions : (List Action)
  deriving DecidableEq

def RecordRep : Rep Record := Rep.via (Rep.seq intRep (sliceRep ActionRep)) (fun x => (x.Seed, x.Actions))

theorem RecordRep_open {w : World} {S : Nat → Prop} {x : Record} {row : List Value} (h : RecordRep.R w S x row) : ∃ (A0 : Option Addr) (c0 : Nat), row = [vI x.Seed, vL A0 x.Actions c0] ∧ R64 x.Seed ∧ (sliceRep ActionRep).R w S x.Actions [vL A0 x.Actions c0] := by
  obtain ⟨_, _, rfl, ⟨rfl, h1⟩, ⟨B2, d2, rfl, g2⟩⟩ := h
  exact ⟨B2, d2, rfl, h1, ⟨B2, d2, rfl, g2⟩⟩

theorem RecordRep_mk {w : World} {S : Nat → Prop} {x : Record} {A0 : Option Addr} {c0 : Nat} (h0 : R64 x.Seed) (h1 : (sliceRep ActionRep).R w S x.Actions [vL A0 x.Actions c0]) : RecordRep.R w S x [vI x.Seed, vL A0 x.Actions c0] :=
  ⟨[vI x.Seed], _, rfl, ⟨rfl, h0⟩, h1⟩

structure Square where
  Row : Int
  Col : Int
  deriving DecidableEq

def SquareRep : Rep Square := Rep.via (Rep.seq intRep intRep) (fun x => (x.Row, x.Col))

theorem SquareRep_open {w : World} {S : Nat → Prop} {x : Square} {row : List Value} (h : SquareRep.R w S x row) : row = [vI x.Row, vI x.Col] ∧ R64 x.Row ∧ R64 x.Col := by
  obtain ⟨_, _, rfl, ⟨rfl, h1⟩, ⟨rfl, h2⟩⟩ := h
  exact ⟨rfl, h1, h2⟩

theorem SquareRep_mk {w : World} {S : Nat → Prop} {x : Square} (h0 : R64 x.Row) (h1 : R64 x.Col) : SquareRep.R w S x [vI x.Row, vI x.Col] :=
  ⟨[vI x.Row], _, rfl, ⟨rfl, h0⟩, ⟨rfl, h1⟩⟩

theorem SquareRep_flat : SquareRep.Flat := via_flat (seq_flat intRep_flat intRep_flat)

end Go.Proofs.YtbekokenomhgeaaGreatDoor
