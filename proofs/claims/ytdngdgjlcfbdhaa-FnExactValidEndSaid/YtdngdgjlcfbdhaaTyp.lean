/- The program's structs as Lean data, and how they lie in memory. Printed by drive.py. -/
import Derived.Test.YtdngdgjlcfbdhaaEngJ
namespace Go.Proofs.Ytdngdgjlcfbdhaa
open Go Go.RowKit
set_option linter.unusedSimpArgs false
set_option linter.unusedVariables false

structure Grid where
  Rows : Int
  Cols : Int
  Cells : Str
  deriving DecidableEq

def GridRep : Rep Grid := Rep.via (Rep.seq intRep (Rep.seq intRep strRep)) (fun x => (x.Rows, x.Cols, x.Cells))

theorem GridRep_open {w : World} {S : Nat → Prop} {x : Grid} {row : List Value} (h : GridRep.R w S x row) : row = [vI x.Rows, vI x.Cols, vS x.Cells] ∧ R64 x.Rows ∧ R64 x.Cols ∧ x.Cells.length ≤ maxLen := by
  obtain ⟨_, _, rfl, ⟨rfl, h1⟩, _, _, rfl, ⟨rfl, h2⟩, ⟨rfl, h3⟩⟩ := h
  exact ⟨rfl, h1, h2, h3⟩

theorem GridRep_mk {w : World} {S : Nat → Prop} {x : Grid} (h0 : R64 x.Rows) (h1 : R64 x.Cols) (h2 : x.Cells.length ≤ maxLen) : GridRep.R w S x [vI x.Rows, vI x.Cols, vS x.Cells] :=
  ⟨[vI x.Rows], _, rfl, ⟨rfl, h0⟩, [vI x.Cols], _, rfl, ⟨rfl, h1⟩, ⟨rfl, h2⟩⟩

theorem GridRep_flat : GridRep.Flat := via_flat (seq_flat intRep_flat (seq_flat intRep_flat strRep_flat))

structure Expect where
  Sum : Int
  Ways : Int
  deriving DecidableEq

def ExpectRep : Rep Expect := Rep.via (Rep.seq intRep intRep) (fun x => (x.Sum, x.Ways))

theorem ExpectRep_open {w : World} {S : Nat → Prop} {x : Expect} {row : List Value} (h : ExpectRep.R w S x row) : row = [vI x.Sum, vI x.Ways] ∧ R64 x.Sum ∧ R64 x.Ways := by
  obtain ⟨_, _, rfl, ⟨rfl, h1⟩, ⟨rfl, h2⟩⟩ := h
  exact ⟨rfl, h1, h2⟩

theorem ExpectRep_mk {w : World} {S : Nat → Prop} {x : Expect} (h0 : R64 x.Sum) (h1 : R64 x.Ways) : ExpectRep.R w S x [vI x.Sum, vI x.Ways] :=
  ⟨[vI x.Sum], _, rfl, ⟨rfl, h0⟩, ⟨rfl, h1⟩⟩

theorem ExpectRep_flat : ExpectRep.Flat := via_flat (seq_flat intRep_flat intRep_flat)

structure Member where
  Name : Str
  Rating : Int
  deriving DecidableEq

def MemberRep : Rep Member := Rep.via (Rep.seq strRep intRep) (fun x => (x.Name, x.Rating))

theorem MemberRep_open {w : World} {S : Nat → Prop} {x : Member} {row : List Value} (h : MemberRep.R w S x row) : row = [vS x.Name, vI x.Rating] ∧ x.Name.length ≤ maxLen ∧ R64 x.Rating := by
  obtain ⟨_, _, rfl, ⟨rfl, h1⟩, ⟨rfl, h2⟩⟩ := h
  exact ⟨rfl, h1, h2⟩

theorem MemberRep_mk {w : World} {S : Nat → Prop} {x : Member} (h0 : x.Name.length ≤ maxLen) (h1 : R64 x.Rating) : MemberRep.R w S x [vS x.Name, vI x.Rating] :=
  ⟨[vS x.Name], _, rfl, ⟨rfl, h0⟩, ⟨rfl, h1⟩⟩

theorem MemberRep_flat : MemberRep.Flat := via_flat (seq_flat strRep_flat intRep_flat)

structure Club where
  Members : (List Member)
  deriving DecidableEq

def ClubRep : Rep Club := Rep.via (sliceRep MemberRep) (fun x => x.Members)

theorem ClubRep_open {w : World} {S : Nat → Prop} {x : Club} {row : List Value} (h : ClubRep.R w S x row) : ∃ (A0 : Option Addr) (c0 : Nat), row = [vL A0 x.Members c0] ∧ (sliceRep MemberRep).R w S x.Members [vL A0 x.Members c0] := by
  obtain ⟨B1, d1, rfl, g1⟩ := h
  exact ⟨B1, d1, rfl, ⟨B1, d1, rfl, g1⟩⟩

theorem ClubRep_mk {w : World} {S : Nat → Prop} {x : Club} {A0 : Option Addr} {c0 : Nat} (h0 : (sliceRep MemberRep).R w S x.Members [vL A0 x.Members c0]) : ClubRep.R w S x [vL A0 x.Members c0] :=
  h0

structure Board where
  Size : Int
  Premium : Str
  Cells : Str
  deriving DecidableEq

def BoardRep : Rep Board := Rep.via (Rep.seq intRep (Rep.seq strRep strRep)) (fun x => (x.Size, x.Premium, x.Cells))

theorem BoardRep_open {w : World} {S : Nat → Prop} {x : Board} {row : List Value} (h : BoardRep.R w S x row) : row = [vI x.Size, vS x.Premium, vS x.Cells] ∧ R64 x.Size ∧ x.Premium.length ≤ maxLen ∧ x.Cells.length ≤ maxLen := by
  obtain ⟨_, _, rfl, ⟨rfl, h1⟩, _, _, rfl, ⟨rfl, h2⟩, ⟨rfl, h3⟩⟩ := h
  exact ⟨rfl, h1, h2, h3⟩

theorem BoardRep_mk {w : World} {S : Nat → Prop} {x : Board} (h0 : R64 x.Size) (h1 : x.Premium.length ≤ maxLen) (h2 : x.Cells.length ≤ maxLen) : BoardRep.R w S x [vI x.Size, vS x.Premium, vS x.Cells] :=
  ⟨[vI x.Size], _, rfl, ⟨rfl, h0⟩, [vS x.Premium], _, rfl, ⟨rfl, h1⟩, ⟨rfl, h2⟩⟩

theorem BoardRep_flat : BoardRep.Flat := via_flat (seq_flat intRep_flat (seq_flat strRep_flat strRep_flat))

structure End where
  Board : Board
  Mine : Str
  Theirs : Str
  Passed : Bool
  deriving DecidableEq

def EndRep : Rep End := Rep.via (Rep.seq BoardRep (Rep.seq strRep (Rep.seq strRep boolRep))) (fun x => (x.Board, x.Mine, x.Theirs, x.Passed))

theorem EndRep_open {w : World} {S : Nat → Prop} {x : End} {row : List Value} (h : EndRep.R w S x row) : row = [vI x.Board.Size, vS x.Board.Premium, vS x.Board.Cells, vS x.Mine, vS x.Theirs, .bool x.Passed] ∧ R64 x.Board.Size ∧ x.Board.Premium.length ≤ maxLen ∧ x.Board.Cells.length ≤ maxLen ∧ x.Mine.length ≤ maxLen ∧ x.Theirs.length ≤ maxLen := by
  obtain ⟨_, _, rfl, k1, _, _, rfl, ⟨rfl, h2⟩, _, _, rfl, ⟨rfl, h3⟩, rfl⟩ := h
  obtain ⟨rfl, q4, q5, q6⟩ := BoardRep_open k1
  exact ⟨rfl, q4, q5, q6, h2, h3⟩

theorem EndRep_mk {w : World} {S : Nat → Prop} {x : End} (h0 : R64 x.Board.Size) (h1 : x.Board.Premium.length ≤ maxLen) (h2 : x.Board.Cells.length ≤ maxLen) (h3 : x.Mine.length ≤ maxLen) (h4 : x.Theirs.length ≤ maxLen) : EndRep.R w S x [vI x.Board.Size, vS x.Board.Premium, vS x.Board.Cells, vS x.Mine, vS x.Theirs, .bool x.Passed] :=
  ⟨[vI x.Board.Size, vS x.Board.Premium, vS x.Board.Cells], _, rfl, BoardRep_mk h0 h1 h2, [vS x.Mine], _, rfl, ⟨rfl, h3⟩, [vS x.Theirs], _, rfl, ⟨rfl, h4⟩, rfl⟩

theorem EndRep_flat : EndRep.Flat := via_flat (seq_flat BoardRep_flat (seq_flat strRep_flat (seq_flat strRep_flat boolRep_flat)))

structure Result where
  A : Str
  B : Str
  ScoreA : Int
  ScoreB : Int
  deriving DecidableEq

def ResultRep : Rep Result := Rep.via (Rep.seq strRep (Rep.seq strRep (Rep.seq intRep intRep))) (fun x => (x.A, x.B, x.ScoreA, x.ScoreB))

theorem ResultRep_open {w : World} {S : Nat → Prop} {x : Result} {row : List Value} (h : ResultRep.R w S x row) : row = [vS x.A, vS x.B, vI x.ScoreA, vI x.ScoreB] ∧ x.A.length ≤ maxLen ∧ x.B.length ≤ maxLen ∧ R64 x.ScoreA ∧ R64 x.ScoreB := by
  obtain ⟨_, _, rfl, ⟨rfl, h1⟩, _, _, rfl, ⟨rfl, h2⟩, _, _, rfl, ⟨rfl, h3⟩, ⟨rfl, h4⟩⟩ := h
  exact ⟨rfl, h1, h2, h3, h4⟩

theorem ResultRep_mk {w : World} {S : Nat → Prop} {x : Result} (h0 : x.A.length ≤ maxLen) (h1 : x.B.length ≤ maxLen) (h2 : R64 x.ScoreA) (h3 : R64 x.ScoreB) : ResultRep.R w S x [vS x.A, vS x.B, vI x.ScoreA, vI x.ScoreB] :=
  ⟨[vS x.A], _, rfl, ⟨rfl, h0⟩, [vS x.B], _, rfl, ⟨rfl, h1⟩, [vI x.ScoreA], _, rfl, ⟨rfl, h2⟩, ⟨rfl, h3⟩⟩

theorem ResultRep_flat : ResultRep.Flat := via_flat (seq_flat strRep_flat (seq_flat strRep_flat (seq_flat intRep_flat intRep_flat)))

structure Play where
  Row : Int
  Col : Int
  Down : Bool
  Word : Str
  deriving DecidableEq

def PlayRep : Rep Play := Rep.via (Rep.seq intRep (Rep.seq intRep (Rep.seq boolRep strRep))) (fun x => (x.Row, x.Col, x.Down, x.Word))

theorem PlayRep_open {w : World} {S : Nat → Prop} {x : Play} {row : List Value} (h : PlayRep.R w S x row) : row = [vI x.Row, vI x.Col, .bool x.Down, vS x.Word] ∧ R64 x.Row ∧ R64 x.Col ∧ x.Word.length ≤ maxLen := by
  obtain ⟨_, _, rfl, ⟨rfl, h1⟩, _, _, rfl, ⟨rfl, h2⟩, _, _, rfl, rfl, ⟨rfl, h3⟩⟩ := h
  exact ⟨rfl, h1, h2, h3⟩

theorem PlayRep_mk {w : World} {S : Nat → Prop} {x : Play} (h0 : R64 x.Row) (h1 : R64 x.Col) (h2 : x.Word.length ≤ maxLen) : PlayRep.R w S x [vI x.Row, vI x.Col, .bool x.Down, vS x.Word] :=
  ⟨[vI x.Row], _, rfl, ⟨rfl, h0⟩, [vI x.Col], _, rfl, ⟨rfl, h1⟩, [.bool x.Down], _, rfl, rfl, ⟨rfl, h2⟩⟩

theorem PlayRep_flat : PlayRep.Flat := via_flat (seq_flat intRep_flat (seq_flat intRep_flat (seq_flat boolRep_flat strRep_flat)))

structure Move where
  Play : Play
  Score : Int
  deriving DecidableEq

def MoveRep : Rep Move := Rep.via (Rep.seq PlayRep intRep) (fun x => (x.Play, x.Score))

theorem MoveRep_open {w : World} {S : Nat → Prop} {x : Move} {row : List Value} (h : MoveRep.R w S x row) : row = [vI x.Play.Row, vI x.Play.Col, .bool x.Play.Down, vS x.Play.Word, vI x.Score] ∧ R64 x.Play.Row ∧ R64 x.Play.Col ∧ x.Play.Word.length ≤ maxLen ∧ R64 x.Score := by
  obtain ⟨_, _, rfl, k1, ⟨rfl, h2⟩⟩ := h
  obtain ⟨rfl, q3, q4, q5⟩ := PlayRep_open k1
  exact ⟨rfl, q3, q4, q5, h2⟩

theorem MoveRep_mk {w : World} {S : Nat → Prop} {x : Move} (h0 : R64 x.Play.Row) (h1 : R64 x.Play.Col) (h2 : x.Play.Word.length ≤ maxLen) (h3 : R64 x.Score) : MoveRep.R w S x [vI x.Play.Row, vI x.Play.Col, .bool x.Play.Down, vS x.Play.Word, vI x.Score] :=
  ⟨[vI x.Play.Row, vI x.Play.Col, .bool x.Play.Down, vS x.Play.Word], _, rfl, PlayRep_mk h0 h1 h2, ⟨rfl, h3⟩⟩

theorem MoveRep_flat : MoveRep.Flat := via_flat (seq_flat PlayRep_flat intRep_flat)

structure Note where
  Score : Int
  Best : Move
  Loss : Int
  Rank : Int
  deriving DecidableEq

def NoteRep : Rep Note := Rep.via (Rep.seq intRep (Rep.seq MoveRep (Rep.seq intRep intRep))) (fun x => (x.Score, x.Best, x.Loss, x.Rank))

theorem NoteRep_open {w : World} {S : Nat → Prop} {x : Note} {row : List Value} (h : NoteRep.R w S x row) : row = [vI x.Score, vI x.Best.Play.Row, vI x.Best.Play.Col, .bool x.Best.Play.Down, vS x.Best.Play.Word, vI x.Best.Score, vI x.Loss, vI x.Rank] ∧ R64 x.Score ∧ R64 x.Best.Play.Row ∧ R64 x.Best.Play.Col ∧ x.Best.Play.Word.length ≤ maxLen ∧ R64 x.Best.Score ∧ R64 x.Loss ∧ R64 x.Rank := by
  obtain ⟨_, _, rfl, ⟨rfl, h1⟩, _, _, rfl, k2, _, _, rfl, ⟨rfl, h3⟩, ⟨rfl, h4⟩⟩ := h
  obtain ⟨rfl, q5, q6, q7, q8⟩ := MoveRep_open k2
  exact ⟨rfl, h1, q5, q6, q7, q8, h3, h4⟩

theorem NoteRep_mk {w : World} {S : Nat → Prop} {x : Note} (h0 : R64 x.Score) (h1 : R64 x.Best.Play.Row) (h2 : R64 x.Best.Play.Col) (h3 : x.Best.Play.Word.length ≤ maxLen) (h4 : R64 x.Best.Score) (h5 : R64 x.Loss) (h6 : R64 x.Rank) : NoteRep.R w S x [vI x.Score, vI x.Best.Play.Row, vI x.Best.Play.Col, .bool x.Best.Play.Down, vS x.Best.Play.Word, vI x.Best.Score, vI x.Loss, vI x.Rank] :=
  ⟨[vI x.Score], _, rfl, ⟨rfl, h0⟩, [vI x.Best.Play.Row, vI x.Best.Play.Col, .bool x.Best.Play.Down, vS x.Best.Play.Word, vI x.Best.Score], _, rfl, MoveRep_mk h1 h2 h3 h4, [vI x.Loss], _, rfl, ⟨rfl, h5⟩, ⟨rfl, h6⟩⟩

theorem NoteRep_flat : NoteRep.Flat := via_flat (seq_flat intRep_flat (seq_flat MoveRep_flat (seq_flat intRep_flat intRep_flat)))

structure Square where
  Row : Int
  Col : Int
  deriving DecidableEq

def SquareRep : Rep Square := Rep.via (Rep.seq intRep intRep) (fun x => (x.Row, x.Col))

theorem SquareRep_open {w : World} {S : Nat → Prop} {x : Square} {row : List Value} (h : SquareRep.R w S x row) : row = [vI x.Row, vI x.Col] ∧ R64 x.Row ∧ R64 x.Col := by
  obtain ⟨_, _, rfl, ⟨rfl, h1⟩, ⟨rfl, h2⟩⟩ := h
  exact ⟨rfl, h1, h2⟩

theorem SquareRep_mk {w : World} {S : Nat → Prop} {x : Square} (h0 : R64 x.Row) (h1 : R64 x.Col) : SquareRep.R w S x [vI x.Row, vI x.Col] :=
  ⟨[vI x.Row], _, rfl, ⟨rfl, h0⟩, ⟨rfl, h1⟩⟩

theorem SquareRep_flat : SquareRep.Flat := via_flat (seq_flat intRep_flat intRep_flat)

structure Slot where
  Row : Int
  Col : Int
  Down : Bool
  Length : Int
  deriving DecidableEq

def SlotRep : Rep Slot := Rep.via (Rep.seq intRep (Rep.seq intRep (Rep.seq boolRep intRep))) (fun x => (x.Row, x.Col, x.Down, x.Length))

theorem SlotRep_open {w : World} {S : Nat → Prop} {x : Slot} {row : List Value} (h : SlotRep.R w S x row) : row = [vI x.Row, vI x.Col, .bool x.Down, vI x.Length] ∧ R64 x.Row ∧ R64 x.Col ∧ R64 x.Length := by
  obtain ⟨_, _, rfl, ⟨rfl, h1⟩, _, _, rfl, ⟨rfl, h2⟩, _, _, rfl, rfl, ⟨rfl, h3⟩⟩ := h
  exact ⟨rfl, h1, h2, h3⟩

theorem SlotRep_mk {w : World} {S : Nat → Prop} {x : Slot} (h0 : R64 x.Row) (h1 : R64 x.Col) (h2 : R64 x.Length) : SlotRep.R w S x [vI x.Row, vI x.Col, .bool x.Down, vI x.Length] :=
  ⟨[vI x.Row], _, rfl, ⟨rfl, h0⟩, [vI x.Col], _, rfl, ⟨rfl, h1⟩, [.bool x.Down], _, rfl, rfl, ⟨rfl, h2⟩⟩

theorem SlotRep_flat : SlotRep.Flat := via_flat (seq_flat intRep_flat (seq_flat intRep_flat (seq_flat boolRep_flat intRep_flat)))

end Go.Proofs.Ytdngdgjlcfbdhaa
