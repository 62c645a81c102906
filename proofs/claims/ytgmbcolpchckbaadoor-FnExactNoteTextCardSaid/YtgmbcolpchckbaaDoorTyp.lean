/- The program's structs as Lean data, and how they lie in memory. Printed by drive.py. -/
import Derived.Test.YtgmbcolpchckbaaDoorEngJ
namespace Go.Proofs.YtgmbcolpchckbaaDoor
open Go Go.RowKit
set_option linter.unusedSimpArgs false
set_option linter.unusedVariables false

structure Case where
  Tile : Str
  Ways : Int
  Value : Int
  deriving DecidableEq

def CaseRep : Rep Case := Rep.via (Rep.seq strRep (Rep.seq intRep intRep)) (fun x => (x.Tile, x.Ways, x.Value))

theorem CaseRep_open {w : World} {S : Nat → Prop} {x : Case} {row : List Value} (h : CaseRep.R w S x row) : row = [vS x.Tile, vI x.Ways, vI x.Value] ∧ x.Tile.length ≤ maxLen ∧ R64 x.Ways ∧ R64 x.Value := by
  obtain ⟨_, _, rfl, ⟨rfl, h1⟩, _, _, rfl, ⟨rfl, h2⟩, ⟨rfl, h3⟩⟩ := h
  exact ⟨rfl, h1, h2, h3⟩

theorem CaseRep_mk {w : World} {S : Nat → Prop} {x : Case} (h0 : x.Tile.length ≤ maxLen) (h1 : R64 x.Ways) (h2 : R64 x.Value) : CaseRep.R w S x [vS x.Tile, vI x.Ways, vI x.Value] :=
  ⟨[vS x.Tile], _, rfl, ⟨rfl, h0⟩, [vI x.Ways], _, rfl, ⟨rfl, h1⟩, ⟨rfl, h2⟩⟩

theorem CaseRep_flat : CaseRep.Flat := via_flat (seq_flat strRep_flat (seq_flat intRep_flat intRep_flat))

structure Expect where
  Sum : Int
  Ways : Int
  deriving DecidableEq

def ExpectRep : Rep Expect := Rep.via (Rep.seq intRep intRep) (fun x => (x.Sum, x.Ways))

theorem ExpectRep_open {w : World} {S : Nat → Prop} {x : Expect} {row : List Value} (h : ExpectRep.R w S x row) : row = [vI x.Sum, vI x.Ways] ∧ R64 x.Sum ∧ R64 x.Ways := by
  obtain ⟨_, _, rfl, ⟨rfl, h1⟩, ⟨rfl, h2⟩⟩ := h
  exact ⟨rfl, h1, h2⟩

theorem ExpectRep_mk {w : World} {S : Nat → Prop} {x : Expect} (h0 : R64 x.Sum) (h1 : R64 x.Ways) : ExpectRep.R w S x [vI x.Sum, vI x.Ways] :=
  ⟨[vI x.Sum], _, rfl, ⟨rfl, h0⟩, ⟨rfl, h1⟩⟩

theorem ExpectRep_flat : ExpectRep.Flat := via_flat (seq_flat intRep_flat intRep_flat)

structure Play where
  Row : Int
  Col : Int
  Down : Bool
  Word : Str
  deriving DecidableEq

def PlayRep : Rep Play := Rep.via (Rep.seq intRep (Rep.seq intRep (Rep.seq boolRep strRep))) (fun x => (x.Row, x.Col, x.Down, x.Word))

theorem PlayRep_open {w : World} {S : Nat → Prop} {x : Play} {row : List Value} (h : PlayRep.R w S x row) : row = [vI x.Row, vI x.Col, .bool x.Down, vS x.Word] ∧ R64 x.Row ∧ R64 x.Col ∧ x.Word.length ≤ maxLen := by
  obtain ⟨_, _, rfl, ⟨rfl, h1⟩, _, _, rfl, ⟨rfl, h2⟩, _, _, rfl, rfl, ⟨rfl, h3⟩⟩ := h
  exact ⟨rfl, h1, h2, h3⟩

theorem PlayRep_mk {w : World} {S : Nat → Prop} {x : Play} (h0 : R64 x.Row) (h1 : R64 x.Col) (h2 : x.Word.length ≤ maxLen) : PlayRep.R w S x [vI x.Row, vI x.Col, .bool x.Down, vS x.Word] :=
  ⟨[vI x.Row], _, rfl, ⟨rfl, h0⟩, [vI x.Col], _, rfl, ⟨rfl, h1⟩, [.bool x.Down], _, rfl, rfl, ⟨rfl, h2⟩⟩

theorem PlayRep_flat : PlayRep.Flat := via_flat (seq_flat intRep_flat (seq_flat intRep_flat (seq_flat boolRep_flat strRep_flat)))

structure Move where
  Play : Play
  Score : Int
  deriving DecidableEq

def MoveRep : Rep Move := Rep.via (Rep.seq PlayRep intRep) (fun x => (x.Play, x.Score))

theorem MoveRep_open {w : World} {S : Nat → Prop} {x : Move} {row : List Value} (h : MoveRep.R w S x row) : row = [vI x.Play.Row, vI x.Play.Col, .bool x.Play.Down, vS x.Play.Word, vI x.Score] ∧ R64 x.Play.Row ∧ R64 x.Play.Col ∧ x.Play.Word.length ≤ maxLen ∧ R64 x.Score := by
  obtain ⟨_, _, rfl, k1, ⟨rfl, h2⟩⟩ := h
  obtain ⟨rfl, q3, q4, q5⟩ := PlayRep_open k1
  exact ⟨rfl, q3, q4, q5, h2⟩

theorem MoveRep_mk {w : World} {S : Nat → Prop} {x : Move} (h0 : R64 x.Play.Row) (h1 : R64 x.Play.Col) (h2 : x.Play.Word.length ≤ maxLen) (h3 : R64 x.Score) : MoveRep.R w S x [vI x.Play.Row, vI x.Play.Col, .bool x.Play.Down, vS x.Play.Word, vI x.Score] :=
  ⟨[vI x.Play.Row, vI x.Play.Col, .bool x.Play.Down, vS x.Play.Word], _, rfl, PlayRep_mk h0 h1 h2, ⟨rfl, h3⟩⟩

theorem MoveRep_flat : MoveRep.Flat := via_flat (seq_flat PlayRep_flat intRep_flat)

structure Choice where
  Pass : Bool
  Move : Move
  Value : Int
  deriving DecidableEq

def ChoiceRep : Rep Choice := Rep.via (Rep.seq boolRep (Rep.seq MoveRep intRep)) (fun x => (x.Pass, x.Move, x.Value))

theorem ChoiceRep_open {w : World} {S : Nat → Prop} {x : Choice} {row : List Value} (h : ChoiceRep.R w S x row) : row = [.bool x.Pass, vI x.Move.Play.Row, vI x.Move.Play.Col, .bool x.Move.Play.Down, vS x.Move.Play.Word, vI x.Move.Score, vI x.Value] ∧ R64 x.Move.Play.Row ∧ R64 x.Move.Play.Col ∧ x.Move.Play.Word.length ≤ maxLen ∧ R64 x.Move.Score ∧ R64 x.Value := by
  obtain ⟨_, _, rfl, rfl, _, _, rfl, k1, ⟨rfl, h2⟩⟩ := h
  obtain ⟨rfl, q3, q4, q5, q6⟩ := MoveRep_open k1
  exact ⟨rfl, q3, q4, q5, q6, h2⟩

theorem ChoiceRep_mk {w : World} {S : Nat → Prop} {x : Choice} (h0 : R64 x.Move.Play.Row) (h1 : R64 x.Move.Play.Col) (h2 : x.Move.Play.Word.length ≤ maxLen) (h3 : R64 x.Move.Score) (h4 : R64 x.Value) : ChoiceRep.R w S x [.bool x.Pass, vI x.Move.Play.Row, vI x.Move.Play.Col, .bool x.Move.Play.Down, vS x.Move.Play.Word, vI x.Move.Score, vI x.Value] :=
  ⟨[.bool x.Pass], _, rfl, rfl, [vI x.Move.Play.Row, vI x.Move.Play.Col, .bool x.Move.Play.Down, vS x.Move.Play.Word, vI x.Move.Score], _, rfl, MoveRep_mk h0 h1 h2 h3, ⟨rfl, h4⟩⟩

theorem ChoiceRep_flat : ChoiceRep.Flat := via_flat (seq_flat boolRep_flat (seq_flat MoveRep_flat intRep_flat))

structure Note where
  Score : Int
  Best : Move
  Loss : Int
  Rank : Int
  deriving DecidableEq

def NoteRep : Rep Note := Rep.via (Rep.seq intRep (Rep.seq MoveRep (Rep.seq intRep intRep))) (fun x => (x.Score, x.Best, x.Loss, x.Rank))

theorem NoteRep_open {w : World} {S : Nat → Prop} {x : Note} {row : List Value} (h : NoteRep.R w S x row) : row = [vI x.Score, vI x.Best.Play.Row, vI x.Best.Play.Col, .bool x.Best.Play.Down, vS x.Best.Play.Word, vI x.Best.Score, vI x.Loss, vI x.Rank] ∧ R64 x.Score ∧ R64 x.Best.Play.Row ∧ R64 x.Best.Play.Col ∧ x.Best.Play.Word.length ≤ maxLen ∧ R64 x.Best.Score ∧ R64 x.Loss ∧ R64 x.Rank := by
  obtain ⟨_, _, rfl, ⟨rfl, h1⟩, _, _, rfl, k2, _, _, rfl, ⟨rfl, h3⟩, ⟨rfl, h4⟩⟩ := h
  obtain ⟨rfl, q5, q6, q7, q8⟩ := MoveRep_open k2
  exact ⟨rfl, h1, q5, q6, q7, q8, h3, h4⟩

theorem NoteRep_mk {w : World} {S : Nat → Prop} {x : Note} (h0 : R64 x.Score) (h1 : R64 x.Best.Play.Row) (h2 : R64 x.Best.Play.Col) (h3 : x.Best.Play.Word.length ≤ maxLen) (h4 : R64 x.Best.Score) (h5 : R64 x.Loss) (h6 : R64 x.Rank) : NoteRep.R w S x [vI x.Score, vI x.Best.Play.Row, vI x.Best.Play.Col, .bool x.Best.Play.Down, vS x.Best.Play.Word, vI x.Best.Score, vI x.Loss, vI x.Rank] :=
  ⟨[vI x.Score], _, rfl, ⟨rfl, h0⟩, [vI x.Best.Play.Row, vI x.Best.Play.Col, .bool x.Best.Play.Down, vS x.Best.Play.Word, vI x.Best.Score], _, rfl, MoveRep_mk h1 h2 h3 h4, [vI x.Loss], _, rfl, ⟨rfl, h5⟩, ⟨rfl, h6⟩⟩

theorem NoteRep_flat : NoteRep.Flat := via_flat (seq_flat intRep_flat (seq_flat MoveRep_flat (seq_flat intRep_flat intRep_flat)))

structure Square where
  Row : Int
  Col : Int
  deriving DecidableEq

def SquareRep : Rep Square := Rep.via (Rep.seq intRep intRep) (fun x => (x.Row, x.Col))

theorem SquareRep_open {w : World} {S : Nat → Prop} {x : Square} {row : List Value} (h : SquareRep.R w S x row) : row = [vI x.Row, vI x.Col] ∧ R64 x.Row ∧ R64 x.Col := by
  obtain ⟨_, _, rfl, ⟨rfl, h1⟩, ⟨rfl, h2⟩⟩ := h
  exact ⟨rfl, h1, h2⟩

theorem SquareRep_mk {w : World} {S : Nat → Prop} {x : Square} (h0 : R64 x.Row) (h1 : R64 x.Col) : SquareRep.R w S x [vI x.Row, vI x.Col] :=
  ⟨[vI x.Row], _, rfl, ⟨rfl, h0⟩, ⟨rfl, h1⟩⟩

theorem SquareRep_flat : SquareRep.Flat := via_flat (seq_flat intRep_flat intRep_flat)

end Go.Proofs.YtgmbcolpchckbaaDoor
