/- The program's structs as Lean data, and how they lie in memory. Printed by drive.py. -/
import Derived.Test.YtgmikhdealhlfaaEngJ
namespace Go.Proofs.Ytgmikhdealhlfaa
open Go Go.RowKit
set_option linter.unusedSimpArgs false
set_option linter.unusedVariables false

structure Grid where
  Rows : Int
  Cols : Int
  Cells : Str
  deriving DecidableEq

def GridRep : Rep Grid := Rep.via (Rep.seq intRep (Rep.seq intRep strRep)) (fun x => (x.Rows, x.Cols, x.Cells))

theorem GridRep_open {w : World} {S : Nat → Prop} {x : Grid} {row : List Value} (h : GridRep.R w S x row) : row = [vI x.Rows, vI x.Cols, vS x.Cells] ∧ R64 x.Rows ∧ R64 x.Cols ∧ x.Cells.length ≤ maxLen := by
  obtain ⟨_, _, rfl, ⟨rfl, h1⟩, _, _, rfl, ⟨rfl, h2⟩, ⟨rfl, h3⟩⟩ := h
  exact ⟨rfl, h1, h2, h3⟩

theorem GridRep_mk {w : World} {S : Nat → Prop} {x : Grid} (h0 : R64 x.Rows) (h1 : R64 x.Cols) (h2 : x.Cells.length ≤ maxLen) : GridRep.R w S x [vI x.Rows, vI x.Cols, vS x.Cells] :=
  ⟨[vI x.Rows], _, rfl, ⟨rfl, h0⟩, [vI x.Cols], _, rfl, ⟨rfl, h1⟩, ⟨rfl, h2⟩⟩

theorem GridRep_flat : GridRep.Flat := via_flat (seq_flat intRep_flat (seq_flat intRep_flat strRep_flat))

structure Lexicon where
  Words : (List Str)
  deriving DecidableEq

def LexiconRep : Rep Lexicon := Rep.via (sliceRep strRep) (fun x => x.Words)

theorem LexiconRep_open {w : World} {S : Nat → Prop} {x : Lexicon} {row : List Value} (h : LexiconRep.R w S x row) : ∃ (A0 : Option Addr) (c0 : Nat), row = [vL A0 x.Words c0] ∧ (sliceRep strRep).R w S x.Words [vL A0 x.Words c0] := by
  obtain ⟨B1, d1, rfl, g1⟩ := h
  exact ⟨B1, d1, rfl, ⟨B1, d1, rfl, g1⟩⟩

theorem LexiconRep_mk {w : World} {S : Nat → Prop} {x : Lexicon} {A0 : Option Addr} {c0 : Nat} (h0 : (sliceRep strRep).R w S x.Words [vL A0 x.Words c0]) : LexiconRep.R w S x [vL A0 x.Words c0] :=
  h0

structure Slot where
  Row : Int
  Col : Int
  Down : Bool
  Length : Int
  deriving DecidableEq

def SlotRep : Rep Slot := Rep.via (Rep.seq intRep (Rep.seq intRep (Rep.seq boolRep intRep))) (fun x => (x.Row, x.Col, x.Down, x.Length))

theorem SlotRep_open {w : World} {S : Nat → Prop} {x : Slot} {row : List Value} (h : SlotRep.R w S x row) : row = [vI x.Row, vI x.Col, .bool x.Down, vI x.Length] ∧ R64 x.Row ∧ R64 x.Col ∧ R64 x.Length := by
  obtain ⟨_, _, rfl, ⟨rfl, h1⟩, _, _, rfl, ⟨rfl, h2⟩, _, _, rfl, rfl, ⟨rfl, h3⟩⟩ := h
  exact ⟨rfl, h1, h2, h3⟩

theorem SlotRep_mk {w : World} {S : Nat → Prop} {x : Slot} (h0 : R64 x.Row) (h1 : R64 x.Col) (h2 : R64 x.Length) : SlotRep.R w S x [vI x.Row, vI x.Col, .bool x.Down, vI x.Length] :=
  ⟨[vI x.Row], _, rfl, ⟨rfl, h0⟩, [vI x.Col], _, rfl, ⟨rfl, h1⟩, [.bool x.Down], _, rfl, rfl, ⟨rfl, h2⟩⟩

theorem SlotRep_flat : SlotRep.Flat := via_flat (seq_flat intRep_flat (seq_flat intRep_flat (seq_flat boolRep_flat intRep_flat)))

structure l25Search where
  words : (List Str)
  slots : (List Slot)
  most : Int
  out : (List Grid)
  deriving DecidableEq

def l25SearchRep : Rep l25Search := Rep.via (Rep.seq (sliceRep strRep) (Rep.seq (sliceRep SlotRep) (Rep.seq intRep (sliceRep GridRep)))) (fun x => (x.words, x.slots, x.most, x.out))

theorem l25SearchRep_open {w : World} {S : Nat → Prop} {x : l25Search} {row : List Value} (h : l25SearchRep.R w S x row) : ∃ (A0 : Option Addr) (c0 : Nat), ∃ (A1 : Option Addr) (c1 : Nat), ∃ (A2 : Option Addr) (c2 : Nat), row = [vL A0 x.words c0, vL A1 x.slots c1, vI x.most, vL A2 x.out c2] ∧ (sliceRep strRep).R w S x.words [vL A0 x.words c0] ∧ (sliceRep SlotRep).R w S x.slots [vL A1 x.slots c1] ∧ R64 x.most ∧ (sliceRep GridRep).R w S x.out [vL A2 x.out c2] := by
  obtain ⟨_, _, rfl, ⟨B1, d1, rfl, g1⟩, _, _, rfl, ⟨B2, d2, rfl, g2⟩, _, _, rfl, ⟨rfl, h3⟩, ⟨B4, d4, rfl, g4⟩⟩ := h
  exact ⟨B1, d1, B2, d2, B4, d4, rfl, ⟨B1, d1, rfl, g1⟩, ⟨B2, d2, rfl, g2⟩, h3, ⟨B4, d4, rfl, g4⟩⟩

theorem l25SearchRep_mk {w : World} {S : Nat → Prop} {x : l25Search} {A0 : Option Addr} {c0 : Nat} {A1 : Option Addr} {c1 : Nat} {A2 : Option Addr} {c2 : Nat} (h0 : (sliceRep strRep).R w S x.words [vL A0 x.words c0]) (h1 : (sliceRep SlotRep).R w S x.slots [vL A1 x.slots c1]) (h2 : R64 x.most) (h3 : (sliceRep GridRep).R w S x.out [vL A2 x.out c2]) : l25SearchRep.R w S x [vL A0 x.words c0, vL A1 x.slots c1, vI x.most, vL A2 x.out c2] :=
  ⟨[vL A0 x.words c0], _, rfl, h0, [vL A1 x.slots c1], _, rfl, h1, [vI x.most], _, rfl, ⟨rfl, h2⟩, h3⟩

structure l00Src where
  code : Str
  at_ : Int
  seed : Int
  deriving DecidableEq

def l00SrcRep : Rep l00Src := Rep.via (Rep.seq (sliceRep byteRep) (Rep.seq intRep wordRep)) (fun x => (x.code, x.at_, x.seed))

theorem l00SrcRep_open {w : World} {S : Nat → Prop} {x : l00Src} {row : List Value} (h : l00SrcRep.R w S x row) : ∃ (A0 : Option Addr) (c0 : Nat), row = [vL A0 x.code c0, vI x.at_, vW x.seed] ∧ (sliceRep byteRep).R w S x.code [vL A0 x.code c0] ∧ R64 x.at_ ∧ U64 x.seed := by
  obtain ⟨_, _, rfl, ⟨B1, d1, rfl, g1⟩, _, _, rfl, ⟨rfl, h2⟩, ⟨rfl, h3⟩⟩ := h
  exact ⟨B1, d1, rfl, ⟨B1, d1, rfl, g1⟩, h2, h3⟩

theorem l00SrcRep_mk {w : World} {S : Nat → Prop} {x : l00Src} {A0 : Option Addr} {c0 : Nat} (h0 : (sliceRep byteRep).R w S x.code [vL A0 x.code c0]) (h1 : R64 x.at_) (h2 : U64 x.seed) : l00SrcRep.R w S x [vL A0 x.code c0, vI x.at_, vW x.seed] :=
  ⟨[vL A0 x.code c0], _, rfl, h0, [vI x.at_], _, rfl, ⟨rfl, h1⟩, ⟨rfl, h2⟩⟩

end Go.Proofs.Ytgmikhdealhlfaa
