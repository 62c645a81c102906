/- The program's structs as Lean data, and how they lie in memory. Printed by drive.py. -/
import Derived.Test.YtgmbcolpchckbaaEngJ
namespace Go.Proofs.Ytgmbcolpchckbaa
open Go Go.RowKit
set_option linter.unusedSimpArgs false
set_option linter.unusedVariables false

structure TileSet where
  Letters : Str
  Values : (List Int)
  Counts : (List Int)
  Blanks : Int
  deriving DecidableEq

def TileSetRep : Rep TileSet := Rep.via (Rep.seq strRep (Rep.seq (sliceRep intRep) (Rep.seq (sliceRep intRep) intRep))) (fun x => (x.Letters, x.Values, x.Counts, x.Blanks))

theorem TileSetRep_open {w : World} {S : Nat → Prop} {x : TileSet} {row : List Value} (h : TileSetRep.R w S x row) : ∃ (A0 : Option Addr) (c0 : Nat), ∃ (A1 : Option Addr) (c1 : Nat), row = [vS x.Letters, vL A0 x.Values c0, vL A1 x.Counts c1, vI x.Blanks] ∧ x.Letters.length ≤ maxLen ∧ (sliceRep intRep).R w S x.Values [vL A0 x.Values c0] ∧ (sliceRep intRep).R w S x.Counts [vL A1 x.Counts c1] ∧ R64 x.Blanks := by
  obtain ⟨_, _, rfl, ⟨rfl, h1⟩, _, _, rfl, ⟨B2, d2, rfl, g2⟩, _, _, rfl, ⟨B3, d3, rfl, g3⟩, ⟨rfl, h4⟩⟩ := h
  exact ⟨B2, d2, B3, d3, rfl, h1, ⟨B2, d2, rfl, g2⟩, ⟨B3, d3, rfl, g3⟩, h4⟩

theorem TileSetRep_mk {w : World} {S : Nat → Prop} {x : TileSet} {A0 : Option Addr} {c0 : Nat} {A1 : Option Addr} {c1 : Nat} (h0 : x.Letters.length ≤ maxLen) (h1 : (sliceRep intRep).R w S x.Values [vL A0 x.Values c0]) (h2 : (sliceRep intRep).R w S x.Counts [vL A1 x.Counts c1]) (h3 : R64 x.Blanks) : TileSetRep.R w S x [vS x.Letters, vL A0 x.Values c0, vL A1 x.Counts c1, vI x.Blanks] :=
  ⟨[vS x.Letters], _, rfl, ⟨rfl, h0⟩, [vL A0 x.Values c0], _, rfl, h1, [vL A1 x.Counts c1], _, rfl, h2, ⟨rfl, h3⟩⟩

structure Drawn where
  Tiles : Str
  Ways : Int
  deriving DecidableEq

def DrawnRep : Rep Drawn := Rep.via (Rep.seq strRep intRep) (fun x => (x.Tiles, x.Ways))

theorem DrawnRep_open {w : World} {S : Nat → Prop} {x : Drawn} {row : List Value} (h : DrawnRep.R w S x row) : row = [vS x.Tiles, vI x.Ways] ∧ x.Tiles.length ≤ maxLen ∧ R64 x.Ways := by
  obtain ⟨_, _, rfl, ⟨rfl, h1⟩, ⟨rfl, h2⟩⟩ := h
  exact ⟨rfl, h1, h2⟩

theorem DrawnRep_mk {w : World} {S : Nat → Prop} {x : Drawn} (h0 : x.Tiles.length ≤ maxLen) (h1 : R64 x.Ways) : DrawnRep.R w S x [vS x.Tiles, vI x.Ways] :=
  ⟨[vS x.Tiles], _, rfl, ⟨rfl, h0⟩, ⟨rfl, h1⟩⟩

theorem DrawnRep_flat : DrawnRep.Flat := via_flat (seq_flat strRep_flat intRep_flat)

structure l00Src where
  code : Str
  at_ : Int
  seed : Int
  deriving DecidableEq

def l00SrcRep : Rep l00Src := Rep.via (Rep.seq (sliceRep byteRep) (Rep.seq intRep wordRep)) (fun x => (x.code, x.at_, x.seed))

theorem l00SrcRep_open {w : World} {S : Nat → Prop} {x : l00Src} {row : List Value} (h : l00SrcRep.R w S x row) : ∃ (A0 : Option Addr) (c0 : Nat), row = [vL A0 x.code c0, vI x.at_, vW x.seed] ∧ (sliceRep byteRep).R w S x.code [vL A0 x.code c0] ∧ R64 x.at_ ∧ U64 x.seed := by
  obtain ⟨_, _, rfl, ⟨B1, d1, rfl, g1⟩, _, _, rfl, ⟨rfl, h2⟩, ⟨rfl, h3⟩⟩ := h
  exact ⟨B1, d1, rfl, ⟨B1, d1, rfl, g1⟩, h2, h3⟩

theorem l00SrcRep_mk {w : World} {S : Nat → Prop} {x : l00Src} {A0 : Option Addr} {c0 : Nat} (h0 : (sliceRep byteRep).R w S x.code [vL A0 x.code c0]) (h1 : R64 x.at_) (h2 : U64 x.seed) : l00SrcRep.R w S x [vL A0 x.code c0, vI x.at_, vW x.seed] :=
  ⟨[vL A0 x.code c0], _, rfl, h0, [vI x.at_], _, rfl, ⟨rfl, h1⟩, ⟨rfl, h2⟩⟩

end Go.Proofs.Ytgmbcolpchckbaa
