/-
  DERIVED. GIVEN WITH THE SEED: THE CARDS: each row of YtgmikhdealhlfaaDoorRows.lean that lists a variable, with what it lists TIED to the program's text (the seventh form; the later family's looks); each row that meets fmt, with fmt's text TOLD by the authors' own Lean function (tested against real Go, not proved from fmt's source: count such statements apart). THE CARD IS WHAT COUNTS. Prove the row's statement (the work); the ties are given (YtgmikhdealhlfaaDoorTie.lean); close each card by the builder's one call (the guide's Derived/Test/ToyasCard.lean, 'card_holds'). Laid BY PROGRAM, IN A SANDBOX (cutbox-door.mjs). By AI agents, Wed Nov 11 2026. No macro, syntax, notation, axiom, sorry.
-/
import Derived.Test.YtgmikhdealhlfaaDoorRows
import GoSem.ClaimSeven
namespace Go.Proofs.YtgmikhdealhlfaaDoor
namespace Rows

/-- THE TIED CARD OF 'laws.FnExactReadGrid'. -/
def fnExactReadGridCard : Claim7 := { stood := { row := fnExactReadGridRow, standIns := [], harness := (true, "40e2405e68024ffd2f0175bf38f474dcf29482b6a6e33aecf7b301b973c24ca8"), looks := false }, kinds := [], alts := [], laidByText := true, laidKinds := [.data, .pinned], laidTests := true, laidLooks := .later }
def FnExactReadGridCardSaid : Prop := Claim7.holds Tryd.pinned (.plain (OpenSpec.ofChange fnExactReadGridSpec)) fnExactReadGridCard

/-- THE SECOND FORM's CARD OF 'laws.FnExactReadGrid'. -/
def fnExactReadGridUptoCard : Claim7 := { stood := { row := fnExactReadGridUptoRow, standIns := [], harness := (true, "40e2405e68024ffd2f0175bf38f474dcf29482b6a6e33aecf7b301b973c24ca8"), looks := false }, kinds := [], alts := [], laidByText := true, laidKinds := [.data, .pinned], laidTests := true, laidLooks := .later }
def FnExactReadGridUptoCardSaid : Prop := Claim7.holds Tryd.pinned (.plain (OpenSpec.upto fnExactReadGridSpec)) fnExactReadGridUptoCard
end Rows
end Go.Proofs.YtgmikhdealhlfaaDoor
