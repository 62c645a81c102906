/-
  DERIVED. GIVEN WITH THE SEED: THE CARDS: each row of YtccoeheoifbpcaaDoorRows.lean that lists a variable, with what it lists TIED to the program's text (the seventh form; the later family's looks); each row that meets fmt, with fmt's text TOLD by the authors' own Lean function (tested against real Go, not proved from fmt's source: count such statements apart). THE CARD IS WHAT COUNTS. Prove the row's statement (the work); the ties are given (YtccoeheoifbpcaaDoorTie.lean); close each card by the builder's one call (the guide's Derived/Test/ToyasCard.lean, 'card_holds'). Laid BY PROGRAM, IN A SANDBOX (cutbox-door.mjs). By AI agents, Wed Nov 11 2026. No macro, syntax, notation, axiom, sorry.
-/
import Derived.Test.YtccoeheoifbpcaaDoorRows
import GoSem.ClaimSeven
namespace Go.Proofs.YtccoeheoifbpcaaDoor
namespace Rows

/-- THE TIED CARD OF 'laws.FnExactDawgChanges'. -/
def fnExactDawgChangesCard : Claim7 := { stood := { row := fnExactDawgChangesRow, standIns := [], harness := (true, "9493a32403166a250e3d20e41584790d95172ee2ad83938edbe15d80f473de89"), looks := false }, kinds := [], alts := [], laidByText := true, laidKinds := [.data, .data, .data], laidTests := true, laidLooks := .later }
def FnExactDawgChangesCardSaid : Prop := Claim7.holds Tryd.pinned (.plain (OpenSpec.ofChange fnExactDawgChangesSpec)) fnExactDawgChangesCard

/-- THE SECOND FORM's CARD OF 'laws.FnExactDawgChanges'. -/
def fnExactDawgChangesUptoCard : Claim7 := { stood := { row := fnExactDawgChangesUptoRow, standIns := [], harness := (true, "9493a32403166a250e3d20e41584790d95172ee2ad83938edbe15d80f473de89"), looks := false }, kinds := [], alts := [], laidByText := true, laidKinds := [.data, .data, .data], laidTests := true, laidLooks := .later }
def FnExactDawgChangesUptoCardSaid : Prop := Claim7.holds Tryd.pinned (.plain (OpenSpec.upto fnExactDawgChangesSpec)) fnExactDawgChangesUptoCard
end Rows
end Go.Proofs.YtccoeheoifbpcaaDoor
