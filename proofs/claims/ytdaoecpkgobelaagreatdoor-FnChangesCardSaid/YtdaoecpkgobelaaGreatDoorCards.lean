/-
  DERIVED. GIVEN WITH THE SEED: THE CARDS: each row of YtdaoecpkgobelaaGreatDoorRows.lean that lists a variable, with what it lists TIED to the program's text (the seventh form; the later family's looks); each row that meets fmt, with fmt's text TOLD by the authors' own Lean function (tested against real Go, not proved from fmt's source: count such statements apart). THE CARD IS WHAT COUNTS. Prove the row's statement (the work); the ties are given (YtdaoecpkgobelaaGreatDoorTie.lean); close each card by the builder's one call (the guide's Derived/Test/ToyasCard.lean, 'card_holds'). Laid BY PROGRAM, IN A SANDBOX (cutbox-door.mjs). By AI agents, Wed Nov 11 2026. No macro, syntax, notation, axiom, sorry.
-/
import Derived.Test.YtdaoecpkgobelaaGreatDoorRows
import GoSem.ClaimSeven
namespace Go.Proofs.YtdaoecpkgobelaaGreatDoor
namespace Rows

/-- THE TIED CARD OF 'laws.FnAutomata'. -/
def fnAutomataCard : Claim7 := { stood := { row := fnAutomataRow, standIns := [], harness := (true, "1b26a5d3d660c099ec5beced310c95c280601cddedfca436bbb268100d63dc49"), looks := true }, kinds := [], alts := [], laidByText := true, laidKinds := [.data, .data, .data, .data, .sentinel, .sentinel, .pinned], laidTests := true, laidLooks := .later }
def FnAutomataCardSaid : Prop := Claim7.holds Tryz.pinned (.plain (OpenSpec.ofChange fnAutomataSpec)) fnAutomataCard

/-- THE TIED CARD OF 'laws.FnChanges'. -/
def fnChangesCard : Claim7 := { stood := { row := fnChangesRow, standIns := [], harness := (true, "1b26a5d3d660c099ec5beced310c95c280601cddedfca436bbb268100d63dc49"), looks := true }, kinds := [], alts := [], laidByText := true, laidKinds := [.data, .data, .data, .sentinel, .sentinel, .sentinel], laidTests := true, laidLooks := .later }
def FnChangesCardSaid : Prop := Claim7.holds Tryz.pinned (.plain (OpenSpec.ofChange fnChangesSpec)) fnChangesCard

/-- THE SECOND FORM's CARD OF 'laws.FnAutomata'. -/
def fnAutomataUptoCard : Claim7 := { stood := { row := fnAutomataUptoRow, standIns := [], harness := (true, "1b26a5d3d660c099ec5beced310c95c280601cddedfca436bbb268100d63dc49"), looks := true }, kinds := [], alts := [], laidByText := true, laidKinds := [.data, .data, .data, .data, .sentinel, .sentinel, .pinned], laidTests := true, laidLooks := .later }
def FnAutomataUptoCardSaid : Prop := Claim7.holds Tryz.pinned (.plain (OpenSpec.upto fnAutomataSpec)) fnAutomataUptoCard

/-- THE SECOND FORM's CARD OF 'laws.FnChanges'. -/
def fnChangesUptoCard : Claim7 := { stood := { row := fnChangesUptoRow, standIns := [], harness := (true, "1b26a5d3d660c099ec5beced310c95c280601cddedfca436bbb268100d63dc49"), looks := true }, kinds := [], alts := [], laidByText := true, laidKinds := [.data, .data, .data, .sentinel, .sentinel, .sentinel], laidTests := true, laidLooks := .later }
def FnChangesUptoCardSaid : Prop := Claim7.holds Tryz.pinned (.plain (OpenSpec.upto fnChangesSpec)) fnChangesUptoCard
end Rows
end Go.Proofs.YtdaoecpkgobelaaGreatDoor
