/-
  DERIVED. GIVEN WITH THE SEED: THE CARDS: each row of YtccoeheoifbpcaaGreatDoorRows.lean that lists a variable, with what it lists TIED to the program's text (the seventh form; the later family's looks); each row that meets fmt, with fmt's text TOLD by the authors' own Lean function (tested against real Go, not proved from fmt's source: count such statements apart). THE CARD IS WHAT COUNTS. Prove the row's statement (the work); the ties are given (YtccoeheoifbpcaaGreatDoorTie.lean); close each card by the builder's one call (the guide's Derived/Test/ToyasCard.lean, 'card_holds'). Laid BY PROGRAM, IN A SANDBOX (cutbox-door.mjs). By AI agents, Wed Nov 11 2026. No macro, syntax, notation, axiom, sorry.
-/
import Derived.Test.YtccoeheoifbpcaaGreatDoorRows
import GoSem.ClaimSeven
namespace Go.Proofs.YtccoeheoifbpcaaGreatDoor
namespace Rows

/-- THE TIED CARD OF 'laws.FnSets'. -/
def fnSetsCard : Claim7 := { stood := { row := fnSetsRow, standIns := [], harness := (true, "ede82ac13d29b0dad360396811c278bb1be04c6e328a35d3e8717b8232f85923"), looks := false }, kinds := [], alts := [], laidByText := true, laidKinds := [.data, .data, .data], laidTests := true, laidLooks := .later }
def FnSetsCardSaid : Prop := Claim7.holds Tryz.pinned (.plain (OpenSpec.ofChange fnSetsSpec)) fnSetsCard

/-- THE TIED CARD OF 'laws.FnExactUnionDawg'. -/
def fnExactUnionDawgCard : Claim7 := { stood := { row := fnExactUnionDawgRow, standIns := [], harness := (true, "ede82ac13d29b0dad360396811c278bb1be04c6e328a35d3e8717b8232f85923"), looks := false }, kinds := [], alts := [], laidByText := true, laidKinds := [.data, .data, .data], laidTests := true, laidLooks := .later }
def FnExactUnionDawgCardSaid : Prop := Claim7.holds Tryz.pinned (.plain (OpenSpec.ofChange fnExactUnionDawgSpec)) fnExactUnionDawgCard

/-- THE TIED CARD OF 'laws.FnExactMeetDawg'. -/
def fnExactMeetDawgCard : Claim7 := { stood := { row := fnExactMeetDawgRow, standIns := [], harness := (true, "ede82ac13d29b0dad360396811c278bb1be04c6e328a35d3e8717b8232f85923"), looks := false }, kinds := [], alts := [], laidByText := true, laidKinds := [.data, .data, .data], laidTests := true, laidLooks := .later }
def FnExactMeetDawgCardSaid : Prop := Claim7.holds Tryz.pinned (.plain (OpenSpec.ofChange fnExactMeetDawgSpec)) fnExactMeetDawgCard

/-- THE TIED CARD OF 'laws.FnExactMinusDawg'. -/
def fnExactMinusDawgCard : Claim7 := { stood := { row := fnExactMinusDawgRow, standIns := [], harness := (true, "ede82ac13d29b0dad360396811c278bb1be04c6e328a35d3e8717b8232f85923"), looks := false }, kinds := [], alts := [], laidByText := true, laidKinds := [.data, .data, .data], laidTests := true, laidLooks := .later }
def FnExactMinusDawgCardSaid : Prop := Claim7.holds Tryz.pinned (.plain (OpenSpec.ofChange fnExactMinusDawgSpec)) fnExactMinusDawgCard

/-- THE SECOND FORM's CARD OF 'laws.FnSets'. -/
def fnSetsUptoCard : Claim7 := { stood := { row := fnSetsUptoRow, standIns := [], harness := (true, "ede82ac13d29b0dad360396811c278bb1be04c6e328a35d3e8717b8232f85923"), looks := false }, kinds := [], alts := [], laidByText := true, laidKinds := [.data, .data, .data], laidTests := true, laidLooks := .later }
def FnSetsUptoCardSaid : Prop := Claim7.holds Tryz.pinned (.plain (OpenSpec.upto fnSetsSpec)) fnSetsUptoCard

/-- THE SECOND FORM's CARD OF 'laws.FnExactUnionDawg'. -/
def fnExactUnionDawgUptoCard : Claim7 := { stood := { row := fnExactUnionDawgUptoRow, standIns := [], harness := (true, "ede82ac13d29b0dad360396811c278bb1be04c6e328a35d3e8717b8232f85923"), looks := false }, kinds := [], alts := [], laidByText := true, laidKinds := [.data, .data, .data], laidTests := true, laidLooks := .later }
def FnExactUnionDawgUptoCardSaid : Prop := Claim7.holds Tryz.pinned (.plain (OpenSpec.upto fnExactUnionDawgSpec)) fnExactUnionDawgUptoCard

/-- THE SECOND FORM's CARD OF 'laws.FnExactMeetDawg'. -/
def fnExactMeetDawgUptoCard : Claim7 := { stood := { row := fnExactMeetDawgUptoRow, standIns := [], harness := (true, "ede82ac13d29b0dad360396811c278bb1be04c6e328a35d3e8717b8232f85923"), looks := false }, kinds := [], alts := [], laidByText := true, laidKinds := [.data, .data, .data], laidTests := true, laidLooks := .later }
def FnExactMeetDawgUptoCardSaid : Prop := Claim7.holds Tryz.pinned (.plain (OpenSpec.upto fnExactMeetDawgSpec)) fnExactMeetDawgUptoCard

/-- THE SECOND FORM's CARD OF 'laws.FnExactMinusDawg'. -/
def fnExactMinusDawgUptoCard : Claim7 := { stood := { row := fnExactMinusDawgUptoRow, standIns := [], harness := (true, "ede82ac13d29b0dad360396811c278bb1be04c6e328a35d3e8717b8232f85923"), looks := false }, kinds := [], alts := [], laidByText := true, laidKinds := [.data, .data, .data], laidTests := true, laidLooks := .later }
def FnExactMinusDawgUptoCardSaid : Prop := Claim7.holds Tryz.pinned (.plain (OpenSpec.upto fnExactMinusDawgSpec)) fnExactMinusDawgUptoCard
end Rows
end Go.Proofs.YtccoeheoifbpcaaGreatDoor
