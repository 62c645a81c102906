/-
  DERIVED. GIVEN WITH THE SEED: THE CARDS: each row of YtbekokenomhgeaaGreatDoorRows.lean that lists a variable, with what it lists TIED to the program's text (the seventh form; the later family's looks); each row that meets fmt, with fmt's text TOLD by the authors' own Lean function (tested against real Go, not proved from fmt's source: count such statements apart). THE CARD IS WHAT COUNTS. Prove the row's statement (the work); the ties are given (YtbekokenomhgeaaGreatDoorTie.lean); close each card by the builder's one call (the guide's Derived/Test/ToyasCard.lean, 'card_holds'). Laid BY PROGRAM, IN A SANDBOX (cutbox-door.mjs). By AI agents, Wed Nov 11 2026. No macro, syntax, notation, axiom, sorry.
-/
import Derived.Test.YtbekokenomhgeaaGreatDoorRows
import GoSem.ClaimSeven
namespace Go.Proofs.YtbekokenomhgeaaGreatDoor
namespace Rows

/-- THE TIED CARD OF 'laws.FnExactValidTurns'. -/
def fnExactValidTurnsCard : Claim7 := { stood := { row := fnExactValidTurnsRow, standIns := [], harness := (true, "d723a50463c80438967f982e7e7a0a48ef27ea6ca9bb4bdf4ea613ea7c0ac188"), looks := true }, kinds := [], alts := [], laidByText := true, laidKinds := [.data, .pinned, .pinned], laidTests := true, laidLooks := .later }
def FnExactValidTurnsCardSaid : Prop := Claim7.holds Tryz.pinned (.plain (OpenSpec.ofChange fnExactValidTurnsSpec)) fnExactValidTurnsCard

/-- THE TIED CARD OF 'laws.FnExactEndAfter'. -/
def fnExactEndAfterCard : Claim7 := { stood := { row := fnExactEndAfterRow, standIns := [], harness := (true, "d723a50463c80438967f982e7e7a0a48ef27ea6ca9bb4bdf4ea613ea7c0ac188"), looks := true }, kinds := [], alts := [], laidByText := true, laidKinds := [.data, .pinned, .pinned], laidTests := true, laidLooks := .later }
def FnExactEndAfterCardSaid : Prop := Claim7.holds Tryz.pinned (.plain (OpenSpec.ofChange fnExactEndAfterSpec)) fnExactEndAfterCard

/-- THE TIED CARD OF 'laws.FnExactReplayTurns'. -/
def fnExactReplayTurnsCard : Claim7 := { stood := { row := fnExactReplayTurnsRow, standIns := [], harness := (true, "d723a50463c80438967f982e7e7a0a48ef27ea6ca9bb4bdf4ea613ea7c0ac188"), looks := true }, kinds := [], alts := [], laidByText := true, laidKinds := [.data, .pinned, .pinned], laidTests := true, laidLooks := .later }
def FnExactReplayTurnsCardSaid : Prop := Claim7.holds Tryz.pinned (.plain (OpenSpec.ofChange fnExactReplayTurnsSpec)) fnExactReplayTurnsCard

/-- THE TIED CARD OF 'laws.FnExactReadTurn'. -/
def fnExactReadTurnCard : Claim7 := { stood := { row := fnExactReadTurnRow, standIns := [], harness := (true, "d723a50463c80438967f982e7e7a0a48ef27ea6ca9bb4bdf4ea613ea7c0ac188"), looks := true }, kinds := [], alts := [], laidByText := true, laidKinds := [.data, .data, .data, .data, .sentinel, .sentinel, .pinned, .pinned], laidTests := true, laidLooks := .later }
def FnExactReadTurnCardSaid : Prop := Claim7.holds Tryz.pinned (.plain (OpenSpec.ofChange fnExactReadTurnSpec)) fnExactReadTurnCard

/-- THE TIED CARD OF 'laws.FnExactReadAction'. -/
def fnExactReadActionCard : Claim7 := { stood := { row := fnExactReadActionRow, standIns := [], harness := (true, "d723a50463c80438967f982e7e7a0a48ef27ea6ca9bb4bdf4ea613ea7c0ac188"), looks := true }, kinds := [], alts := [], laidByText := true, laidKinds := [.data, .data, .data, .data, .sentinel, .sentinel, .pinned, .pinned], laidTests := true, laidLooks := .later }
def FnExactReadActionCardSaid : Prop := Claim7.holds Tryz.pinned (.plain (OpenSpec.ofChange fnExactReadActionSpec)) fnExactReadActionCard

/-- THE TIED CARD OF 'laws.FnExactReadRecord'. -/
def fnExactReadRecordCard : Claim7 := { stood := { row := fnExactReadRecordRow, standIns := [], harness := (true, "d723a50463c80438967f982e7e7a0a48ef27ea6ca9bb4bdf4ea613ea7c0ac188"), looks := true }, kinds := [], alts := [], laidByText := true, laidKinds := [.data, .data, .data, .data, .sentinel, .sentinel, .pinned, .pinned], laidTests := true, laidLooks := .later }
def FnExactReadRecordCardSaid : Prop := Claim7.holds Tryz.pinned (.plain (OpenSpec.ofChange fnExactReadRecordSpec)) fnExactReadRecordCard

/-- THE SECOND FORM's CARD OF 'laws.FnExactValidTurns'. -/
def fnExactValidTurnsUptoCard : Claim7 := { stood := { row := fnExactValidTurnsUptoRow, standIns := [], harness := (true, "d723a50463c80438967f982e7e7a0a48ef27ea6ca9bb4bdf4ea613ea7c0ac188"), looks := true }, kinds := [], alts := [], laidByText := true, laidKinds := [.data, .pinned, .pinned], laidTests := true, laidLooks := .later }
def FnExactValidTurnsUptoCardSaid : Prop := Claim7.holds Tryz.pinned (.plain (OpenSpec.upto fnExactValidTurnsSpec)) fnExactValidTurnsUptoCard

/-- THE SECOND FORM's CARD OF 'laws.FnExactEndAfter'. -/
def fnExactEndAfterUptoCard : Claim7 := { stood := { row := fnExactEndAfterUptoRow, standIns := [], harness := (true, "d723a50463c80438967f982e7e7a0a48ef27ea6ca9bb4bdf4ea613ea7c0ac188"), looks := true }, kinds := [], alts := [], laidByText := true, laidKinds := [.data, .pinned, .pinned], laidTests := true, laidLooks := .later }
def FnExactEndAfterUptoCardSaid : Prop := Claim7.holds Tryz.pinned (.plain (OpenSpec.upto fnExactEndAfterSpec)) fnExactEndAfterUptoCard

/-- THE SECOND FORM's CARD OF 'laws.FnExactReplayTurns'. -/
def fnExactReplayTurnsUptoCard : Claim7 := { stood := { row := fnExactReplayTurnsUptoRow, standIns := [], harness := (true, "d723a50463c80438967f982e7e7a0a48ef27ea6ca9bb4bdf4ea613ea7c0ac188"), looks := true }, kinds := [], alts := [], laidByText := true, laidKinds := [.data, .pinned, .pinned], laidTests := true, laidLooks := .later }
def FnExactReplayTurnsUptoCardSaid : Prop := Claim7.holds Tryz.pinned (.plain (OpenSpec.upto fnExactReplayTurnsSpec)) fnExactReplayTurnsUptoCard

/-- THE SECOND FORM's CARD OF 'laws.FnExactReadTurn'. -/
def fnExactReadTurnUptoCard : Claim7 := { stood := { row := fnExactReadTurnUptoRow, standIns := [], harness := (true, "d723a50463c80438967f982e7e7a0a48ef27ea6ca9bb4bdf4ea613ea7c0ac188"), looks := true }, kinds := [], alts := [], laidByText := true, laidKinds := [.data, .data, .data, .data, .sentinel, .sentinel, .pinned, .pinned], laidTests := true, laidLooks := .later }
def FnExactReadTurnUptoCardSaid : Prop := Claim7.holds Tryz.pinned (.plain (OpenSpec.upto fnExactReadTurnSpec)) fnExactReadTurnUptoCard

/-- THE SECOND FORM's CARD OF 'laws.FnExactReadAction'. -/
def fnExactReadActionUptoCard : Claim7 := { stood := { row := fnExactReadActionUptoRow, standIns := [], harness := (true, "d723a50463c80438967f982e7e7a0a48ef27ea6ca9bb4bdf4ea613ea7c0ac188"), looks := true }, kinds := [], alts := [], laidByText := true, laidKinds := [.data, .data, .data, .data, .sentinel, .sentinel, .pinned, .pinned], laidTests := true, laidLooks := .later }
def FnExactReadActionUptoCardSaid : Prop := Claim7.holds Tryz.pinned (.plain (OpenSpec.upto fnExactReadActionSpec)) fnExactReadActionUptoCard

/-- THE SECOND FORM's CARD OF 'laws.FnExactReadRecord'. -/
def fnExactReadRecordUptoCard : Claim7 := { stood := { row := fnExactReadRecordUptoRow, standIns := [], harness := (true, "d723a50463c80438967f982e7e7a0a48ef27ea6ca9bb4bdf4ea613ea7c0ac188"), looks := true }, kinds := [], alts := [], laidByText := true, laidKinds := [.data, .data, .data, .data, .sentinel, .sentinel, .pinned, .pinned], laidTests := true, laidLooks := .later }
def FnExactReadRecordUptoCardSaid : Prop := Claim7.holds Tryz.pinned (.plain (OpenSpec.upto fnExactReadRecordSpec)) fnExactReadRecordUptoCard
end Rows
end Go.Proofs.YtbekokenomhgeaaGreatDoor
