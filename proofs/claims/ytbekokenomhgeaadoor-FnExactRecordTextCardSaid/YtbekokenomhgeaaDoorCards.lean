/-
  DERIVED. GIVEN WITH THE SEED: THE CARDS: each row of YtbekokenomhgeaaDoorRows.lean that lists a variable, with what it lists TIED to the program's text (the seventh form; the later family's looks); each row that meets fmt, with fmt's text TOLD by the authors' own Lean function (tested against real Go, not proved from fmt's source: count such statements apart). THE CARD IS WHAT COUNTS. Prove the row's statement (the work); the ties are given (YtbekokenomhgeaaDoorTie.lean); close each card by the builder's one call (the guide's Derived/Test/ToyasCard.lean, 'card_holds'). Laid BY PROGRAM, IN A SANDBOX (cutbox-door.mjs). By AI agents, Wed Nov 11 2026. No macro, syntax, notation, axiom, sorry.
-/
import Derived.Test.YtbekokenomhgeaaDoorRows
import GoSem.ClaimSeven
namespace Go.Proofs.YtbekokenomhgeaaDoor
namespace Rows

/-- THE TIED CARD OF 'laws.FnExactTurnText'. -/
def fnExactTurnTextCard : Claim7 := { stood := { row := fnExactTurnTextRow, standIns := [], harness := (true, "c91eed96d5d176ab78033e562a1b3bf551a7055456988963993792d78c46ffc9"), looks := false }, kinds := [], alts := [], laidByText := true, laidKinds := [.data, .data, .data, .data, .pinned, .pinned], laidTests := true, laidLooks := .later }
def FnExactTurnTextCardSaid : Prop := Claim7.holds Tryd.pinned (.plain (OpenSpec.ofChange fnExactTurnTextSpec)) fnExactTurnTextCard

/-- THE TIED CARD OF 'laws.FnExactActionText'. -/
def fnExactActionTextCard : Claim7 := { stood := { row := fnExactActionTextRow, standIns := [], harness := (true, "c91eed96d5d176ab78033e562a1b3bf551a7055456988963993792d78c46ffc9"), looks := false }, kinds := [], alts := [], laidByText := true, laidKinds := [.data, .data, .data, .data, .pinned, .pinned], laidTests := true, laidLooks := .later }
def FnExactActionTextCardSaid : Prop := Claim7.holds Tryd.pinned (.plain (OpenSpec.ofChange fnExactActionTextSpec)) fnExactActionTextCard

/-- THE TIED CARD OF 'laws.FnExactValidRecord'. -/
def fnExactValidRecordCard : Claim7 := { stood := { row := fnExactValidRecordRow, standIns := [], harness := (true, "c91eed96d5d176ab78033e562a1b3bf551a7055456988963993792d78c46ffc9"), looks := false }, kinds := [], alts := [], laidByText := true, laidKinds := [.data, .data, .data, .data, .pinned, .pinned], laidTests := true, laidLooks := .later }
def FnExactValidRecordCardSaid : Prop := Claim7.holds Tryd.pinned (.plain (OpenSpec.ofChange fnExactValidRecordSpec)) fnExactValidRecordCard

/-- THE TIED CARD OF 'laws.FnExactRecordText'. -/
def fnExactRecordTextCard : Claim7 := { stood := { row := fnExactRecordTextRow, standIns := [], harness := (true, "c91eed96d5d176ab78033e562a1b3bf551a7055456988963993792d78c46ffc9"), looks := false }, kinds := [], alts := [], laidByText := true, laidKinds := [.data, .data, .data, .data, .pinned, .pinned], laidTests := true, laidLooks := .later }
def FnExactRecordTextCardSaid : Prop := Claim7.holds Tryd.pinned (.plain (OpenSpec.ofChange fnExactRecordTextSpec)) fnExactRecordTextCard

/-- THE SECOND FORM's CARD OF 'laws.FnExactTurnText'. -/
def fnExactTurnTextUptoCard : Claim7 := { stood := { row := fnExactTurnTextUptoRow, standIns := [], harness := (true, "c91eed96d5d176ab78033e562a1b3bf551a7055456988963993792d78c46ffc9"), looks := false }, kinds := [], alts := [], laidByText := true, laidKinds := [.data, .data, .data, .data, .pinned, .pinned], laidTests := true, laidLooks := .later }
def FnExactTurnTextUptoCardSaid : Prop := Claim7.holds Tryd.pinned (.plain (OpenSpec.upto fnExactTurnTextSpec)) fnExactTurnTextUptoCard

/-- THE SECOND FORM's CARD OF 'laws.FnExactActionText'. -/
def fnExactActionTextUptoCard : Claim7 := { stood := { row := fnExactActionTextUptoRow, standIns := [], harness := (true, "c91eed96d5d176ab78033e562a1b3bf551a7055456988963993792d78c46ffc9"), looks := false }, kinds := [], alts := [], laidByText := true, laidKinds := [.data, .data, .data, .data, .pinned, .pinned], laidTests := true, laidLooks := .later }
def FnExactActionTextUptoCardSaid : Prop := Claim7.holds Tryd.pinned (.plain (OpenSpec.upto fnExactActionTextSpec)) fnExactActionTextUptoCard

/-- THE SECOND FORM's CARD OF 'laws.FnExactValidRecord'. -/
def fnExactValidRecordUptoCard : Claim7 := { stood := { row := fnExactValidRecordUptoRow, standIns := [], harness := (true, "c91eed96d5d176ab78033e562a1b3bf551a7055456988963993792d78c46ffc9"), looks := false }, kinds := [], alts := [], laidByText := true, laidKinds := [.data, .data, .data, .data, .pinned, .pinned], laidTests := true, laidLooks := .later }
def FnExactValidRecordUptoCardSaid : Prop := Claim7.holds Tryd.pinned (.plain (OpenSpec.upto fnExactValidRecordSpec)) fnExactValidRecordUptoCard

/-- THE SECOND FORM's CARD OF 'laws.FnExactRecordText'. -/
def fnExactRecordTextUptoCard : Claim7 := { stood := { row := fnExactRecordTextUptoRow, standIns := [], harness := (true, "c91eed96d5d176ab78033e562a1b3bf551a7055456988963993792d78c46ffc9"), looks := false }, kinds := [], alts := [], laidByText := true, laidKinds := [.data, .data, .data, .data, .pinned, .pinned], laidTests := true, laidLooks := .later }
def FnExactRecordTextUptoCardSaid : Prop := Claim7.holds Tryd.pinned (.plain (OpenSpec.upto fnExactRecordTextSpec)) fnExactRecordTextUptoCard
end Rows
end Go.Proofs.YtbekokenomhgeaaDoor
