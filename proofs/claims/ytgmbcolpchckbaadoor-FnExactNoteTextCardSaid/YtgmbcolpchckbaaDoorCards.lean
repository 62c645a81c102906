/-
  DERIVED. GIVEN WITH THE SEED: THE CARDS: each row of YtgmbcolpchckbaaDoorRows.lean that lists a variable, with what it lists TIED to the program's text (the seventh form; the later family's looks); each row that meets fmt, with fmt's text TOLD by the authors' own Lean function (tested against real Go, not proved from fmt's source: count such statements apart). THE CARD IS WHAT COUNTS. Prove the row's statement (the work); the ties are given (YtgmbcolpchckbaaDoorTie.lean); close each card by the builder's one call (the guide's Derived/Test/ToyasCard.lean, 'card_holds'). Laid BY PROGRAM, IN A SANDBOX (cutbox-door.mjs). By AI agents, Wed Nov 11 2026. No macro, syntax, notation, axiom, sorry.
-/
import Derived.Test.YtgmbcolpchckbaaDoorRows
import GoSem.ClaimSeven
namespace Go.Proofs.YtgmbcolpchckbaaDoor
namespace Rows

/-- THE TIED CARD OF 'laws.FnExactCaseText'. -/
def fnExactCaseTextCard : Claim7 := { stood := { row := fnExactCaseTextRow, standIns := [], harness := (true, "a4b1a7fc9564596e268725315bb3d62b8814dbfa45722a432cf8ec2eb21f8f57"), looks := false }, kinds := [], alts := [], laidByText := true, laidKinds := [.data, .data, .data], laidTests := true, laidLooks := .later }
def FnExactCaseTextCardSaid : Prop := Claim7.holds Tryd.pinned (.plain (OpenSpec.ofChange fnExactCaseTextSpec)) fnExactCaseTextCard

/-- THE TIED CARD OF 'laws.FnExactExpectText'. -/
def fnExactExpectTextCard : Claim7 := { stood := { row := fnExactExpectTextRow, standIns := [], harness := (true, "a4b1a7fc9564596e268725315bb3d62b8814dbfa45722a432cf8ec2eb21f8f57"), looks := false }, kinds := [], alts := [], laidByText := true, laidKinds := [.data, .data, .data], laidTests := true, laidLooks := .later }
def FnExactExpectTextCardSaid : Prop := Claim7.holds Tryd.pinned (.plain (OpenSpec.ofChange fnExactExpectTextSpec)) fnExactExpectTextCard

/-- THE TIED CARD OF 'laws.FnExactChoiceText'. -/
def fnExactChoiceTextCard : Claim7 := { stood := { row := fnExactChoiceTextRow, standIns := [], harness := (true, "a4b1a7fc9564596e268725315bb3d62b8814dbfa45722a432cf8ec2eb21f8f57"), looks := false }, kinds := [], alts := [], laidByText := true, laidKinds := [.data, .data, .data, .data, .pinned, .pinned], laidTests := true, laidLooks := .later }
def FnExactChoiceTextCardSaid : Prop := Claim7.holds Tryd.pinned (.plain (OpenSpec.ofChange fnExactChoiceTextSpec)) fnExactChoiceTextCard

/-- THE TIED CARD OF 'laws.FnExactNoteText'. -/
def fnExactNoteTextCard : Claim7 := { stood := { row := fnExactNoteTextRow, standIns := [], harness := (true, "a4b1a7fc9564596e268725315bb3d62b8814dbfa45722a432cf8ec2eb21f8f57"), looks := false }, kinds := [], alts := [], laidByText := true, laidKinds := [.data, .data, .data, .data, .pinned, .pinned], laidTests := true, laidLooks := .later }
def FnExactNoteTextCardSaid : Prop := Claim7.holds Tryd.pinned (.plain (OpenSpec.ofChange fnExactNoteTextSpec)) fnExactNoteTextCard

/-- THE SECOND FORM's CARD OF 'laws.FnExactCaseText'. -/
def fnExactCaseTextUptoCard : Claim7 := { stood := { row := fnExactCaseTextUptoRow, standIns := [], harness := (true, "a4b1a7fc9564596e268725315bb3d62b8814dbfa45722a432cf8ec2eb21f8f57"), looks := false }, kinds := [], alts := [], laidByText := true, laidKinds := [.data, .data, .data], laidTests := true, laidLooks := .later }
def FnExactCaseTextUptoCardSaid : Prop := Claim7.holds Tryd.pinned (.plain (OpenSpec.upto fnExactCaseTextSpec)) fnExactCaseTextUptoCard

/-- THE SECOND FORM's CARD OF 'laws.FnExactExpectText'. -/
def fnExactExpectTextUptoCard : Claim7 := { stood := { row := fnExactExpectTextUptoRow, standIns := [], harness := (true, "a4b1a7fc9564596e268725315bb3d62b8814dbfa45722a432cf8ec2eb21f8f57"), looks := false }, kinds := [], alts := [], laidByText := true, laidKinds := [.data, .data, .data], laidTests := true, laidLooks := .later }
def FnExactExpectTextUptoCardSaid : Prop := Claim7.holds Tryd.pinned (.plain (OpenSpec.upto fnExactExpectTextSpec)) fnExactExpectTextUptoCard

/-- THE SECOND FORM's CARD OF 'laws.FnExactChoiceText'. -/
def fnExactChoiceTextUptoCard : Claim7 := { stood := { row := fnExactChoiceTextUptoRow, standIns := [], harness := (true, "a4b1a7fc9564596e268725315bb3d62b8814dbfa45722a432cf8ec2eb21f8f57"), looks := false }, kinds := [], alts := [], laidByText := true, laidKinds := [.data, .data, .data, .data, .pinned, .pinned], laidTests := true, laidLooks := .later }
def FnExactChoiceTextUptoCardSaid : Prop := Claim7.holds Tryd.pinned (.plain (OpenSpec.upto fnExactChoiceTextSpec)) fnExactChoiceTextUptoCard

/-- THE SECOND FORM's CARD OF 'laws.FnExactNoteText'. -/
def fnExactNoteTextUptoCard : Claim7 := { stood := { row := fnExactNoteTextUptoRow, standIns := [], harness := (true, "a4b1a7fc9564596e268725315bb3d62b8814dbfa45722a432cf8ec2eb21f8f57"), looks := false }, kinds := [], alts := [], laidByText := true, laidKinds := [.data, .data, .data, .data, .pinned, .pinned], laidTests := true, laidLooks := .later }
def FnExactNoteTextUptoCardSaid : Prop := Claim7.holds Tryd.pinned (.plain (OpenSpec.upto fnExactNoteTextSpec)) fnExactNoteTextUptoCard
end Rows
end Go.Proofs.YtgmbcolpchckbaaDoor
