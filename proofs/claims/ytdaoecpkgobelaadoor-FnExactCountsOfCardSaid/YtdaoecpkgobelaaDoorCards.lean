/-
  DERIVED. GIVEN WITH THE SEED: THE CARDS: each row of YtdaoecpkgobelaaDoorRows.lean that lists a variable, with what it lists TIED to the program's text (the seventh form; the later family's looks); each row that meets fmt, with fmt's text TOLD by the authors' own Lean function (tested against real Go, not proved from fmt's source: count such statements apart). THE CARD IS WHAT COUNTS. Prove the row's statement (the work); the ties are given (YtdaoecpkgobelaaDoorTie.lean); close each card by the builder's one call (the guide's Derived/Test/ToyasCard.lean, 'card_holds'). Laid BY PROGRAM, IN A SANDBOX (cutbox-door.mjs). By AI agents, Wed Nov 11 2026. No macro, syntax, notation, axiom, sorry.
-/
import Derived.Test.YtdaoecpkgobelaaDoorRows
import GoSem.ClaimSeven
namespace Go.Proofs.YtdaoecpkgobelaaDoor
namespace Rows

/-- THE TIED CARD OF 'laws.FnHashing'. -/
def fnHashingCard : Claim7 := { stood := { row := fnHashingRow, standIns := [], harness := (true, "e43fe4092d759e388c332818c69fb3b605915456db1f8a3e4149680d50ec1356"), looks := false }, kinds := [], alts := [], laidByText := true, laidKinds := [.data, .data, .data], laidTests := true, laidLooks := .later }
def FnHashingCardSaid : Prop := Claim7.holds Tryd.pinned (.plain (OpenSpec.ofChange fnHashingSpec)) fnHashingCard

/-- THE TIED CARD OF 'laws.FnExactAcceptsWord'. -/
def fnExactAcceptsWordCard : Claim7 := { stood := { row := fnExactAcceptsWordRow, standIns := [], harness := (true, "e43fe4092d759e388c332818c69fb3b605915456db1f8a3e4149680d50ec1356"), looks := false }, kinds := [], alts := [], laidByText := true, laidKinds := [.data, .data, .data], laidTests := true, laidLooks := .later }
def FnExactAcceptsWordCardSaid : Prop := Claim7.holds Tryd.pinned (.plain (OpenSpec.ofChange fnExactAcceptsWordSpec)) fnExactAcceptsWordCard

/-- THE TIED CARD OF 'laws.FnExactNodeAfter'. -/
def fnExactNodeAfterCard : Claim7 := { stood := { row := fnExactNodeAfterRow, standIns := [], harness := (true, "e43fe4092d759e388c332818c69fb3b605915456db1f8a3e4149680d50ec1356"), looks := false }, kinds := [], alts := [], laidByText := true, laidKinds := [.data, .data, .data], laidTests := true, laidLooks := .later }
def FnExactNodeAfterCardSaid : Prop := Claim7.holds Tryd.pinned (.plain (OpenSpec.ofChange fnExactNodeAfterSpec)) fnExactNodeAfterCard

/-- THE TIED CARD OF 'laws.FnExactCountsOf'. -/
def fnExactCountsOfCard : Claim7 := { stood := { row := fnExactCountsOfRow, standIns := [], harness := (true, "e43fe4092d759e388c332818c69fb3b605915456db1f8a3e4149680d50ec1356"), looks := false }, kinds := [], alts := [], laidByText := true, laidKinds := [.data, .data, .data], laidTests := true, laidLooks := .later }
def FnExactCountsOfCardSaid : Prop := Claim7.holds Tryd.pinned (.plain (OpenSpec.ofChange fnExactCountsOfSpec)) fnExactCountsOfCard

/-- THE TIED CARD OF 'laws.FnExactWordAt'. -/
def fnExactWordAtCard : Claim7 := { stood := { row := fnExactWordAtRow, standIns := [], harness := (true, "e43fe4092d759e388c332818c69fb3b605915456db1f8a3e4149680d50ec1356"), looks := false }, kinds := [], alts := [], laidByText := true, laidKinds := [.data, .data, .data], laidTests := true, laidLooks := .later }
def FnExactWordAtCardSaid : Prop := Claim7.holds Tryd.pinned (.plain (OpenSpec.ofChange fnExactWordAtSpec)) fnExactWordAtCard

/-- THE TIED CARD OF 'laws.FnExactRangeOf'. -/
def fnExactRangeOfCard : Claim7 := { stood := { row := fnExactRangeOfRow, standIns := [], harness := (true, "e43fe4092d759e388c332818c69fb3b605915456db1f8a3e4149680d50ec1356"), looks := false }, kinds := [], alts := [], laidByText := true, laidKinds := [.data, .data, .data], laidTests := true, laidLooks := .later }
def FnExactRangeOfCardSaid : Prop := Claim7.holds Tryd.pinned (.plain (OpenSpec.ofChange fnExactRangeOfSpec)) fnExactRangeOfCard

/-- THE TIED CARD OF 'laws.FnExactNextWord'. -/
def fnExactNextWordCard : Claim7 := { stood := { row := fnExactNextWordRow, standIns := [], harness := (true, "e43fe4092d759e388c332818c69fb3b605915456db1f8a3e4149680d50ec1356"), looks := false }, kinds := [], alts := [], laidByText := true, laidKinds := [.data, .data, .data], laidTests := true, laidLooks := .later }
def FnExactNextWordCardSaid : Prop := Claim7.holds Tryd.pinned (.plain (OpenSpec.ofChange fnExactNextWordSpec)) fnExactNextWordCard

/-- THE TIED CARD OF 'laws.FnTails'. -/
def fnTailsCard : Claim7 := { stood := { row := fnTailsRow, standIns := [], harness := (true, "e43fe4092d759e388c332818c69fb3b605915456db1f8a3e4149680d50ec1356"), looks := false }, kinds := [], alts := [], laidByText := true, laidKinds := [.data, .data, .data], laidTests := true, laidLooks := .later }
def FnTailsCardSaid : Prop := Claim7.holds Tryd.pinned (.plain (OpenSpec.ofChange fnTailsSpec)) fnTailsCard

/-- THE TIED CARD OF 'laws.FnExactNumberOf'. -/
def fnExactNumberOfCard : Claim7 := { stood := { row := fnExactNumberOfRow, standIns := [], harness := (true, "e43fe4092d759e388c332818c69fb3b605915456db1f8a3e4149680d50ec1356"), looks := false }, kinds := [], alts := [], laidByText := true, laidKinds := [.data, .data, .data], laidTests := true, laidLooks := .later }
def FnExactNumberOfCardSaid : Prop := Claim7.holds Tryd.pinned (.plain (OpenSpec.ofChange fnExactNumberOfSpec)) fnExactNumberOfCard

/-- THE SECOND FORM's CARD OF 'laws.FnHashing'. -/
def fnHashingUptoCard : Claim7 := { stood := { row := fnHashingUptoRow, standIns := [], harness := (true, "e43fe4092d759e388c332818c69fb3b605915456db1f8a3e4149680d50ec1356"), looks := false }, kinds := [], alts := [], laidByText := true, laidKinds := [.data, .data, .data], laidTests := true, laidLooks := .later }
def FnHashingUptoCardSaid : Prop := Claim7.holds Tryd.pinned (.plain (OpenSpec.upto fnHashingSpec)) fnHashingUptoCard

/-- THE SECOND FORM's CARD OF 'laws.FnExactAcceptsWord'. -/
def fnExactAcceptsWordUptoCard : Claim7 := { stood := { row := fnExactAcceptsWordUptoRow, standIns := [], harness := (true, "e43fe4092d759e388c332818c69fb3b605915456db1f8a3e4149680d50ec1356"), looks := false }, kinds := [], alts := [], laidByText := true, laidKinds := [.data, .data, .data], laidTests := true, laidLooks := .later }
def FnExactAcceptsWordUptoCardSaid : Prop := Claim7.holds Tryd.pinned (.plain (OpenSpec.upto fnExactAcceptsWordSpec)) fnExactAcceptsWordUptoCard

/-- THE SECOND FORM's CARD OF 'laws.FnExactNodeAfter'. -/
def fnExactNodeAfterUptoCard : Claim7 := { stood := { row := fnExactNodeAfterUptoRow, standIns := [], harness := (true, "e43fe4092d759e388c332818c69fb3b605915456db1f8a3e4149680d50ec1356"), looks := false }, kinds := [], alts := [], laidByText := true, laidKinds := [.data, .data, .data], laidTests := true, laidLooks := .later }
def FnExactNodeAfterUptoCardSaid : Prop := Claim7.holds Tryd.pinned (.plain (OpenSpec.upto fnExactNodeAfterSpec)) fnExactNodeAfterUptoCard

/-- THE SECOND FORM's CARD OF 'laws.FnExactCountsOf'. -/
def fnExactCountsOfUptoCard : Claim7 := { stood := { row := fnExactCountsOfUptoRow, standIns := [], harness := (true, "e43fe4092d759e388c332818c69fb3b605915456db1f8a3e4149680d50ec1356"), looks := false }, kinds := [], alts := [], laidByText := true, laidKinds := [.data, .data, .data], laidTests := true, laidLooks := .later }
def FnExactCountsOfUptoCardSaid : Prop := Claim7.holds Tryd.pinned (.plain (OpenSpec.upto fnExactCountsOfSpec)) fnExactCountsOfUptoCard

/-- THE SECOND FORM's CARD OF 'laws.FnExactWordAt'. -/
def fnExactWordAtUptoCard : Claim7 := { stood := { row := fnExactWordAtUptoRow, standIns := [], harness := (true, "e43fe4092d759e388c332818c69fb3b605915456db1f8a3e4149680d50ec1356"), looks := false }, kinds := [], alts := [], laidByText := true, laidKinds := [.data, .data, .data], laidTests := true, laidLooks := .later }
def FnExactWordAtUptoCardSaid : Prop := Claim7.holds Tryd.pinned (.plain (OpenSpec.upto fnExactWordAtSpec)) fnExactWordAtUptoCard

/-- THE SECOND FORM's CARD OF 'laws.FnExactRangeOf'. -/
def fnExactRangeOfUptoCard : Claim7 := { stood := { row := fnExactRangeOfUptoRow, standIns := [], harness := (true, "e43fe4092d759e388c332818c69fb3b605915456db1f8a3e4149680d50ec1356"), looks := false }, kinds := [], alts := [], laidByText := true, laidKinds := [.data, .data, .data], laidTests := true, laidLooks := .later }
def FnExactRangeOfUptoCardSaid : Prop := Claim7.holds Tryd.pinned (.plain (OpenSpec.upto fnExactRangeOfSpec)) fnExactRangeOfUptoCard

/-- THE SECOND FORM's CARD OF 'laws.FnExactNextWord'. -/
def fnExactNextWordUptoCard : Claim7 := { stood := { row := fnExactNextWordUptoRow, standIns := [], harness := (true, "e43fe4092d759e388c332818c69fb3b605915456db1f8a3e4149680d50ec1356"), looks := false }, kinds := [], alts := [], laidByText := true, laidKinds := [.data, .data, .data], laidTests := true, laidLooks := .later }
def FnExactNextWordUptoCardSaid : Prop := Claim7.holds Tryd.pinned (.plain (OpenSpec.upto fnExactNextWordSpec)) fnExactNextWordUptoCard

/-- THE SECOND FORM's CARD OF 'laws.FnTails'. -/
def fnTailsUptoCard : Claim7 := { stood := { row := fnTailsUptoRow, standIns := [], harness := (true, "e43fe4092d759e388c332818c69fb3b605915456db1f8a3e4149680d50ec1356"), looks := false }, kinds := [], alts := [], laidByText := true, laidKinds := [.data, .data, .data], laidTests := true, laidLooks := .later }
def FnTailsUptoCardSaid : Prop := Claim7.holds Tryd.pinned (.plain (OpenSpec.upto fnTailsSpec)) fnTailsUptoCard

/-- THE SECOND FORM's CARD OF 'laws.FnExactNumberOf'. -/
def fnExactNumberOfUptoCard : Claim7 := { stood := { row := fnExactNumberOfUptoRow, standIns := [], harness := (true, "e43fe4092d759e388c332818c69fb3b605915456db1f8a3e4149680d50ec1356"), looks := false }, kinds := [], alts := [], laidByText := true, laidKinds := [.data, .data, .data], laidTests := true, laidLooks := .later }
def FnExactNumberOfUptoCardSaid : Prop := Claim7.holds Tryd.pinned (.plain (OpenSpec.upto fnExactNumberOfSpec)) fnExactNumberOfUptoCard
end Rows
end Go.Proofs.YtdaoecpkgobelaaDoor
