/-
  No cell of these rows narrows 'for every input' (looked for: loops, veiled, ifaces, maps, wideKeys, modest, calm, conditions, laid).
  DERIVED. THE GIVEN ROWS OF THIS SEAT. 12 by the template 'for every input the law returns true; each argument reads behind the call as it read before'; 0 by the template 'total and deterministic' (their statements: YtdngdgjlcfbdhaaTotals.lean).
  GIVEN WITH THE SEED: the statements are not yours to turn. If you find one false, say at which input.
  Laid BY PROGRAM, IN A SANDBOX (cutbox-rows.mjs): the forced cells as the released guide's own fill.sh prints them over the translation 8c2b1c3057e137c8… (all of the seat's roots in one cut). By AI agents, Wed Nov 11 2026. No macro, syntax, notation, axiom, sorry.
-/
import Derived.Test.YtdngdgjlcfbdhaaChecked
import GoSem.Claim
import GoSem.ClaimJoined
import GoSem.ClaimMapViews
import Derived.JoinedTies
import Derived.KernelRfl
namespace Go.Proofs.Ytdngdgjlcfbdhaa
/- THE CELL 'sum', in the pinned program and in every row, IS THE sha256 OF THE DUMP (.gsa) THAT YtdngdgjlcfbdhaaProg.lean LOADS. Nothing in Lean hashes anything: it is a label: what it is worth is what the hold of that sum in a sandbox is worth. -/
noncomputable def Try.pinned : Pinned := { name := "ytdngdgjlcfbdhaa", sum := "8c2b1c3057e137c830a3d0f58db3893bb8ca4b9366c02d9a731ebfc35beb12da", checked := Try.checked }
namespace Rows
def none {H : Type} : Left H := { results := [], args := [] }

/-- 'laws.FnExactExpectedOf': WHATEVER THE INPUT: true; the input reads as it did. -/
def fnExactExpectedOfSpec : ChangeSpec := { name := "fnExactExpectedOf", fn := fun _ => fun
  | [d1, d2] => { results := [.lit (.bool true)], args := [d1, d2] }
  | _ => none }
def fnExactExpectedOfRow : OpenClaim := { program := "ytdngdgjlcfbdhaa", sum := "8c2b1c3057e137c830a3d0f58db3893bb8ca4b9366c02d9a731ebfc35beb12da", func := "loop.example/g00911/laws.FnExactExpectedOf", spec := "fnExactExpectedOf", apart := false }
def FnExactExpectedOfSaid : Prop := fnExactExpectedOfRow.holds Try.pinned (OpenSpec.ofChange fnExactExpectedOfSpec)

/-- ITS FALSE NEIGHBOUR: 'it returns false'. Refute it at one input. -/
def fnExactExpectedOfWrong : ChangeSpec := { name := "fnExactExpectedOf", fn := fun _ => fun
  | [d1, d2] => { results := [.lit (.bool false)], args := [d1, d2] }
  | _ => none }
def FnExactExpectedOfWrongFalsely : Prop := fnExactExpectedOfRow.holds Try.pinned (OpenSpec.ofChange fnExactExpectedOfWrong)

/-- 'laws.FnExactValidGrid': WHATEVER THE INPUT: true; the input reads as it did. -/
def fnExactValidGridSpec : ChangeSpec := { name := "fnExactValidGrid", fn := fun _ => fun
  | [d] => { results := [.lit (.bool true)], args := [d] }
  | _ => none }
def fnExactValidGridRow : OpenClaim := { program := "ytdngdgjlcfbdhaa", sum := "8c2b1c3057e137c830a3d0f58db3893bb8ca4b9366c02d9a731ebfc35beb12da", func := "loop.example/g00911/laws.FnExactValidGrid", spec := "fnExactValidGrid", unfollowed := true, recurses := true, apart := false }
def FnExactValidGridSaid : Prop := fnExactValidGridRow.holds Try.pinned (OpenSpec.ofChange fnExactValidGridSpec)

/-- ITS FALSE NEIGHBOUR: 'it returns false'. Refute it at one input. -/
def fnExactValidGridWrong : ChangeSpec := { name := "fnExactValidGrid", fn := fun _ => fun
  | [d] => { results := [.lit (.bool false)], args := [d] }
  | _ => none }
def FnExactValidGridWrongFalsely : Prop := fnExactValidGridRow.holds Try.pinned (OpenSpec.ofChange fnExactValidGridWrong)

/-- 'laws.FnExactCompareExpect': WHATEVER THE INPUT: true; the input reads as it did. -/
def fnExactCompareExpectSpec : ChangeSpec := { name := "fnExactCompareExpect", fn := fun _ => fun
  | [d1, d2] => { results := [.lit (.bool true)], args := [d1, d2] }
  | _ => none }
def fnExactCompareExpectRow : OpenClaim := { program := "ytdngdgjlcfbdhaa", sum := "8c2b1c3057e137c830a3d0f58db3893bb8ca4b9366c02d9a731ebfc35beb12da", func := "loop.example/g00911/laws.FnExactCompareExpect", spec := "fnExactCompareExpect", apart := false }
def FnExactCompareExpectSaid : Prop := fnExactCompareExpectRow.holds Try.pinned (OpenSpec.ofChange fnExactCompareExpectSpec)

/-- ITS FALSE NEIGHBOUR: 'it returns false'. Refute it at one input. -/
def fnExactCompareExpectWrong : ChangeSpec := { name := "fnExactCompareExpect", fn := fun _ => fun
  | [d1, d2] => { results := [.lit (.bool false)], args := [d1, d2] }
  | _ => none }
def FnExactCompareExpectWrongFalsely : Prop := fnExactCompareExpectRow.holds Try.pinned (OpenSpec.ofChange fnExactCompareExpectWrong)

/-- 'laws.FnExactHavePlayed': WHATEVER THE INPUT: true; the input reads as it did. -/
def fnExactHavePlayedSpec : ChangeSpec := { name := "fnExactHavePlayed", fn := fun _ => fun
  | [d1, d2, d3] => { results := [.lit (.bool true)], args := [d1, d2, d3] }
  | _ => none }
def fnExactHavePlayedRow : OpenClaim := { program := "ytdngdgjlcfbdhaa", sum := "8c2b1c3057e137c830a3d0f58db3893bb8ca4b9366c02d9a731ebfc35beb12da", func := "loop.example/g00911/laws.FnExactHavePlayed", spec := "fnExactHavePlayed", unfollowed := true, recurses := true, apart := false }
def FnExactHavePlayedSaid : Prop := fnExactHavePlayedRow.holds Try.pinned (OpenSpec.ofChange fnExactHavePlayedSpec)

/-- ITS FALSE NEIGHBOUR: 'it returns false'. Refute it at one input. -/
def fnExactHavePlayedWrong : ChangeSpec := { name := "fnExactHavePlayed", fn := fun _ => fun
  | [d1, d2, d3] => { results := [.lit (.bool false)], args := [d1, d2, d3] }
  | _ => none }
def FnExactHavePlayedWrongFalsely : Prop := fnExactHavePlayedRow.holds Try.pinned (OpenSpec.ofChange fnExactHavePlayedWrong)

/-- 'laws.FnExactTurnGrid': WHATEVER THE INPUT: true; the input reads as it did. -/
def fnExactTurnGridSpec : ChangeSpec := { name := "fnExactTurnGrid", fn := fun _ => fun
  | [d] => { results := [.lit (.bool true)], args := [d] }
  | _ => none }
def fnExactTurnGridRow : OpenClaim := { program := "ytdngdgjlcfbdhaa", sum := "8c2b1c3057e137c830a3d0f58db3893bb8ca4b9366c02d9a731ebfc35beb12da", func := "loop.example/g00911/laws.FnExactTurnGrid", spec := "fnExactTurnGrid", unfollowed := true, recurses := true, apart := false }
def FnExactTurnGridSaid : Prop := fnExactTurnGridRow.holds Try.pinned (OpenSpec.ofChange fnExactTurnGridSpec)

/-- ITS FALSE NEIGHBOUR: 'it returns false'. Refute it at one input. -/
def fnExactTurnGridWrong : ChangeSpec := { name := "fnExactTurnGrid", fn := fun _ => fun
  | [d] => { results := [.lit (.bool false)], args := [d] }
  | _ => none }
def FnExactTurnGridWrongFalsely : Prop := fnExactTurnGridRow.holds Try.pinned (OpenSpec.ofChange fnExactTurnGridWrong)

/-- 'laws.FnExactSameClub': WHATEVER THE INPUT: true; the input reads as it did. -/
def fnExactSameClubSpec : ChangeSpec := { name := "fnExactSameClub", fn := fun _ => fun
  | [d1, d2] => { results := [.lit (.bool true)], args := [d1, d2] }
  | _ => none }
def fnExactSameClubRow : OpenClaim := { program := "ytdngdgjlcfbdhaa", sum := "8c2b1c3057e137c830a3d0f58db3893bb8ca4b9366c02d9a731ebfc35beb12da", func := "loop.example/g00911/laws.FnExactSameClub", spec := "fnExactSameClub", apart := false }
def FnExactSameClubSaid : Prop := fnExactSameClubRow.holds Try.pinned (OpenSpec.ofChange fnExactSameClubSpec)

/-- ITS FALSE NEIGHBOUR: 'it returns false'. Refute it at one input. -/
def fnExactSameClubWrong : ChangeSpec := { name := "fnExactSameClub", fn := fun _ => fun
  | [d1, d2] => { results := [.lit (.bool false)], args := [d1, d2] }
  | _ => none }
def FnExactSameClubWrongFalsely : Prop := fnExactSameClubRow.holds Try.pinned (OpenSpec.ofChange fnExactSameClubWrong)

/-- 'laws.FnExactDrawWays': WHATEVER THE INPUT: true; the input reads as it did. -/
def fnExactDrawWaysSpec : ChangeSpec := { name := "fnExactDrawWays", fn := fun _ => fun
  | [d1, d2] => { results := [.lit (.bool true)], args := [d1, d2] }
  | _ => none }
def fnExactDrawWaysRow : OpenClaim := { program := "ytdngdgjlcfbdhaa", sum := "8c2b1c3057e137c830a3d0f58db3893bb8ca4b9366c02d9a731ebfc35beb12da", func := "loop.example/g00911/laws.FnExactDrawWays", spec := "fnExactDrawWays", apart := false }
def FnExactDrawWaysSaid : Prop := fnExactDrawWaysRow.holds Try.pinned (OpenSpec.ofChange fnExactDrawWaysSpec)

/-- ITS FALSE NEIGHBOUR: 'it returns false'. Refute it at one input. -/
def fnExactDrawWaysWrong : ChangeSpec := { name := "fnExactDrawWays", fn := fun _ => fun
  | [d1, d2] => { results := [.lit (.bool false)], args := [d1, d2] }
  | _ => none }
def FnExactDrawWaysWrongFalsely : Prop := fnExactDrawWaysRow.holds Try.pinned (OpenSpec.ofChange fnExactDrawWaysWrong)

/-- 'laws.FnExactValidClub': WHATEVER THE INPUT: true; the input reads as it did. -/
def fnExactValidClubSpec : ChangeSpec := { name := "fnExactValidClub", fn := fun _ => fun
  | [d] => { results := [.lit (.bool true)], args := [d] }
  | _ => none }
def fnExactValidClubRow : OpenClaim := { program := "ytdngdgjlcfbdhaa", sum := "8c2b1c3057e137c830a3d0f58db3893bb8ca4b9366c02d9a731ebfc35beb12da", func := "loop.example/g00911/laws.FnExactValidClub", spec := "fnExactValidClub", apart := false }
def FnExactValidClubSaid : Prop := fnExactValidClubRow.holds Try.pinned (OpenSpec.ofChange fnExactValidClubSpec)

/-- ITS FALSE NEIGHBOUR: 'it returns false'. Refute it at one input. -/
def fnExactValidClubWrong : ChangeSpec := { name := "fnExactValidClub", fn := fun _ => fun
  | [d] => { results := [.lit (.bool false)], args := [d] }
  | _ => none }
def FnExactValidClubWrongFalsely : Prop := fnExactValidClubRow.holds Try.pinned (OpenSpec.ofChange fnExactValidClubWrong)

/-- 'laws.FnExactTotalLoss': WHATEVER THE INPUT: true; the input reads as it did. -/
def fnExactTotalLossSpec : ChangeSpec := { name := "fnExactTotalLoss", fn := fun _ => fun
  | [d] => { results := [.lit (.bool true)], args := [d] }
  | _ => none }
def fnExactTotalLossRow : OpenClaim := { program := "ytdngdgjlcfbdhaa", sum := "8c2b1c3057e137c830a3d0f58db3893bb8ca4b9366c02d9a731ebfc35beb12da", func := "loop.example/g00911/laws.FnExactTotalLoss", spec := "fnExactTotalLoss", unfollowed := true, recurses := true, apart := false }
def FnExactTotalLossSaid : Prop := fnExactTotalLossRow.holds Try.pinned (OpenSpec.ofChange fnExactTotalLossSpec)

/-- ITS FALSE NEIGHBOUR: 'it returns false'. Refute it at one input. -/
def fnExactTotalLossWrong : ChangeSpec := { name := "fnExactTotalLoss", fn := fun _ => fun
  | [d] => { results := [.lit (.bool false)], args := [d] }
  | _ => none }
def FnExactTotalLossWrongFalsely : Prop := fnExactTotalLossRow.holds Try.pinned (OpenSpec.ofChange fnExactTotalLossWrong)

/-- 'laws.FnExactValidEnd': WHATEVER THE INPUT: true; the input reads as it did. -/
def fnExactValidEndSpec : ChangeSpec := { name := "fnExactValidEnd", fn := fun _ => fun
  | [d] => { results := [.lit (.bool true)], args := [d] }
  | _ => none }
def fnExactValidEndRow : OpenClaim := { program := "ytdngdgjlcfbdhaa", sum := "8c2b1c3057e137c830a3d0f58db3893bb8ca4b9366c02d9a731ebfc35beb12da", func := "loop.example/g00911/laws.FnExactValidEnd", spec := "fnExactValidEnd", inPlace := ["internal/bytealg.IndexByteString"], unfollowed := true, recurses := true, apart := false }
def FnExactValidEndSaid : Prop := fnExactValidEndRow.holds Try.pinned (OpenSpec.ofChange fnExactValidEndSpec)

/-- ITS FALSE NEIGHBOUR: 'it returns false'. Refute it at one input. -/
def fnExactValidEndWrong : ChangeSpec := { name := "fnExactValidEnd", fn := fun _ => fun
  | [d] => { results := [.lit (.bool false)], args := [d] }
  | _ => none }
def FnExactValidEndWrongFalsely : Prop := fnExactValidEndRow.holds Try.pinned (OpenSpec.ofChange fnExactValidEndWrong)

/-- 'laws.FnExactGridText': WHATEVER THE INPUT: true; the input reads as it did. -/
def fnExactGridTextSpec : ChangeSpec := { name := "fnExactGridText", fn := fun _ => fun
  | [d] => { results := [.lit (.bool true)], args := [d] }
  | _ => none }
def fnExactGridTextRow : OpenClaim := { program := "ytdngdgjlcfbdhaa", sum := "8c2b1c3057e137c830a3d0f58db3893bb8ca4b9366c02d9a731ebfc35beb12da", func := "loop.example/g00911/laws.FnExactGridText", spec := "fnExactGridText", inPlace := ["internal/abi.NoEscape", "internal/bytealg.MakeNoZero"], unfollowed := true, recurses := true, apart := false }
def FnExactGridTextSaid : Prop := fnExactGridTextRow.holds Try.pinned (OpenSpec.ofChange fnExactGridTextSpec)

/-- ITS FALSE NEIGHBOUR: 'it returns false'. Refute it at one input. -/
def fnExactGridTextWrong : ChangeSpec := { name := "fnExactGridText", fn := fun _ => fun
  | [d] => { results := [.lit (.bool false)], args := [d] }
  | _ => none }
def FnExactGridTextWrongFalsely : Prop := fnExactGridTextRow.holds Try.pinned (OpenSpec.ofChange fnExactGridTextWrong)

/-- 'laws.FnExactWorstNote': WHATEVER THE INPUT: true; the input reads as it did. -/
def fnExactWorstNoteSpec : ChangeSpec := { name := "fnExactWorstNote", fn := fun _ => fun
  | [d] => { results := [.lit (.bool true)], args := [d] }
  | _ => none }
def fnExactWorstNoteRow : OpenClaim := { program := "ytdngdgjlcfbdhaa", sum := "8c2b1c3057e137c830a3d0f58db3893bb8ca4b9366c02d9a731ebfc35beb12da", func := "loop.example/g00911/laws.FnExactWorstNote", spec := "fnExactWorstNote", apart := false }
def FnExactWorstNoteSaid : Prop := fnExactWorstNoteRow.holds Try.pinned (OpenSpec.ofChange fnExactWorstNoteSpec)

/-- ITS FALSE NEIGHBOUR: 'it returns false'. Refute it at one input. -/
def fnExactWorstNoteWrong : ChangeSpec := { name := "fnExactWorstNote", fn := fun _ => fun
  | [d] => { results := [.lit (.bool false)], args := [d] }
  | _ => none }
def FnExactWorstNoteWrongFalsely : Prop := fnExactWorstNoteRow.holds Try.pinned (OpenSpec.ofChange fnExactWorstNoteWrong)

/- THE SECOND FORM. 'bulk': how many values and letters a reading holds, each counted each time it is reached (what is shared counts as often as it is met; a slice's spare places count too). A statement '..UptoSaid' is the law's where the arguments, and the package variables that the reading takes, are together of bulk at most 1048576: NARROWER than '..Said'. Prove '..Said' where nothing that the law and all that it calls make is longer than what came in: it says more and counts as full. Else prove '..UptoSaid'. A law counts once. -/
mutual
def uptoBulk {H : Type} : DataW H → Nat
  | .lit (.string bytes) => bytes.length + 1
  | .lit _ => 1
  | .nil => 1
  | .ptr d => uptoBulk d + 1
  | .slice elems spare => uptoBulkAll elems + uptoBulkAll spare + 1
  | .agg parts => uptoBulkAll parts + 1
  | .iface _ d => uptoBulk d + 1
  | .map entries => uptoBulkEntries entries + 1
  | .held _ => 1
def uptoBulkAll {H : Type} : List (DataW H) → Nat
  | [] => 0
  | d :: r => uptoBulk d + uptoBulkAll r
def uptoBulkEntries {H : Type} : List (Lit × DataW H) → Nat
  | [] => 0
  | x :: r => uptoBulkEntry x + uptoBulkEntries r
def uptoBulkEntry {H : Type} : Lit × DataW H → Nat
  | (.string bytes, d) => bytes.length + uptoBulk d + 1
  | (_, d) => uptoBulk d + 1
 end
def uptoSmall : (H : Type) → List (DataW H) → Bool := fun _ ds => decide (uptoBulkAll ds ≤ 1048576)
def OpenSpec.upto (s : _root_.Go.ChangeSpec) : _root_.Go.OpenSpec := { _root_.Go.OpenSpec.ofChange s with cond := some uptoSmall }

/-- 'laws.FnExactExpectedOf', WHERE WHAT IT READS IS OF BULK AT MOST 1048576: true; the input reads as it did. -/
def fnExactExpectedOfUptoRow : OpenClaim := { program := "ytdngdgjlcfbdhaa", sum := "8c2b1c3057e137c830a3d0f58db3893bb8ca4b9366c02d9a731ebfc35beb12da", func := "loop.example/g00911/laws.FnExactExpectedOf", spec := "fnExactExpectedOf", apart := false, narrowed := true }
def FnExactExpectedOfUptoSaid : Prop := fnExactExpectedOfUptoRow.holds Try.pinned (OpenSpec.upto fnExactExpectedOfSpec)

/-- 'laws.FnExactValidGrid', WHERE WHAT IT READS IS OF BULK AT MOST 1048576: true; the input reads as it did. -/
def fnExactValidGridUptoRow : OpenClaim := { program := "ytdngdgjlcfbdhaa", sum := "8c2b1c3057e137c830a3d0f58db3893bb8ca4b9366c02d9a731ebfc35beb12da", func := "loop.example/g00911/laws.FnExactValidGrid", spec := "fnExactValidGrid", unfollowed := true, recurses := true, apart := false, narrowed := true }
def FnExactValidGridUptoSaid : Prop := fnExactValidGridUptoRow.holds Try.pinned (OpenSpec.upto fnExactValidGridSpec)

/-- 'laws.FnExactCompareExpect', WHERE WHAT IT READS IS OF BULK AT MOST 1048576: true; the input reads as it did. -/
def fnExactCompareExpectUptoRow : OpenClaim := { program := "ytdngdgjlcfbdhaa", sum := "8c2b1c3057e137c830a3d0f58db3893bb8ca4b9366c02d9a731ebfc35beb12da", func := "loop.example/g00911/laws.FnExactCompareExpect", spec := "fnExactCompareExpect", apart := false, narrowed := true }
def FnExactCompareExpectUptoSaid : Prop := fnExactCompareExpectUptoRow.holds Try.pinned (OpenSpec.upto fnExactCompareExpectSpec)

/-- 'laws.FnExactHavePlayed', WHERE WHAT IT READS IS OF BULK AT MOST 1048576: true; the input reads as it did. -/
def fnExactHavePlayedUptoRow : OpenClaim := { program := "ytdngdgjlcfbdhaa", sum := "8c2b1c3057e137c830a3d0f58db3893bb8ca4b9366c02d9a731ebfc35beb12da", func := "loop.example/g00911/laws.FnExactHavePlayed", spec := "fnExactHavePlayed", unfollowed := true, recurses := true, apart := false, narrowed := true }
def FnExactHavePlayedUptoSaid : Prop := fnExactHavePlayedUptoRow.holds Try.pinned (OpenSpec.upto fnExactHavePlayedSpec)

/-- 'laws.FnExactTurnGrid', WHERE WHAT IT READS IS OF BULK AT MOST 1048576: true; the input reads as it did. -/
def fnExactTurnGridUptoRow : OpenClaim := { program := "ytdngdgjlcfbdhaa", sum := "8c2b1c3057e137c830a3d0f58db3893bb8ca4b9366c02d9a731ebfc35beb12da", func := "loop.example/g00911/laws.FnExactTurnGrid", spec := "fnExactTurnGrid", unfollowed := true, recurses := true, apart := false, narrowed := true }
def FnExactTurnGridUptoSaid : Prop := fnExactTurnGridUptoRow.holds Try.pinned (OpenSpec.upto fnExactTurnGridSpec)

/-- 'laws.FnExactSameClub', WHERE WHAT IT READS IS OF BULK AT MOST 1048576: true; the input reads as it did. -/
def fnExactSameClubUptoRow : OpenClaim := { program := "ytdngdgjlcfbdhaa", sum := "8c2b1c3057e137c830a3d0f58db3893bb8ca4b9366c02d9a731ebfc35beb12da", func := "loop.example/g00911/laws.FnExactSameClub", spec := "fnExactSameClub", apart := false, narrowed := true }
def FnExactSameClubUptoSaid : Prop := fnExactSameClubUptoRow.holds Try.pinned (OpenSpec.upto fnExactSameClubSpec)

/-- 'laws.FnExactDrawWays', WHERE WHAT IT READS IS OF BULK AT MOST 1048576: true; the input reads as it did. -/
def fnExactDrawWaysUptoRow : OpenClaim := { program := "ytdngdgjlcfbdhaa", sum := "8c2b1c3057e137c830a3d0f58db3893bb8ca4b9366c02d9a731ebfc35beb12da", func := "loop.example/g00911/laws.FnExactDrawWays", spec := "fnExactDrawWays", apart := false, narrowed := true }
def FnExactDrawWaysUptoSaid : Prop := fnExactDrawWaysUptoRow.holds Try.pinned (OpenSpec.upto fnExactDrawWaysSpec)

/-- 'laws.FnExactValidClub', WHERE WHAT IT READS IS OF BULK AT MOST 1048576: true; the input reads as it did. -/
def fnExactValidClubUptoRow : OpenClaim := { program := "ytdngdgjlcfbdhaa", sum := "8c2b1c3057e137c830a3d0f58db3893bb8ca4b9366c02d9a731ebfc35beb12da", func := "loop.example/g00911/laws.FnExactValidClub", spec := "fnExactValidClub", apart := false, narrowed := true }
def FnExactValidClubUptoSaid : Prop := fnExactValidClubUptoRow.holds Try.pinned (OpenSpec.upto fnExactValidClubSpec)

/-- 'laws.FnExactTotalLoss', WHERE WHAT IT READS IS OF BULK AT MOST 1048576: true; the input reads as it did. -/
def fnExactTotalLossUptoRow : OpenClaim := { program := "ytdngdgjlcfbdhaa", sum := "8c2b1c3057e137c830a3d0f58db3893bb8ca4b9366c02d9a731ebfc35beb12da", func := "loop.example/g00911/laws.FnExactTotalLoss", spec := "fnExactTotalLoss", unfollowed := true, recurses := true, apart := false, narrowed := true }
def FnExactTotalLossUptoSaid : Prop := fnExactTotalLossUptoRow.holds Try.pinned (OpenSpec.upto fnExactTotalLossSpec)

/-- 'laws.FnExactValidEnd', WHERE WHAT IT READS IS OF BULK AT MOST 1048576: true; the input reads as it did. -/
def fnExactValidEndUptoRow : OpenClaim := { program := "ytdngdgjlcfbdhaa", sum := "8c2b1c3057e137c830a3d0f58db3893bb8ca4b9366c02d9a731ebfc35beb12da", func := "loop.example/g00911/laws.FnExactValidEnd", spec := "fnExactValidEnd", inPlace := ["internal/bytealg.IndexByteString"], unfollowed := true, recurses := true, apart := false, narrowed := true }
def FnExactValidEndUptoSaid : Prop := fnExactValidEndUptoRow.holds Try.pinned (OpenSpec.upto fnExactValidEndSpec)

/-- 'laws.FnExactGridText', WHERE WHAT IT READS IS OF BULK AT MOST 1048576: true; the input reads as it did. -/
def fnExactGridTextUptoRow : OpenClaim := { program := "ytdngdgjlcfbdhaa", sum := "8c2b1c3057e137c830a3d0f58db3893bb8ca4b9366c02d9a731ebfc35beb12da", func := "loop.example/g00911/laws.FnExactGridText", spec := "fnExactGridText", inPlace := ["internal/abi.NoEscape", "internal/bytealg.MakeNoZero"], unfollowed := true, recurses := true, apart := false, narrowed := true }
def FnExactGridTextUptoSaid : Prop := fnExactGridTextUptoRow.holds Try.pinned (OpenSpec.upto fnExactGridTextSpec)

/-- 'laws.FnExactWorstNote', WHERE WHAT IT READS IS OF BULK AT MOST 1048576: true; the input reads as it did. -/
def fnExactWorstNoteUptoRow : OpenClaim := { program := "ytdngdgjlcfbdhaa", sum := "8c2b1c3057e137c830a3d0f58db3893bb8ca4b9366c02d9a731ebfc35beb12da", func := "loop.example/g00911/laws.FnExactWorstNote", spec := "fnExactWorstNote", apart := false, narrowed := true }
def FnExactWorstNoteUptoSaid : Prop := fnExactWorstNoteUptoRow.holds Try.pinned (OpenSpec.upto fnExactWorstNoteSpec)

end Rows
end Go.Proofs.Ytdngdgjlcfbdhaa
