/-
  No cell of these rows narrows 'for every input' (looked for: loops, veiled, ifaces, maps, wideKeys, modest, calm, conditions, laid).
  DERIVED. THE GIVEN ROWS OF THIS SEAT. 9 by the template 'for every input the law returns true; each argument reads behind the call as it read before'; 0 by the template 'total and deterministic' (their statements: YtgmikhdealhlfaaTotals.lean).
  GIVEN WITH THE SEED: the statements are not yours to turn. If you find one false, say at which input.
  Laid BY PROGRAM, IN A SANDBOX (cutbox-rows.mjs): the forced cells as the released guide's own fill.sh prints them over the translation b5d08a6392c3ff72… (all of the seat's roots in one cut). By AI agents, Wed Nov 11 2026. No macro, syntax, notation, axiom, sorry.
-/
import Derived.Test.YtgmikhdealhlfaaChecked
import GoSem.Claim
import GoSem.ClaimJoined
import GoSem.ClaimMapViews
import Derived.JoinedTies
import Derived.KernelRfl
namespace Go.Proofs.Ytgmikhdealhlfaa
/- THE CELL 'sum', in the pinned program and in every row, IS THE sha256 OF THE DUMP (.gsa) THAT YtgmikhdealhlfaaProg.lean LOADS. Nothing in Lean hashes anything: it is a label: what it is worth is what the hold of that sum in a sandbox is worth. -/
noncomputable def Try.pinned : Pinned := { name := "ytgmikhdealhlfaa", sum := "b5d08a6392c3ff72c1457843c401fdea6e636e7d0a6419afcf20cd36628ae89c", checked := Try.checked }
namespace Rows
def none {H : Type} : Left H := { results := [], args := [] }

/-- 'laws.FnExactPatternOf': WHATEVER THE INPUT: true; the input reads as it did. -/
def fnExactPatternOfSpec : ChangeSpec := { name := "fnExactPatternOf", fn := fun _ => fun
  | [d1, d2] => { results := [.lit (.bool true)], args := [d1, d2] }
  | _ => none }
def fnExactPatternOfRow : OpenClaim := { program := "ytgmikhdealhlfaa", sum := "b5d08a6392c3ff72c1457843c401fdea6e636e7d0a6419afcf20cd36628ae89c", func := "loop.example/g00911/laws.FnExactPatternOf", spec := "fnExactPatternOf", unfollowed := true, recurses := true, apart := false }
def FnExactPatternOfSaid : Prop := fnExactPatternOfRow.holds Try.pinned (OpenSpec.ofChange fnExactPatternOfSpec)

/-- ITS FALSE NEIGHBOUR: 'it returns false'. Refute it at one input. -/
def fnExactPatternOfWrong : ChangeSpec := { name := "fnExactPatternOf", fn := fun _ => fun
  | [d1, d2] => { results := [.lit (.bool false)], args := [d1, d2] }
  | _ => none }
def FnExactPatternOfWrongFalsely : Prop := fnExactPatternOfRow.holds Try.pinned (OpenSpec.ofChange fnExactPatternOfWrong)

/-- 'laws.FnExactSlotsOf': WHATEVER THE INPUT: true; the input reads as it did. -/
def fnExactSlotsOfSpec : ChangeSpec := { name := "fnExactSlotsOf", fn := fun _ => fun
  | [d] => { results := [.lit (.bool true)], args := [d] }
  | _ => none }
def fnExactSlotsOfRow : OpenClaim := { program := "ytgmikhdealhlfaa", sum := "b5d08a6392c3ff72c1457843c401fdea6e636e7d0a6419afcf20cd36628ae89c", func := "loop.example/g00911/laws.FnExactSlotsOf", spec := "fnExactSlotsOf", unfollowed := true, recurses := true, apart := false }
def FnExactSlotsOfSaid : Prop := fnExactSlotsOfRow.holds Try.pinned (OpenSpec.ofChange fnExactSlotsOfSpec)

/-- ITS FALSE NEIGHBOUR: 'it returns false'. Refute it at one input. -/
def fnExactSlotsOfWrong : ChangeSpec := { name := "fnExactSlotsOf", fn := fun _ => fun
  | [d] => { results := [.lit (.bool false)], args := [d] }
  | _ => none }
def FnExactSlotsOfWrongFalsely : Prop := fnExactSlotsOfRow.holds Try.pinned (OpenSpec.ofChange fnExactSlotsOfWrong)

/-- 'laws.FnExactPutWord': WHATEVER THE INPUT: true; the input reads as it did. -/
def fnExactPutWordSpec : ChangeSpec := { name := "fnExactPutWord", fn := fun _ => fun
  | [d1, d2, d3] => { results := [.lit (.bool true)], args := [d1, d2, d3] }
  | _ => none }
def fnExactPutWordRow : OpenClaim := { program := "ytgmikhdealhlfaa", sum := "b5d08a6392c3ff72c1457843c401fdea6e636e7d0a6419afcf20cd36628ae89c", func := "loop.example/g00911/laws.FnExactPutWord", spec := "fnExactPutWord", unfollowed := true, recurses := true, apart := false }
def FnExactPutWordSaid : Prop := fnExactPutWordRow.holds Try.pinned (OpenSpec.ofChange fnExactPutWordSpec)

/-- ITS FALSE NEIGHBOUR: 'it returns false'. Refute it at one input. -/
def fnExactPutWordWrong : ChangeSpec := { name := "fnExactPutWord", fn := fun _ => fun
  | [d1, d2, d3] => { results := [.lit (.bool false)], args := [d1, d2, d3] }
  | _ => none }
def FnExactPutWordWrongFalsely : Prop := fnExactPutWordRow.holds Try.pinned (OpenSpec.ofChange fnExactPutWordWrong)

/-- 'laws.FnExactIsFilled': WHATEVER THE INPUT: true; the input reads as it did. -/
def fnExactIsFilledSpec : ChangeSpec := { name := "fnExactIsFilled", fn := fun _ => fun
  | [d1, d2] => { results := [.lit (.bool true)], args := [d1, d2] }
  | _ => none }
def fnExactIsFilledRow : OpenClaim := { program := "ytgmikhdealhlfaa", sum := "b5d08a6392c3ff72c1457843c401fdea6e636e7d0a6419afcf20cd36628ae89c", func := "loop.example/g00911/laws.FnExactIsFilled", spec := "fnExactIsFilled", unfollowed := true, recurses := true, apart := false }
def FnExactIsFilledSaid : Prop := fnExactIsFilledRow.holds Try.pinned (OpenSpec.ofChange fnExactIsFilledSpec)

/-- ITS FALSE NEIGHBOUR: 'it returns false'. Refute it at one input. -/
def fnExactIsFilledWrong : ChangeSpec := { name := "fnExactIsFilled", fn := fun _ => fun
  | [d1, d2] => { results := [.lit (.bool false)], args := [d1, d2] }
  | _ => none }
def FnExactIsFilledWrongFalsely : Prop := fnExactIsFilledRow.holds Try.pinned (OpenSpec.ofChange fnExactIsFilledWrong)

/-- 'laws.FnExactCandidatesOf': WHATEVER THE INPUT: true; the input reads as it did. -/
def fnExactCandidatesOfSpec : ChangeSpec := { name := "fnExactCandidatesOf", fn := fun _ => fun
  | [d1, d2, d3] => { results := [.lit (.bool true)], args := [d1, d2, d3] }
  | _ => none }
def fnExactCandidatesOfRow : OpenClaim := { program := "ytgmikhdealhlfaa", sum := "b5d08a6392c3ff72c1457843c401fdea6e636e7d0a6419afcf20cd36628ae89c", func := "loop.example/g00911/laws.FnExactCandidatesOf", spec := "fnExactCandidatesOf", unfollowed := true, recurses := true, apart := false }
def FnExactCandidatesOfSaid : Prop := fnExactCandidatesOfRow.holds Try.pinned (OpenSpec.ofChange fnExactCandidatesOfSpec)

/-- ITS FALSE NEIGHBOUR: 'it returns false'. Refute it at one input. -/
def fnExactCandidatesOfWrong : ChangeSpec := { name := "fnExactCandidatesOf", fn := fun _ => fun
  | [d1, d2, d3] => { results := [.lit (.bool false)], args := [d1, d2, d3] }
  | _ => none }
def FnExactCandidatesOfWrongFalsely : Prop := fnExactCandidatesOfRow.holds Try.pinned (OpenSpec.ofChange fnExactCandidatesOfWrong)

/-- 'laws.FnExactCountFillings': WHATEVER THE INPUT: true; the input reads as it did. -/
def fnExactCountFillingsSpec : ChangeSpec := { name := "fnExactCountFillings", fn := fun _ => fun
  | [d1, d2] => { results := [.lit (.bool true)], args := [d1, d2] }
  | _ => none }
def fnExactCountFillingsRow : OpenClaim := { program := "ytgmikhdealhlfaa", sum := "b5d08a6392c3ff72c1457843c401fdea6e636e7d0a6419afcf20cd36628ae89c", func := "loop.example/g00911/laws.FnExactCountFillings", spec := "fnExactCountFillings", unfollowed := true, recurses := true, apart := false }
def FnExactCountFillingsSaid : Prop := fnExactCountFillingsRow.holds Try.pinned (OpenSpec.ofChange fnExactCountFillingsSpec)

/-- ITS FALSE NEIGHBOUR: 'it returns false'. Refute it at one input. -/
def fnExactCountFillingsWrong : ChangeSpec := { name := "fnExactCountFillings", fn := fun _ => fun
  | [d1, d2] => { results := [.lit (.bool false)], args := [d1, d2] }
  | _ => none }
def FnExactCountFillingsWrongFalsely : Prop := fnExactCountFillingsRow.holds Try.pinned (OpenSpec.ofChange fnExactCountFillingsWrong)

/-- 'laws.FnExactFillGrid': WHATEVER THE INPUT: true; the input reads as it did. -/
def fnExactFillGridSpec : ChangeSpec := { name := "fnExactFillGrid", fn := fun _ => fun
  | [d1, d2] => { results := [.lit (.bool true)], args := [d1, d2] }
  | _ => none }
def fnExactFillGridRow : OpenClaim := { program := "ytgmikhdealhlfaa", sum := "b5d08a6392c3ff72c1457843c401fdea6e636e7d0a6419afcf20cd36628ae89c", func := "loop.example/g00911/laws.FnExactFillGrid", spec := "fnExactFillGrid", unfollowed := true, recurses := true, apart := false }
def FnExactFillGridSaid : Prop := fnExactFillGridRow.holds Try.pinned (OpenSpec.ofChange fnExactFillGridSpec)

/-- ITS FALSE NEIGHBOUR: 'it returns false'. Refute it at one input. -/
def fnExactFillGridWrong : ChangeSpec := { name := "fnExactFillGrid", fn := fun _ => fun
  | [d1, d2] => { results := [.lit (.bool false)], args := [d1, d2] }
  | _ => none }
def FnExactFillGridWrongFalsely : Prop := fnExactFillGridRow.holds Try.pinned (OpenSpec.ofChange fnExactFillGridWrong)

/-- 'laws.FnExactProveNoFill': WHATEVER THE INPUT: true; the input reads as it did. -/
def fnExactProveNoFillSpec : ChangeSpec := { name := "fnExactProveNoFill", fn := fun _ => fun
  | [d1, d2] => { results := [.lit (.bool true)], args := [d1, d2] }
  | _ => none }
def fnExactProveNoFillRow : OpenClaim := { program := "ytgmikhdealhlfaa", sum := "b5d08a6392c3ff72c1457843c401fdea6e636e7d0a6419afcf20cd36628ae89c", func := "loop.example/g00911/laws.FnExactProveNoFill", spec := "fnExactProveNoFill", inPlace := ["internal/bytealg.IndexByteString", "internal/bytealg.IndexString"], unfollowed := true, recurses := true, named := ["internal/bytealg.MaxLen"], apart := false }
def FnExactProveNoFillSaid : Prop := fnExactProveNoFillRow.holds Try.pinned (OpenSpec.ofChange fnExactProveNoFillSpec)

/-- ITS FALSE NEIGHBOUR: 'it returns false'. Refute it at one input. -/
def fnExactProveNoFillWrong : ChangeSpec := { name := "fnExactProveNoFill", fn := fun _ => fun
  | [d1, d2] => { results := [.lit (.bool false)], args := [d1, d2] }
  | _ => none }
def FnExactProveNoFillWrongFalsely : Prop := fnExactProveNoFillRow.holds Try.pinned (OpenSpec.ofChange fnExactProveNoFillWrong)

/-- 'laws.FnFillings': WHATEVER THE INPUT: true; the input reads as it did. -/
def fnFillingsSpec : ChangeSpec := { name := "fnFillings", fn := fun _ => fun
  | [d] => { results := [.lit (.bool true)], args := [d] }
  | _ => none }
def fnFillingsRow : OpenClaim := { program := "ytgmikhdealhlfaa", sum := "b5d08a6392c3ff72c1457843c401fdea6e636e7d0a6419afcf20cd36628ae89c", func := "loop.example/g00911/laws.FnFillings", spec := "fnFillings", unfollowed := true, recurses := true, apart := false }
def FnFillingsSaid : Prop := fnFillingsRow.holds Try.pinned (OpenSpec.ofChange fnFillingsSpec)

/-- ITS FALSE NEIGHBOUR: 'it returns false'. Refute it at one input. -/
def fnFillingsWrong : ChangeSpec := { name := "fnFillings", fn := fun _ => fun
  | [d] => { results := [.lit (.bool false)], args := [d] }
  | _ => none }
def FnFillingsWrongFalsely : Prop := fnFillingsRow.holds Try.pinned (OpenSpec.ofChange fnFillingsWrong)

/- THE SECOND FORM. 'bulk': how many values and letters a reading holds, each counted each time it is reached (what is shared counts as often as it is met; a slice's spare places count too). A statement '..UptoSaid' is the law's where the arguments, and the package variables that the reading takes, are together of bulk at most 1048576: NARROWER than '..Said'. Prove '..Said' where nothing that the law and all that it calls make is longer than what came in: it says more and counts as full. Else prove '..UptoSaid'. A law counts once. -/
mutual
def uptoBulk {H : Type} : DataW H → Nat
  | .lit (.string bytes) => bytes.length + 1
  | .lit _ => 1
  | .nil => 1
  | .ptr d => uptoBulk d + 1
  | .slice elems spare => uptoBulkAll elems + uptoBulkAll spare + 1
  | .agg parts => uptoBulkAll parts + 1
  | .iface _ d => uptoBulk d + 1
  | .map entries => uptoBulkEntries entries + 1
  | .held _ => 1
def uptoBulkAll {H : Type} : List (DataW H) → Nat
  | [] => 0
  | d :: r => uptoBulk d + uptoBulkAll r
def uptoBulkEntries {H : Type} : List (Lit × DataW H) → Nat
  | [] => 0
  | x :: r => uptoBulkEntry x + uptoBulkEntries r
def uptoBulkEntry {H : Type} : Lit × DataW H → Nat
  | (.string bytes, d) => bytes.length + uptoBulk d + 1
  | (_, d) => uptoBulk d + 1
 end
def uptoSmall : (H : Type) → List (DataW H) → Bool := fun _ ds => decide (uptoBulkAll ds ≤ 1048576)
def OpenSpec.upto (s : _root_.Go.ChangeSpec) : _root_.Go.OpenSpec := { _root_.Go.OpenSpec.ofChange s with cond := some uptoSmall }

/-- 'laws.FnExactPatternOf', WHERE WHAT IT READS IS OF BULK AT MOST 1048576: true; the input reads as it did. -/
def fnExactPatternOfUptoRow : OpenClaim := { program := "ytgmikhdealhlfaa", sum := "b5d08a6392c3ff72c1457843c401fdea6e636e7d0a6419afcf20cd36628ae89c", func := "loop.example/g00911/laws.FnExactPatternOf", spec := "fnExactPatternOf", unfollowed := true, recurses := true, apart := false, narrowed := true }
def FnExactPatternOfUptoSaid : Prop := fnExactPatternOfUptoRow.holds Try.pinned (OpenSpec.upto fnExactPatternOfSpec)

/-- 'laws.FnExactSlotsOf', WHERE WHAT IT READS IS OF BULK AT MOST 1048576: true; the input reads as it did. -/
def fnExactSlotsOfUptoRow : OpenClaim := { program := "ytgmikhdealhlfaa", sum := "b5d08a6392c3ff72c1457843c401fdea6e636e7d0a6419afcf20cd36628ae89c", func := "loop.example/g00911/laws.FnExactSlotsOf", spec := "fnExactSlotsOf", unfollowed := true, recurses := true, apart := false, narrowed := true }
def FnExactSlotsOfUptoSaid : Prop := fnExactSlotsOfUptoRow.holds Try.pinned (OpenSpec.upto fnExactSlotsOfSpec)

/-- 'laws.FnExactPutWord', WHERE WHAT IT READS IS OF BULK AT MOST 1048576: true; the input reads as it did. -/
def fnExactPutWordUptoRow : OpenClaim := { program := "ytgmikhdealhlfaa", sum := "b5d08a6392c3ff72c1457843c401fdea6e636e7d0a6419afcf20cd36628ae89c", func := "loop.example/g00911/laws.FnExactPutWord", spec := "fnExactPutWord", unfollowed := true, recurses := true, apart := false, narrowed := true }
def FnExactPutWordUptoSaid : Prop := fnExactPutWordUptoRow.holds Try.pinned (OpenSpec.upto fnExactPutWordSpec)

/-- 'laws.FnExactIsFilled', WHERE WHAT IT READS IS OF BULK AT MOST 1048576: true; the input reads as it did. -/
def fnExactIsFilledUptoRow : OpenClaim := { program := "ytgmikhdealhlfaa", sum := "b5d08a6392c3ff72c1457843c401fdea6e636e7d0a6419afcf20cd36628ae89c", func := "loop.example/g00911/laws.FnExactIsFilled", spec := "fnExactIsFilled", unfollowed := true, recurses := true, apart := false, narrowed := true }
def FnExactIsFilledUptoSaid : Prop := fnExactIsFilledUptoRow.holds Try.pinned (OpenSpec.upto fnExactIsFilledSpec)

/-- 'laws.FnExactCandidatesOf', WHERE WHAT IT READS IS OF BULK AT MOST 1048576: true; the input reads as it did. -/
def fnExactCandidatesOfUptoRow : OpenClaim := { program := "ytgmikhdealhlfaa", sum := "b5d08a6392c3ff72c1457843c401fdea6e636e7d0a6419afcf20cd36628ae89c", func := "loop.example/g00911/laws.FnExactCandidatesOf", spec := "fnExactCandidatesOf", unfollowed := true, recurses := true, apart := false, narrowed := true }
def FnExactCandidatesOfUptoSaid : Prop := fnExactCandidatesOfUptoRow.holds Try.pinned (OpenSpec.upto fnExactCandidatesOfSpec)

/-- 'laws.FnExactCountFillings', WHERE WHAT IT READS IS OF BULK AT MOST 1048576: true; the input reads as it did. -/
def fnExactCountFillingsUptoRow : OpenClaim := { program := "ytgmikhdealhlfaa", sum := "b5d08a6392c3ff72c1457843c401fdea6e636e7d0a6419afcf20cd36628ae89c", func := "loop.example/g00911/laws.FnExactCountFillings", spec := "fnExactCountFillings", unfollowed := true, recurses := true, apart := false, narrowed := true }
def FnExactCountFillingsUptoSaid : Prop := fnExactCountFillingsUptoRow.holds Try.pinned (OpenSpec.upto fnExactCountFillingsSpec)

/-- 'laws.FnExactFillGrid', WHERE WHAT IT READS IS OF BULK AT MOST 1048576: true; the input reads as it did. -/
def fnExactFillGridUptoRow : OpenClaim := { program := "ytgmikhdealhlfaa", sum := "b5d08a6392c3ff72c1457843c401fdea6e636e7d0a6419afcf20cd36628ae89c", func := "loop.example/g00911/laws.FnExactFillGrid", spec := "fnExactFillGrid", unfollowed := true, recurses := true, apart := false, narrowed := true }
def FnExactFillGridUptoSaid : Prop := fnExactFillGridUptoRow.holds Try.pinned (OpenSpec.upto fnExactFillGridSpec)

/-- 'laws.FnExactProveNoFill', WHERE WHAT IT READS IS OF BULK AT MOST 1048576: true; the input reads as it did. -/
def fnExactProveNoFillUptoRow : OpenClaim := { program := "ytgmikhdealhlfaa", sum := "b5d08a6392c3ff72c1457843c401fdea6e636e7d0a6419afcf20cd36628ae89c", func := "loop.example/g00911/laws.FnExactProveNoFill", spec := "fnExactProveNoFill", inPlace := ["internal/bytealg.IndexByteString", "internal/bytealg.IndexString"], unfollowed := true, recurses := true, named := ["internal/bytealg.MaxLen"], apart := false, narrowed := true }
def FnExactProveNoFillUptoSaid : Prop := fnExactProveNoFillUptoRow.holds Try.pinned (OpenSpec.upto fnExactProveNoFillSpec)

/-- 'laws.FnFillings', WHERE WHAT IT READS IS OF BULK AT MOST 1048576: true; the input reads as it did. -/
def fnFillingsUptoRow : OpenClaim := { program := "ytgmikhdealhlfaa", sum := "b5d08a6392c3ff72c1457843c401fdea6e636e7d0a6419afcf20cd36628ae89c", func := "loop.example/g00911/laws.FnFillings", spec := "fnFillings", unfollowed := true, recurses := true, apart := false, narrowed := true }
def FnFillingsUptoSaid : Prop := fnFillingsUptoRow.holds Try.pinned (OpenSpec.upto fnFillingsSpec)

end Rows
end Go.Proofs.Ytgmikhdealhlfaa
