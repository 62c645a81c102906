/-
  No cell of these rows narrows 'for every input' (looked for: loops, veiled, ifaces, maps, wideKeys, modest, calm, conditions, laid).
  DERIVED. THE GIVEN ROWS OF THIS SEAT. 5 by the template 'for every input the law returns true; each argument reads behind the call as it read before'; 0 by the template 'total and deterministic' (their statements: YtgmbcolpchckbaaTotals.lean).
  GIVEN WITH THE SEED: the statements are not yours to turn. If you find one false, say at which input.
  Laid BY PROGRAM, IN A SANDBOX (cutbox-rows.mjs): the forced cells as the released guide's own fill.sh prints them over the translation bde82345ce60bcd2… (all of the seat's roots in one cut). By AI agents, Wed Nov 11 2026. No macro, syntax, notation, axiom, sorry.
-/
import Derived.Test.YtgmbcolpchckbaaChecked
import GoSem.Claim
import GoSem.ClaimJoined
import GoSem.ClaimMapViews
import Derived.JoinedTies
import Derived.KernelRfl
namespace Go.Proofs.Ytgmbcolpchckbaa
/- THE CELL 'sum', in the pinned program and in every row, IS THE sha256 OF THE DUMP (.gsa) THAT YtgmbcolpchckbaaProg.lean LOADS. Nothing in Lean hashes anything: it is a label: what it is worth is what the hold of that sum in a sandbox is worth. -/
noncomputable def Try.pinned : Pinned := { name := "ytgmbcolpchckbaa", sum := "bde82345ce60bcd2c2afab15ae170338183a86449adab72c720b535ef89d0fe7", checked := Try.checked }
namespace Rows
def none {H : Type} : Left H := { results := [], args := [] }

/-- 'laws.FnExactSettleEnd': WHATEVER THE INPUT: true; the input reads as it did. -/
def fnExactSettleEndSpec : ChangeSpec := { name := "fnExactSettleEnd", fn := fun _ => fun
  | [d1, d2, d3] => { results := [.lit (.bool true)], args := [d1, d2, d3] }
  | _ => none }
def fnExactSettleEndRow : OpenClaim := { program := "ytgmbcolpchckbaa", sum := "bde82345ce60bcd2c2afab15ae170338183a86449adab72c720b535ef89d0fe7", func := "loop.example/g00911/laws.FnExactSettleEnd", spec := "fnExactSettleEnd", inPlace := ["internal/bytealg.IndexByteString"], apart := false }
def FnExactSettleEndSaid : Prop := fnExactSettleEndRow.holds Try.pinned (OpenSpec.ofChange fnExactSettleEndSpec)

/-- ITS FALSE NEIGHBOUR: 'it returns false'. Refute it at one input. -/
def fnExactSettleEndWrong : ChangeSpec := { name := "fnExactSettleEnd", fn := fun _ => fun
  | [d1, d2, d3] => { results := [.lit (.bool false)], args := [d1, d2, d3] }
  | _ => none }
def FnExactSettleEndWrongFalsely : Prop := fnExactSettleEndRow.holds Try.pinned (OpenSpec.ofChange fnExactSettleEndWrong)

/-- 'laws.FnExactCasesOf': WHATEVER THE INPUT: true; the input reads as it did. -/
def fnExactCasesOfSpec : ChangeSpec := { name := "fnExactCasesOf", fn := fun _ => fun
  | [d] => { results := [.lit (.bool true)], args := [d] }
  | _ => none }
def fnExactCasesOfRow : OpenClaim := { program := "ytgmbcolpchckbaa", sum := "bde82345ce60bcd2c2afab15ae170338183a86449adab72c720b535ef89d0fe7", func := "loop.example/g00911/laws.FnExactCasesOf", spec := "fnExactCasesOf", unfollowed := true, recurses := true, apart := false }
def FnExactCasesOfSaid : Prop := fnExactCasesOfRow.holds Try.pinned (OpenSpec.ofChange fnExactCasesOfSpec)

/-- ITS FALSE NEIGHBOUR: 'it returns false'. Refute it at one input. -/
def fnExactCasesOfWrong : ChangeSpec := { name := "fnExactCasesOf", fn := fun _ => fun
  | [d] => { results := [.lit (.bool false)], args := [d] }
  | _ => none }
def FnExactCasesOfWrongFalsely : Prop := fnExactCasesOfRow.holds Try.pinned (OpenSpec.ofChange fnExactCasesOfWrong)

/-- 'laws.FnDrawWays': WHATEVER THE INPUT: true; the input reads as it did. -/
def fnDrawWaysSpec : ChangeSpec := { name := "fnDrawWays", fn := fun _ => fun
  | [d1, d2] => { results := [.lit (.bool true)], args := [d1, d2] }
  | _ => none }
def fnDrawWaysRow : OpenClaim := { program := "ytgmbcolpchckbaa", sum := "bde82345ce60bcd2c2afab15ae170338183a86449adab72c720b535ef89d0fe7", func := "loop.example/g00911/laws.FnDrawWays", spec := "fnDrawWays", inPlace := ["internal/abi.NoEscape"], unfollowed := true, recurses := true, apart := false }
def FnDrawWaysSaid : Prop := fnDrawWaysRow.holds Try.pinned (OpenSpec.ofChange fnDrawWaysSpec)

/-- ITS FALSE NEIGHBOUR: 'it returns false'. Refute it at one input. -/
def fnDrawWaysWrong : ChangeSpec := { name := "fnDrawWays", fn := fun _ => fun
  | [d1, d2] => { results := [.lit (.bool false)], args := [d1, d2] }
  | _ => none }
def FnDrawWaysWrongFalsely : Prop := fnDrawWaysRow.holds Try.pinned (OpenSpec.ofChange fnDrawWaysWrong)

/-- 'laws.FnExactDrawsOf': WHATEVER THE INPUT: true; the input reads as it did. -/
def fnExactDrawsOfSpec : ChangeSpec := { name := "fnExactDrawsOf", fn := fun _ => fun
  | [d1, d2] => { results := [.lit (.bool true)], args := [d1, d2] }
  | _ => none }
def fnExactDrawsOfRow : OpenClaim := { program := "ytgmbcolpchckbaa", sum := "bde82345ce60bcd2c2afab15ae170338183a86449adab72c720b535ef89d0fe7", func := "loop.example/g00911/laws.FnExactDrawsOf", spec := "fnExactDrawsOf", unfollowed := true, recurses := true, apart := false }
def FnExactDrawsOfSaid : Prop := fnExactDrawsOfRow.holds Try.pinned (OpenSpec.ofChange fnExactDrawsOfSpec)

/-- ITS FALSE NEIGHBOUR: 'it returns false'. Refute it at one input. -/
def fnExactDrawsOfWrong : ChangeSpec := { name := "fnExactDrawsOf", fn := fun _ => fun
  | [d1, d2] => { results := [.lit (.bool false)], args := [d1, d2] }
  | _ => none }
def FnExactDrawsOfWrongFalsely : Prop := fnExactDrawsOfRow.holds Try.pinned (OpenSpec.ofChange fnExactDrawsOfWrong)

/-- 'laws.FnExactChanceOf': WHATEVER THE INPUT: true; the input reads as it did. -/
def fnExactChanceOfSpec : ChangeSpec := { name := "fnExactChanceOf", fn := fun _ => fun
  | [d1, d2, d3] => { results := [.lit (.bool true)], args := [d1, d2, d3] }
  | _ => none }
def fnExactChanceOfRow : OpenClaim := { program := "ytgmbcolpchckbaa", sum := "bde82345ce60bcd2c2afab15ae170338183a86449adab72c720b535ef89d0fe7", func := "loop.example/g00911/laws.FnExactChanceOf", spec := "fnExactChanceOf", inPlace := ["internal/abi.NoEscape"], unfollowed := true, recurses := true, apart := false }
def FnExactChanceOfSaid : Prop := fnExactChanceOfRow.holds Try.pinned (OpenSpec.ofChange fnExactChanceOfSpec)

/-- ITS FALSE NEIGHBOUR: 'it returns false'. Refute it at one input. -/
def fnExactChanceOfWrong : ChangeSpec := { name := "fnExactChanceOf", fn := fun _ => fun
  | [d1, d2, d3] => { results := [.lit (.bool false)], args := [d1, d2, d3] }
  | _ => none }
def FnExactChanceOfWrongFalsely : Prop := fnExactChanceOfRow.holds Try.pinned (OpenSpec.ofChange fnExactChanceOfWrong)

/- THE SECOND FORM. 'bulk': how many values and letters a reading holds, each counted each time it is reached (what is shared counts as often as it is met; a slice's spare places count too). A statement '..UptoSaid' is the law's where the arguments, and the package variables that the reading takes, are together of bulk at most 1048576: NARROWER than '..Said'. Prove '..Said' where nothing that the law and all that it calls make is longer than what came in: it says more and counts as full. Else prove '..UptoSaid'. A law counts once. -/
mutual
def uptoBulk {H : Type} : DataW H → Nat
  | .lit (.string bytes) => bytes.length + 1
  | .lit _ => 1
  | .nil => 1
  | .ptr d => uptoBulk d + 1
  | .slice elems spare => uptoBulkAll elems + uptoBulkAll spare + 1
  | .agg parts => uptoBulkAll parts + 1
  | .iface _ d => uptoBulk d + 1
  | .map entries => uptoBulkEntries entries + 1
  | .held _ => 1
def uptoBulkAll {H : Type} : List (DataW H) → Nat
  | [] => 0
  | d :: r => uptoBulk d + uptoBulkAll r
def uptoBulkEntries {H : Type} : List (Lit × DataW H) → Nat
  | [] => 0
  | x :: r => uptoBulkEntry x + uptoBulkEntries r
def uptoBulkEntry {H : Type} : Lit × DataW H → Nat
  | (.string bytes, d) => bytes.length + uptoBulk d + 1
  | (_, d) => uptoBulk d + 1
 end
def uptoSmall : (H : Type) → List (DataW H) → Bool := fun _ ds => decide (uptoBulkAll ds ≤ 1048576)
def OpenSpec.upto (s : _root_.Go.ChangeSpec) : _root_.Go.OpenSpec := { _root_.Go.OpenSpec.ofChange s with cond := some uptoSmall }

/-- 'laws.FnExactSettleEnd', WHERE WHAT IT READS IS OF BULK AT MOST 1048576: true; the input reads as it did. -/
def fnExactSettleEndUptoRow : OpenClaim := { program := "ytgmbcolpchckbaa", sum := "bde82345ce60bcd2c2afab15ae170338183a86449adab72c720b535ef89d0fe7", func := "loop.example/g00911/laws.FnExactSettleEnd", spec := "fnExactSettleEnd", inPlace := ["internal/bytealg.IndexByteString"], apart := false, narrowed := true }
def FnExactSettleEndUptoSaid : Prop := fnExactSettleEndUptoRow.holds Try.pinned (OpenSpec.upto fnExactSettleEndSpec)

/-- 'laws.FnExactCasesOf', WHERE WHAT IT READS IS OF BULK AT MOST 1048576: true; the input reads as it did. -/
def fnExactCasesOfUptoRow : OpenClaim := { program := "ytgmbcolpchckbaa", sum := "bde82345ce60bcd2c2afab15ae170338183a86449adab72c720b535ef89d0fe7", func := "loop.example/g00911/laws.FnExactCasesOf", spec := "fnExactCasesOf", unfollowed := true, recurses := true, apart := false, narrowed := true }
def FnExactCasesOfUptoSaid : Prop := fnExactCasesOfUptoRow.holds Try.pinned (OpenSpec.upto fnExactCasesOfSpec)

/-- 'laws.FnDrawWays', WHERE WHAT IT READS IS OF BULK AT MOST 1048576: true; the input reads as it did. -/
def fnDrawWaysUptoRow : OpenClaim := { program := "ytgmbcolpchckbaa", sum := "bde82345ce60bcd2c2afab15ae170338183a86449adab72c720b535ef89d0fe7", func := "loop.example/g00911/laws.FnDrawWays", spec := "fnDrawWays", inPlace := ["internal/abi.NoEscape"], unfollowed := true, recurses := true, apart := false, narrowed := true }
def FnDrawWaysUptoSaid : Prop := fnDrawWaysUptoRow.holds Try.pinned (OpenSpec.upto fnDrawWaysSpec)

/-- 'laws.FnExactDrawsOf', WHERE WHAT IT READS IS OF BULK AT MOST 1048576: true; the input reads as it did. -/
def fnExactDrawsOfUptoRow : OpenClaim := { program := "ytgmbcolpchckbaa", sum := "bde82345ce60bcd2c2afab15ae170338183a86449adab72c720b535ef89d0fe7", func := "loop.example/g00911/laws.FnExactDrawsOf", spec := "fnExactDrawsOf", unfollowed := true, recurses := true, apart := false, narrowed := true }
def FnExactDrawsOfUptoSaid : Prop := fnExactDrawsOfUptoRow.holds Try.pinned (OpenSpec.upto fnExactDrawsOfSpec)

/-- 'laws.FnExactChanceOf', WHERE WHAT IT READS IS OF BULK AT MOST 1048576: true; the input reads as it did. -/
def fnExactChanceOfUptoRow : OpenClaim := { program := "ytgmbcolpchckbaa", sum := "bde82345ce60bcd2c2afab15ae170338183a86449adab72c720b535ef89d0fe7", func := "loop.example/g00911/laws.FnExactChanceOf", spec := "fnExactChanceOf", inPlace := ["internal/abi.NoEscape"], unfollowed := true, recurses := true, apart := false, narrowed := true }
def FnExactChanceOfUptoSaid : Prop := fnExactChanceOfUptoRow.holds Try.pinned (OpenSpec.upto fnExactChanceOfSpec)

end Rows
end Go.Proofs.Ytgmbcolpchckbaa
