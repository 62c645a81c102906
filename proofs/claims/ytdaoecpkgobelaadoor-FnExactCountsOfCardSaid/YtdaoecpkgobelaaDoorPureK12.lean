/- Steps of an automaton, by letters and by words: program and reference. -/
import Derived.Test.YtdaoecpkgobelaaDoorPureK11
namespace Go.Proofs.YtdaoecpkgobelaaDoor
open Go Go.RowKit
set_option linter.unusedSimpArgs false
set_option linter.unusedVariables false

theorem dawg_small {d : Dawg} (h : bulk_Dawg d ≤ 1048576) : ∀ x ∈ d.Nodes, x.Next.length ≤ 2000000 := fun x hx => by
  unfold bulk_Dawg bulk_NodeS at h
  have h2 : bulk_Node x ≤ bulkS (fun e => bulk_Node e) d.Nodes := bulkS_mem (fun e => bulk_Node e) hx
  have h3 : x.Next.length ≤ bulk_Node x := by unfold bulk_Node bulk_Int64S; omega
  omega

end Go.Proofs.YtdaoecpkgobelaaDoor
