/- The engine, part T: tables that lie in memory from the start on. Printed by tabs.py. -/
import Derived.Test.YtgmikhdealhlfaaEngC
namespace Go.Proofs.Ytgmikhdealhlfaa
open Go

def Tabs (_G : Nat → Prop) (_w : World) : Prop := True
theorem Tabs.same {G : Nat → Prop} {w w' : World} (_h : Tabs G w) (_hs : ∀ b, G b → w'.heap[b]? = w.heap[b]?) : Tabs G w' := trivial
theorem Tabs.start (w : World) : Tabs (fun _ => False) w := trivial

end Go.Proofs.Ytgmikhdealhlfaa
