/- The engine, part T: tables that lie in memory from the start on. Printed by tabs.py. -/
import Derived.Test.YtgmikhdealhlfaaGreatDoorEngC
import Derived.Test.YtgmikhdealhlfaaGreatDoorProg
import Derived.Shelf.Unicode.DecodeSlow
namespace Go.Proofs.YtgmikhdealhlfaaGreatDoor
open Go


/-- What the tables hold. -/
def Facts (w : World) : Prop := Lib.Utf8Tabs 1 2 w ∧ ∃ m, w.cell? ⟨0, 0, none⟩ = some (.int .i64 m)
theorem Facts.old {w w' : World} (h : Facts w) (hs : ∀ b, b < w.heap.size → w'.heap[b]? = w.heap[b]?) : Facts w' := by
  have k : ∀ {b o : Nat} {v : Value}, w.cell? ⟨b, o, none⟩ = some v → w'.cell? ⟨b, o, none⟩ = some v := fun {b o v} hc =>
    (World.cell?_of_block (a := ⟨b, o, none⟩) (hs b (World.block_lt_of_cell? w ⟨b, o, none⟩ hc))).trans hc
  exact ⟨⟨fun c hc => k (h.1.1 c hc), fun i hi => ⟨k (h.1.2 i hi).1, k (h.1.2 i hi).2⟩⟩, (by
    obtain ⟨m, hm⟩ := h.2
    exact ⟨m, k hm⟩)⟩
def Tabs (G : Nat → Prop) (w : World) : Prop := ∀ w' : World, (∀ b, G b → w'.heap[b]? = w.heap[b]?) → Facts w'
theorem Tabs.same {G : Nat → Prop} {w w' : World} (h : Tabs G w) (hs : ∀ b, G b → w'.heap[b]? = w.heap[b]?) : Tabs G w' := fun x hx => h x fun b hb => (hx b hb).trans (hs b hb)
theorem Tabs.facts {G : Nat → Prop} {w : World} (h : Tabs G w) : Facts w := h w fun _ _ => rfl
theorem Tabs.utf8 {G : Nat → Prop} {w : World} (h : Tabs G w) : Lib.Utf8Tabs 1 2 w := h.facts.1
theorem Tabs.maxlen {G : Nat → Prop} {w : World} (h : Tabs G w) : ∃ m, w.cell? ⟨0, 0, none⟩ = some (.int .i64 m) := h.facts.2

end Go.Proofs.YtgmikhdealhlfaaGreatDoor
