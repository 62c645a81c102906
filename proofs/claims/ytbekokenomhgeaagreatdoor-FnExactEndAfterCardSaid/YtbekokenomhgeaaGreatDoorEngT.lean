/- The engine, part T: tables that lie in memory from the start on. Printed by tabs.py. -/
import Derived.Test.YtbekokenomhgeaaGreatDoorEngC
import Derived.Test.YtbekokenomhgeaaGreatDoorProg
import Derived.Shelf.Unicode.DecodeSlow
import Derived.Shelf.Unicode.CaseTo
import Derived.Shelf.Unicode.CaseLaid
namespace Go.Proofs.YtbekokenomhgeaaGreatDoor
open Go


/-- What the tables hold. -/
def Facts (w : World) : Prop := Lib.Utf8Tabs 1 2 w ∧ Lib.CaseVar 6 Lib.caseA w ∧ ∃ m, w.cell? ⟨0, 0, none⟩ = some (.int .i64 m)
theorem Facts.old {w w' : World} (h : Facts w) (hs : ∀ b, b < w.heap.size → w'.heap[b]? = w.heap[b]?) : Facts w' := by
  have k : ∀ {b o : Nat} {v : Value}, w.cell? ⟨b, o, none⟩ = some v → w'.cell? ⟨b, o, none⟩ = some v := fun {b o v} hc =>
    (World.cell?_of_block (a := ⟨b, o, none⟩) (hs b (World.block_lt_of_cell? w ⟨b, o, none⟩ hc))).trans hc
  exact ⟨⟨fun c hc => k (h.1.1 c hc), fun i hi => ⟨k (h.1.2 i hi).1, k (h.1.2 i hi).2⟩⟩, (by
    obtain ⟨R, oR, cap, h1, h2⟩ := h.2.1
    exact ⟨R, oR, cap, k h1, fun i hi => ⟨k (h2 i hi).1, k (h2 i hi).2.1, k (h2 i hi).2.2.1, k (h2 i hi).2.2.2.1, k (h2 i hi).2.2.2.2⟩⟩), (by
    obtain ⟨m, hm⟩ := h.2.2
    exact ⟨m, k hm⟩)⟩
def Tabs (G : Nat → Prop) (w : World) : Prop := ∀ w' : World, (∀ b, G b → w'.heap[b]? = w.heap[b]?) → Facts w'
theorem Tabs.same {G : Nat → Prop} {w w' : World} (h : Tabs G w) (hs : ∀ b, G b → w'.heap[b]? = w.heap[b]?) : Tabs G w' := fun x hx => h x fun b hb => (hx b hb).trans (hs b hb)
theorem Tabs.facts {G : Nat → Prop} {w : World} (h : Tabs G w) : Facts w := h w fun _ _ => rfl
theorem Tabs.utf8 {G : Nat → Prop} {w : World} (h : Tabs G w) : Lib.Utf8Tabs 1 2 w := h.facts.1
theorem Tabs.case {G : Nat → Prop} {w : World} (h : Tabs G w) : Lib.CaseVar 6 Lib.caseA w := h.facts.2.1
theorem Tabs.maxlen {G : Nat → Prop} {w : World} (h : Tabs G w) : ∃ m, w.cell? ⟨0, 0, none⟩ = some (.int .i64 m) := h.facts.2.2

end Go.Proofs.YtbekokenomhgeaaGreatDoor
