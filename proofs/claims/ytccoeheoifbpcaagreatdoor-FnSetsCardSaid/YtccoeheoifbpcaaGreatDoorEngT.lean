/- The engine, part T: tables that lie in memory from the start on. Printed by tabs.py. -/
import Derived.Test.YtccoeheoifbpcaaGreatDoorEngC
import Derived.Test.YtccoeheoifbpcaaGreatDoorProg
import Derived.Lib.LaidTab
import Derived.Lib.ItoaNum
namespace Go.Proofs.YtccoeheoifbpcaaGreatDoor
open Go
theorem gPow : Tryz.prog.globalNamed "internal/strconv.uint64pow10" = some 0 := by kernel_rfl
def Facts (w : World) : Prop := Lib.TabIs Tryz.prog w "internal/strconv.uint64pow10" .u64 Lib.pow10Tab
theorem Facts.old {w w' : World} (h : Facts w) (hs : ∀ b, b < w.heap.size → w'.heap[b]? = w.heap[b]?) : Facts w' := by
  have k : ∀ {b o : Nat} {v : Value}, w.cell? ⟨b, o, none⟩ = some v → w'.cell? ⟨b, o, none⟩ = some v := fun {b o v} hc =>
    (World.cell?_of_block (a := ⟨b, o, none⟩) (hs b (World.block_lt_of_cell? w ⟨b, o, none⟩ hc))).trans hc
  exact by
    have h2 : Lib.TabIs Tryz.prog w "internal/strconv.uint64pow10" .u64 Lib.pow10Tab := h
    show Lib.TabIs Tryz.prog w' "internal/strconv.uint64pow10" .u64 Lib.pow10Tab
    unfold Lib.TabIs World.var? at *
    rw [gPow] at *
    simp only [Option.bind_some] at *
    have hlt : 0 < w.heap.size := by
      cases hb : w.heap[0]? with
      | none => rw [hb] at h2; cases h2
      | some x => exact (Array.getElem?_eq_some_iff.1 hb).1
    rw [hs _ hlt]
    exact h2
def Tabs (G : Nat → Prop) (w : World) : Prop := ∀ w' : World, (∀ b, G b → w'.heap[b]? = w.heap[b]?) → Facts w'
theorem Tabs.same {G : Nat → Prop} {w w' : World} (h : Tabs G w) (hs : ∀ b, G b → w'.heap[b]? = w.heap[b]?) : Tabs G w' := fun x hx => h x fun b hb => (hx b hb).trans (hs b hb)
theorem Tabs.facts {G : Nat → Prop} {w : World} (h : Tabs G w) : Facts w := h w fun _ _ => rfl
theorem Tabs.pow {G : Nat → Prop} {w : World} (h : Tabs G w) : Lib.TabIs Tryz.prog w "internal/strconv.uint64pow10" .u64 Lib.pow10Tab := h.facts
end Go.Proofs.YtccoeheoifbpcaaGreatDoor
