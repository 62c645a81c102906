/- The engine, part T: tables that lie in memory from the start on. Printed by tabs.py. -/
import Derived.Test.YtdaoecpkgobelaaGreatDoorEngC
import Derived.Test.YtdaoecpkgobelaaGreatDoorProg
import Derived.Lib.LaidTab
import Derived.Lib.ItoaNum
namespace Go.Proofs.YtdaoecpkgobelaaGreatDoor
open Go
theorem gPow : Tryz.prog.globalNamed "internal/strconv.uint64pow10" = some 4 := by kernel_rfl
theorem gErr0 : Tryz.prog.globalNamed "loop.example/g00911/impl.errNoForm" = some 1 := by kernel_rfl
theorem gErr1 : Tryz.prog.globalNamed "loop.example/g00911/impl.errAccepted" = some 2 := by kernel_rfl
theorem gErr2 : Tryz.prog.globalNamed "loop.example/g00911/impl.errMissing" = some 0 := by kernel_rfl
def ErrVars (w : World) : Prop := ∃ (a0 a1 a2 : Addr) (c0 c1 c2 : Array Value) (t0 t1 t2 : TypeId), w.var? Tryz.prog "loop.example/g00911/impl.errNoForm" = some #[.iface 236 (.pointer (some a0))] ∧ w.var? Tryz.prog "loop.example/g00911/impl.errAccepted" = some #[.iface 236 (.pointer (some a1))] ∧ w.var? Tryz.prog "loop.example/g00911/impl.errMissing" = some #[.iface 236 (.pointer (some a2))] ∧ w.heap[a0.block]? = some (.cells c0 t0 (0, 0)) ∧ w.heap[a1.block]? = some (.cells c1 t1 (0, 0)) ∧ w.heap[a2.block]? = some (.cells c2 t2 (0, 0)) ∧ a0 ≠ a1 ∧ a1 ≠ a2 ∧ a0 ≠ a2
theorem var_old {P : Program} {n : String} {g : Nat} {v : Array Value} {w w' : World} (hg : P.globalNamed n = some g) (hs : ∀ b, b < w.heap.size → w'.heap[b]? = w.heap[b]?) (h : w.var? P n = some v) : w'.var? P n = some v := by
  unfold World.var? at *
  rw [hg] at *
  simp only [Option.bind_some] at *
  have hlt : g < w.heap.size := by
    cases hb : w.heap[g]? with
    | none => rw [hb] at h; cases h
    | some x => exact (Array.getElem?_eq_some_iff.1 hb).1
  rw [hs _ hlt]
  exact h
theorem ErrVars.old {w w' : World} (h : ErrVars w) (hs : ∀ b, b < w.heap.size → w'.heap[b]? = w.heap[b]?) : ErrVars w' := by
  obtain ⟨a0, a1, a2, c0, c1, c2, t0, t1, t2, v0, v1, v2, h0, h1, h2, n1, n2, n3⟩ := h
  have k : ∀ {b : Nat} {o : Obj}, w.heap[b]? = some o → w'.heap[b]? = some o := fun {b o} hb => (hs b (Array.getElem?_eq_some_iff.1 hb).1).trans hb
  exact ⟨a0, a1, a2, c0, c1, c2, t0, t1, t2, var_old gErr0 hs v0, var_old gErr1 hs v1, var_old gErr2 hs v2, k h0, k h1, k h2, n1, n2, n3⟩
def Facts (w : World) : Prop := Lib.TabIs Tryz.prog w "internal/strconv.uint64pow10" .u64 Lib.pow10Tab ∧ ErrVars w ∧ ∃ m, w.cell? ⟨3, 0, none⟩ = some (.int .i64 m)
theorem Facts.old {w w' : World} (h : Facts w) (hs : ∀ b, b < w.heap.size → w'.heap[b]? = w.heap[b]?) : Facts w' := by
  have k : ∀ {b o : Nat} {v : Value}, w.cell? ⟨b, o, none⟩ = some v → w'.cell? ⟨b, o, none⟩ = some v := fun {b o v} hc =>
    (World.cell?_of_block (a := ⟨b, o, none⟩) (hs b (World.block_lt_of_cell? w ⟨b, o, none⟩ hc))).trans hc
  exact ⟨(by
    have h2 : Lib.TabIs Tryz.prog w "internal/strconv.uint64pow10" .u64 Lib.pow10Tab := h.1
    show Lib.TabIs Tryz.prog w' "internal/strconv.uint64pow10" .u64 Lib.pow10Tab
    unfold Lib.TabIs World.var? at *
    rw [gPow] at *
    simp only [Option.bind_some] at *
    have hlt : 4 < w.heap.size := by
      cases hb : w.heap[4]? with
      | none => rw [hb] at h2; cases h2
      | some x => exact (Array.getElem?_eq_some_iff.1 hb).1
    rw [hs _ hlt]
    exact h2), h.2.1.old hs, (by
    obtain ⟨m, hm⟩ := h.2.2
    exact ⟨m, k hm⟩)⟩
def Tabs (G : Nat → Prop) (w : World) : Prop := ∀ w' : World, (∀ b, G b → w'.heap[b]? = w.heap[b]?) → Facts w'
theorem Tabs.same {G : Nat → Prop} {w w' : World} (h : Tabs G w) (hs : ∀ b, G b → w'.heap[b]? = w.heap[b]?) : Tabs G w' := fun x hx => h x fun b hb => (hx b hb).trans (hs b hb)
theorem Tabs.facts {G : Nat → Prop} {w : World} (h : Tabs G w) : Facts w := h w fun _ _ => rfl
theorem Tabs.pow {G : Nat → Prop} {w : World} (h : Tabs G w) : Lib.TabIs Tryz.prog w "internal/strconv.uint64pow10" .u64 Lib.pow10Tab := h.facts.1
theorem Tabs.errs {G : Nat → Prop} {w : World} (h : Tabs G w) : ErrVars w := h.facts.2.1
end Go.Proofs.YtdaoecpkgobelaaGreatDoor
