/- The engine, part T: tables that lie in memory from the start on. Printed by tabs.py. -/
import Derived.Test.YtbekokenomhgeaaGreatDoorEngC
import Derived.Test.YtbekokenomhgeaaGreatDoorProg
import Derived.Lib.LaidTab
import Derived.Lib.ItoaNum
import Derived.Shelf.Unicode.DecodeSlow
import Derived.Shelf.Unicode.CaseTo
import Derived.Shelf.Unicode.CaseLaid
namespace Go.Proofs.YtbekokenomhgeaaGreatDoor
open Go

theorem gPow : Tryz.prog.globalNamed "internal/strconv.uint64pow10" = some 5 := by kernel_rfl
theorem gErrRange : Tryz.prog.globalNamed "strconv.ErrRange" = some 4 := by kernel_rfl
theorem gErrSyntax : Tryz.prog.globalNamed "strconv.ErrSyntax" = some 3 := by kernel_rfl
/-- What the tables hold. -/
def Facts (w : World) : Prop := Lib.TabIs Tryz.prog w "internal/strconv.uint64pow10" .u64 Lib.pow10Tab ∧ Lib.Utf8Tabs 1 2 w ∧ Lib.CaseVar 6 Lib.caseA w ∧ (∃ (tp : TypeId) (p : Value), w.var? Tryz.prog "strconv.ErrRange" = some #[.iface tp p]) ∧ (∃ (tp : TypeId) (p : Value), w.var? Tryz.prog "strconv.ErrSyntax" = some #[.iface tp p]) ∧ ∃ m, w.cell? ⟨0, 0, none⟩ = some (.int .i64 m)
theorem Facts.old {w w' : World} (h : Facts w) (hs : ∀ b, b < w.heap.size → w'.heap[b]? = w.heap[b]?) : Facts w' := by
  have k : ∀ {b o : Nat} {v : Value}, w.cell? ⟨b, o, none⟩ = some v → w'.cell? ⟨b, o, none⟩ = some v := fun {b o v} hc =>
    (World.cell?_of_block (a := ⟨b, o, none⟩) (hs b (World.block_lt_of_cell? w ⟨b, o, none⟩ hc))).trans hc
  exact ⟨(by
    have h2 : Lib.TabIs Tryz.prog w "internal/strconv.uint64pow10" .u64 Lib.pow10Tab := h.1
    show Lib.TabIs Tryz.prog w' "internal/strconv.uint64pow10" .u64 Lib.pow10Tab
    unfold Lib.TabIs World.var? at *
    rw [gPow] at *
    simp only [Option.bind_some] at *
    have hlt : 5 < w.heap.size := by
      cases hb : w.heap[5]? with
      | none => rw [hb] at h2; cases h2
      | some x => exact (Array.getElem?_eq_some_iff.1 hb).1
    rw [hs _ hlt]
    exact h2), ⟨fun c hc => k (h.2.1.1 c hc), fun i hi => ⟨k (h.2.1.2 i hi).1, k (h.2.1.2 i hi).2⟩⟩, (by
    obtain ⟨R, oR, cap, h1, h2⟩ := h.2.2.1
    exact ⟨R, oR, cap, k h1, fun i hi => ⟨k (h2 i hi).1, k (h2 i hi).2.1, k (h2 i hi).2.2.1, k (h2 i hi).2.2.2.1, k (h2 i hi).2.2.2.2⟩⟩), (by
    obtain ⟨tp, p, h2⟩ := h.2.2.2.1
    refine ⟨tp, p, ?_⟩
    unfold World.var? at *
    rw [gErrRange] at *
    simp only [Option.bind_some] at *
    have hlt : 4 < w.heap.size := by
      cases hb : w.heap[4]? with
      | none => rw [hb] at h2; cases h2
      | some x => exact (Array.getElem?_eq_some_iff.1 hb).1
    rw [hs _ hlt]
    exact h2), (by
    obtain ⟨tp, p, h2⟩ := h.2.2.2.2.1
    refine ⟨tp, p, ?_⟩
    unfold World.var? at *
    rw [gErrSyntax] at *
    simp only [Option.bind_some] at *
    have hlt : 3 < w.heap.size := by
      cases hb : w.heap[3]? with
      | none => rw [hb] at h2; cases h2
      | some x => exact (Array.getElem?_eq_some_iff.1 hb).1
    rw [hs _ hlt]
    exact h2), (by
    obtain ⟨m, hm⟩ := h.2.2.2.2.2
    exact ⟨m, k hm⟩)⟩
def Tabs (G : Nat → Prop) (w : World) : Prop := ∀ w' : World, (∀ b, G b → w'.heap[b]? = w.heap[b]?) → Facts w'
theorem Tabs.same {G : Nat → Prop} {w w' : World} (h : Tabs G w) (hs : ∀ b, G b → w'.heap[b]? = w.heap[b]?) : Tabs G w' := fun x hx => h x fun b hb => (hx b hb).trans (hs b hb)
theorem Tabs.facts {G : Nat → Prop} {w : World} (h : Tabs G w) : Facts w := h w fun _ _ => rfl
theorem Tabs.pow {G : Nat → Prop} {w : World} (h : Tabs G w) : Lib.TabIs Tryz.prog w "internal/strconv.uint64pow10" .u64 Lib.pow10Tab := h.facts.1
theorem Tabs.utf8 {G : Nat → Prop} {w : World} (h : Tabs G w) : Lib.Utf8Tabs 1 2 w := h.facts.2.1
theorem Tabs.case {G : Nat → Prop} {w : World} (h : Tabs G w) : Lib.CaseVar 6 Lib.caseA w := h.facts.2.2.1
theorem Tabs.errRange {G : Nat → Prop} {w : World} (h : Tabs G w) : (∃ (tp : TypeId) (p : Value), w.var? Tryz.prog "strconv.ErrRange" = some #[.iface tp p]) := h.facts.2.2.2.1
theorem Tabs.errSyntax {G : Nat → Prop} {w : World} (h : Tabs G w) : (∃ (tp : TypeId) (p : Value), w.var? Tryz.prog "strconv.ErrSyntax" = some #[.iface tp p]) := h.facts.2.2.2.2.1
theorem Tabs.maxlen {G : Nat → Prop} {w : World} (h : Tabs G w) : ∃ m, w.cell? ⟨0, 0, none⟩ = some (.int .i64 m) := h.facts.2.2.2.2.2

end Go.Proofs.YtbekokenomhgeaaGreatDoor
