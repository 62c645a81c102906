/- The engine, part T: tables that lie in memory from the start on. Printed by tabs.py. -/
import Derived.Test.YtgmbcolpchckbaaDoorEngC
import Derived.Test.YtgmbcolpchckbaaDoorRows
import Derived.Lib.LaidTab
import Derived.Lib.ItoaNum
import Derived.MakeChecks
namespace Go.Proofs.YtgmbcolpchckbaaDoor
open Go

theorem gPow : Tryd.prog.globalNamed "internal/strconv.uint64pow10" = some 0 := by kernel_rfl
theorem tPow : (Tryd.prog.globals[0]?).map (·.type) = some 98 := by kernel_rfl
theorem cPow : Tryd.prog.cellsOf 98 = 20 := by kernel_rfl
theorem cU64 : Tryd.prog.cellsOf 90 = 1 := by kernel_rfl
def Tabs (G : Nat → Prop) (w : World) : Prop := G 0 ∧ Lib.TabIs Tryd.prog w "internal/strconv.uint64pow10" .u64 Lib.pow10Tab
theorem Tabs.same {G : Nat → Prop} {w w' : World} (h : Tabs G w) (hs : ∀ b, G b → w'.heap[b]? = w.heap[b]?) : Tabs G w' := by
  refine ⟨h.1, ?_⟩
  have h2 := h.2
  unfold Lib.TabIs World.var? at *
  rw [gPow] at *
  simp only [Option.bind_some] at *
  rw [hs _ h.1]
  exact h2
theorem Tabs.pow {G : Nat → Prop} {w : World} (h : Tabs G w) : Lib.TabIs Tryd.prog w "internal/strconv.uint64pow10" .u64 Lib.pow10Tab := h.2
/-- What the row lists. -/
abbrev laidL : List (String × DataW Unit) := [("math/bits.deBruijn32tab", Rows.laid_math_bits_deBruijn32tab), ("math/bits.deBruijn64tab", Rows.laid_math_bits_deBruijn64tab), ("internal/strconv.uint64pow10", Rows.laid_internal_strconv_uint64pow10)]
theorem Tabs.start {w : World} (h : laidMetH Tryd.prog laidL w) : Tabs (· = 0) w := by
  rw [MakeChecks.laidMetH_plain _ _ _ (by kernel_rfl)] at h
  refine ⟨rfl, ?_⟩
  obtain ⟨ps, ⟨_, _, _, _, _, _, _, _, _, _, ⟨_, _, _, _, _, _, _, _, _, _, ⟨g', t', cs, fuel, p, q, hg', ht', hvar, hd, _, _⟩, _⟩, _⟩, _⟩ := h
  obtain rfl := Option.some.inj (gPow.symm.trans hg')
  obtain rfl := Option.some.inj (tPow.symm.trans ht')
  unfold Lib.TabIs
  rw [hvar, ← Lib.cells_of_tab (k := .u64) (zs := Lib.pow10Tab) Tryd.underlying98 Tryd.underlying90 cU64 cPow hd]
theorem Tabs.start_lt {w : World} (h : Tabs (· = 0) w) : ∀ b, b = 0 → b < w.heap.size := by
  rintro b rfl
  have h2 := h.2
  unfold Lib.TabIs World.var? at h2
  rw [gPow] at h2
  simp only [Option.bind_some] at h2
  cases hb : w.heap[0]? with
  | none => rw [hb] at h2; cases h2
  | some x => exact (Array.getElem?_eq_some_iff.1 hb).1

end Go.Proofs.YtgmbcolpchckbaaDoor
