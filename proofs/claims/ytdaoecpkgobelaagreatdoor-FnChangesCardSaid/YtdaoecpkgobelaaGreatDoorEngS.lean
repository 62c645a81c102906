/- The engine, part S: the tables at the start. Printed by tabs.py. -/
import Derived.Test.YtdaoecpkgobelaaGreatDoorEngT
import Derived.Test.YtdaoecpkgobelaaGreatDoorRows
import Derived.Stop.LaidTwo
import Derived.MakeChecks
import Derived.LaidLaws
import Derived.LaidMore
import Derived.Lib.LaidU8
import Derived.Test.YtdaoecpkgobelaaGreatDoorShelf
namespace Go.Proofs.YtdaoecpkgobelaaGreatDoor
open Go
theorem errStar : "*" ++ "errors.errorString" = "*errors.errorString" := by decide
theorem errRow (u : TypeId) (h : Tryz.prog.typeName? 3 u = some "*errors.errorString") : u = 236 :=
  typeName_ptr_named (nm := "errors.errorString") (by rw [errStar]; kernel_rfl) (by kernel_rfl) (by decide) u (by rw [errStar]; exact h)
abbrev laidL : List (String × DataW Unit) := [("math/bits.deBruijn32tab", Rows.laid_math_bits_deBruijn32tab), ("math/bits.deBruijn64tab", Rows.laid_math_bits_deBruijn64tab), ("internal/strconv.uint64pow10", Rows.laid_internal_strconv_uint64pow10), ("loop.example/g00911/impl.errNoForm", Rows.laid_loop_example_g00911_impl_errNoForm), ("loop.example/g00911/impl.errAccepted", Rows.laid_loop_example_g00911_impl_errAccepted), ("loop.example/g00911/impl.errMissing", Rows.laid_loop_example_g00911_impl_errMissing)]
theorem Tabs.start {w : World} (h : laidMetH Tryz.prog laidL w) (hS : w.ShapedOpen Tryz.prog) : Tabs (· < w.heap.size) w := by
  rw [MakeChecks.laidMetH_plain _ _ _ (by kernel_rfl)] at h
  intro w' hs
  refine Facts.old (w := w) ?_ hs
  exact ⟨(by
    obtain ⟨g', t', cs, fuel, p, hg', ht', hvar, hd⟩ := Lib.laidMet.reads h (n := "internal/strconv.uint64pow10") (List.mem_of_getElem? (i := 2) rfl)
    obtain rfl := Option.some.inj (gPow.symm.trans hg')
    obtain rfl := Option.some.inj ((show (Tryz.prog.globals[4]?).map (·.type) = some 213 by kernel_rfl).symm.trans ht')
    show Lib.TabIs Tryz.prog w "internal/strconv.uint64pow10" .u64 Lib.pow10Tab
    unfold Lib.TabIs
    rw [hvar, ← Lib.cells_of_tab (k := .u64) (zs := Lib.pow10Tab) Tryz.underlying213 Tryz.underlying103 (show Tryz.prog.cellsOf 103 = 1 by kernel_rfl) (show Tryz.prog.cellsOf 213 = 20 by kernel_rfl) hd]), (by
    obtain ⟨a0, a1, s0, s1, c0, c1, t0, t1, v0, v1, h0, e0, _, h1, e1, _, n1, b0, b1⟩ := laid_sentinels2 h.tail.tail.tail gErr0 (ti := 71) (by kernel_rfl) gErr1 (by kernel_rfl) Tryz.underlying71 errRow Tryz.underlying236 Tryz.underlying238 rfl rfl Tryz.underlying9 (by kernel_rfl) (by kernel_rfl)
    obtain ⟨a1', a2, _, s2, _, c2, _, t2, v1', v2, _, _, _, h2, e2, _, n2, _, b2⟩ := laid_sentinels2 h.tail.tail.tail.tail gErr1 (ti := 71) (by kernel_rfl) gErr2 (by kernel_rfl) Tryz.underlying71 errRow Tryz.underlying236 Tryz.underlying238 rfl rfl Tryz.underlying9 (by kernel_rfl) (by kernel_rfl)
    have e : a1' = a1 := by
      have := v1'.symm.trans v1
      simpa using this
    subst e
    refine ⟨a0, a1', a2, c0, c1, c2, t0, t1, t2, v0, v1, v2, b0, b1, b2, n1, n2, fun e => ?_⟩
    subst e
    have := h0.symm.trans h2
    have es : s0 = s2 := by simpa using this
    rw [es, e2] at e0
    revert e0
    decide), Tryz.laysM219.s1_3 w hS⟩
theorem door_met (os : Os) (args : Array Value) : laidMetH Tryz.prog laidL ((World.doorLaid Tryz.prog 400 os).forCall (fun _ _ => 0) ⟨#[], args, []⟩).memory :=
  laidMetH_of_parts3 (fuel := 8) (laidMet_of_run' 8 (by kernel_rfl) (by kernel_rfl)) (by kernel_rfl) (by kernel_rfl)
noncomputable abbrev startW (os : Os) : World := World.doorLaid Tryz.prog 400 os
theorem startW_os (os : Os) : (startW os).os = os := rfl
theorem startW_shaped (os : Os) (args : Array Value) : ((startW os).forCall (fun _ _ => 0) ⟨#[], args, []⟩).Shaped Tryz.prog := World.shaped_of_RefB (by kernel_rfl) (by kernel_rfl)
end Go.Proofs.YtdaoecpkgobelaaGreatDoor
