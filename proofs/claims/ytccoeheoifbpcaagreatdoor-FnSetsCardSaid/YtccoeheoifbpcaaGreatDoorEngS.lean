/- The engine, part S: the tables at the start. Printed by tabs.py. -/
import Derived.Test.YtccoeheoifbpcaaGreatDoorEngT
import Derived.Test.YtccoeheoifbpcaaGreatDoorRows
import Derived.MakeChecks
import Derived.LaidLaws
import Derived.LaidMore
import Derived.Lib.LaidU8
namespace Go.Proofs.YtccoeheoifbpcaaGreatDoor
open Go
abbrev laidL : List (String × DataW Unit) := [("math/bits.deBruijn32tab", Rows.laid_math_bits_deBruijn32tab), ("math/bits.deBruijn64tab", Rows.laid_math_bits_deBruijn64tab), ("internal/strconv.uint64pow10", Rows.laid_internal_strconv_uint64pow10)]
theorem Tabs.start {w : World} (h : laidMetH Tryz.prog laidL w) (hS : w.ShapedOpen Tryz.prog) : Tabs (· < w.heap.size) w := by
  rw [MakeChecks.laidMetH_plain _ _ _ (by kernel_rfl)] at h
  intro w' hs
  refine Facts.old (w := w) ?_ hs
  exact by
    obtain ⟨g', t', cs, fuel, p, hg', ht', hvar, hd⟩ := Lib.laidMet.reads h (n := "internal/strconv.uint64pow10") (List.mem_of_getElem? (i := 2) rfl)
    obtain rfl := Option.some.inj (gPow.symm.trans hg')
    obtain rfl := Option.some.inj ((show (Tryz.prog.globals[0]?).map (·.type) = some 177 by kernel_rfl).symm.trans ht')
    show Lib.TabIs Tryz.prog w "internal/strconv.uint64pow10" .u64 Lib.pow10Tab
    unfold Lib.TabIs
    rw [hvar, ← Lib.cells_of_tab (k := .u64) (zs := Lib.pow10Tab) Tryz.underlying177 Tryz.underlying71 (show Tryz.prog.cellsOf 71 = 1 by kernel_rfl) (show Tryz.prog.cellsOf 177 = 20 by kernel_rfl) hd]
theorem door_met (os : Os) (args : Array Value) : laidMetH Tryz.prog laidL ((World.doorLaid Tryz.prog 400 os).forCall (fun _ _ => 0) ⟨#[], args, []⟩).memory :=
  laidMetH_of_parts3 (fuel := 8) (laidMet_of_run' 8 (by kernel_rfl) (by kernel_rfl)) (by kernel_rfl) (by kernel_rfl)
noncomputable abbrev startW (os : Os) : World := World.doorLaid Tryz.prog 400 os
theorem startW_os (os : Os) : (startW os).os = os := rfl
theorem startW_shaped (os : Os) (args : Array Value) : ((startW os).forCall (fun _ _ => 0) ⟨#[], args, []⟩).Shaped Tryz.prog := World.shaped_of_RefB (by kernel_rfl) (by kernel_rfl)
end Go.Proofs.YtccoeheoifbpcaaGreatDoor
