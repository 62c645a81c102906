/- The engine, part S: the tables at the start. Printed by tabs.py. -/
import Derived.Test.YtbekokenomhgeaaDoorEngT
import Derived.Test.YtbekokenomhgeaaDoorRows
import Derived.MakeChecks
import Derived.LaidLaws
import Derived.LaidMore
import Derived.Lib.LaidU8
import Derived.Lib.LaidU8T
import Derived.PinnedBridge
import Derived.Lay
import Derived.Lib.LaidCase
import Derived.Test.YtbekokenomhgeaaDoorShelf
namespace Go.Proofs.YtbekokenomhgeaaDoor
open Go

def u8ren : Go.Shelf.Ren := ⟨fun n => n, fun | 5 => 5 | 119 => 127 | 138 => 129 | 139 => 130 | n => n, fun | 3 => 5 | 4 => 6 | n => n⟩
theorem u8types : U8Types Tryd.prog u8ren := { t5 := by kernel_rfl, t119 := by kernel_rfl, t138 := by kernel_rfl, t139 := by kernel_rfl }
theorem u8extra : U8Extra Tryd.prog u8ren := { n3 := by kernel_rfl, n4 := by kernel_rfl, y3 := by kernel_rfl, y4 := by kernel_rfl, c5 := by kernel_rfl, c119 := by kernel_rfl, c138 := by kernel_rfl }
theorem acceptEq : (Rows.laid_unicode_utf8_acceptRanges : DataW Unit) = Lib.acceptData := by kernel_rfl
theorem caseExtra : CaseExtra Tryd.prog Tryd.lays204_ren := { n13 := by kernel_rfl, y13 := by kernel_rfl, c21 := by kernel_rfl, c51 := by kernel_rfl, c206 := by kernel_rfl, c208 := by kernel_rfl }
/-- What the row lists. -/
abbrev laidL : List (String × DataW Unit) := [("math/bits.deBruijn32tab", Rows.laid_math_bits_deBruijn32tab), ("math/bits.deBruijn64tab", Rows.laid_math_bits_deBruijn64tab), ("internal/strconv.uint64pow10", Rows.laid_internal_strconv_uint64pow10), ("unicode/utf8.acceptRanges", Rows.laid_unicode_utf8_acceptRanges), ("unicode.CaseRanges", Rows.laid_unicode_CaseRanges), ("unicode/utf8.first", Rows.laid_unicode_utf8_first)]
theorem Tabs.start {w : World} (h : laidMetH Tryd.prog laidL w) : Tabs (· < w.heap.size) w := by
  rw [MakeChecks.laidMetH_plain _ _ _ (by kernel_rfl)] at h
  intro w' hs
  refine Facts.old (w := w) ?_ hs
  exact ⟨(by
    obtain ⟨g', t', cs, fuel, p, hg', ht', hvar, hd⟩ := Lib.laidMet.reads h (n := "internal/strconv.uint64pow10") (List.mem_of_getElem? (i := 2) rfl)
    obtain rfl := Option.some.inj (gPow.symm.trans hg')
    obtain rfl := Option.some.inj ((show (Tryd.prog.globals[0]?).map (·.type) = some 107 by kernel_rfl).symm.trans ht')
    unfold Lib.TabIs
    rw [hvar, ← Lib.cells_of_tab (k := .u64) (zs := Lib.pow10Tab) Tryd.underlying107 Tryd.underlying97 (show Tryd.prog.cellsOf 97 = 1 by kernel_rfl) (show Tryd.prog.cellsOf 107 = 20 by kernel_rfl) hd]), utf8Tabs_of_readsT u8types u8extra (by rw [← Pinned.utf8First_eq]; exact Lib.laidMet.reads h (List.mem_of_getElem? (i := 5) rfl)) (by rw [← acceptEq]; exact Lib.laidMet.reads h (List.mem_of_getElem? (i := 3) rfl)), caseVar_of_reads ({ Tryd.lays204 with } : Lays.n274 _ _) (by kernel_rfl) caseExtra (by rw [← Pinned.caseRanges_eq]; exact Lib.laidMet.reads h (List.mem_of_getElem? (i := 4) rfl))⟩
noncomputable abbrev startW (os : Os) : World := World.laidAll Tryd.prog os laidL
theorem door_met (os : Os) (args : Array Value) : laidMetH Tryd.prog laidL ((startW os).forCall (fun _ _ => 0) ⟨#[], args, []⟩).memory := by
  rw [MakeChecks.laidMetH_plain _ _ _ (by kernel_rfl)]
  exact laidMet_laidAll _ (by kernel_rfl) (by kernel_rfl)
theorem startW_os (os : Os) : (startW os).os = os := World.laidAll_os _ _ _
theorem startW_shaped (os : Os) (args : Array Value) : ((startW os).forCall (fun _ _ => 0) ⟨#[], args, []⟩).Shaped Tryd.prog := World.shaped_of_ZipB (by kernel_rfl) (by kernel_rfl)

end Go.Proofs.YtbekokenomhgeaaDoor
