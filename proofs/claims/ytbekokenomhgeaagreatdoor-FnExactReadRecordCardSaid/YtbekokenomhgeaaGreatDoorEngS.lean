/- The engine, part S: the tables at the start. Printed by tabs.py. -/
import Derived.Test.YtbekokenomhgeaaGreatDoorEngT
import Derived.Test.YtbekokenomhgeaaGreatDoorRows
import Derived.Stop.LaidErr
import Derived.MakeChecks
import Derived.LaidLaws
import Derived.LaidMore
import Derived.Lib.LaidU8
import Derived.Lib.LaidU8T
import Derived.PinnedBridge
import Derived.Lay
import Derived.Lib.LaidCase
import Derived.Test.YtbekokenomhgeaaGreatDoorShelf
namespace Go.Proofs.YtbekokenomhgeaaGreatDoor
open Go

def u8ren : Go.Shelf.Ren := ⟨fun n => n, fun | 5 => 5 | 119 => 212 | 138 => 214 | 139 => 215 | n => n, fun | 3 => 1 | 4 => 2 | n => n⟩
theorem u8types : U8Types Tryz.prog u8ren := { t5 := by kernel_rfl, t119 := by kernel_rfl, t138 := by kernel_rfl, t139 := by kernel_rfl }
theorem u8extra : U8Extra Tryz.prog u8ren := { n3 := by kernel_rfl, n4 := by kernel_rfl, y3 := by kernel_rfl, y4 := by kernel_rfl, c5 := by kernel_rfl, c119 := by kernel_rfl, c138 := by kernel_rfl }
theorem acceptEq : (Rows.laid_unicode_utf8_acceptRanges : DataW Unit) = Lib.acceptData := by kernel_rfl
theorem caseExtra : CaseExtra Tryz.prog Tryz.lays204_ren := { n13 := by kernel_rfl, y13 := by kernel_rfl, c21 := by kernel_rfl, c51 := by kernel_rfl, c206 := by kernel_rfl, c208 := by kernel_rfl }
theorem errStar : "*" ++ "errors.errorString" = "*errors.errorString" := by decide
theorem errRow (u : TypeId) (h : Tryz.prog.typeName? 3 u = some "*errors.errorString") : u = 229 :=
  typeName_ptr_named (nm := "errors.errorString") (by rw [errStar]; kernel_rfl) (by kernel_rfl) (by decide) u (by rw [errStar]; exact h)
/-- What the row lists. -/
abbrev laidL : List (String × DataW Unit) := [("math/bits.deBruijn32tab", Rows.laid_math_bits_deBruijn32tab), ("math/bits.deBruijn64tab", Rows.laid_math_bits_deBruijn64tab), ("internal/strconv.uint64pow10", Rows.laid_internal_strconv_uint64pow10), ("unicode/utf8.acceptRanges", Rows.laid_unicode_utf8_acceptRanges), ("strconv.ErrRange", Rows.laid_strconv_ErrRange), ("strconv.ErrSyntax", Rows.laid_strconv_ErrSyntax), ("unicode.CaseRanges", Rows.laid_unicode_CaseRanges), ("unicode/utf8.first", Rows.laid_unicode_utf8_first)]
theorem Tabs.start {w : World} (h : laidMetH Tryz.prog laidL w) (hS : w.ShapedOpen Tryz.prog) : Tabs (· < w.heap.size) w := by
  rw [MakeChecks.laidMetH_plain _ _ _ (by kernel_rfl)] at h
  intro w' hs
  refine Facts.old (w := w) ?_ hs
  exact ⟨(by
    obtain ⟨g', t', cs, fuel, p, hg', ht', hvar, hd⟩ := Lib.laidMet.reads h (n := "internal/strconv.uint64pow10") (List.mem_of_getElem? (i := 2) rfl)
    obtain rfl := Option.some.inj (gPow.symm.trans hg')
    obtain rfl := Option.some.inj ((show (Tryz.prog.globals[5]?).map (·.type) = some 221 by kernel_rfl).symm.trans ht')
    show Lib.TabIs Tryz.prog w "internal/strconv.uint64pow10" .u64 Lib.pow10Tab
    unfold Lib.TabIs
    rw [hvar, ← Lib.cells_of_tab (k := .u64) (zs := Lib.pow10Tab) Tryz.underlying221 Tryz.underlying196 (show Tryz.prog.cellsOf 196 = 1 by kernel_rfl) (show Tryz.prog.cellsOf 221 = 20 by kernel_rfl) hd]), utf8Tabs_of_readsT u8types u8extra (by rw [← Pinned.utf8First_eq]; exact Lib.laidMet.reads h (List.mem_of_getElem? (i := 7) rfl)) (by rw [← acceptEq]; exact Lib.laidMet.reads h (List.mem_of_getElem? (i := 3) rfl)), caseVar_of_reads ({ Tryz.lays204 with } : Lays.n274 _ _) (by kernel_rfl) caseExtra (by rw [← Pinned.caseRanges_eq]; exact Lib.laidMet.reads h (List.mem_of_getElem? (i := 6) rfl)), (by
    obtain ⟨a, s, hv, _⟩ := laid_sentinel h.tail.tail.tail.tail gErrRange (ti := 147) (by kernel_rfl) Tryz.underlying147 errRow Tryz.underlying229 Tryz.underlying231 rfl rfl Tryz.underlying9 (by kernel_rfl) (by kernel_rfl)
    exact ⟨_, _, hv⟩), (by
    obtain ⟨a, s, hv, _⟩ := laid_sentinel h.tail.tail.tail.tail.tail gErrSyntax (ti := 147) (by kernel_rfl) Tryz.underlying147 errRow Tryz.underlying229 Tryz.underlying231 rfl rfl Tryz.underlying9 (by kernel_rfl) (by kernel_rfl)
    exact ⟨_, _, hv⟩), Tryz.laysM219.s1_3 w hS⟩
noncomputable abbrev startW (os : Os) : World := World.laidAll Tryz.prog os laidL
theorem door_met (os : Os) (args : Array Value) : laidMetH Tryz.prog laidL ((startW os).forCall (fun _ _ => 0) ⟨#[], args, []⟩).memory := by
  rw [MakeChecks.laidMetH_plain _ _ _ (by kernel_rfl)]
  exact laidMet_laidAll _ (by kernel_rfl) (by kernel_rfl)
theorem startW_os (os : Os) : (startW os).os = os := World.laidAll_os _ _ _
theorem startW_shaped (os : Os) (args : Array Value) : ((startW os).forCall (fun _ _ => 0) ⟨#[], args, []⟩).Shaped Tryz.prog := World.shaped_of_ZipB (by kernel_rfl) (by kernel_rfl)

end Go.Proofs.YtbekokenomhgeaaGreatDoor
