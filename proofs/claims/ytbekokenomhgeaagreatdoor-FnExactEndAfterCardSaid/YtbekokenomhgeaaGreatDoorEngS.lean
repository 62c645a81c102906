/- The engine, part S: the tables at the start. Printed by tabs.py. -/
import Derived.Test.YtbekokenomhgeaaGreatDoorEngT
import Derived.Test.YtbekokenomhgeaaGreatDoorRows
import Derived.MakeChecks
import Derived.LaidLaws
import Derived.LaidMore
import Derived.Lib.LaidU8
import Derived.Lib.LaidU8T
import Derived.PinnedBridge
import Derived.Lay
import Derived.Lib.LaidCase
import Derived.Test.YtbekokenomhgeaaGreatDoorShelf
namespace Go.Proofs.YtbekokenomhgeaaGreatDoor
open Go

def u8ren : Go.Shelf.Ren := ⟨fun n => n, fun | 5 => 5 | 119 => 212 | 138 => 214 | 139 => 215 | n => n, fun | 3 => 1 | 4 => 2 | n => n⟩
theorem u8types : U8Types Tryz.prog u8ren := { t5 := by kernel_rfl, t119 := by kernel_rfl, t138 := by kernel_rfl, t139 := by kernel_rfl }
theorem u8extra : U8Extra Tryz.prog u8ren := { n3 := by kernel_rfl, n4 := by kernel_rfl, y3 := by kernel_rfl, y4 := by kernel_rfl, c5 := by kernel_rfl, c119 := by kernel_rfl, c138 := by kernel_rfl }
theorem acceptEq : (Rows.laid_unicode_utf8_acceptRanges : DataW Unit) = Lib.acceptData := by kernel_rfl
theorem caseExtra : CaseExtra Tryz.prog Tryz.lays204_ren := { n13 := by kernel_rfl, y13 := by kernel_rfl, c21 := by kernel_rfl, c51 := by kernel_rfl, c206 := by kernel_rfl, c208 := by kernel_rfl }
/-- What the row lists. -/
abbrev laidL : List (String × DataW Unit) := [("unicode/utf8.acceptRanges", Rows.laid_unicode_utf8_acceptRanges), ("unicode.CaseRanges", Rows.laid_unicode_CaseRanges), ("unicode/utf8.first", Rows.laid_unicode_utf8_first)]
theorem Tabs.start {w : World} (h : laidMetH Tryz.prog laidL w) (hS : w.ShapedOpen Tryz.prog) : Tabs (· < w.heap.size) w := by
  rw [MakeChecks.laidMetH_plain _ _ _ (by kernel_rfl)] at h
  intro w' hs
  refine Facts.old (w := w) ?_ hs
  exact ⟨utf8Tabs_of_readsT u8types u8extra (by rw [← Pinned.utf8First_eq]; exact Lib.laidMet.reads h (List.mem_of_getElem? (i := 2) rfl)) (by rw [← acceptEq]; exact Lib.laidMet.reads h (List.mem_of_getElem? (i := 0) rfl)), caseVar_of_reads ({ Tryz.lays204 with } : Lays.n274 _ _) (by kernel_rfl) caseExtra (by rw [← Pinned.caseRanges_eq]; exact Lib.laidMet.reads h (List.mem_of_getElem? (i := 1) rfl)), Tryz.laysM219.s1_3 w hS⟩
noncomputable abbrev startW (os : Os) : World := World.laidAll Tryz.prog os laidL
theorem door_met (os : Os) (args : Array Value) : laidMetH Tryz.prog laidL ((startW os).forCall (fun _ _ => 0) ⟨#[], args, []⟩).memory := by
  rw [MakeChecks.laidMetH_plain _ _ _ (by kernel_rfl)]
  exact laidMet_laidAll _ (by kernel_rfl) (by kernel_rfl)
theorem startW_os (os : Os) : (startW os).os = os := World.laidAll_os _ _ _
theorem startW_shaped (os : Os) (args : Array Value) : ((startW os).forCall (fun _ _ => 0) ⟨#[], args, []⟩).Shaped Tryz.prog := World.shaped_of_ZipB (by kernel_rfl) (by kernel_rfl)

end Go.Proofs.YtbekokenomhgeaaGreatDoor
