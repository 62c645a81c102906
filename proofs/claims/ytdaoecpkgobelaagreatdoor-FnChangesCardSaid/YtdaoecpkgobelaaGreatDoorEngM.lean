/- The engine, part M: functions of Go's library, as the models call them. -/
import Derived.Test.YtdaoecpkgobelaaGreatDoorEngJ
import Derived.Lib.Bytealg
import Derived.Lib.Join
import Derived.Lib.ItoaLen
import Derived.Lib.AppendIntMem
import Derived.Lib.MapU
import Derived.Lib.SplitLaws
import Derived.Lib.IndexMore
import Derived.Lib.ParseIntBCases
import Derived.Lib.SlicesCompact
namespace Go.Proofs.YtdaoecpkgobelaaGreatDoor
open Go Go.RowKit
set_option linter.unusedSimpArgs false
set_option linter.unusedVariables false
def m_slices_Sort_string_string (xs : List Str) : Option (List Str) := bif decide (xs.length ≤ lim) then some (xs.mergeSort fun x y => decide (x ≤ y)) else none
def m_slices_Delete_string_string (xs : List Str) (i j : Int) : Option (List Str) := bif decide (0 ≤ i) && decide (i ≤ j) && decide (j ≤ (xs.length : Int)) then some (xs.take i.toNat ++ xs.drop j.toNat) else none
def m_errors_Is (a b : Int) : Option Bool := bif a != 0 && b != 0 then some (a == b) else none
def m_slices_Insert_string_string (xs : List Str) (i : Int) (v : List Str) : Option (List Str) := bif decide (0 ≤ i) && decide (i ≤ (xs.length : Int)) && decide (v.length = 1) && decide (xs.length ≤ 1000000) then some (xs.take i.toNat ++ v ++ xs.drop i.toNat) else none
def m_slices_Compact_string_string (xs : List Str) : Option (List Str) := some (Lib.compact xs)
def m_strings_IndexByte (s : Str) (c : UInt8) : Option Int := some (Lib.indexByte s c)
def m_strconv_FormatInt (n base : Int) : Option Str := bif base == 10 then some (Lib.itoa n) else none
theorem Mem.none_ (C : Cx) : Mem C C.w0 [] [] := Mem.start C (fun y hy => by simp at hy)
theorem Chg.of_below {w w' : World} (h : Below w.heap.size w w') : Chg none_ w w' := ⟨h.os, h.tape, h.output, h.size, fun k hk _ => h.block k hk⟩
theorem Mem.below (C : Cx) {w : World} (h : Below C.w0.heap.size C.w0 w) : Mem C w [] [] := ((Mem.none_ C).call (Chg.of_below h)).1
theorem indexByte_R {s : Str} {c : UInt8} (h : s.length ≤ maxLen) : R64 (Lib.indexByte s c) := by
  have h1 := Lib.indexByte_ge s c
  have h2 : Lib.indexByte s c ≤ s.length := by
    clear h h1
    induction s with
    | nil => simp [Lib.indexByte]
    | cons b l ih =>
      simp only [Lib.indexByte]
      split
      · simp; omega
      · split
        · simp; omega
        · simp; omega
  unfold maxLen at h
  unfold R64
  omega
theorem itoa_max {n : Int} (h : R64 n) : (Lib.itoa n).length ≤ maxLen := by have := Lib.itoa_length_le n h.1 h.2; unfold maxLen; omega
/-! ### strings.Split -/
end Go.Proofs.YtdaoecpkgobelaaGreatDoor
