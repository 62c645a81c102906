/- The engine, part M: functions of Go's library, as the models call them. -/
import Derived.Test.YtbekokenomhgeaaDoorEngJ
import Derived.Lib.Bytealg
import Derived.Lib.Join
import Derived.Lib.ItoaLen
import Derived.Lib.AppendIntMem
import Derived.Lib.MapU
namespace Go.Proofs.YtbekokenomhgeaaDoor
open Go Go.RowKit
set_option linter.unusedSimpArgs false
set_option linter.unusedVariables false

def m_strings_IndexByte (s : Str) (c : UInt8) : Option Int := some (Lib.indexByte s c)
def m_strings_Join (xs : List Str) (sep : Str) : Option Str := bif decide (xs.length ≤ lim) && decide ((Lib.join xs sep).length ≤ lim) then some (Lib.join xs sep) else none

def m_strconv_FormatInt (n base : Int) : Option Str := bif base == 10 then some (Lib.itoa n) else none
def m_strings_ToLower (s : Str) : Option Str := bif decide (s.length ≤ lim) && decide ((Lib.toLowerD s).length ≤ lim) then some (Lib.toLowerD s) else none

theorem Mem.none_ (C : Cx) : Mem C C.w0 [] [] := Mem.start C (fun y hy => by simp at hy)
theorem Chg.of_below {w w' : World} (h : Below w.heap.size w w') : Chg none_ w w' := ⟨h.os, h.tape, h.output, h.size, fun k hk _ => h.block k hk⟩
theorem Mem.below (C : Cx) {w : World} (h : Below C.w0.heap.size C.w0 w) : Mem C w [] [] := ((Mem.none_ C).call (Chg.of_below h)).1
theorem indexByte_R {s : Str} {c : UInt8} (h : s.length ≤ maxLen) : R64 (Lib.indexByte s c) := by
  have h1 := Lib.indexByte_ge s c
  have h2 : Lib.indexByte s c ≤ s.length := by
    clear h h1
    induction s with
    | nil => simp [Lib.indexByte]
    | cons b l ih =>
      simp only [Lib.indexByte]
      split
      · simp; omega
      · split
        · simp; omega
        · simp; omega
  unfold maxLen at h
  unfold R64
  omega
theorem itoa_max {n : Int} (h : R64 n) : (Lib.itoa n).length ≤ maxLen := by have := Lib.itoa_length_le n h.1 h.2; unfold maxLen; omega
theorem lim_max {n : Nat} (h : n ≤ lim) : n ≤ maxLen := by unfold lim at h; unfold maxLen; omega
/-- The cells of a list of strings. -/
theorem strs_cells {w : World} {S : Nat → Prop} {xs : List Str} {A : Option Addr} {c : Nat} (h : (sliceRep strRep).R w S xs [vL A xs c]) (hne : xs ≠ []) :
    ∃ b o, A = some ⟨b, o, none⟩ ∧ S b ∧ xs.length ≤ c ∧ ∀ (j : Nat) x, (xs.map fun x => (⟨x.toArray⟩ : ByteArray))[j]? = some x → w.cell? ⟨b, o + j, none⟩ = some (.string x) := by
  obtain ⟨A', c', e, h1, h2, h3⟩ := h
  cases e
  obtain ⟨b, o, rfl, hb, hc⟩ := h3 (List.length_pos_iff.2 hne)
  refine ⟨b, o, rfl, hb, h1, fun j x hx => ?_⟩
  rw [List.getElem?_map] at hx
  cases hj : xs[j]? with
  | none => rw [hj] at hx; cases hx
  | some y =>
    rw [hj] at hx
    simp only [Option.map_some, Option.some.injEq] at hx
    subst hx
    obtain ⟨row, hr, hcell⟩ := hc j y hj
    obtain ⟨rfl, _⟩ := hr
    have := hcell 0 _ rfl
    simpa [strRep] using this
theorem map_bytes (xs : List Str) : (xs.map fun x => (⟨x.toArray⟩ : ByteArray)).map (·.data.toList) = xs := by
  rw [List.map_map]
  conv => rhs; rw [← List.map_id xs]
  exact List.map_congr_left fun x _ => by simp

end Go.Proofs.YtbekokenomhgeaaDoor
