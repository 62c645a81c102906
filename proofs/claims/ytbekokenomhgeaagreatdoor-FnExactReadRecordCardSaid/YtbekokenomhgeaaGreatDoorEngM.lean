/- The engine, part M: functions of Go's library, as the models call them. -/
import Derived.Test.YtbekokenomhgeaaGreatDoorEngJ
import Derived.Lib.Bytealg
import Derived.Lib.Join
import Derived.Lib.ItoaLen
import Derived.Lib.AppendIntMem
import Derived.Lib.MapU
import Derived.Lib.SplitLaws
import Derived.Lib.IndexMore
import Derived.Lib.ParseIntBCases
namespace Go.Proofs.YtbekokenomhgeaaGreatDoor
open Go Go.RowKit
set_option linter.unusedSimpArgs false
set_option linter.unusedVariables false

def m_strings_Join (xs : List Str) (sep : Str) : Option Str := bif decide (xs.length ≤ lim) && decide ((Lib.join xs sep).length ≤ lim) then some (Lib.join xs sep) else none

def m_strconv_FormatInt (n base : Int) : Option Str := bif base == 10 then some (Lib.itoa n) else none
def m_strings_ToLower (s : Str) : Option Str := bif decide (s.length ≤ lim) && decide ((Lib.toLowerD s).length ≤ lim) then some (Lib.toLowerD s) else none

def m_strings_Split (s sep : Str) : Option (List Str) := bif decide (s.length ≤ lim) && decide (1 ≤ sep.length) then some (Lib.split s sep) else none

def m_strings_Cut (s sep : Str) : Option (Str × Str × Bool) := bif decide (s.length ≤ lim) then some (Lib.cut s sep) else none
theorem cut_le (s sep : Str) : (Lib.cut s sep).1.length ≤ s.length ∧ (Lib.cut s sep).2.1.length ≤ s.length := by
  unfold Lib.cut
  split
  · exact ⟨by rw [List.length_take]; omega, by rw [List.length_drop]; omega⟩
  · exact ⟨Nat.le_refl _, Nat.zero_le _⟩

def m_strconv_ParseInt (s : Str) (base bits : Int) : Option (Int × Bool) := bif (base == 10 && bits == 64) && decide (s.length ≤ lim) then some (match Lib.parseIntB 64 s with
  | .ok v => (v, false)
  | .range => (Lib.intSat 64 s, true)
  | _ => (0, true)) else none

theorem Mem.none_ (C : Cx) : Mem C C.w0 [] [] := Mem.start C (fun y hy => by simp at hy)
theorem Chg.of_below {w w' : World} (h : Below w.heap.size w w') : Chg none_ w w' := ⟨h.os, h.tape, h.output, h.size, fun k hk _ => h.block k hk⟩
theorem Mem.below (C : Cx) {w : World} (h : Below C.w0.heap.size C.w0 w) : Mem C w [] [] := ((Mem.none_ C).call (Chg.of_below h)).1
theorem itoa_max {n : Int} (h : R64 n) : (Lib.itoa n).length ≤ maxLen := by have := Lib.itoa_length_le n h.1 h.2; unfold maxLen; omega
theorem lim_max {n : Nat} (h : n ≤ lim) : n ≤ maxLen := by unfold lim at h; unfold maxLen; omega
/-- The cells of a list of strings. -/
theorem strs_cells {w : World} {S : Nat → Prop} {xs : List Str} {A : Option Addr} {c : Nat} (h : (sliceRep strRep).R w S xs [vL A xs c]) (hne : xs ≠ []) :
    ∃ b o, A = some ⟨b, o, none⟩ ∧ S b ∧ xs.length ≤ c ∧ ∀ (j : Nat) x, (xs.map fun x => (⟨x.toArray⟩ : ByteArray))[j]? = some x → w.cell? ⟨b, o + j, none⟩ = some (.string x) := by
  obtain ⟨A', c', e, h1, h2, h3⟩ := h
  cases e
  obtain ⟨b, o, rfl, hb, hc⟩ := h3 (List.length_pos_iff.2 hne)
  refine ⟨b, o, rfl, hb, h1, fun j x hx => ?_⟩
  rw [List.getElem?_map] at hx
  cases hj : xs[j]? with
  | none => rw [hj] at hx; cases hx
  | some y =>
    rw [hj] at hx
    simp only [Option.map_some, Option.some.injEq] at hx
    subst hx
    obtain ⟨row, hr, hcell⟩ := hc j y hj
    obtain ⟨rfl, _⟩ := hr
    have := hcell 0 _ rfl
    simpa [strRep] using this
theorem map_bytes (xs : List Str) : (xs.map fun x => (⟨x.toArray⟩ : ByteArray)).map (·.data.toList) = xs := by
  rw [List.map_map]
  conv => rhs; rw [← List.map_id xs]
  exact List.map_congr_left fun x _ => by simp

/-! ### strings.Split -/
theorem splitK_piece (sep : Str) (save : Nat) : ∀ (k : Nat) (s x : Str), x ∈ Lib.splitK sep save k s → x.length ≤ s.length
  | 0, s, x, h => by
    unfold Lib.splitK at h
    rw [List.mem_singleton] at h
    rw [h]; exact Nat.le_refl _
  | k + 1, s, x, h => by
    unfold Lib.splitK at h
    split at h
    · rw [List.mem_singleton] at h
      rw [h]; exact Nat.le_refl _
    · rcases List.mem_cons.1 h with rfl | h
      · rw [List.length_take]; omega
      · have := splitK_piece sep save k _ x h
        rw [List.length_drop] at this
        omega
theorem newStrs (C : Cx) (l : List ByteArray) (T : TypeId) (n : Nat) (hn : l.length = n) (hm : n ≤ maxLen) (hx : ∀ x ∈ l, x.data.toList.length ≤ maxLen) :
    Mem C (C.w0.alloc (.cells (l.map Value.string).toArray T)) [] [] ∧ (sliceRep strRep).R (C.w0.alloc (.cells (l.map Value.string).toArray T)) (Sh C [] (C.w0.alloc (.cells (l.map Value.string).toArray T))) (l.map (·.data.toList)) [.slice (some ⟨C.w0.heap.size, 0, none⟩) n n] := by
  refine ⟨Mem.below C ((Below.refl _ _).alloc (Nat.le_refl _) _), ⟨some ⟨C.w0.heap.size, 0, none⟩, n, by unfold vL; rw [List.length_map, hn], by rw [List.length_map, hn]; exact Nat.le_refl _, hm, fun _ => ⟨C.w0.heap.size, 0, rfl, ⟨.inr (.inl (Nat.le_refl _)), by simp, fun ⟨y, hy, _⟩ => by cases hy⟩, fun i x hi => ⟨[vS x], ⟨rfl, ?_⟩, fun j u hu => ?_⟩⟩⟩⟩
  · rw [List.getElem?_map] at hi
    obtain ⟨y, hy, rfl⟩ := Option.map_eq_some_iff.1 hi
    exact hx y (List.mem_of_getElem? hy)
  · cases j with
    | succ j => simp at hu
    | zero =>
      simp only [List.getElem?_cons_zero, Option.some.injEq] at hu
      subst hu
      rw [List.getElem?_map] at hi
      obtain ⟨y, hy, rfl⟩ := Option.map_eq_some_iff.1 hi
      have hg : (C.w0.alloc (.cells (l.map Value.string).toArray T)).heap[C.w0.heap.size]? = some (.cells (l.map Value.string).toArray T (0, 0)) := heap_alloc_new _ _
      simp only [World.cell?, hg]
      have : 0 + i * strRep.size + 0 = i := by
        have : strRep.size = 1 := rfl
        rw [this]; omega
      rw [this]
      simp [hy, vS]
theorem split_max {s sep : Str} (h : s.length ≤ lim) (h1 : 1 ≤ sep.length) : (Lib.split s sep).length ≤ maxLen ∧ ∀ x ∈ Lib.split s sep, x.length ≤ maxLen := by
  have hc := Lib.countB_le ⟨sep.toArray⟩ (by rw [size_mk]; exact h1) _ ⟨s.toArray⟩ (Nat.le_refl _)
  have hl := Lib.splitB_all ⟨sep.toArray⟩ (by rw [size_mk]; exact h1) 0 _ ⟨s.toArray⟩ rfl
  have hd := Lib.splitB_data ⟨sep.toArray⟩ 0 (Lib.countB ⟨s.toArray⟩ ⟨sep.toArray⟩) ⟨s.toArray⟩
  rw [size_mk] at hc
  unfold lim at h
  refine ⟨?_, fun x hx => ?_⟩
  · have : (Lib.split s sep).length = Lib.countB ⟨s.toArray⟩ ⟨sep.toArray⟩ + 1 := by
      rw [← hl, ← List.length_map (f := fun x : ByteArray => x.data.toList), hd]
      rfl
    unfold maxLen; omega
  · have := splitK_piece sep 0 _ s x hx
    unfold maxLen; omega
theorem newSplit (C : Cx) (s sep : Str) (T : TypeId) (h : s.length ≤ lim) (h1 : 1 ≤ sep.length) :
    Mem C (C.w0.alloc (.cells ((Lib.splitB ⟨sep.toArray⟩ 0 (Lib.countB ⟨s.toArray⟩ ⟨sep.toArray⟩) ⟨s.toArray⟩).map Value.string).toArray T)) [] [] ∧ (sliceRep strRep).R (C.w0.alloc (.cells ((Lib.splitB ⟨sep.toArray⟩ 0 (Lib.countB ⟨s.toArray⟩ ⟨sep.toArray⟩) ⟨s.toArray⟩).map Value.string).toArray T)) (Sh C [] (C.w0.alloc (.cells ((Lib.splitB ⟨sep.toArray⟩ 0 (Lib.countB ⟨s.toArray⟩ ⟨sep.toArray⟩) ⟨s.toArray⟩).map Value.string).toArray T))) (Lib.split s sep) [.slice (some ⟨C.w0.heap.size, 0, none⟩) (Lib.countB ⟨s.toArray⟩ ⟨sep.toArray⟩ + 1) (Lib.countB ⟨s.toArray⟩ ⟨sep.toArray⟩ + 1)] := by
  obtain ⟨m1, m2⟩ := split_max h h1
  have hl := Lib.splitB_all ⟨sep.toArray⟩ (by rw [size_mk]; exact h1) 0 _ ⟨s.toArray⟩ rfl
  have hd : (Lib.splitB ⟨sep.toArray⟩ 0 (Lib.countB ⟨s.toArray⟩ ⟨sep.toArray⟩) ⟨s.toArray⟩).map (·.data.toList) = Lib.split s sep := Lib.splitB_data ⟨sep.toArray⟩ 0 (Lib.countB ⟨s.toArray⟩ ⟨sep.toArray⟩) ⟨s.toArray⟩
  have := newStrs C _ T _ hl (by rw [← hl, ← List.length_map (f := fun x : ByteArray => x.data.toList), hd]; exact m1) (fun x hx => m2 _ (by rw [← hd]; exact List.mem_map_of_mem hx))
  rw [hd] at this
  exact this
theorem split_form {s sep : Str} {a : Addr} (h1 : 1 ≤ sep.length) : (Value.slice (some a) (Lib.countB ⟨s.toArray⟩ ⟨sep.toArray⟩ + 1) (Lib.countB ⟨s.toArray⟩ ⟨sep.toArray⟩ + 1)) = vL (some a) (Lib.split s sep) (Lib.countB ⟨s.toArray⟩ ⟨sep.toArray⟩ + 1) := by
  have hl := Lib.splitB_all ⟨sep.toArray⟩ (by rw [size_mk]; exact h1) 0 _ ⟨s.toArray⟩ rfl
  have hd : (Lib.splitB ⟨sep.toArray⟩ 0 (Lib.countB ⟨s.toArray⟩ ⟨sep.toArray⟩) ⟨s.toArray⟩).map (·.data.toList) = Lib.split s sep := Lib.splitB_data ⟨sep.toArray⟩ 0 (Lib.countB ⟨s.toArray⟩ ⟨sep.toArray⟩) ⟨s.toArray⟩
  unfold vL
  rw [← hd, List.length_map, hl]

end Go.Proofs.YtbekokenomhgeaaGreatDoor
