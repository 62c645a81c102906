/- The functions of Go's library that this seat calls, over the shelf's contracts. Printed by gen.py. -/
import Derived.Test.YtccoeheoifbpcaaGreatDoorShelf
import Derived.Test.YtccoeheoifbpcaaGreatDoorEngM
import Derived.Test.YtccoeheoifbpcaaGreatDoorTyp
namespace Go.Proofs.YtccoeheoifbpcaaGreatDoor
open Go Go.RowKit
set_option linter.unusedSimpArgs false
set_option linter.unusedVariables false
theorem r_strconv_FormatInt (C : Cx) (x1 : Int) (hp2 : R64 x1) (x3 : Int) (hp4 : R64 x3) (r : Str) (h : m_strconv_FormatInt x1 x3 = some r) :
    Calls Tryz.prog 105 #[vI (x1), vI (x3)] C.w0 fun e w => e = .returned (vS (r)) ∧ Mem C w [] [] ∧ r.length ≤ maxLen := by
  unfold m_strconv_FormatInt at h
  rcases cond_some h with ⟨hc, h⟩ | ⟨hc, h⟩
  case inr => cases h
  obtain rfl := some_inj h
  obtain rfl : x3 = 10 := by simpa using hc
  refine (Tryz.strconv_FormatInt_10 x1 hp2.1 hp2.2 C.w0 C.gT.pow).mono ?_
  rintro e w ⟨rfl, k, os, rfl⟩
  exact ⟨rfl, Mem.below C (Lib.below_grow C.w0.heap.size C.w0 (Nat.le_refl _) k os), itoa_max hp2⟩
theorem hM_form {C : Cx} {w : World} {shr : List Shr} {A : Option Addr} {c : Nat} {E : TypeId} {xs : List Str} (hM : Mem C w [.row strRep A c E xs true] shr) : (xs = [] ∧ A = none ∧ c = 0) ∨ ∃ b, A = some ⟨b, 0, none⟩ := by
  obtain ⟨rows, hr, hrow⟩ := hM.ownAt (k := 0) rfl
  rcases hrow with ⟨h1, h2, h3⟩ | ⟨g, cur, fr, hA, _⟩
  · exact .inl ⟨h3, h1, h2⟩
  · exact .inr ⟨g, hA⟩
theorem row_texts {C : Cx} {w : World} {shr : List Shr} {A : Option Addr} {c : Nat} {E : TypeId} {xs : List Str} (hM : Mem C w [.row strRep A c E xs true] shr) : ∀ y ∈ xs, y.length ≤ maxLen := by
  obtain ⟨rows, ⟨hl, hr⟩, _⟩ := hM.ownAt (k := 0) rfl
  intro y hy
  obtain ⟨i, hi⟩ := List.mem_iff_getElem?.1 hy
  obtain ⟨row, _, h⟩ := hr i y hi
  exact h.2
theorem compact_len (xs : List Str) : (Lib.compact xs).length ≤ xs.length := by
  unfold Lib.compact Lib.compactUpTo
  rw [List.length_map]
  exact Nat.le_trans (List.length_filter_le _ _) (by rw [List.length_range]; exact Nat.le_refl _)
theorem compact_mem {xs : List Str} {y : Str} (h : y ∈ Lib.compact xs) : y ∈ xs := by
  unfold Lib.compact Lib.compactUpTo at h
  obtain ⟨j, hj, rfl⟩ := List.mem_map.1 h
  have hl : j < xs.length := List.mem_range.1 (List.mem_filter.1 hj).1
  rw [getElem!_pos _ j (by simpa using hl)]
  simp
theorem row_holds {C : Cx} {w : World} {shr : List Shr} {b c : Nat} {E : TypeId} {xs : List Str} (hM : Mem C w [.row strRep (some ⟨b, 0, none⟩) c E xs true] shr) : Go.Sort.Holds encStr w b 0 xs.toArray ∧ b < w.heap.size ∧ xs.length ≤ c ∧ c ≤ maxLen := by
  have hl := hM.lendRow (k := 0) rfl
  obtain ⟨rows, hr, hrow⟩ := hM.ownAt (k := 0) rfl
  rcases hrow with ⟨h, _⟩ | ⟨g, cur, fr, hA, hg, hc, hm, hcs, ht, hfr⟩
  · cases h
  cases hA
  have hfr0 : fr = (0, 0) := hfr.resolve_right fun h => by cases h.1
  subst hfr0
  refine ⟨fun j hj => ?_, (Array.getElem?_eq_some_iff.1 hg).1, hc, hm⟩
  have hj' : j < xs.length := by simpa using hj
  obtain ⟨A', c', e, h1, h2, h3⟩ := hl
  cases e
  obtain ⟨b', o', hA, hb, hcell⟩ := h3 (by omega)
  cases hA
  obtain ⟨row, hrw, hc2⟩ := hcell j xs[j] (List.getElem?_eq_getElem hj')
  obtain ⟨rfl, _⟩ := hrw
  have := hc2 0 _ rfl
  refine ⟨?_, ?_⟩
  · rw [getElem!_pos _ j hj]
    have e1 : strRep.size = 1 := rfl
    rw [e1] at this
    simpa using this
  · unfold World.frozen?
    rw [hg]
    simp
theorem row_putRow {C : Cx} {w : World} {shr : List Shr} {b c : Nat} {E : TypeId} {xs ys zs : List Str} (hM : Mem C w [.row strRep (some ⟨b, 0, none⟩) c E xs true] shr) (hl : ys.length + zs.length = xs.length) (hy : ∀ y ∈ ys, y.length ≤ maxLen) (n : Nat) (os : Array Obj) :
    Mem C (Go.Sort.grow (Go.Sort.putRow encStr (Go.Sort.ahead w n) b 0 (ys ++ zs).toArray) os) [.row strRep (some ⟨b, 0, none⟩) c E ys true] shr := by
  obtain ⟨rows, hr, hrow⟩ := hM.ownAt (k := 0) rfl
  rcases hrow with ⟨h, _⟩ | ⟨g, cur, fr, hA, hg, hc, hm, hcs, ht, hfr⟩
  · cases h
  cases hA
  have hfr0 : fr = (0, 0) := hfr.resolve_right fun h => by cases h.1
  subst hfr0
  have hblt : b < w.heap.size := (Array.getElem?_eq_some_iff.1 hg).1
  have hsz : (Go.Sort.putRow encStr (Go.Sort.ahead w n) b 0 (ys ++ zs).toArray).heap.size = w.heap.size := by
    simp [Go.Sort.putRow, Go.Sort.mapBlock, Go.Sort.ahead]
  have hnew : (Go.Sort.grow (Go.Sort.putRow encStr (Go.Sort.ahead w n) b 0 (ys ++ zs).toArray) os).heap[b]? = some (.cells (Go.Sort.putCells encStr 0 (ys ++ zs).toArray cur) E (0, 0)) := by
    unfold Go.Sort.grow
    rw [Array.getElem?_append_left (by rw [hsz]; exact hblt)]
    simp [Go.Sort.putRow, Go.Sort.mapBlock, Go.Sort.ahead, Array.getElem?_modify, hg, Go.Sort.onCells]
  have e1 : strRep.size = 1 := rfl
  refine hM.change (k := 0) (y := .row strRep (some ⟨b, 0, none⟩) c E ys true) rfl _ rfl rfl rfl ?_ (fun b' hb' hne => ?_) (fun b' hb' => .inl hb') fun S hS => ?_
  · unfold Go.Sort.grow
    rw [Array.size_append, hsz]
    omega
  · have hne' : b ≠ b' := fun e => hne (by rw [e]; rfl)
    unfold Go.Sort.grow
    rw [Array.getElem?_append_left (by rw [hsz]; exact hb')]
    simp [Go.Sort.putRow, Go.Sort.mapBlock, Go.Sort.ahead, Array.getElem?_modify, hne']
  · refine ⟨ys.map fun y => [vS y], ⟨by simp, fun i x hx => ⟨[vS x], by rw [List.getElem?_map, hx]; rfl, rfl, hy x (List.mem_of_getElem? hx)⟩⟩, .inr ⟨b, _, (0, 0), rfl, hnew, by omega, hm, by simpa [Go.Sort.putCells] using hcs, ?_, .inl rfl⟩⟩
    have hfl : (ys.map fun y => [vS y]).flatten = ys.map vS := by
      clear hl hy hnew hsz
      induction ys with
      | nil => rfl
      | cons y t ih => rw [List.map_cons, List.flatten_cons, ih]; rfl
    rw [hfl, e1, Nat.mul_one]
    rw [e1, Nat.mul_one] at hcs
    apply List.ext_getElem?
    intro k
    rw [List.getElem?_take, List.getElem?_map]
    by_cases hk : k < ys.length
    · have hkc : k < cur.size := by omega
      rw [if_pos hk, List.getElem?_eq_getElem hk]
      simp only [Go.Sort.putCells, Array.getElem?_toList, Array.getElem?_mapIdx, Array.getElem?_eq_getElem hkc, Option.map_some]
      rw [if_pos ⟨by omega, by simp; omega⟩, getElem!_pos _ _ (by simp; omega)]
      simp [List.getElem_append_left hk]
    · rw [if_neg hk, List.getElem?_eq_none (by omega)]
      rfl
theorem r_slices_Sort_string_string (C : Cx) (x1 : (List Str)) (A2 : Option Addr) (c3 : Nat) (hO : Mem C C.w0 [.row strRep A2 c3 9 x1 true] []) (hd : ∀ b, C.S0 b → ¬ ownB [.row strRep A2 c3 9 x1 true] b) (r : (List Str)) (h : m_slices_Sort_string_string x1 = some r) :
    Calls Tryz.prog 32 #[vL A2 (x1) c3] C.w0 fun e w => e = .returned (.tuple #[]) ∧ Mem C w [.row strRep A2 c3 9 r true] [] ∧ r.length = x1.length := by
  unfold m_slices_Sort_string_string at h
  rcases cond_some h with ⟨hc, h⟩ | ⟨hc, h⟩
  case inr => cases h
  replace hc : (x1 : List Str).length ≤ lim := of_decide_eq_true hc
  obtain rfl := some_inj h
  have hlen : (x1.mergeSort fun x y => decide (x ≤ y)).length = x1.length := List.length_mergeSort x1
  rcases (hM_form hO) with ⟨rfl, rfl, rfl⟩ | ⟨b, rfl⟩
  · refine (Tryz.slices_Sort_string_none none 0 C.w0).mono ?_
    rintro e w ⟨rfl, rfl⟩
    exact ⟨rfl, by simpa using hO, hlen⟩
  · obtain ⟨q1, q2, q3, q4⟩ := row_holds hO
    have hdat := hO.lendRow (k := 0) rfl
    have hx : ∀ y ∈ x1, y.length ≤ maxLen := row_texts hO
    refine (Tryz.slices_Sort_string b 0 c3 x1 C.w0 q1 q2 (by unfold lim at hc; omega)).mono ?_
    rintro e w ⟨rfl, n, os, rfl⟩
    have hm := row_putRow (ys := x1.mergeSort fun x y => decide (x ≤ y)) (zs := []) hO (by rw [hlen]; rfl) (fun y hy => hx y (List.mem_mergeSort.1 hy)) n os
    rw [List.append_nil] at hm
    exact ⟨rfl, hm, hlen⟩
theorem r_slices_Compact_string_string (C : Cx) (x1 : (List Str)) (A2 : Option Addr) (c3 : Nat) (hO : Mem C C.w0 [.row strRep A2 c3 9 x1 true] []) (hd : ∀ b, C.S0 b → ¬ ownB [.row strRep A2 c3 9 x1 true] b) (r : (List Str)) (h : m_slices_Compact_string_string x1 = some r) :
    Calls Tryz.prog 73 #[vL A2 (x1) c3] C.w0 fun e w => ∃ (A_1 : Option Addr), ∃ (c_1 : Nat), e = .returned (vL A_1 (r) c_1) ∧ Mem C w [.row strRep A_1 c_1 9 r true] [] := by
  unfold m_slices_Compact_string_string at h
  obtain rfl := some_inj h
  have hlen := compact_len x1
  rcases (hM_form hO) with ⟨rfl, rfl, rfl⟩ | ⟨b, rfl⟩
  · refine (Tryz.slices_Compact_string_empty none 0 C.w0).mono ?_
    rintro e w ⟨rfl, rfl⟩
    exact ⟨none, 0, rfl, hO⟩
  · obtain ⟨q1, q2, q3, q4⟩ := row_holds hO
    have hx : ∀ y ∈ x1, y.length ≤ maxLen := row_texts hO
    refine (Tryz.slices_Compact_string b 0 c3 x1 C.w0 q1 (by unfold maxLen at q4; omega) q3).mono ?_
    rintro e w ⟨rfl, q, rfl⟩
    have hm := row_putRow (ys := Lib.compact x1) (zs := List.replicate (x1.length - (Lib.compact x1).length) []) hO (by rw [List.length_replicate]; omega) (fun y hy => hx y (compact_mem hy)) q #[]
    rw [Go.Sort.grow_empty] at hm
    exact ⟨_, c3, rfl, hm⟩
theorem r_strings_IndexByte (C : Cx) (x1 : Str) (hp2 : x1.length ≤ maxLen) (x3 : UInt8) (r : Int) (h : m_strings_IndexByte x1 x3 = some r) :
    Calls Tryz.prog 144 #[vS (x1), vB (x3)] C.w0 fun e w => e = .returned (vI (r)) ∧ Mem C w [] [] ∧ R64 r := by
  obtain rfl := some_inj h
  refine (Tryz.strings_IndexByte ⟨List.toArray x1⟩ (x3.toNat : Int) C.w0).mono ?_
  rintro e w ⟨rfl, rfl⟩
  refine ⟨?_, Mem.none_ C, indexByte_R hp2⟩
  simp [UInt8.ofNat_toNat]
end Go.Proofs.YtccoeheoifbpcaaGreatDoor
