/- The functions of Go's library that this seat calls, over the shelf's contracts. Printed by gen.py. -/
import Derived.Shelf.Spec.SlicesInsert
import Derived.Shelf.Spec.SlicesInsertGrow
import Derived.Test.YtdaoecpkgobelaaGreatDoorShelf
import Derived.Test.YtdaoecpkgobelaaGreatDoorEngM
import Derived.Test.YtdaoecpkgobelaaGreatDoorTyp
namespace Go.Proofs.YtdaoecpkgobelaaGreatDoor
open Go Go.RowKit
set_option linter.unusedSimpArgs false
set_option linter.unusedVariables false
theorem hM_form {C : Cx} {w : World} {shr : List Shr} {A : Option Addr} {c : Nat} {E : TypeId} {xs : List Str} (hM : Mem C w [.row strRep A c E xs true] shr) : (xs = [] ∧ A = none ∧ c = 0) ∨ ∃ b, A = some ⟨b, 0, none⟩ := by
  obtain ⟨rows, hr, hrow⟩ := hM.ownAt (k := 0) rfl
  rcases hrow with ⟨h1, h2, h3⟩ | ⟨g, cur, fr, hA, _⟩
  · exact .inl ⟨h3, h1, h2⟩
  · exact .inr ⟨g, hA⟩
theorem row_texts {C : Cx} {w : World} {shr : List Shr} {A : Option Addr} {c : Nat} {E : TypeId} {xs : List Str} (hM : Mem C w [.row strRep A c E xs true] shr) : ∀ y ∈ xs, y.length ≤ maxLen := by
  obtain ⟨rows, ⟨hl, hr⟩, _⟩ := hM.ownAt (k := 0) rfl
  intro y hy
  obtain ⟨i, hi⟩ := List.mem_iff_getElem?.1 hy
  obtain ⟨row, _, h⟩ := hr i y hi
  exact h.2
theorem compact_len (xs : List Str) : (Lib.compact xs).length ≤ xs.length := by
  unfold Lib.compact Lib.compactUpTo
  rw [List.length_map]
  exact Nat.le_trans (List.length_filter_le _ _) (by rw [List.length_range]; exact Nat.le_refl _)
theorem compact_mem {xs : List Str} {y : Str} (h : y ∈ Lib.compact xs) : y ∈ xs := by
  unfold Lib.compact Lib.compactUpTo at h
  obtain ⟨j, hj, rfl⟩ := List.mem_map.1 h
  have hl : j < xs.length := List.mem_range.1 (List.mem_filter.1 hj).1
  rw [getElem!_pos _ j (by simpa using hl)]
  simp
theorem row_holds {C : Cx} {w : World} {shr : List Shr} {b c : Nat} {E : TypeId} {xs : List Str} (hM : Mem C w [.row strRep (some ⟨b, 0, none⟩) c E xs true] shr) : Go.Sort.Holds encStr w b 0 xs.toArray ∧ b < w.heap.size ∧ xs.length ≤ c ∧ c ≤ maxLen := by
  have hl := hM.lendRow (k := 0) rfl
  obtain ⟨rows, hr, hrow⟩ := hM.ownAt (k := 0) rfl
  rcases hrow with ⟨h, _⟩ | ⟨g, cur, fr, hA, hg, hc, hm, hcs, ht, hfr⟩
  · cases h
  cases hA
  have hfr0 : fr = (0, 0) := hfr.resolve_right fun h => by cases h.1
  subst hfr0
  refine ⟨fun j hj => ?_, (Array.getElem?_eq_some_iff.1 hg).1, hc, hm⟩
  have hj' : j < xs.length := by simpa using hj
  obtain ⟨A', c', e, h1, h2, h3⟩ := hl
  cases e
  obtain ⟨b', o', hA, hb, hcell⟩ := h3 (by omega)
  cases hA
  obtain ⟨row, hrw, hc2⟩ := hcell j xs[j] (List.getElem?_eq_getElem hj')
  obtain ⟨rfl, _⟩ := hrw
  have := hc2 0 _ rfl
  refine ⟨?_, ?_⟩
  · rw [getElem!_pos _ j hj]
    have e1 : strRep.size = 1 := rfl
    rw [e1] at this
    simpa using this
  · unfold World.frozen?
    rw [hg]
    simp
theorem row_putRow {C : Cx} {w : World} {shr : List Shr} {b c : Nat} {E : TypeId} {xs ys zs : List Str} (hM : Mem C w [.row strRep (some ⟨b, 0, none⟩) c E xs true] shr) (hl : ys.length + zs.length = xs.length) (hy : ∀ y ∈ ys, y.length ≤ maxLen) (n : Nat) (os : Array Obj) :
    Mem C (Go.Sort.grow (Go.Sort.putRow encStr (Go.Sort.ahead w n) b 0 (ys ++ zs).toArray) os) [.row strRep (some ⟨b, 0, none⟩) c E ys true] shr := by
  obtain ⟨rows, hr, hrow⟩ := hM.ownAt (k := 0) rfl
  rcases hrow with ⟨h, _⟩ | ⟨g, cur, fr, hA, hg, hc, hm, hcs, ht, hfr⟩
  · cases h
  cases hA
  have hfr0 : fr = (0, 0) := hfr.resolve_right fun h => by cases h.1
  subst hfr0
  have hblt : b < w.heap.size := (Array.getElem?_eq_some_iff.1 hg).1
  have hsz : (Go.Sort.putRow encStr (Go.Sort.ahead w n) b 0 (ys ++ zs).toArray).heap.size = w.heap.size := by
    simp [Go.Sort.putRow, Go.Sort.mapBlock, Go.Sort.ahead]
  have hnew : (Go.Sort.grow (Go.Sort.putRow encStr (Go.Sort.ahead w n) b 0 (ys ++ zs).toArray) os).heap[b]? = some (.cells (Go.Sort.putCells encStr 0 (ys ++ zs).toArray cur) E (0, 0)) := by
    unfold Go.Sort.grow
    rw [Array.getElem?_append_left (by rw [hsz]; exact hblt)]
    simp [Go.Sort.putRow, Go.Sort.mapBlock, Go.Sort.ahead, Array.getElem?_modify, hg, Go.Sort.onCells]
  have e1 : strRep.size = 1 := rfl
  refine hM.change (k := 0) (y := .row strRep (some ⟨b, 0, none⟩) c E ys true) rfl _ rfl rfl rfl ?_ (fun b' hb' hne => ?_) (fun b' hb' => .inl hb') fun S hS => ?_
  · unfold Go.Sort.grow
    rw [Array.size_append, hsz]
    omega
  · have hne' : b ≠ b' := fun e => hne (by rw [e]; rfl)
    unfold Go.Sort.grow
    rw [Array.getElem?_append_left (by rw [hsz]; exact hb')]
    simp [Go.Sort.putRow, Go.Sort.mapBlock, Go.Sort.ahead, Array.getElem?_modify, hne']
  · refine ⟨ys.map fun y => [vS y], ⟨by simp, fun i x hx => ⟨[vS x], by rw [List.getElem?_map, hx]; rfl, rfl, hy x (List.mem_of_getElem? hx)⟩⟩, .inr ⟨b, _, (0, 0), rfl, hnew, by omega, hm, by simpa [Go.Sort.putCells] using hcs, ?_, .inl rfl⟩⟩
    have hfl : (ys.map fun y => [vS y]).flatten = ys.map vS := by
      clear hl hy hnew hsz
      induction ys with
      | nil => rfl
      | cons y t ih => rw [List.map_cons, List.flatten_cons, ih]; rfl
    rw [hfl, e1, Nat.mul_one]
    rw [e1, Nat.mul_one] at hcs
    apply List.ext_getElem?
    intro k
    rw [List.getElem?_take, List.getElem?_map]
    by_cases hk : k < ys.length
    · have hkc : k < cur.size := by omega
      rw [if_pos hk, List.getElem?_eq_getElem hk]
      simp only [Go.Sort.putCells, Array.getElem?_toList, Array.getElem?_mapIdx, Array.getElem?_eq_getElem hkc, Option.map_some]
      rw [if_pos ⟨by omega, by simp; omega⟩, getElem!_pos _ _ (by simp; omega)]
      simp [List.getElem_append_left hk]
    · rw [if_neg hk, List.getElem?_eq_none (by omega)]
      rfl
theorem r_slices_Sort_string_string (C : Cx) (x1 : (List Str)) (A2 : Option Addr) (c3 : Nat) (hO : Mem C C.w0 [.row strRep A2 c3 9 x1 true] []) (hd : ∀ b, C.S0 b → ¬ ownB [.row strRep A2 c3 9 x1 true] b) (r : (List Str)) (h : m_slices_Sort_string_string x1 = some r) :
    Calls Tryz.prog 79 #[vL A2 (x1) c3] C.w0 fun e w => e = .returned (.tuple #[]) ∧ Mem C w [.row strRep A2 c3 9 r true] [] ∧ r.length = x1.length := by
  unfold m_slices_Sort_string_string at h
  rcases cond_some h with ⟨hc, h⟩ | ⟨hc, h⟩
  case inr => cases h
  replace hc : (x1 : List Str).length ≤ lim := of_decide_eq_true hc
  obtain rfl := some_inj h
  have hlen : (x1.mergeSort fun x y => decide (x ≤ y)).length = x1.length := List.length_mergeSort x1
  rcases (hM_form hO) with ⟨rfl, rfl, rfl⟩ | ⟨b, rfl⟩
  · refine (Tryz.slices_Sort_string_none none 0 C.w0).mono ?_
    rintro e w ⟨rfl, rfl⟩
    exact ⟨rfl, by simpa using hO, hlen⟩
  · obtain ⟨q1, q2, q3, q4⟩ := row_holds hO
    have hdat := hO.lendRow (k := 0) rfl
    have hx : ∀ y ∈ x1, y.length ≤ maxLen := row_texts hO
    refine (Tryz.slices_Sort_string b 0 c3 x1 C.w0 q1 q2 (by unfold lim at hc; omega)).mono ?_
    rintro e w ⟨rfl, n, os, rfl⟩
    have hm := row_putRow (ys := x1.mergeSort fun x y => decide (x ≤ y)) (zs := []) hO (by rw [hlen]; rfl) (fun y hy => hx y (List.mem_mergeSort.1 hy)) n os
    rw [List.append_nil] at hm
    exact ⟨rfl, hm, hlen⟩
theorem r_strconv_FormatInt (C : Cx) (x1 : Int) (hp2 : R64 x1) (x3 : Int) (hp4 : R64 x3) (r : Str) (h : m_strconv_FormatInt x1 x3 = some r) :
    Calls Tryz.prog 67 #[vI (x1), vI (x3)] C.w0 fun e w => e = .returned (vS (r)) ∧ Mem C w [] [] ∧ r.length ≤ maxLen := by
  unfold m_strconv_FormatInt at h
  rcases cond_some h with ⟨hc, h⟩ | ⟨hc, h⟩
  case inr => cases h
  obtain rfl := some_inj h
  obtain rfl : x3 = 10 := by simpa using hc
  refine (Tryz.strconv_FormatInt_10 x1 hp2.1 hp2.2 C.w0 C.gT.pow).mono ?_
  rintro e w ⟨rfl, k, os, rfl⟩
  exact ⟨rfl, Mem.below C (Lib.below_grow C.w0.heap.size C.w0 (Nat.le_refl _) k os), itoa_max hp2⟩
theorem r_strings_IndexByte (C : Cx) (x1 : Str) (hp2 : x1.length ≤ maxLen) (x3 : UInt8) (r : Int) (h : m_strings_IndexByte x1 x3 = some r) :
    Calls Tryz.prog 130 #[vS (x1), vB (x3)] C.w0 fun e w => e = .returned (vI (r)) ∧ Mem C w [] [] ∧ R64 r := by
  obtain rfl := some_inj h
  refine (Tryz.strings_IndexByte ⟨List.toArray x1⟩ (x3.toNat : Int) C.w0).mono ?_
  rintro e w ⟨rfl, rfl⟩
  refine ⟨?_, Mem.none_ C, indexByte_R hp2⟩
  simp [UInt8.ofNat_toNat]
theorem r_slices_Delete_string_string (C : Cx) (x1 : (List Str)) (A2 : Option Addr) (c3 : Nat) (i4 : Int) (hp5 : R64 i4) (j6 : Int) (hp7 : R64 j6) (hO : Mem C C.w0 [.row strRep A2 c3 9 x1 true] []) (hd : ∀ b, C.S0 b → ¬ ownB [.row strRep A2 c3 9 x1 true] b) (r : (List Str)) (h : m_slices_Delete_string_string x1 i4 j6 = some r) :
    Calls Tryz.prog 83 #[vL A2 (x1) c3, vI (i4), vI (j6)] C.w0 fun e w => ∃ (A_1 : Option Addr), ∃ (c_1 : Nat), e = .returned (vL A_1 (r) c_1) ∧ Mem C w [.row strRep A_1 c_1 9 r true] [] := by
  unfold m_slices_Delete_string_string at h
  rcases cond_some h with ⟨hc, h⟩ | ⟨hc, h⟩
  case inr => cases h
  obtain rfl := some_inj h
  obtain ⟨hc, h3⟩ := Bool.and_eq_true_iff.1 hc
  obtain ⟨h1, h2⟩ := Bool.and_eq_true_iff.1 hc
  replace h1 : 0 ≤ i4 := of_decide_eq_true h1
  replace h2 : i4 ≤ j6 := of_decide_eq_true h2
  replace h3 : j6 ≤ (x1.length : Int) := of_decide_eq_true h3
  obtain ⟨i, rfl⟩ := Int.eq_ofNat_of_zero_le h1
  obtain ⟨j, rfl⟩ := Int.eq_ofNat_of_zero_le (Int.le_trans h1 h2)
  simp only [Int.toNat_natCast]
  rcases (hM_form hO) with ⟨rfl, rfl, rfl⟩ | ⟨b, rfl⟩
  · have hj0 : j = 0 := by simp only [List.length_nil] at h3; omega
    have hi0 : i = 0 := by omega
    subst hj0 hi0
    refine (Tryz.slices_Delete_string_empty none 0 C.w0).mono ?_
    rintro e w ⟨rfl, rfl⟩
    exact ⟨none, 0, rfl, hO⟩
  · obtain ⟨q1, q2, q3, q4⟩ := row_holds hO
    have hx : ∀ y ∈ x1, y.length ≤ maxLen := row_texts hO
    have hl : (x1.take i ++ x1.drop j).length = x1.length - (j - i) := by
      rw [List.length_append, List.length_take, List.length_drop]; omega
    refine (Tryz.slices_Delete_string b 0 c3 i j x1 C.w0 q1 q3 (by unfold maxLen at q4; omega) (by omega) (by omega)).mono ?_
    rintro e w ⟨rfl, q, rfl⟩
    have hm := row_putRow (ys := x1.take i ++ x1.drop j) (zs := List.replicate (j - i) []) hO (by rw [hl, List.length_replicate]; omega) (fun y hy => hx y ((List.mem_append.1 hy).elim List.mem_of_mem_take List.mem_of_mem_drop)) q #[]
    rw [Go.Sort.grow_empty] at hm
    refine ⟨_, c3, ?_, hm⟩
    unfold vL
    rw [hl]
/-! The shelf's contract for slices.Insert at this seat's numbers. -/
def insRen : Go.Shelf.Ren := ⟨fun | 22 => 85 | 29 => 113 | 30 => 114 | 36 => 144 | 17 => 164 | n => n, fun | 24 => 24 | 9 => 9 | 3 => 3 | 4 => 4 | 0 => 0 | n => n, fun | n => n⟩
theorem insLays : Go.Proofs.Lays2.n22 Tryz.prog insRen := {
  mixed := by kernel_rfl
  f17 := Tryz.func164.trans (congrArg some (by kernel_rfl))
  f22 := Tryz.func85.trans (congrArg some (by kernel_rfl))
  f29 := Tryz.func113.trans (congrArg some (by kernel_rfl))
  f30 := Tryz.func114.trans (congrArg some (by kernel_rfl))
  f36 := Tryz.func144.trans (congrArg some (by kernel_rfl))
  t0 := Tryz.underlying0
  a0 := Tryz.isAgg0
  z0 := Tryz.sizeOf0
  v0 := Tryz.zeroValue0
  t3 := Tryz.underlying3
  a3 := Tryz.isAgg3
  z3 := Tryz.sizeOf3
  v3 := Tryz.zeroValue3
  t4 := Tryz.underlying4
  a4 := Tryz.isAgg4
  z4 := Tryz.sizeOf4
  v4 := Tryz.zeroValue4
  t9 := Tryz.underlying9
  a9 := Tryz.isAgg9
  z9 := Tryz.sizeOf9
  v9 := Tryz.zeroValue9
  t24 := Tryz.underlying24
  a24 := Tryz.isAgg24
  z24 := Tryz.sizeOf24
  v24 := Tryz.zeroValue24
  i9 := by kernel_rfl }
theorem insE9 : insRen.t 9 = 9 := rfl
theorem rows_flat {w : World} {S : Nat → Prop} {xs : List Str} {rows : List (List Value)} (h : RowsOf strRep w S xs rows) : rows.flatten = xs.map vS := by
  have hl : rows.flatten.length = xs.length := by rw [h.flat_len]; exact Nat.mul_one _
  apply List.ext_getElem?
  intro k
  by_cases hk : k < xs.length
  · obtain ⟨row, h1, h2⟩ := h.2 k xs[k] (List.getElem?_eq_getElem hk)
    obtain ⟨rfl, _⟩ := h2
    have h3 := h.at_ h1 (j := 0) (u := vS xs[k]) rfl
    have e1 : strRep.size = 1 := rfl
    rw [e1, Nat.mul_one, Nat.add_zero] at h3
    rw [h3, List.getElem?_map, List.getElem?_eq_getElem hk]
    rfl
  · rw [List.getElem?_eq_none (by omega), List.getElem?_eq_none (by rw [List.length_map]; omega)]
theorem row_open {C : Cx} {w : World} {own : List Own} {shr : List Shr} {k b c : Nat} {E : TypeId} {xs : List Str} (hM : Mem C w own shr) (hk : own[k]? = some (.row strRep (some ⟨b, 0, none⟩) c E xs true)) :
    ∃ cur, w.heap[b]? = some (.cells cur E (0, 0)) ∧ cur.size = c ∧ xs.length ≤ c ∧ c ≤ maxLen ∧ cur.toList.take xs.length = xs.map vS ∧ ∀ y ∈ xs, y.length ≤ maxLen := by
  obtain ⟨rows, hr, hrow⟩ := hM.ownAt hk
  have e1 : strRep.size = 1 := rfl
  rcases hrow with ⟨h, _⟩ | ⟨g, cur, fr, hA, hg, hc, hm, hcs, ht, hfr⟩
  · cases h
  cases hA
  have hfr0 : fr = (0, 0) := hfr.resolve_right fun h => by cases h.1
  subst hfr0
  refine ⟨cur, hg, by rw [hcs, e1, Nat.mul_one], hc, hm, ?_, fun y hy => ?_⟩
  · rw [e1, Nat.mul_one] at ht
    rw [ht, rows_flat hr]
  · obtain ⟨i, hi⟩ := List.mem_iff_getElem?.1 hy
    obtain ⟨row, _, h⟩ := hr.2 i y hi
    exact h.2
theorem row_left {C : Cx} {w w' : World} {own : List Own} {shr : List Shr} (hM : Mem C w own shr) (hos : w'.os = w.os) (htape : w'.tape = w.tape) (hout : w'.output = w.output) (hsize : w.heap.size ≤ w'.heap.size) {b' : Nat} (hb' : ownB own b' ∨ w.heap.size ≤ b')
    (hold : ∀ b, b < w.heap.size → b ≠ b' → w'.heap[b]? = w.heap[b]?) {cur : Array Value} {E : TypeId} {ys : List Str} (hg : w'.heap[b']? = some (.cells cur E (0, 0))) (hc : ys.length ≤ cur.size) (hm : cur.size ≤ maxLen) (ht : cur.toList.take ys.length = ys.map vS) (hy : ∀ y ∈ ys, y.length ≤ maxLen) :
    Mem C w' [.row strRep (some ⟨b', 0, none⟩) cur.size E ys true] shr := by
  refine hM.step w' _ hos htape hout hsize (fun b hb hn => hold b hb fun e => ?_) (fun b ⟨x, hx, hxb⟩ => ?_) (List.pairwise_singleton _ _) fun x hx => ?_
  · subst e
    exact hb'.elim hn (fun h => by omega)
  · obtain rfl := List.mem_singleton.1 hx
    have e : b' = b := by simpa [Own.block] using hxb
    subst e
    exact hb'
  · obtain rfl := List.mem_singleton.1 hx
    have e1 : strRep.size = 1 := rfl
    refine ⟨ys.map fun y => [vS y], ⟨by simp, fun i x hx => ⟨[vS x], by rw [List.getElem?_map, hx]; rfl, rfl, hy x (List.mem_of_getElem? hx)⟩⟩, .inr ⟨b', cur, (0, 0), rfl, hg, hc, hm, by rw [e1, Nat.mul_one], ?_, .inl rfl⟩⟩
    have hfl : ∀ ys : List Str, (ys.map fun y => [vS y]).flatten = ys.map vS := by
      intro ys
      induction ys with
      | nil => rfl
      | cons y t ih => rw [List.map_cons, List.flatten_cons, ih]; rfl
    rw [hfl ys, e1, Nat.mul_one, ht]
theorem take_at {cur : List Value} {xs : List Str} {n : Nat} (h : cur.take n = xs.map vS) (hn : n = xs.length) : ∀ (j : Nat) (v : Value), (xs.map vS)[j]? = some v → cur[j]? = some v := by
  intro j v hj
  rw [← h, List.getElem?_take] at hj
  split at hj
  · exact hj
  · cases hj
theorem vS_one {xs : List Str} : ∀ v ∈ xs.map vS, v.oneCell' = true := by
  intro v hv
  obtain ⟨x, _, rfl⟩ := List.mem_map.1 hv
  rfl
theorem ins_list {cur : List Value} {xs : List Value} {s : Value} {i : Nat} (h : cur.take xs.length = xs) (hi : i ≤ xs.length) (hl : xs.length + 1 ≤ cur.length) (X : List Value) (hX : X = cur.take (i + 1) ++ xs.drop i ++ cur.drop (i + 1 + (xs.drop i).length)) :
    (X.take i ++ [s] ++ X.drop (i + 1)).take (xs.length + 1) = xs.take i ++ [s] ++ xs.drop i := by
  have hdl : (xs.drop i).length = xs.length - i := List.length_drop
  have h1 : X.take i = xs.take i := by
    rw [hX, List.append_assoc, List.take_append_of_le_length (by rw [List.length_take]; omega), List.take_take, show min i (i + 1) = i by omega]
    conv => rhs; rw [← h]
    rw [List.take_take, show min i xs.length = i by omega]
  have h2 : X.drop (i + 1) = xs.drop i ++ cur.drop (i + 1 + (xs.drop i).length) := by
    rw [hX, List.append_assoc, List.drop_append_of_le_length (by rw [List.length_take]; omega), List.drop_of_length_le (by rw [List.length_take]; omega), List.nil_append]
  rw [h1, h2, ← List.append_assoc, List.take_append_of_le_length (by simp; omega), List.take_of_length_le (by simp; omega)]
set_option maxHeartbeats 1000000 in
theorem r_slices_Insert_string_string (C : Cx) (x1 : (List Str)) (A2 : Option Addr) (c3 : Nat) (i4 : Int) (hp5 : R64 i4) (v6 : (List Str)) (A7 : Option Addr) (c8 : Nat) (hO : Mem C C.w0 [.row strRep A2 c3 9 x1 true, .row strRep A7 c8 9 v6 true] []) (hd : ∀ b, C.S0 b → ¬ ownB [.row strRep A2 c3 9 x1 true, .row strRep A7 c8 9 v6 true] b) (r : (List Str)) (h : m_slices_Insert_string_string x1 i4 v6 = some r) :
    Calls Tryz.prog 85 #[vL A2 (x1) c3, vI (i4), vL A7 (v6) c8] C.w0 fun e w => ∃ (A_1 : Option Addr), ∃ (c_1 : Nat), e = .returned (vL A_1 (r) c_1) ∧ Mem C w [.row strRep A_1 c_1 9 r true] [] := by
  unfold m_slices_Insert_string_string at h
  rcases cond_some h with ⟨hc, h⟩ | ⟨hc, h⟩
  case inr => cases h
  obtain rfl := some_inj h
  obtain ⟨hc, h4⟩ := Bool.and_eq_true_iff.1 hc
  obtain ⟨hc, h3⟩ := Bool.and_eq_true_iff.1 hc
  obtain ⟨h1, h2⟩ := Bool.and_eq_true_iff.1 hc
  replace h1 : 0 ≤ i4 := of_decide_eq_true h1
  replace h2 : i4 ≤ (x1.length : Int) := of_decide_eq_true h2
  replace h3 : v6.length = 1 := of_decide_eq_true h3
  replace h4 : x1.length ≤ 1000000 := of_decide_eq_true h4
  obtain ⟨i, rfl⟩ := Int.eq_ofNat_of_zero_le h1
  simp only [Int.toNat_natCast]
  obtain ⟨s, rfl⟩ := List.length_eq_one_iff.1 h3
  obtain ⟨vb, rfl⟩ : ∃ vb, A7 = some ⟨vb, 0, none⟩ := by
    obtain ⟨rows, hr, hrow⟩ := hO.ownAt (k := 1) rfl
    rcases hrow with ⟨h1, h2, h3⟩ | ⟨g, cur, fr, hA, _⟩
    · cases h3
    · exact ⟨g, hA⟩
  obtain ⟨vcur, vg, vsz, vc, vm, vt, vx⟩ := row_open hO (k := 1) rfl
  have hvs : ∀ j v, ([s].map vS)[j]? = some v → C.w0.cell? ⟨vb, 0 + j, none⟩ = some v := fun j v hj => by
    rw [Nat.zero_add, cell_of_row C.w0 vb j vcur _ (0, 0) vg]
    have := take_at vt rfl j v hj
    simpa using this
  have hs : s.length ≤ maxLen := vx s (by simp)
  have hE1 : (([s] : List Str).map vS).length = 1 := rfl
  have h1v : ∀ v ∈ ([s] : List Str).map vS, v.oneCell' = true := vS_one
  rcases (show (x1 = [] ∧ A2 = none ∧ c3 = 0) ∨ ∃ b, A2 = some ⟨b, 0, none⟩ by
    obtain ⟨rows, hr, hrow⟩ := hO.ownAt (k := 0) rfl
    rcases hrow with ⟨h1, h2, h3⟩ | ⟨g, cur, fr, hA, _⟩
    · exact .inl ⟨h3, h1, h2⟩
    · exact .inr ⟨g, hA⟩) with ⟨rfl, rfl, rfl⟩ | ⟨b, rfl⟩
  · -- the nil slice
    have hi0 : i = 0 := by simp only [List.length_nil] at h2; omega
    subst hi0
    refine Calls.mono (show Calls Tryz.prog 85 _ _ _ from Any2.slices_Insert_string_end_grow insLays none 0 0 vb 0 1 c8 [] ([s].map vS) C.w0 (by omega) (by omega) (by omega) (by omega) rfl hE1 (fun _ => rfl) (fun a ha => by cases ha) hvs h1v) ?_
    rintro e w ⟨rfl, rfl⟩
    try rw [insE9]
    have hG := grownCap_ge C.w0 (0 + 1) 0 9
    have hG2 := grownCap_le_maxLen C.w0 (0 + 1) 0 9 (by unfold maxLen; omega)
    generalize hGe : grownCap C.w0 (0 + 1) 0 9 = G at hG hG2
    have hsz : ((([] : List Value) ++ [s].map vS).toArray ++ Builtin.zeroCells (Value.string ⟨#[]⟩).cells (G - (0 + 1))).size = G := by
      simp [size_zeroCells, Value.cells]; omega
    refine ⟨some ⟨C.w0.heap.size, 0, none⟩, G, rfl, ?_⟩
    have hm := row_left (w' := C.w0.drew.alloc (.cells ((([] : List Value) ++ [s].map vS).toArray ++ Builtin.zeroCells (Value.string ⟨#[]⟩).cells (G - (0 + 1))) 9)) hO.drew rfl rfl rfl (by simp) (b' := C.w0.heap.size) (.inr (Nat.le_refl _)) (fun b hb _ => Below.heap_alloc C.w0.drew _ b hb) (ys := [s]) (heap_alloc_new C.w0.drew _) (by rw [hsz]; simp; omega) (by rw [hsz]; exact hG2) (by simp) (fun y hy => by rw [List.mem_singleton.1 hy]; exact hs)
    rw [hsz] at hm
    exact hm
  · obtain ⟨cur, cg, csz, cc, cm, ct, cx⟩ := row_open hO (k := 0) rfl
    have hne : vb ≠ b := by
      have := hO.sep
      rw [List.pairwise_cons] at this
      have := this.1 _ (List.mem_singleton.2 rfl) b rfl
      intro e
      exact this (by rw [← e]; rfl)
    have hbw : b < C.w0.heap.size := (Array.getElem?_eq_some_iff.1 cg).1
    have hcl : (x1.map vS).length = x1.length := List.length_map ..
    have hcs : ∀ j v, (x1.map vS)[j]? = some v → C.w0.cell? ⟨b, 0 + j, none⟩ = some v := fun j v hj => by
      rw [Nat.zero_add, cell_of_row C.w0 b j cur _ (0, 0) cg]
      have := take_at ct rfl j v hj
      simpa using this
    have h1c : ∀ v ∈ x1.map vS, v.oneCell' = true := vS_one
    have hsp : ∀ j, j < c3 → (C.w0.cell? ⟨b, 0 + j, none⟩).isSome = true := fun j hj => by
      rw [Nat.zero_add, cell_of_row C.w0 b j cur _ (0, 0) cg, Array.getElem?_eq_getElem (by omega)]; rfl
    have hfz : ∀ j, C.w0.frozen? ⟨b, j, none⟩ = false := fun j => by
      unfold World.frozen?
      rw [cg]
      simp
    have hyx : ∀ y ∈ x1.take i ++ [s] ++ x1.drop i, y.length ≤ maxLen := fun y hy => by
      rcases List.mem_append.1 hy with hy | hy
      · rcases List.mem_append.1 hy with hy | hy
        · exact cx y (List.mem_of_mem_take hy)
        · rw [List.mem_singleton.1 hy]; exact hs
      · exact cx y (List.mem_of_mem_drop hy)
    have hi : i ≤ x1.length := by omega
    have hyl : (x1.take i ++ [s] ++ x1.drop i).length = x1.length + 1 := by simp; omega
    have hctl : cur.toList.length = c3 := by rw [Array.length_toList]; exact csz
    have hxl : cur.toList.take (x1.map vS).length = x1.map vS := by rw [hcl]; exact ct
    have hmap : (x1.take i ++ [s] ++ x1.drop i).map vS = (x1.map vS).take i ++ [vS s] ++ (x1.map vS).drop i := by simp
    by_cases hin : i = x1.length
    · subst hin
      have hyn : x1.take x1.length ++ [s] ++ x1.drop x1.length = x1 ++ [s] := by simp
      rw [hyn] at hyx hyl ⊢
      by_cases hroom : x1.length + 1 ≤ c3
      · refine Calls.mono (show Calls Tryz.prog 85 _ _ _ from Any2.slices_Insert_string_end_room insLays b 0 x1.length c3 vb 0 1 c8 ([s].map vS) C.w0 (by omega) hroom (by unfold maxLen at cm; omega) hE1 (fun j hj => by rw [Nat.add_assoc]; exact hsp _ (by omega)) (fun j hj => hfz _) hvs h1v) ?_
        rintro e w ⟨rfl, rfl⟩
        try rw [insE9]
        have hw := setCells_row b 9 (0, 0) ([s].map vS) x1.length cur C.w0 cg (by rw [hE1]; omega)
        rw [Nat.zero_add, hw]
        refine ⟨some ⟨b, 0, none⟩, c3, by unfold vL; rw [hyl], ?_⟩
        have hsz : (cur.toList.take x1.length ++ [s].map vS ++ cur.toList.drop (x1.length + ([s].map vS).length)).toArray.size = c3 := by simp; omega
        have hm := row_left (w' := C.w0.setRow b (cur.toList.take x1.length ++ [s].map vS ++ cur.toList.drop (x1.length + ([s].map vS).length)).toArray) hO rfl rfl rfl (by simp) (b' := b) (.inl ⟨_, List.mem_cons_self, rfl⟩) (fun b1 _ h => setRow_other _ _ _ _ h) (ys := x1 ++ [s]) (setRow_heap _ _ _ _ _ _ cg) (by rw [hsz, hyl]; exact hroom) (by rw [hsz]; exact cm) (by
          show (cur.toList.take x1.length ++ [s].map vS ++ cur.toList.drop (x1.length + ([s].map vS).length)).take (x1 ++ [s]).length = _
          rw [ct, List.take_append_of_le_length (by simp), List.take_of_length_le (by simp), List.map_append]) hyx
        rw [hsz] at hm
        exact hm
      · refine Calls.mono (show Calls Tryz.prog 85 _ _ _ from Any2.slices_Insert_string_end_grow insLays (some ⟨b, 0, none⟩) x1.length c3 vb 0 1 c8 (x1.map vS) ([s].map vS) C.w0 (by omega) cc (by omega) (by omega) hcl hE1 (fun h => by cases h) (fun a ha j v hj => by cases ha; rw [Addr.add_lit]; exact hcs j v hj) hvs h1v) ?_
        rintro e w ⟨rfl, rfl⟩
        try rw [insE9]
        have hG := grownCap_ge C.w0 (x1.length + 1) c3 9
        have hG2 := grownCap_le_maxLen C.w0 (x1.length + 1) c3 9 (by unfold maxLen; omega)
        generalize hGe : grownCap C.w0 (x1.length + 1) c3 9 = G at hG hG2
        have hsz : ((x1.map vS ++ [s].map vS).toArray ++ Builtin.zeroCells (Value.string ⟨#[]⟩).cells (G - (x1.length + 1))).size = G := by
          simp [size_zeroCells, Value.cells]; omega
        refine ⟨some ⟨C.w0.heap.size, 0, none⟩, G, by unfold vL; rw [hyl], ?_⟩
        have hm := row_left (w' := C.w0.drew.alloc (.cells ((x1.map vS ++ [s].map vS).toArray ++ Builtin.zeroCells (Value.string ⟨#[]⟩).cells (G - (x1.length + 1))) 9)) hO.drew rfl rfl rfl (by simp) (b' := C.w0.heap.size) (.inr (Nat.le_refl _)) (fun b hb _ => Below.heap_alloc C.w0.drew _ b hb) (ys := x1 ++ [s]) (heap_alloc_new C.w0.drew _) (by rw [hsz, hyl]; omega) (by rw [hsz]; exact hG2) (by
          rw [Array.toList_append, List.take_append_of_le_length (by simp), List.take_of_length_le (by simp)]; simp) hyx
        rw [hsz] at hm
        exact hm
    · have hilt : i < x1.length := by omega
      have hdl : ((x1.map vS).drop i).length = x1.length - i := by rw [List.length_drop, hcl]
      by_cases hroom : x1.length + 1 ≤ c3
      · refine Calls.mono (show Calls Tryz.prog 85 _ _ _ from Any2.slices_Insert_string_shift insLays b 0 x1.length c3 i vb 0 1 c8 (x1.map vS) ([s].map vS) C.w0 hilt (by omega) hroom (by unfold maxLen at cm; omega) hne hcl hE1 hcs (fun j hj => hsp j (by omega)) (fun j hj => hfz _) hvs h1c h1v 9 9 vcur.size cur.size (by unfold World.shape?; rw [vg]) (by unfold World.shape?; rw [cg]) (by omega) (by unfold World.frozen?; rw [vg]; simp) (by unfold World.frozen?; rw [vg]; simp)) ?_
        rintro e w ⟨rfl, rfl⟩
        try rw [insE9]
        rw [Nat.zero_add, Nat.zero_add]
        have hw1 := setCells_row b 9 (0, 0) ((x1.map vS).drop i) (i + 1) cur C.w0.drew cg (by rw [hdl]; omega)
        rw [hw1]
        obtain ⟨X, hX⟩ : ∃ X, X = cur.toList.take (i + 1) ++ (x1.map vS).drop i ++ cur.toList.drop (i + 1 + ((x1.map vS).drop i).length) := ⟨_, rfl⟩
        rw [← hX]
        have hXl : X.length = c3 := by rw [hX]; simp; omega
        have hw2 := setCells_row b 9 (0, 0) ([s].map vS) i X.toArray (C.w0.drew.setRow b X.toArray) (setRow_heap _ _ _ _ _ _ cg) (by rw [hE1]; simp; omega)
        rw [hw2, setRow_setRow]
        refine ⟨some ⟨b, 0, none⟩, c3, by unfold vL; rw [hyl], ?_⟩
        have hsz : (X.toArray.toList.take i ++ [s].map vS ++ X.toArray.toList.drop (i + ([s].map vS).length)).toArray.size = c3 := by simp; omega
        have hm := row_left (w' := C.w0.drew.setRow b (X.toArray.toList.take i ++ [s].map vS ++ X.toArray.toList.drop (i + ([s].map vS).length)).toArray) hO.drew rfl rfl rfl (by simp) (b' := b) (.inl ⟨_, List.mem_cons_self, rfl⟩) (fun b1 _ h => setRow_other _ _ _ _ h) (ys := x1.take i ++ [s] ++ x1.drop i) (setRow_heap _ _ _ _ _ _ cg) (by rw [hsz, hyl]; exact hroom) (by rw [hsz]; exact cm) (by
          have := ins_list (s := vS s) hxl (by rw [hcl]; exact hi) (by rw [hcl, hctl]; exact hroom) X hX
          rw [hyl, hmap, ← this, hcl]
          rfl) hyx
        rw [hsz] at hm
        exact hm
      · refine Calls.mono (show Calls Tryz.prog 85 _ _ _ from Any2.slices_Insert_string_grow insLays b 0 x1.length c3 i vb 0 1 c8 (x1.map vS) ([s].map vS) C.w0 hilt (by omega) cc (by omega) (by omega) hcl hE1 hcs hvs h1c h1v) ?_
        rintro e w ⟨rfl, rfl⟩
        try rw [insE9]
        have hG := grownCap_ge C.w0 (x1.length + 1) c3 9
        have hG2 := grownCap_le_maxLen C.w0 (x1.length + 1) c3 9 (by unfold maxLen; omega)
        generalize hGe : grownCap C.w0 (x1.length + 1) c3 9 = G at hG hG2
        obtain ⟨ROW, hR⟩ : ∃ ROW, ROW = ((x1.map vS).take i).toArray ++ Builtin.zeroCells (Value.string ⟨#[]⟩).cells (x1.length + 1 - i) ++ Builtin.zeroCells (Value.string ⟨#[]⟩).cells (G - (x1.length + 1)) := ⟨_, rfl⟩
        rw [← hR]
        have hRs : ROW.size = G := by rw [hR]; simp [size_zeroCells, Value.cells]; omega
        have hRt : ROW.toList.take i = (x1.map vS).take i := by
          rw [hR, Array.toList_append, Array.toList_append, List.append_assoc, List.take_append_of_le_length (by simp; omega), List.take_of_length_le (by simp; omega)]
        have a1 := heap_alloc_new C.w0 (.cells ROW 9)
        have hw1 := setCells_row C.w0.heap.size 9 (0, 0) ([s].map vS) i ROW (C.w0.alloc (.cells ROW 9)).drew a1 (by rw [hE1]; omega)
        rw [hw1]
        obtain ⟨X, hX⟩ : ∃ X, X = ROW.toList.take i ++ [s].map vS ++ ROW.toList.drop (i + ([s].map vS).length) := ⟨_, rfl⟩
        rw [← hX]
        have hXl : X.length = G := by rw [hX]; simp; omega
        have a2 : ((C.w0.alloc (.cells ROW 9)).drew.setRow C.w0.heap.size X.toArray).drew.heap[C.w0.heap.size]? = some (.cells X.toArray 9 (0, 0)) := setRow_heap _ _ _ _ _ _ a1
        have hw2 := setCells_row C.w0.heap.size 9 (0, 0) ((x1.map vS).drop i) (i + 1) X.toArray _ a2 (by rw [hdl]; simp; omega)
        rw [hw2]
        refine ⟨some ⟨C.w0.heap.size, 0, none⟩, G, by unfold vL; rw [hyl], ?_⟩
        have hsz : (X.toArray.toList.take (i + 1) ++ (x1.map vS).drop i ++ X.toArray.toList.drop (i + 1 + ((x1.map vS).drop i).length)).toArray.size = G := by simp; omega
        have hm := row_left (w' := ((C.w0.alloc (.cells ROW 9)).drew.setRow C.w0.heap.size X.toArray).drew.setRow C.w0.heap.size (X.toArray.toList.take (i + 1) ++ (x1.map vS).drop i ++ X.toArray.toList.drop (i + 1 + ((x1.map vS).drop i).length)).toArray) hO rfl rfl rfl (by
            rw [setRow_size]
            show _ ≤ ((C.w0.alloc (.cells ROW 9)).drew.setRow C.w0.heap.size X.toArray).heap.size
            rw [setRow_size]
            show _ ≤ (C.w0.alloc (.cells ROW 9)).heap.size
            simp) (b' := C.w0.heap.size) (.inr (Nat.le_refl _)) (fun b1 hb h => by
            rw [setRow_other _ _ _ _ h]
            show ((C.w0.alloc (.cells ROW 9)).drew.setRow C.w0.heap.size X.toArray).heap[b1]? = _
            rw [setRow_other _ _ _ _ h]
            exact Below.heap_alloc C.w0 _ b1 hb) (ys := x1.take i ++ [s] ++ x1.drop i) (setRow_heap _ _ _ _ _ _ a2) (by rw [hsz, hyl]; exact hG) (by rw [hsz]; exact hG2) (by
            have hX1 : X.take (i + 1) = (x1.map vS).take i ++ [vS s] := by
              rw [hX, hRt, List.take_append_of_le_length (by simp; omega), List.take_of_length_le (by simp; omega)]
              rfl
            rw [hyl, hmap]
            show (X.take (i + 1) ++ (x1.map vS).drop i ++ X.drop (i + 1 + ((x1.map vS).drop i).length)).take (x1.length + 1) = _
            rw [hX1, List.take_append_of_le_length (by simp; omega), List.take_of_length_le (by simp; omega)]) hyx
        rw [hsz] at hm
        exact hm
theorem r_slices_Compact_string_string (C : Cx) (x1 : (List Str)) (A2 : Option Addr) (c3 : Nat) (hO : Mem C C.w0 [.row strRep A2 c3 9 x1 true] []) (hd : ∀ b, C.S0 b → ¬ ownB [.row strRep A2 c3 9 x1 true] b) (r : (List Str)) (h : m_slices_Compact_string_string x1 = some r) :
    Calls Tryz.prog 81 #[vL A2 (x1) c3] C.w0 fun e w => ∃ (A_1 : Option Addr), ∃ (c_1 : Nat), e = .returned (vL A_1 (r) c_1) ∧ Mem C w [.row strRep A_1 c_1 9 r true] [] := by
  unfold m_slices_Compact_string_string at h
  obtain rfl := some_inj h
  have hlen := compact_len x1
  rcases (hM_form hO) with ⟨rfl, rfl, rfl⟩ | ⟨b, rfl⟩
  · refine (Tryz.slices_Compact_string_empty none 0 C.w0).mono ?_
    rintro e w ⟨rfl, rfl⟩
    exact ⟨none, 0, rfl, hO⟩
  · obtain ⟨q1, q2, q3, q4⟩ := row_holds hO
    have hx : ∀ y ∈ x1, y.length ≤ maxLen := row_texts hO
    refine (Tryz.slices_Compact_string b 0 c3 x1 C.w0 q1 (by unfold maxLen at q4; omega) q3).mono ?_
    rintro e w ⟨rfl, q, rfl⟩
    have hm := row_putRow (ys := Lib.compact x1) (zs := List.replicate (x1.length - (Lib.compact x1).length) []) hO (by rw [List.length_replicate]; omega) (fun y hy => hx y (compact_mem hy)) q #[]
    rw [Go.Sort.grow_empty] at hm
    exact ⟨_, c3, rfl, hm⟩
end Go.Proofs.YtdaoecpkgobelaaGreatDoor
