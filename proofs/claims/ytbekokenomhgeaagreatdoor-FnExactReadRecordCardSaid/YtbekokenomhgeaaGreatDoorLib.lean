/- The functions of Go's library that this seat calls, over the shelf's contracts. Printed by gen.py. -/
import Derived.Test.YtbekokenomhgeaaGreatDoorShelf
import Derived.Test.YtbekokenomhgeaaGreatDoorEngM
import Derived.Test.YtbekokenomhgeaaGreatDoorTyp
namespace Go.Proofs.YtbekokenomhgeaaGreatDoor
open Go Go.RowKit
set_option linter.unusedSimpArgs false
set_option linter.unusedVariables false

theorem r_strings_ToLower (C : Cx) (x1 : Str) (hp2 : x1.length ≤ maxLen) (r : Str) (h : m_strings_ToLower x1 = some r) :
    Calls Tryz.prog 165 #[vS (x1)] C.w0 fun e w => e = .returned (vS (r)) ∧ Mem C w [] [] ∧ r.length ≤ maxLen := by
  unfold m_strings_ToLower at h
  rcases cond_some h with ⟨hc, h⟩ | ⟨hc, h⟩
  case inr => cases h
  obtain rfl := some_inj h
  obtain ⟨hc, hl⟩ := Bool.and_eq_true_iff.1 hc
  replace hl : (Lib.toLowerD x1).length ≤ lim := of_decide_eq_true hl
  replace hc : (x1 : Str).length ≤ lim := of_decide_eq_true hc
  refine (Tryz.strings_ToLower_any ⟨List.toArray x1⟩ C.w0 (by rw [size_mk]; unfold lim at hc; omega) C.gT.case C.gT.utf8).mono ?_
  rintro e w ⟨rfl, hb⟩
  exact ⟨rfl, Mem.below C hb, lim_max hl⟩

theorem r_strings_Cut (C : Cx) (x1 : Str) (hp2 : x1.length ≤ maxLen) (x3 : Str) (hp4 : x3.length ≤ maxLen) (r : (Str × Str × Bool)) (h : m_strings_Cut x1 x3 = some r) :
    Calls Tryz.prog 53 #[vS (x1), vS (x3)] C.w0 fun e w => e = .returned (.tuple #[vS (r.1), vS (r.2.1), .bool (r.2.2)]) ∧ Mem C w [] [] ∧ r.1.length ≤ maxLen ∧ r.2.1.length ≤ maxLen := by
  unfold m_strings_Cut at h
  rcases cond_some h with ⟨hc, h⟩ | ⟨hc, h⟩
  case inr => cases h
  obtain rfl := some_inj h
  replace hc : (x1 : Str).length ≤ lim := of_decide_eq_true hc
  obtain ⟨m, hm⟩ := C.gT.maxlen
  refine (Tryz.strings_Cut ⟨List.toArray x1⟩ ⟨List.toArray x3⟩ m C.w0 (by rw [size_mk]; unfold lim at hc; omega) hm).mono ?_
  rintro e w ⟨rfl, n, rfl⟩
  obtain ⟨q1, q2⟩ := cut_le x1 x3
  exact ⟨rfl, Mem.below C ⟨rfl, rfl, rfl, Nat.le_refl _, fun _ _ => rfl⟩, lim_max (Nat.le_trans q1 hc), lim_max (Nat.le_trans q2 hc)⟩

theorem r_strconv_ParseInt (C : Cx) (x1 : Str) (hp2 : x1.length ≤ maxLen) (x3 : Int) (hp4 : R64 x3) (x5 : Int) (hp6 : R64 x5) (r : (Int × Bool)) (h : m_strconv_ParseInt x1 x3 x5 = some r) :
    Calls Tryz.prog 156 #[vS (x1), vI (x3), vI (x5)] C.w0 fun e w => ∃ (p_1 : Value), e = .returned (.tuple #[vI (r.1), p_1]) ∧ Mem C w [] [] ∧ R64 r.1 ∧ ErrOk p_1 r.2 := by
  unfold m_strconv_ParseInt at h
  rcases cond_some h with ⟨hc, h⟩ | ⟨hc, h⟩
  case inr => cases h
  obtain ⟨hc, hl⟩ := Bool.and_eq_true_iff.1 hc
  obtain ⟨h10, h64⟩ := Bool.and_eq_true_iff.1 hc
  obtain rfl := some_inj h
  obtain rfl : x3 = 10 := by simpa using h10
  obtain rfl : x5 = 64 := by simpa using h64
  replace hl : (x1 : Str).length ≤ lim := of_decide_eq_true hl
  have h63 : (2 ^ (64 - 1) : Nat) = 9223372036854775808 := rfl
  cases hp : Lib.parseIntB 64 x1
  case ok v =>
    have hb := Lib.parseIntB_bounds hp
    rw [h63] at hb
    refine (Tryz.strconv_ParseInt_10_at64_ok ⟨List.toArray x1⟩ (by rw [size_mk]; unfold lim at hl; omega) v (by simpa using hp) C.w0).mono ?_
    rintro e w ⟨rfl, hw⟩
    refine ⟨.nilIface, rfl, ?_, ⟨by simp only; omega, by simp only; omega⟩, ErrOk.nil_⟩
    rcases hw with rfl | ⟨t, rfl⟩
    · exact Mem.none_ C
    · exact Mem.below C (Lib.bytesWorld_below _ _ _)
  case range =>
    obtain ⟨tp, p, hv⟩ := C.gT.errRange
    refine (Tryz.strconv_ParseInt_10_at64_range_var ⟨List.toArray x1⟩ (by rw [size_mk]; unfold lim at hl; omega) (by simpa using hp) tp p C.w0 hv).mono ?_
    rintro e w ⟨N, rfl, _, _, hb⟩
    refine ⟨_, rfl, Mem.below C hb, ?_, ErrOk.some_ _ _⟩
    show R64 (Lib.intSat 64 x1)
    unfold Lib.intSat R64
    rw [h63]
    split <;> omega
  obtain ⟨tp, p, hv⟩ := C.gT.errSyntax
  refine (Tryz.strconv_ParseInt_10_at64_syntax_var ⟨List.toArray x1⟩ (by rw [size_mk]; unfold lim at hl; omega) (Eq.trans (by simp) hp) tp p C.w0 hv).mono ?_
  rintro e w ⟨N, rfl, _, _, hb⟩
  exact ⟨_, rfl, Mem.below C hb, R64_lit rfl, ErrOk.some_ _ _⟩

theorem r_strconv_FormatInt (C : Cx) (x1 : Int) (hp2 : R64 x1) (x3 : Int) (hp4 : R64 x3) (r : Str) (h : m_strconv_FormatInt x1 x3 = some r) :
    Calls Tryz.prog 158 #[vI (x1), vI (x3)] C.w0 fun e w => e = .returned (vS (r)) ∧ Mem C w [] [] ∧ r.length ≤ maxLen := by
  unfold m_strconv_FormatInt at h
  rcases cond_some h with ⟨hc, h⟩ | ⟨hc, h⟩
  case inr => cases h
  obtain rfl := some_inj h
  obtain rfl : x3 = 10 := by simpa using hc
  refine (Tryz.strconv_FormatInt_10 x1 hp2.1 hp2.2 C.w0 C.gT.pow).mono ?_
  rintro e w ⟨rfl, k, os, rfl⟩
  exact ⟨rfl, Mem.below C (Lib.below_grow C.w0.heap.size C.w0 (Nat.le_refl _) k os), itoa_max hp2⟩

theorem r_strings_Split (C : Cx) (x1 : Str) (hp2 : x1.length ≤ maxLen) (x3 : Str) (hp4 : x3.length ≤ maxLen) (r : (List Str)) (h : m_strings_Split x1 x3 = some r) :
    Calls Tryz.prog 59 #[vS (x1), vS (x3)] C.w0 fun e w => ∃ (A_1 : Option Addr), ∃ (c_1 : Nat), e = .returned (vL A_1 (r) c_1) ∧ Mem C w [] [] ∧ (sliceRep strRep).R w (Sh C [] w) r [vL A_1 r c_1] := by
  unfold m_strings_Split at h
  rcases cond_some h with ⟨hc, h⟩ | ⟨hc, h⟩
  case inr => cases h
  obtain rfl := some_inj h
  obtain ⟨hc, hl⟩ := Bool.and_eq_true_iff.1 hc
  replace hl : 1 ≤ (x3 : Str).length := of_decide_eq_true hl
  replace hc : (x1 : Str).length ≤ lim := of_decide_eq_true hc
  obtain ⟨m, hm⟩ := C.gT.maxlen
  refine (Tryz.strings_Split ⟨List.toArray x1⟩ ⟨List.toArray x3⟩ m C.w0 (by rw [size_mk]; unfold lim at hc; omega) hm (by rw [size_mk]; exact hl)).mono ?_
  rintro e w ⟨rfl, rfl⟩
  obtain ⟨h1, h2⟩ := newSplit C x1 x3 _ hc hl
  rw [split_form hl] at h2 ⊢
  exact ⟨_, _, rfl, h1, h2⟩

theorem r_strings_Join (C : Cx) (x1 : (List Str)) (A2 : Option Addr) (c3 : Nat) (hp4 : (sliceRep strRep).R C.w0 C.S0 x1 [vL A2 x1 c3]) (x5 : Str) (hp6 : x5.length ≤ maxLen) (r : Str) (h : m_strings_Join x1 x5 = some r) :
    Calls Tryz.prog 123 #[vL A2 (x1) c3, vS (x5)] C.w0 fun e w => e = .returned (vS (r)) ∧ Mem C w [] [] ∧ r.length ≤ maxLen := by
  unfold m_strings_Join at h
  rcases cond_some h with ⟨hc, h⟩ | ⟨hc, h⟩
  case inr => cases h
  obtain rfl := some_inj h
  obtain ⟨hc, hl⟩ := Bool.and_eq_true_iff.1 hc
  replace hl : (Lib.join x1 x5).length ≤ lim := of_decide_eq_true hl
  replace hc : (x1 : List Str).length ≤ lim := of_decide_eq_true hc
  by_cases hne : x1 = []
  · subst hne
    refine (Tryz.strings_Join_none A2 c3 ⟨List.toArray x5⟩ C.w0).mono ?_
    rintro e w ⟨rfl, rfl⟩
    exact ⟨rfl, Mem.none_ C, by simp [Lib.join_nil]⟩
  · obtain ⟨b, o, rfl, hb, hcap, hcells⟩ := strs_cells hp4 hne
    have hN : (x1 : List Str).length ≤ 140737488355328 := by unfold lim at hc; omega
    have hj := Tryz.strings_Join b o c3 (x1.map fun x => (⟨List.toArray x⟩ : ByteArray)) ⟨List.toArray x5⟩ C.w0 hcells (C.s0 b hb) (by simpa using hN) (by simpa using hcap) (by rw [map_bytes]; unfold lim at hl; simp only; omega)
    rw [map_bytes] at hj
    refine (by simpa using hj : Calls _ _ _ _ _).mono ?_
    rintro e w ⟨rfl, hbel⟩
    exact ⟨rfl, Mem.below C hbel, lim_max hl⟩

end Go.Proofs.YtbekokenomhgeaaGreatDoor
