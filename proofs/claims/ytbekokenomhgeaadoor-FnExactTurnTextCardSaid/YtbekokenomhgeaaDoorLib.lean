/- The functions of Go's library that this seat calls, over the shelf's contracts. Printed by gen.py. -/
import Derived.Test.YtbekokenomhgeaaDoorShelf
import Derived.Test.YtbekokenomhgeaaDoorEngM
import Derived.Test.YtbekokenomhgeaaDoorTyp
namespace Go.Proofs.YtbekokenomhgeaaDoor
open Go Go.RowKit
set_option linter.unusedSimpArgs false
set_option linter.unusedVariables false

theorem r_strings_ToLower (C : Cx) (x1 : Str) (hp2 : x1.length ≤ maxLen) (r : Str) (h : m_strings_ToLower x1 = some r) :
    Calls Tryd.prog 64 #[vS (x1)] C.w0 fun e w => e = .returned (vS (r)) ∧ Mem C w [] [] ∧ r.length ≤ maxLen := by
  unfold m_strings_ToLower at h
  rcases cond_some h with ⟨hc, h⟩ | ⟨hc, h⟩
  case inr => cases h
  obtain rfl := some_inj h
  obtain ⟨hc, hl⟩ := Bool.and_eq_true_iff.1 hc
  replace hl : (Lib.toLowerD x1).length ≤ lim := of_decide_eq_true hl
  replace hc : (x1 : Str).length ≤ lim := of_decide_eq_true hc
  refine (Tryd.strings_ToLower_any ⟨List.toArray x1⟩ C.w0 (by rw [size_mk]; unfold lim at hc; omega) C.gT.case C.gT.utf8).mono ?_
  rintro e w ⟨rfl, hb⟩
  exact ⟨rfl, Mem.below C hb, lim_max hl⟩

theorem r_strconv_FormatInt (C : Cx) (x1 : Int) (hp2 : R64 x1) (x3 : Int) (hp4 : R64 x3) (r : Str) (h : m_strconv_FormatInt x1 x3 = some r) :
    Calls Tryd.prog 50 #[vI (x1), vI (x3)] C.w0 fun e w => e = .returned (vS (r)) ∧ Mem C w [] [] ∧ r.length ≤ maxLen := by
  unfold m_strconv_FormatInt at h
  rcases cond_some h with ⟨hc, h⟩ | ⟨hc, h⟩
  case inr => cases h
  obtain rfl := some_inj h
  obtain rfl : x3 = 10 := by simpa using hc
  refine (Tryd.strconv_FormatInt_10 x1 hp2.1 hp2.2 C.w0 C.gT.pow).mono ?_
  rintro e w ⟨rfl, k, os, rfl⟩
  exact ⟨rfl, Mem.below C (Lib.below_grow C.w0.heap.size C.w0 (Nat.le_refl _) k os), itoa_max hp2⟩

theorem r_strings_Join (C : Cx) (x1 : (List Str)) (A2 : Option Addr) (c3 : Nat) (hp4 : (sliceRep strRep).R C.w0 C.S0 x1 [vL A2 x1 c3]) (x5 : Str) (hp6 : x5.length ≤ maxLen) (r : Str) (h : m_strings_Join x1 x5 = some r) :
    Calls Tryd.prog 51 #[vL A2 (x1) c3, vS (x5)] C.w0 fun e w => e = .returned (vS (r)) ∧ Mem C w [] [] ∧ r.length ≤ maxLen := by
  unfold m_strings_Join at h
  rcases cond_some h with ⟨hc, h⟩ | ⟨hc, h⟩
  case inr => cases h
  obtain rfl := some_inj h
  obtain ⟨hc, hl⟩ := Bool.and_eq_true_iff.1 hc
  replace hl : (Lib.join x1 x5).length ≤ lim := of_decide_eq_true hl
  replace hc : (x1 : List Str).length ≤ lim := of_decide_eq_true hc
  by_cases hne : x1 = []
  · subst hne
    refine (Tryd.strings_Join_none A2 c3 ⟨List.toArray x5⟩ C.w0).mono ?_
    rintro e w ⟨rfl, rfl⟩
    exact ⟨rfl, Mem.none_ C, by simp [Lib.join_nil]⟩
  · obtain ⟨b, o, rfl, hb, hcap, hcells⟩ := strs_cells hp4 hne
    have hN : (x1 : List Str).length ≤ 140737488355328 := by unfold lim at hc; omega
    have hj := Tryd.strings_Join b o c3 (x1.map fun x => (⟨List.toArray x⟩ : ByteArray)) ⟨List.toArray x5⟩ C.w0 hcells (C.s0 b hb) (by simpa using hN) (by simpa using hcap) (by rw [map_bytes]; unfold lim at hl; simp only; omega)
    rw [map_bytes] at hj
    refine (by simpa using hj : Calls _ _ _ _ _).mono ?_
    rintro e w ⟨rfl, hbel⟩
    exact ⟨rfl, Mem.below C hbel, lim_max hl⟩

end Go.Proofs.YtbekokenomhgeaaDoor
