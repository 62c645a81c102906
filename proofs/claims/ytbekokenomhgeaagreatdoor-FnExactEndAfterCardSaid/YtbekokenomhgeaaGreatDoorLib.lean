/- The functions of Go's library that this seat calls, over the shelf's contracts. Printed by gen.py. -/
import Derived.Test.YtbekokenomhgeaaGreatDoorShelf
import Derived.Test.YtbekokenomhgeaaGreatDoorEngM
import Derived.Test.YtbekokenomhgeaaGreatDoorTyp
namespace Go.Proofs.YtbekokenomhgeaaGreatDoor
open Go Go.RowKit
set_option linter.unusedSimpArgs false
set_option linter.unusedVariables false

theorem r_strings_IndexByte (C : Cx) (x1 : Str) (hp2 : x1.length ≤ maxLen) (x3 : UInt8) (r : Int) (h : m_strings_IndexByte x1 x3 = some r) :
    Calls Tryz.prog 142 #[vS (x1), vB (x3)] C.w0 fun e w => e = .returned (vI (r)) ∧ Mem C w [] [] ∧ R64 r := by
  obtain rfl := some_inj h
  refine (Tryz.strings_IndexByte ⟨List.toArray x1⟩ (x3.toNat : Int) C.w0).mono ?_
  rintro e w ⟨rfl, rfl⟩
  refine ⟨?_, Mem.none_ C, indexByte_R hp2⟩
  simp [UInt8.ofNat_toNat]

theorem r_strings_ToLower (C : Cx) (x1 : Str) (hp2 : x1.length ≤ maxLen) (r : Str) (h : m_strings_ToLower x1 = some r) :
    Calls Tryz.prog 165 #[vS (x1)] C.w0 fun e w => e = .returned (vS (r)) ∧ Mem C w [] [] ∧ r.length ≤ maxLen := by
  unfold m_strings_ToLower at h
  rcases cond_some h with ⟨hc, h⟩ | ⟨hc, h⟩
  case inr => cases h
  obtain rfl := some_inj h
  obtain ⟨hc, hl⟩ := Bool.and_eq_true_iff.1 hc
  replace hl : (Lib.toLowerD x1).length ≤ lim := of_decide_eq_true hl
  replace hc : (x1 : Str).length ≤ lim := of_decide_eq_true hc
  refine (Tryz.strings_ToLower_any ⟨List.toArray x1⟩ C.w0 (by rw [size_mk]; unfold lim at hc; omega) C.gT.case C.gT.utf8).mono ?_
  rintro e w ⟨rfl, hb⟩
  exact ⟨rfl, Mem.below C hb, lim_max hl⟩

theorem r_strings_Contains (C : Cx) (x1 : Str) (hp2 : x1.length ≤ maxLen) (x3 : Str) (hp4 : x3.length ≤ maxLen) (r : Bool) (h : m_strings_Contains x1 x3 = some r) :
    Calls Tryz.prog 50 #[vS (x1), vS (x3)] C.w0 fun e w => e = .returned (.bool (r)) ∧ Mem C w [] [] := by
  unfold m_strings_Contains at h
  match x3, h with
  | [c], h =>
    obtain rfl := some_inj h
    refine (Tryz.strings_Contains_one ⟨List.toArray x1⟩ c C.w0).mono ?_
    rintro e w ⟨rfl, rfl⟩
    exact ⟨rfl, Mem.none_ C⟩

theorem r_strings_Split (C : Cx) (x1 : Str) (hp2 : x1.length ≤ maxLen) (x3 : Str) (hp4 : x3.length ≤ maxLen) (r : (List Str)) (h : m_strings_Split x1 x3 = some r) :
    Calls Tryz.prog 59 #[vS (x1), vS (x3)] C.w0 fun e w => ∃ (A_1 : Option Addr), ∃ (c_1 : Nat), e = .returned (vL A_1 (r) c_1) ∧ Mem C w [] [] ∧ (sliceRep strRep).R w (Sh C [] w) r [vL A_1 r c_1] := by
  unfold m_strings_Split at h
  rcases cond_some h with ⟨hc, h⟩ | ⟨hc, h⟩
  case inr => cases h
  obtain rfl := some_inj h
  obtain ⟨hc, hl⟩ := Bool.and_eq_true_iff.1 hc
  replace hl : 1 ≤ (x3 : Str).length := of_decide_eq_true hl
  replace hc : (x1 : Str).length ≤ lim := of_decide_eq_true hc
  obtain ⟨m, hm⟩ := C.gT.maxlen
  refine (Tryz.strings_Split ⟨List.toArray x1⟩ ⟨List.toArray x3⟩ m C.w0 (by rw [size_mk]; unfold lim at hc; omega) hm (by rw [size_mk]; exact hl)).mono ?_
  rintro e w ⟨rfl, rfl⟩
  obtain ⟨h1, h2⟩ := newSplit C x1 x3 _ hc hl
  rw [split_form hl] at h2 ⊢
  exact ⟨_, _, rfl, h1, h2⟩

theorem r_strings_Join (C : Cx) (x1 : (List Str)) (A2 : Option Addr) (c3 : Nat) (hp4 : (sliceRep strRep).R C.w0 C.S0 x1 [vL A2 x1 c3]) (x5 : Str) (hp6 : x5.length ≤ maxLen) (r : Str) (h : m_strings_Join x1 x5 = some r) :
    Calls Tryz.prog 123 #[vL A2 (x1) c3, vS (x5)] C.w0 fun e w => e = .returned (vS (r)) ∧ Mem C w [] [] ∧ r.length ≤ maxLen := by
  unfold m_strings_Join at h
  rcases cond_some h with ⟨hc, h⟩ | ⟨hc, h⟩
  case inr => cases h
  obtain rfl := some_inj h
  obtain ⟨hc, hl⟩ := Bool.and_eq_true_iff.1 hc
  replace hl : (Lib.join x1 x5).length ≤ lim := of_decide_eq_true hl
  replace hc : (x1 : List Str).length ≤ lim := of_decide_eq_true hc
  by_cases hne : x1 = []
  · subst hne
    refine (Tryz.strings_Join_none A2 c3 ⟨List.toArray x5⟩ C.w0).mono ?_
    rintro e w ⟨rfl, rfl⟩
    exact ⟨rfl, Mem.none_ C, by simp [Lib.join_nil]⟩
  · obtain ⟨b, o, rfl, hb, hcap, hcells⟩ := strs_cells hp4 hne
    have hN : (x1 : List Str).length ≤ 140737488355328 := by unfold lim at hc; omega
    have hj := Tryz.strings_Join b o c3 (x1.map fun x => (⟨List.toArray x⟩ : ByteArray)) ⟨List.toArray x5⟩ C.w0 hcells (C.s0 b hb) (by simpa using hN) (by simpa using hcap) (by rw [map_bytes]; unfold lim at hl; simp only; omega)
    rw [map_bytes] at hj
    refine (by simpa using hj : Calls _ _ _ _ _).mono ?_
    rintro e w ⟨rfl, hbel⟩
    exact ⟨rfl, Mem.below C hbel, lim_max hl⟩

end Go.Proofs.YtbekokenomhgeaaGreatDoor
