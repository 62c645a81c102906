/- Words that begin with one; the word with a number. -/
import Derived.Test.YtdaoecpkgobelaaDoorPureK14
namespace Go.Proofs.YtdaoecpkgobelaaDoor
open Go Go.RowKit
set_option linter.unusedSimpArgs false
set_option linter.unusedVariables false

theorem SortedW.rise {L : List Str} (h : SortedW L) : riseB L = true := by
  unfold riseB
  rw [allI_iff]
  intro i _ hi
  unfold riseAt
  rcases Nat.eq_zero_or_pos i with h0 | h0
  · rw [h0]; rfl
  · rw [decide_eq_false (by omega), Bool.false_or, List.getD_eq_getElem?_getD, List.getD_eq_getElem?_getD, List.getElem?_eq_getElem (by omega), List.getElem?_eq_getElem (by omega)]
    exact List.pairwise_iff_getElem.1 h (i - 1) i (by omega) (by omega) (by omega)
theorem hasPrefix_eq (w s : Str) : m_strings_HasPrefix w s = some (decide (s <+: w)) := by
  unfold m_strings_HasPrefix m_internal_stringslite_HasPrefix
  by_cases hl : s.length ≤ w.length
  · rw [decide_eq_true (show (s.length : Int) ≤ (w.length : Int) by omega), cond_true, subL_of (by omega) (by omega) (by omega), Option.bind_some, Option.bind_some, Option.bind_some]
    congr 1
    have e : ((s.length : Int).toNat - (0 : Int).toNat) = s.length := by omega
    rw [e, show (0 : Int).toNat = 0 from rfl, List.drop_zero]
    rw [Bool.eq_iff_iff, beq_iff_eq, decide_eq_true_iff, List.prefix_iff_eq_take]
    exact ⟨fun h => h.symm, fun h => h.symm⟩
  · rw [decide_eq_false (show ¬ ((s.length : Int) ≤ (w.length : Int)) by omega), cond_false, Option.bind_some, Option.bind_some]
    congr 1
    rw [Bool.eq_iff_iff, decide_eq_true_iff]
    exact ⟨(fun h => by cases h), (fun h => absurd h.length_le hl)⟩
theorem CutA.getD_pre {L : List Str} {s : Str} {A M B : List Str} (h : CutA L s A M B) {i : Nat} (hi : i < M.length) : s <+: L.getD (A.length + i) [] := by
  have : L.getD (A.length + i) [] = s ++ M[i] := by
    rw [List.getD_eq_getElem?_getD, h.eq, List.append_assoc, List.getElem?_append_right (by omega), List.getElem?_append_left (by rw [List.length_map]; omega), List.getElem?_map, show A.length + i - A.length = i by omega, List.getElem?_eq_getElem hi]
    rfl
  rw [this]
  exact List.prefix_append _ _
theorem CutA.getD_end {L : List Str} {s : Str} {A M B : List Str} (h : CutA L s A M B) (hl : A.length + M.length < L.length) : ¬ s <+: L.getD (A.length + M.length) [] := by
  cases hB : B with
  | nil =>
    have := congrArg List.length h.eq
    rw [hB] at this
    simp at this
    omega
  | cons b B' =>
    have : L.getD (A.length + M.length) [] = b := by
      rw [List.getD_eq_getElem?_getD, h.eq, hB, List.getElem?_append_right (by simp)]
      simp
    rw [this]
    exact (h.ge b (by rw [hB]; exact List.mem_cons_self)).2
theorem CutA.len {L : List Str} {s : Str} {A M B : List Str} (h : CutA L s A M B) : A.length + M.length ≤ L.length := by
  have := congrArg List.length h.eq
  simp at this
  omega
theorem prefixRange_eq {L : List Str} {s : Str} {A M B : List Str} (h : CutA L s A M B) (hL : L.length ≤ 3000) (hs : SortedW L) : m_impl_prefixRange L s = some ((A.length : Int), (M.length : Int)) := by
  obtain ⟨n, hn, hb⟩ := binary_eq L s (by omega) hs.rise
  obtain rfl := hn.unique h.first
  have hlen := h.len
  unfold m_impl_prefixRange
  rw [bind_of hb]
  have key : ∀ (c i : Nat), i + c = M.length → loopM (fun q : Int => m_impl_prefixRange_l1 L s q) (((A.length + i : Nat)) : Int) = some (((A.length + M.length : Nat)) : Int) := by
    intro c
    induction c with
    | zero =>
      intro i hi
      obtain rfl : i = M.length := by omega
      refine loopM_done ?_
      unfold m_impl_prefixRange_l1
      rcases Nat.lt_or_ge (A.length + M.length) L.length with h1 | h1
      · rw [decide_eq_true (show (((A.length + M.length : Nat)) : Int) < (L.length : Int) by omega), cond_true, getL_getD h1 [], Option.bind_some, hasPrefix_eq, decide_eq_false (h.getD_end h1)]; rfl
      · rw [decide_eq_false (show ¬ ((((A.length + M.length : Nat)) : Int) < (L.length : Int)) by omega)]; rfl
    | succ c ih =>
      intro i hi
      have hstep : m_impl_prefixRange_l1 L s (((A.length + i : Nat)) : Int) = some (.inl (((A.length + (i + 1) : Nat)) : Int)) := by
        unfold m_impl_prefixRange_l1
        rw [chk_succ (show A.length + i ≤ 8000000000000000000 by omega), decide_eq_true (show (((A.length + i : Nat)) : Int) < (L.length : Int) by omega), cond_true, getL_getD (by omega) [], Option.bind_some, hasPrefix_eq, decide_eq_true (h.getD_pre (by omega))]
        rfl
      rw [loopM_next (step := fun q : Int => m_impl_prefixRange_l1 L s q) hstep]
      exact ih (i + 1) (by omega)
  have hk := key M.length 0 (by omega)
  rw [Nat.add_zero] at hk
  show ((((loopM (fun q : Int => m_impl_prefixRange_l1 L s q) (A.length : Int)).bind _).bind _)) = _
  rw [bind_of hk, Option.bind_some, chk_to (M.length : Int) (by push_cast; omega) (by omega) (by omega)]
  rfl

theorem GoodD.sorted {D : List Node} (h : GoodD D) : SortedW (langA (ndD D) 14 0) := langA_sorted _ h.shape.rise 14 0
/-- The words behind letters. -/
def behindA (D : List Node) (s : Str) : List Str := match afterA (ndD D) 0 s with | some j => langA (ndD D) 14 j | none => []
theorem GoodD.cut {D : List Node} (h : GoodD D) (s : Str) : ∃ A B, CutA (langA (ndD D) 14 0) s A (behindA D s) B := by
  obtain ⟨A, B, h1, _⟩ := cut_exists h.shape.rise s 0 h.num.good.short
  exact ⟨A, B, h1⟩

theorem RangeOf_eq (d : Dawg) (hlen : ∀ x ∈ d.Nodes, x.Next.length ≤ 2000000) (s : Str) (hs : s.length ≤ 1000000000) : ∃ v, m_impl_RangeOf d s = some v ∧ m_spec_RangeOf d s = some v := by
  obtain ⟨r, h1, h2, h3⟩ := tests_agree d hlen
  unfold m_impl_RangeOf m_spec_RangeOf
  rw [h1, h2]
  cases r with
  | false => exact ⟨(0, 0, 1), rfl, rfl⟩
  | true =>
    have hg := h3.1 rfl
    obtain ⟨A, B, hc⟩ := hg.cut s
    refine ⟨((A.length : Int), ((behindA d.Nodes s).length : Int), 0), ?_, ?_⟩
    · rw [Option.bind_some, Bool.not_true, cond_false, words_eq d hg hlen, Option.bind_some, prefixRange_eq hc hg.few hg.sorted]; rfl
    · rw [Option.bind_some, Bool.not_true, cond_false, afterS_eq d hg.shape hlen s (by omega), Option.bind_some, Less07_eq d hg hlen s hs, hc.less]
      have : (bif decide (0 ≤ optI (afterA (ndD d.Nodes) 0 s)) then (m_spec_l07Counts d).bind fun y29 => (getL y29 (optI (afterA (ndD d.Nodes) 0 s))).bind fun e36 => some e36 else some 0 : Option Int) = some ((behindA d.Nodes s).length : Int) := by
        unfold behindA
        cases ha : afterA (ndD d.Nodes) 0 s with
        | none => rfl
        | some j =>
          have hj := afterA_lt hg.shape s hg.shape.pos ha
          show (bif decide (0 ≤ ((j : Nat) : Int)) then (m_spec_l07Counts d).bind fun y29 => (getL y29 (j : Int)).bind fun e36 => some e36 else some 0 : Option Int) = _
          rw [decide_eq_true (by omega), cond_true, Counts_eq d hg hlen, Option.bind_some, bind_of (getL_cnt hj)]
          rfl
      rw [this]
      rfl
theorem NumberOf_eq (d : Dawg) (hlen : ∀ x ∈ d.Nodes, x.Next.length ≤ 2000000) (s : Str) (hs : s.length ≤ 1000000000) : ∃ v, m_impl_NumberOf d s = some v ∧ m_spec_NumberOf d s = some v := by
  obtain ⟨r, h1, h2, h3⟩ := tests_agree d hlen
  unfold m_impl_NumberOf m_spec_NumberOf
  rw [h1, h2]
  cases r with
  | false => exact ⟨(0, 1), rfl, rfl⟩
  | true =>
    have hg := h3.1 rfl
    obtain ⟨A, B, hc⟩ := hg.cut s
    rw [Option.bind_some, Option.bind_some, Bool.not_true, cond_false, cond_false, accepts_eq d hg.shape hlen s (by omega), acceptsS_eq d hg.shape hlen s (by omega), Option.bind_some, Option.bind_some]
    cases accA (ndD d.Nodes) s with
    | false => exact ⟨(0, 3), rfl, rfl⟩
    | true =>
      refine ⟨((A.length : Int), 0), ?_, ?_⟩
      · rw [Bool.not_true, cond_false, words_eq d hg hlen, Option.bind_some, prefixRange_eq hc hg.few hg.sorted]; rfl
      · rw [Bool.not_true, cond_false, Less07_eq d hg hlen s hs, hc.less]; rfl

end Go.Proofs.YtdaoecpkgobelaaDoor
