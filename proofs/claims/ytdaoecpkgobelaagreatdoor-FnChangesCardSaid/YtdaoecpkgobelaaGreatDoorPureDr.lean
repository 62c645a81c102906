/- Automata of few short words (those that the laws draw); a word removed from or added to an ordered list. -/
import Derived.Test.YtdaoecpkgobelaaGreatDoorPureM3
import Derived.Test.YtdaoecpkgobelaaGreatDoorPureCh
namespace Go.Proofs.YtdaoecpkgobelaaGreatDoor
open Go Go.RowKit
set_option linter.unusedSimpArgs false
set_option linter.unusedVariables false
structure ShortL (n : Nat) (R : List Str) : Prop where
  sorted : SortedW R
  len : R.length ≤ n
  word : ∀ w ∈ R, w.all smB = true ∧ 1 ≤ w.length ∧ w.length ≤ 6
theorem ShortL.ok {n : Nat} {R : List Str} (h : ShortL n R) : ∀ w ∈ R, w ≠ [] ∧ w.length ≤ 13 ∧ ∀ c ∈ w, formB c = true := fun w hw => by
  obtain ⟨q1, q2, q3⟩ := h.word w hw
  refine ⟨?_, by omega, fun c hc => form_small (List.all_eq_true.1 q1 c hc)⟩
  rintro rfl
  simp at q2
structure FewD (n : Nat) (D : List Node) : Prop where
  good : GoodD D
  small : ∀ x ∈ D, x.Next.length ≤ 2000000
  words : ShortL n (wordsD D)
theorem drawn_of {n : Nat} {R : List Str} (h : ShortL n R) (hn : n ≤ 100) : ∃ D : List Node, m_impl_dawgOf R = some (⟨D⟩, 0) ∧ FewD n D ∧ wordsD D = R := by
  have htot := totA_le (R := R) (n := 6) fun w hw => (h.word w hw).2.2
  have hl := h.len
  obtain ⟨D, h1, h2, h3, h4⟩ := dawgOf_good R h.sorted h.ok (by omega) (by omega)
  have e : wordsD D = R := h3
  exact ⟨D, h1, ⟨h2, h4, by rw [e]; exact h⟩, e⟩
theorem FewD.valid {n : Nat} {D : List Node} (h : FewD n D) : m_impl_ValidDawg ⟨D⟩ = some true ∧ m_spec_l06Ok ⟨D⟩ = some true := by
  obtain ⟨r, h1, h2, h3⟩ := tests_agree ⟨D⟩ h.small
  have : r = true := h3.2 h.good
  subst this
  exact ⟨h1, h2⟩
theorem FewD.unique {n m : Nat} {D B : List Node} (h : FewD n D) (h' : FewD m B) (e : wordsD D = wordsD B) : D = B := by
  have e1 := h.good.num.canon
  have e2 := h'.good.num.canon
  have e3 : langA (ndL (D.map ndN)) 14 0 = langA (ndL (B.map ndN)) 14 0 := e
  rw [e3] at e1
  exact map_ndN_inj h.good.shape.node h'.good.shape.node (e1.trans e2.symm)
theorem same_val {n : Nat} {D : List Node} (h : FewD n D) : m_spec_SameDawg ⟨D⟩ ⟨D⟩ = some true := by
  have hmax := h.good.shape.max
  unfold m_spec_SameDawg
  rw [Same_eq ⟨D⟩ ⟨D⟩ (by simp only; omega) (fun x hx => by have := h.small x hx; omega)]
  simp
theorem drawn_code (code : Str) : ∃ D : List Node, m_spec_A2Dawg code = some ⟨D⟩ ∧ FewD 25 D := by
  obtain ⟨D, h1, h2, h3, h4, h5, h6⟩ := drawnD code
  refine ⟨D, h1, h2, h3, h5, h4, fun w hw => ?_⟩
  obtain ⟨q1, q2, q3⟩ := someD_ok.2 w (h6 w hw)
  exact ⟨q1, by omega, q3⟩
theorem sorted_inj {L : List Str} (hs : SortedW L) {i j : Nat} (hi : i < L.length) (hj : j < L.length) (e : L[i] = L[j]) : i = j := by
  rcases Nat.lt_trichotomy i j with h | h | h
  · have := List.pairwise_iff_getElem.1 hs i j hi hj h
    rw [e, ltS_irrefl] at this; cases this
  · exact h
  · have := List.pairwise_iff_getElem.1 hs j i hj hi h
    rw [e, ltS_irrefl] at this; cases this
theorem getD_in {L : List Str} {n : Nat} (h : n < L.length) : L.getD n [] = L[n] := by
  rw [List.getD_eq_getElem?_getD, List.getElem?_eq_getElem h]; rfl
theorem first_in {L : List Str} {w : Str} (hs : SortedW L) (hw : w ∈ L) {n : Nat} (h : IsFirst L w n) : ∃ hn : n < L.length, L[n] = w := by
  obtain ⟨i, hi, rfl⟩ := List.mem_iff_getElem.1 hw
  obtain ⟨h1, h2, h3⟩ := h
  have hni : n ≤ i := Nat.le_of_not_lt fun hlt => by
    have := h2 i hlt
    rw [getD_in hi, ltS_irrefl] at this; cases this
  have hn : n < L.length := by omega
  have h4 := h3 hn
  rw [getD_in hn] at h4
  refine ⟨hn, ?_⟩
  rcases Nat.lt_or_ge n i with hlt | hge
  · have := List.pairwise_iff_getElem.1 hs n i hn hi hlt
    rw [h4] at this; cases this
  · have : n = i := by omega
    subst this; rfl
theorem first_out {L : List Str} {w : Str} (hs : SortedW L) (hw : w ∉ L) {n : Nat} (h : IsFirst L w n) : (decide (n < L.length) && L.getD n [] == w) = false := by
  rw [Bool.and_eq_false_iff]
  rcases Nat.lt_or_ge n L.length with hn | hn
  · right
    rw [getD_in hn, beq_eq_false_iff_ne]
    intro e
    exact hw (e ▸ List.getElem_mem hn)
  · left
    exact decide_eq_false (by omega)
theorem drop_word {L : List Str} {w : Str} (hs : SortedW L) {n : Nat} (hn : n < L.length) (hw : L[n] = w) : SortedW (L.take n ++ L.drop (n + 1)) ∧ ∀ y, y ∈ L.take n ++ L.drop (n + 1) ↔ y ∈ L ∧ y ≠ w := by
  have e : L.take n ++ L.drop (n + 1) = L.eraseIdx n := (List.eraseIdx_eq_take_drop_succ L n).symm
  rw [e]
  refine ⟨hs.sublist (List.eraseIdx_sublist L n), fun y => ?_⟩
  rw [List.mem_eraseIdx_iff_getElem?]
  constructor
  · rintro ⟨i, hin, hi⟩
    obtain ⟨hi1, hi2⟩ := List.getElem?_eq_some_iff.1 hi
    refine ⟨hi2 ▸ List.getElem_mem hi1, fun e => hin ?_⟩
    exact sorted_inj hs hi1 hn (by rw [hi2, hw, e])
  · rintro ⟨hy, hne⟩
    obtain ⟨i, hi, rfl⟩ := List.mem_iff_getElem.1 hy
    refine ⟨i, fun e => hne ?_, List.getElem?_eq_getElem hi⟩
    subst e
    exact hw
theorem put_word {L : List Str} {w : Str} (hs : SortedW L) (hw : w ∉ L) {n : Nat} (h : IsFirst L w n) : SortedW (L.take n ++ [w] ++ L.drop n) ∧ ∀ y, y ∈ L.take n ++ [w] ++ L.drop n ↔ y ∈ L ∨ y = w := by
  obtain ⟨h1, h2, h3⟩ := h
  constructor
  · have hlt : ∀ a ∈ L.take n, ltS a w = true := fun a ha => by
      obtain ⟨k, hk, rfl⟩ := List.mem_iff_getElem.1 ha
      rw [List.length_take] at hk
      rw [List.getElem_take]
      have := h2 k (by omega)
      rwa [getD_in (by omega)] at this
    have hgt : ∀ b ∈ L.drop n, ltS w b = true := fun b hb => by
      obtain ⟨k, hk, rfl⟩ := List.mem_iff_getElem.1 hb
      rw [List.length_drop] at hk
      rw [List.getElem_drop]
      have hn : n < L.length := by omega
      have h4 := h3 hn
      rw [getD_in hn] at h4
      have h5 : ltS w L[n] = true := by
        rcases ltS_total w L[n] with q | q | q
        · exact q
        · exact absurd (q ▸ List.getElem_mem hn) hw
        · rw [q] at h4; cases h4
      rcases Nat.eq_zero_or_pos k with rfl | hk0
      · exact h5
      · exact ltS_trans h5 (List.pairwise_iff_getElem.1 hs n (n + k) hn (by omega) (by omega))
    unfold SortedW
    rw [List.pairwise_append, List.pairwise_append]
    refine ⟨⟨hs.sublist (List.take_sublist _ _), List.pairwise_singleton _ _, fun a ha b hb => ?_⟩, hs.sublist (List.drop_sublist _ _), fun a ha b hb => ?_⟩
    · rw [List.mem_singleton.1 hb]; exact hlt a ha
    · rcases List.mem_append.1 ha with ha | ha
      · exact ltS_trans (hlt a ha) (hgt b hb)
      · rw [List.mem_singleton.1 ha]; exact hgt b hb
  · intro y
    have e3 : y ∈ L ↔ y ∈ L.take n ∨ y ∈ L.drop n := by rw [← List.mem_append, List.take_append_drop]
    rw [List.mem_append, List.mem_append, List.mem_singleton, e3]
    constructor
    · rintro ((h | h) | h)
      · exact .inl (.inl h)
      · exact .inr h
      · exact .inl (.inr h)
    · rintro ((h | h) | h)
      · exact .inl (.inl h)
      · exact .inr h
      · exact .inl (.inr h)
end Go.Proofs.YtdaoecpkgobelaaGreatDoor
