/- FnChanges: words that are added and removed; changes that lead from one drawn automaton to another one. -/
import Derived.Test.YtdaoecpkgobelaaGreatDoorPureDr
namespace Go.Proofs.YtdaoecpkgobelaaGreatDoor
open Go Go.RowKit
set_option linter.unusedSimpArgs false
set_option linter.unusedVariables false
theorem isForm_small {w : Str} (h : w.all smB = true) (h1 : 1 ≤ w.length) (h6 : w.length ≤ 6) : m_impl_isForm w = some true := by
  have hrun := loop_run (step := fun s : Int => m_impl_isForm_l1 w s) (fun i => (i : Int)) w.length (.inl () : Unit ⊕ Bool) (fun i hi => by
      show m_impl_isForm_l1 w (i : Int) = _
      unfold m_impl_isForm_l1
      have hf : formB w[i] = true := form_small (List.all_eq_true.1 h _ (List.getElem_mem hi))
      rw [decide_eq_true (by omega), cond_true, getL_at hi, Option.bind_some, formByte_eq, Option.bind_some, hf, Bool.not_true, cond_false, chk_succ (by omega)]
      rfl)
    (by
      show m_impl_isForm_l1 w (w.length : Int) = _
      unfold m_impl_isForm_l1
      rw [decide_eq_false (by omega)]
      rfl) 0 (Nat.zero_le _)
  have hrun' : loopM (fun s : Int => m_impl_isForm_l1 w s) 0 = some (.inl ()) := hrun
  unfold m_impl_isForm
  rw [hrun']
  simp only [Option.bind_some]
  rw [decide_eq_true (by omega), cond_true, decide_eq_true (by omega), Option.bind_some]
theorem delete_val {L : List Str} {n : Nat} (hlt : n < L.length) : m_slices_Delete_string_string L (n : Int) ((n + 1 : Nat) : Int) = some (L.take n ++ L.drop (n + 1)) := by
  unfold m_slices_Delete_string_string
  rw [decide_eq_true (by omega : (0 : Int) ≤ (n : Int)), decide_eq_true (by omega : (n : Int) ≤ ((n + 1 : Nat) : Int)), decide_eq_true (by omega : ((n + 1 : Nat) : Int) ≤ (L.length : Int)), Int.toNat_natCast, Int.toNat_natCast]
  rfl
theorem removed_val {L : List Str} {w : Str} (hs : SortedW L) (hl : L.length ≤ 1000) (hw : w ∈ L) : ∃ L', m_impl_removed L w = some (L', 0) ∧ SortedW L' ∧ (∀ y, y ∈ L' ↔ y ∈ L ∧ y ≠ w) ∧ L'.length ≤ L.length := by
  obtain ⟨n, hn, hb⟩ := binary_eq L w (by omega) hs.rise
  obtain ⟨hlt, he⟩ := first_in hs hw hn
  obtain ⟨d1, d2⟩ := drop_word hs hlt he
  have hlen : (L.take n ++ L.drop (n + 1)).length ≤ L.length := by
    rw [List.length_append, List.length_take, List.length_drop]
    omega
  refine ⟨L.take n ++ L.drop (n + 1), ?_, d1, d2, hlen⟩
  have hb' : m_slices_BinarySearch_string_string L w = some ((n : Int), true) := by
    rw [hb, decide_eq_true hlt, Bool.true_and, getD_in hlt, he, beq_self_eq_true]
  unfold m_impl_removed
  rw [hb', Option.bind_some]
  dsimp only
  rw [Bool.not_true, cond_false, chk_succ (by omega), Option.bind_some, delete_val hlt, Option.bind_some]
theorem added_there {L : List Str} {w : Str} (hs : SortedW L) (hl : L.length ≤ 1000) (hf : m_impl_isForm w = some true) (hw : w ∈ L) : m_impl_added L w = some ([], 4) := by
  obtain ⟨n, hn, hb⟩ := binary_eq L w (by omega) hs.rise
  obtain ⟨hlt, he⟩ := first_in hs hw hn
  have hb' : m_slices_BinarySearch_string_string L w = some ((n : Int), true) := by
    rw [hb, decide_eq_true hlt, Bool.true_and, getD_in hlt, he, beq_self_eq_true]
  unfold m_impl_added
  rw [hf, Option.bind_some, Bool.not_true, cond_false, hb', Option.bind_some]
  rfl
theorem added_val {L : List Str} {w : Str} (hs : SortedW L) (hl : L.length ≤ 1000) (hf : m_impl_isForm w = some true) (hw : w ∉ L) : ∃ L', m_impl_added L w = some (L', 0) ∧ SortedW L' ∧ (∀ y, y ∈ L' ↔ y ∈ L ∨ y = w) ∧ L'.length = L.length + 1 := by
  obtain ⟨n, hn, hb⟩ := binary_eq L w (by omega) hs.rise
  have hn1 := hn.1
  obtain ⟨d1, d2⟩ := put_word hs hw hn
  refine ⟨L.take n ++ [w] ++ L.drop n, ?_, d1, d2, by simp; omega⟩
  have hb' : m_slices_BinarySearch_string_string L w = some ((n : Int), false) := by rw [hb, first_out hs hw hn]
  unfold m_impl_added
  rw [hf, Option.bind_some, Bool.not_true, cond_false, hb', Option.bind_some]
  simp only [cond_false]
  unfold m_slices_Insert_string_string
  rw [decide_eq_true (by omega : (0 : Int) ≤ (n : Int)), decide_eq_true (by omega : (n : Int) ≤ (L.length : Int)), decide_eq_true (by rfl : ([w] : List Str).length = 1), decide_eq_true (by omega : L.length ≤ 1000000)]
  rfl
theorem codeOf_0 : m_impl_codeOf 0 = some 0 := rfl
theorem codeOf_4 : m_impl_codeOf 4 = some 4 := rfl
theorem fits_loop (L : List Str) (hl : L.length ≤ 1000) (hw : ∀ w ∈ L, w.length ≤ 100) : loopM (fun s : Int × Int => m_impl_fits_l1 L s.1 s.2) (0, 1) = some (1 + (totA L : Int)) := by
  have htake : ∀ i, totA (L.take i) ≤ 100000 := fun i => by
    have h1 := totA_le (R := L.take i) (n := 100) fun w h => hw w (List.mem_of_mem_take h)
    rw [List.length_take] at h1
    omega
  refine loop_run2 (step := fun s : Int × Int => m_impl_fits_l1 L s.1 s.2) (fun i => ((i : Int), 1 + (totA (L.take i) : Int))) L.length _ (fun i hi => ?_) ?_ ?_
  · show m_impl_fits_l1 L (i : Int) (1 + (totA (L.take i) : Int)) = _
    have h1 := htake i
    have h2 := hw _ (List.getElem_mem hi)
    have e : totA (L.take (i + 1)) = totA (L.take i) + L[i].length := by
      unfold totA
      rw [List.take_add_one, List.getElem?_eq_getElem hi, List.map_append, List.sum_append]
      simp
    unfold m_impl_fits_l1
    rw [decide_eq_true (by omega), cond_true, getL_at hi, Option.bind_some, chk_in (by omega) (by omega), Option.bind_some, chk_succ (by omega), Option.bind_some, e]
    refine congrArg some (congrArg Sum.inl (Prod.ext rfl ?_))
    show (1 : Int) + (totA (L.take i) : Int) + (L[i].length : Int) = 1 + ((totA (L.take i) + L[i].length : Nat) : Int)
    omega
  · show m_impl_fits_l1 L (L.length : Int) (1 + (totA (L.take L.length) : Int)) = _
    unfold m_impl_fits_l1
    rw [decide_eq_false (by omega), cond_false, List.take_length]
  · simp [totA]
theorem fits_val (L : List Str) (hl : L.length ≤ 200) (hw : ∀ w ∈ L, w.length ≤ 6) : m_impl_fits L = some true := by
  have h1 := totA_le (R := L) (n := 6) hw
  unfold m_impl_fits
  rw [fits_loop L (by omega) (fun w h => Nat.le_trans (hw w h) (by omega)), Option.bind_some, Option.bind_some, decide_eq_true (by omega), cond_true, decide_eq_true (by omega), Option.bind_some, cond_true]
structure ChOk (W less more : List Str) : Prop where
  sub : ∀ y ∈ less, y ∈ W
  nless : less.Nodup
  nmore : more.Nodup
  apart : ∀ y ∈ more, y ∈ W → y ∈ less
  form : ∀ w ∈ more, w.all smB = true ∧ 1 ≤ w.length ∧ w.length ≤ 6
structure ChInv (W less more : List Str) (n i : Nat) (L : List Str) : Prop where
  short : ShortL (n + (i - less.length)) L
  mem : ∀ y, y ∈ L ↔ (y ∈ W ∧ y ∉ less.take i) ∨ y ∈ more.take (i - less.length)
theorem take_succ_mem {l : List Str} {i : Nat} (hi : i < l.length) (y : Str) : y ∈ l.take (i + 1) ↔ y ∈ l.take i ∨ y = l[i] := by
  rw [List.take_add_one, List.getElem?_eq_getElem hi, List.mem_append]
  simp
theorem not_taken {l : List Str} (h : l.Nodup) {i : Nat} (hi : i < l.length) : l[i] ∉ l.take i := fun hm => by
  obtain ⟨k, hk, e⟩ := List.mem_iff_getElem.1 hm
  rw [List.length_take] at hk
  rw [List.getElem_take] at e
  exact (List.pairwise_iff_getElem.1 h k i (by omega) hi (by omega)) e
theorem change_step {W less more : List Str} {n i : Nat} {L : List Str} (hc : ChOk W less more) (hI : ChInv W less more n i L) (hi : i < less.length + more.length) (hl : n + more.length ≤ 100) (hll : less.length ≤ 1000) :
    ∃ L', m_impl_ChangeDawg_l1 less more L (i : Int) = some (.inl (L', ((i + 1 : Nat) : Int))) ∧ ChInv W less more n (i + 1) L' := by
  have hLl := hI.short.len
  have hsix : ∀ {m : Nat} {R : List Str}, ShortL m R → ∀ w ∈ R, w.length ≤ 6 := fun h w hw => (h.word w hw).2.2
  rcases Nat.lt_or_ge i less.length with hil | hil
  · have hw : less[i] ∈ L := (hI.mem _).2 (.inl ⟨hc.sub _ (List.getElem_mem hil), not_taken hc.nless hil⟩)
    obtain ⟨L', r1, r2, r3, r4⟩ := removed_val hI.short.sorted (by omega) hw
    have hS : ShortL (n + (i + 1 - less.length)) L' := ⟨r2, by omega, fun w h => hI.short.word w ((r3 w).1 h).1⟩
    refine ⟨L', ?_, hS, fun y => ?_⟩
    · have hlen := hS.len
      unfold m_impl_ChangeDawg_l1
      rw [chk_in (by omega) (by omega), Option.bind_some, decide_eq_true (by omega), cond_true, decide_eq_true (by omega), cond_true, getL_at hil, Option.bind_some, r1, Option.bind_some, Option.bind_some]
      simp only [codeOf_0, Option.bind_some, bne_self_eq_false, cond_false]
      rw [fits_val L' (by omega) (hsix hS), Option.bind_some, Bool.not_true, cond_false, chk_succ (by omega)]
      rfl
    · rw [r3, hI.mem, take_succ_mem hil]
      have e1 : i - less.length = 0 := by omega
      have e2 : i + 1 - less.length = 0 := by omega
      rw [e1, e2]
      simp only [List.take_zero, List.not_mem_nil, or_false, not_or]
      constructor
      · rintro ⟨⟨h1, h2⟩, h3⟩; exact ⟨h1, h2, h3⟩
      · rintro ⟨h1, h2, h3⟩; exact ⟨⟨h1, h2⟩, h3⟩
  · obtain ⟨k, rfl⟩ : ∃ k, i = less.length + k := ⟨i - less.length, by omega⟩
    have hk : k < more.length := by omega
    have e1 : less.length + k - less.length = k := by omega
    have e2 : less.length + k + 1 - less.length = k + 1 := by omega
    have et1 : less.take (less.length + k) = less := List.take_of_length_le (by omega)
    have et2 : less.take (less.length + k + 1) = less := List.take_of_length_le (by omega)
    have hw : more[k] ∉ L := fun h => by
      rcases (hI.mem _).1 h with ⟨h1, h2⟩ | h1
      · rw [et1] at h2
        exact h2 (hc.apart _ (List.getElem_mem hk) h1)
      · rw [e1] at h1
        exact not_taken hc.nmore hk h1
    have hfm := hc.form _ (List.getElem_mem hk)
    obtain ⟨L', r1, r2, r3, r4⟩ := added_val hI.short.sorted (by omega) (isForm_small hfm.1 hfm.2.1 hfm.2.2) hw
    have hS : ShortL (n + (less.length + k + 1 - less.length)) L' := ⟨r2, by omega, fun w h => ((r3 w).1 h).elim (hI.short.word w) fun e => e ▸ hfm⟩
    refine ⟨L', ?_, hS, fun y => ?_⟩
    · have hlen := hS.len
      unfold m_impl_ChangeDawg_l1
      rw [chk_in (by omega) (by omega), Option.bind_some, decide_eq_true (by omega), cond_true, decide_eq_false (by omega), cond_false, chk_to (k : Int) (by omega) (by omega) (by omega), Option.bind_some, getL_at hk, Option.bind_some, r1, Option.bind_some, Option.bind_some]
      simp only [codeOf_0, Option.bind_some, bne_self_eq_false, cond_false]
      rw [fits_val L' (by omega) (hsix hS), Option.bind_some, Bool.not_true, cond_false, chk_succ (by omega)]
      rfl
    · rw [r3, hI.mem, e1, e2, et1, et2, take_succ_mem hk]
      constructor
      · rintro ((h | h) | h)
        · exact .inl h
        · exact .inr (.inl h)
        · exact .inr (.inr h)
      · rintro (h | h | h)
        · exact .inl (.inl h)
        · exact .inl (.inr h)
        · exact .inr h
theorem change_run {W less more : List Str} {n : Nat} (hc : ChOk W less more) (hl : n + more.length ≤ 100) (hll : less.length ≤ 1000) : ∀ (k i : Nat) (L : List Str), i + k = less.length + more.length → ChInv W less more n i L →
    ∃ L', loopM (fun s : (List Str) × Int => m_impl_ChangeDawg_l1 less more s.1 s.2) (L, (i : Int)) = some (.inl L') ∧ ChInv W less more n (less.length + more.length) L'
  | 0, i, L, hi, hI => by
    obtain rfl : i = less.length + more.length := by omega
    refine ⟨L, loopM_done ?_, hI⟩
    show m_impl_ChangeDawg_l1 less more L ((less.length + more.length : Nat) : Int) = _
    unfold m_impl_ChangeDawg_l1
    rw [chk_in (by omega) (by omega), Option.bind_some, decide_eq_false (by omega), cond_false]
  | k + 1, i, L, hi, hI => by
    obtain ⟨L1, h1, h2⟩ := change_step hc hI (by omega) hl hll
    obtain ⟨L', h3, h4⟩ := change_run hc hl hll k (i + 1) L1 (by omega) h2
    exact ⟨L', by rw [loopM_next (step := fun s : (List Str) × Int => m_impl_ChangeDawg_l1 less more s.1 s.2) h1]; exact h3, h4⟩
theorem FewD.wordsP {n : Nat} {D : List Node} (h : FewD n D) : m_impl_Dawg_words ⟨D⟩ = some (wordsD D) := words_eq ⟨D⟩ h.good h.small
theorem change_val {n : Nat} {A less more : List Str} {D : List Node} (hD : FewD n D) (hc : ChOk (wordsD D) less more) (hl : n + more.length ≤ 100) (hll : less.length ≤ 1000) :
    ∃ B, m_impl_ChangeDawg ⟨D⟩ less more = some (⟨B⟩, 0) ∧ FewD (n + more.length) B ∧ ∀ y, y ∈ wordsD B ↔ (y ∈ wordsD D ∧ y ∉ less) ∨ y ∈ more := by
  have h0 : ChInv (wordsD D) less more n 0 (wordsD D) := ⟨by
    have := hD.words
    exact ⟨this.sorted, by have := this.len; omega, this.word⟩, fun y => by simp⟩
  obtain ⟨L, h1, h2⟩ := change_run hc hl hll (less.length + more.length) 0 (wordsD D) (by omega) h0
  have e : less.length + more.length - less.length = more.length := by omega
  have hS : ShortL (n + more.length) L := by have := h2.short; rw [e] at this; exact this
  have hm : ∀ y, y ∈ L ↔ (y ∈ wordsD D ∧ y ∉ less) ∨ y ∈ more := fun y => by
    have := h2.mem y
    rw [e, List.take_of_length_le (by omega : less.length ≤ less.length + more.length), List.take_of_length_le (Nat.le_refl more.length)] at this
    exact this
  obtain ⟨B, b1, b2, b3⟩ := drawn_of hS (by omega)
  refine ⟨B, ?_, b2, fun y => by rw [b3]; exact hm y⟩
  have h1' : loopM (fun s : (List Str) × Int => m_impl_ChangeDawg_l1 less more s.1 s.2) (wordsD D, 0) = some (.inl L) := h1
  unfold m_impl_ChangeDawg
  rw [hD.valid.1, Option.bind_some, Bool.not_true, cond_false, hD.wordsP, Option.bind_some, h1']
  simp only [Option.bind_some]
  rw [b1, Option.bind_some]
theorem add_there {n : Nat} {D : List Node} (hD : FewD n D) (hn : n ≤ 100) {w : Str} (hf : w.all smB = true ∧ 1 ≤ w.length ∧ w.length ≤ 6) (hw : w ∈ wordsD D) : m_impl_AddToDawg ⟨D⟩ w = some (⟨[]⟩, 4) := by
  have hlen := hD.words.len
  have hstep : m_impl_ChangeDawg_l1 ([] : List Str) [w] (wordsD D) 0 = some (.inr (.inr (⟨[]⟩, 4))) := by
    unfold m_impl_ChangeDawg_l1
    rw [chk_in (by simp) (by simp), Option.bind_some, decide_eq_true (by simp), cond_true, decide_eq_false (by simp), cond_false, chk_to ((0 : Nat) : Int) (by simp) (by simp) (by simp), Option.bind_some, getL_at (xs := [w]) (i := 0) (by simp), Option.bind_some]
    rw [show ([w] : List Str)[0] = w from rfl, added_there hD.words.sorted (by omega) (isForm_small hf.1 hf.2.1 hf.2.2) hw, Option.bind_some, Option.bind_some]
    simp only [codeOf_4, Option.bind_some]
    rfl
  have hrun : loopM (fun s : (List Str) × Int => m_impl_ChangeDawg_l1 ([] : List Str) [w] s.1 s.2) (wordsD D, 0) = some (.inr (⟨[]⟩, 4)) := loopM_done hstep
  unfold m_impl_AddToDawg m_impl_ChangeDawg
  rw [hD.valid.1, Option.bind_some, Bool.not_true, cond_false, hD.wordsP, Option.bind_some, hrun]
  rfl
theorem accS_val {n : Nat} {D : List Node} (hD : FewD n D) {w : Str} (hw : w.length ≤ 1000) : m_spec_AcceptsWord ⟨D⟩ w = some (decide (w ∈ wordsD D)) := by
  unfold m_spec_AcceptsWord
  rw [hD.valid.2, Option.bind_some, cond_true, acceptsS_eq ⟨D⟩ hD.good.shape hD.small w (by omega), Option.bind_some, Option.bind_some]
  show some (accA (ndD D) w) = _
  rw [acc_in hD.good]
theorem changes_val {n m : Nat} {A B : List Node} (hA : FewD n A) (hB : FewD m B) : m_impl_DawgChanges ⟨A⟩ ⟨B⟩ = some ((wordsD A).filter (fun t => decide (t ∈ wordsD B) == false), (wordsD B).filter (fun t => decide (t ∈ wordsD A) == false), 0) := by
  have p1 := chosen_eq ⟨A⟩ ⟨B⟩ hA.good hB.good hA.small hB.small (fun u => m_impl_minus_has (⟨⟨A⟩, ⟨B⟩⟩ : minus) u) _ (fun w hw => minus_has ⟨A⟩ ⟨B⟩ hA.good hB.good hA.small hB.small w hw)
  have p2 := chosen_eq ⟨A⟩ ⟨B⟩ hA.good hB.good hA.small hB.small (fun u => m_impl_minus_has (⟨⟨B⟩, ⟨A⟩⟩ : minus) u) _ (fun w hw => minus_has ⟨B⟩ ⟨A⟩ hB.good hA.good hB.small hA.small w hw)
  rw [only_same hA.words.sorted hB.words.sorted] at p1
  rw [only_same' hA.words.sorted hB.words.sorted] at p2
  unfold m_impl_DawgChanges
  rw [hA.valid.1, hB.valid.1]
  simp only [Option.bind_some, Bool.not_true, cond_false]
  rw [p1, Option.bind_some, p2, Option.bind_some]
theorem SortedW.nodup {L : List Str} (h : SortedW L) : L.Nodup := h.imp fun h e => by rw [e, ltS_irrefl] at h; cases h
theorem change_to {n m : Nat} {A B : List Node} (hA : FewD n A) (hB : FewD m B) (hnm : n + m ≤ 100) : m_impl_ChangeDawg ⟨A⟩ ((wordsD A).filter (fun t => decide (t ∈ wordsD B) == false)) ((wordsD B).filter (fun t => decide (t ∈ wordsD A) == false)) = some (⟨B⟩, 0) := by
  have lA := hA.words.len
  have lB := hB.words.len
  have f1 := List.length_filter_le (fun t => decide (t ∈ wordsD B) == false) (wordsD A)
  have f2 := List.length_filter_le (fun t => decide (t ∈ wordsD A) == false) (wordsD B)
  have hc : ChOk (wordsD A) ((wordsD A).filter (fun t => decide (t ∈ wordsD B) == false)) ((wordsD B).filter (fun t => decide (t ∈ wordsD A) == false)) :=
    ⟨fun y hy => (List.mem_filter.1 hy).1, (SortedW.nodup hA.words.sorted).filter _, (SortedW.nodup hB.words.sorted).filter _, fun y hy hyA => by
      have := (List.mem_filter.1 hy).2
      simp [hyA] at this, fun w hw => hB.words.word w (List.mem_filter.1 hw).1⟩
  obtain ⟨C, c1, c2, c3⟩ := change_val (A := []) hA hc (by omega) (by omega)
  have e : C = B := c2.unique hB (sortedW_ext c2.words.sorted hB.words.sorted fun y => by
    rw [c3, List.mem_filter, List.mem_filter]
    by_cases h1 : y ∈ wordsD A <;> by_cases h2 : y ∈ wordsD B <;> simp [h1, h2])
  rw [c1, e]
theorem m_laws_FnChanges_true (code : Str) (more : Str) (h : Lies (sliceRep byteRep) code) (h' : Lies (sliceRep byteRep) more) : m_laws_FnChanges code more = some true := by
  unfold m_laws_FnChanges
  obtain ⟨q, hq⟩ : ∃ q, m_laws_a2Long code more = some q := by
    unfold m_laws_a2Long
    by_cases h1 : (3000 : Int) < (code.length : Int)
    · rw [decide_eq_true h1]; exact ⟨_, rfl⟩
    · rw [decide_eq_false h1]; exact ⟨_, rfl⟩
  rw [hq, Option.bind_some]
  cases q with
  | true => rfl
  | false =>
    rw [cond_false]
    obtain ⟨A, a1, a2⟩ := drawn_code code
    obtain ⟨B, b1, b2⟩ := drawn_code more
    obtain ⟨w, w1, w2⟩ := A2Word_val more
    obtain ⟨q1, q2, q3⟩ := someD_ok.2 w w2
    have hf : w.all smB = true ∧ 1 ≤ w.length ∧ w.length ≤ 6 := ⟨q1, by omega, q3⟩
    have c1 := change_to a2 b2 (by omega)
    have c2 := change_to b2 a2 (by omega)
    have c3 := changes_val a2 b2
    have lA := a2.words.len
    have tail : ((m_impl_DawgChanges ⟨A⟩ ⟨B⟩).bind fun y125 =>
      (m_impl_ChangeDawg ⟨A⟩ y125.1 y125.2.1).bind fun y135 =>
      (m_impl_ChangeDawg ⟨B⟩ y125.2.1 y125.1).bind fun y150 =>
      (
          bif y125.2.2 == 0 then
            bif y135.2 == 0 then
              bif y150.2 == 0 then
                (m_spec_SameDawg y135.1 ⟨B⟩).bind fun y172 =>
                bif y172 then
                  (m_spec_SameDawg y150.1 ⟨A⟩).bind fun y178 =>
                  some y178
                else
                  some false
              else
                some false
            else
              some false
          else
            some false : Option Bool).bind fun b165 =>
      some b165) = some true := by
      rw [c3, Option.bind_some]
      dsimp only
      rw [c1, Option.bind_some, c2, Option.bind_some]
      simp only [beq_self_eq_true, cond_true]
      rw [same_val b2, Option.bind_some, cond_true, same_val a2]
      rfl
    rw [a1, Option.bind_some, b1, Option.bind_some, w1, Option.bind_some]
    by_cases hw : w ∈ wordsD A
    · rw [add_there a2 (by omega) hf hw, Option.bind_some]
      have hb : ((4 : Int) == 0) = false := by decide
      have hb' : ((4 : Int) != 4) = false := by decide
      simp only [hb, hb', cond_false]
      rw [accS_val a2 (by omega), decide_eq_true hw]
      simp only [Option.bind_some, Bool.not_true, cond_false]
      exact tail
    · obtain ⟨P, p1, p2, p3⟩ := change_val (A := []) (less := []) (more := [w]) a2 ⟨by simp, List.nodup_nil, by simp, by simpa using hw, by simpa using hf⟩ (by simp) (by simp)
      have hwP : w ∈ wordsD P := (p3 w).2 (.inr (by simp))
      obtain ⟨R, r1, r2, r3⟩ := change_val (A := []) (less := [w]) (more := []) p2 ⟨by simpa using hwP, by simp, List.nodup_nil, by simp, by simp⟩ (by simp) (by simp)
      have e : R = A := r2.unique a2 (sortedW_ext r2.words.sorted a2.words.sorted fun y => by
        rw [r3, p3]
        by_cases hy : y = w
        · subst hy; simp [hw]
        · simp [hy])
      subst e
      have hadd : m_impl_AddToDawg ⟨R⟩ w = some (⟨P⟩, 0) := by
        unfold m_impl_AddToDawg
        rw [p1]
        rfl
      have hrem : m_impl_RemoveFromDawg ⟨P⟩ w = some (⟨R⟩, 0) := by
        unfold m_impl_RemoveFromDawg
        rw [r1]
        rfl
      rw [hadd, Option.bind_some]
      simp only [beq_self_eq_true, cond_true]
      rw [hrem, Option.bind_some]
      simp only [bne_self_eq_false, cond_false]
      rw [same_val a2, Option.bind_some, Bool.not_true, cond_false, accS_val p2 (by omega), decide_eq_true hwP]
      simp only [Option.bind_some, Bool.not_true, cond_false]
      exact tail
end Go.Proofs.YtdaoecpkgobelaaGreatDoor
