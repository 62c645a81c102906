/- FnSets: what is made of two drawn automata is as the law says. -/
import Derived.Test.YtccoeheoifbpcaaGreatDoorPureSet
namespace Go.Proofs.YtccoeheoifbpcaaGreatDoor
open Go Go.RowKit
set_option linter.unusedSimpArgs false
set_option linter.unusedVariables false
structure ShortL (n : Nat) (R : List Str) : Prop where
  sorted : SortedW R
  len : R.length ≤ n
  word : ∀ w ∈ R, w.all smB = true ∧ 1 ≤ w.length ∧ w.length ≤ 6
theorem ShortL.ok {n : Nat} {R : List Str} (h : ShortL n R) : ∀ w ∈ R, w ≠ [] ∧ w.length ≤ 13 ∧ ∀ c ∈ w, formB c = true := fun w hw => by
  obtain ⟨q1, q2, q3⟩ := h.word w hw
  refine ⟨?_, by omega, fun c hc => form_small (List.all_eq_true.1 q1 c hc)⟩
  rintro rfl
  simp at q2
structure Drawn (n : Nat) (D : List Node) : Prop where
  good : GoodD D
  small : ∀ x ∈ D, x.Next.length ≤ 2000000
  words : ShortL n (wordsD D)
theorem drawn_of {n : Nat} {R : List Str} (h : ShortL n R) (hn : n ≤ 100) : ∃ D : List Node, m_impl_dawgOf R = some (⟨D⟩, 0) ∧ Drawn n D ∧ wordsD D = R := by
  have htot := totA_le (R := R) (n := 6) fun w hw => (h.word w hw).2.2
  have hl := h.len
  obtain ⟨D, h1, h2, h3, h4⟩ := dawgOf_good R h.sorted h.ok (by omega) (by omega)
  have e : wordsD D = R := h3
  exact ⟨D, h1, ⟨h2, h4, by rw [e]; exact h⟩, e⟩
theorem Drawn.valid {n : Nat} {D : List Node} (h : Drawn n D) : m_impl_ValidDawg ⟨D⟩ = some true ∧ m_spec_l06Ok ⟨D⟩ = some true := by
  obtain ⟨r, h1, h2, h3⟩ := tests_agree ⟨D⟩ h.small
  have : r = true := h3.2 h.good
  subst this
  exact ⟨h1, h2⟩
theorem Drawn.unique {n m : Nat} {D B : List Node} (h : Drawn n D) (h' : Drawn m B) (e : wordsD D = wordsD B) : D = B := by
  have e1 := h.good.num.canon
  have e2 := h'.good.num.canon
  have e3 : langA (ndL (D.map ndN)) 14 0 = langA (ndL (B.map ndN)) 14 0 := e
  rw [e3] at e1
  exact map_ndN_inj h.good.shape.node h'.good.shape.node (e1.trans e2.symm)
theorem combined_val {n m : Nat} {A B : List Node} (hA : Drawn n A) (hB : Drawn m B) (is : Str → Option Bool) (p : Str → Bool) (hp : ∀ w : Str, w.length ≤ 13 → is w = some (p w)) :
    m_impl_combined ⟨A⟩ ⟨B⟩ is = m_impl_dawgOf ((bothW (wordsD A) (wordsD B)).filter p) := by
  unfold m_impl_combined
  rw [hA.valid.1, hB.valid.1]
  simp only [Option.bind_some, Bool.not_true, cond_false]
  rw [chosen_eq ⟨A⟩ ⟨B⟩ hA.good hB.good hA.small hB.small is p hp, Option.bind_some]
  cases m_impl_dawgOf ((bothW (wordsD A) (wordsD B)).filter p) <;> rfl
theorem both_short {n m : Nat} {a b : List Str} (ha : ShortL n a) (hb : ShortL m b) (p : Str → Bool) : ShortL (n + m) ((bothW a b).filter p) := by
  have h1 := bothW_len a b
  have h2 := ha.len
  have h3 := hb.len
  have h4 := List.length_filter_le p (bothW a b)
  refine ⟨(bothW_sorted a b).filter _, by omega, fun w hw => ?_⟩
  rcases (bothW_mem a b w).1 (List.mem_filter.1 hw).1 with h | h
  · exact ha.word w h
  · exact hb.word w h
theorem union_val {n m : Nat} {A B : List Node} (hA : Drawn n A) (hB : Drawn m B) (hn : n + m ≤ 100) : ∃ D, m_impl_UnionDawg ⟨A⟩ ⟨B⟩ = some (⟨D⟩, 0) ∧ Drawn (n + m) D ∧ wordsD D = bothW (wordsD A) (wordsD B) := by
  obtain ⟨D, h1, h2, h3⟩ := drawn_of (both_short hA.words hB.words fun w => decide (w ∈ wordsD A) || decide (w ∈ wordsD B)) hn
  rw [all_same] at h3
  refine ⟨D, ?_, h2, h3⟩
  unfold m_impl_UnionDawg
  rw [combined_val hA hB _ _ (fun w hw => union_has ⟨A⟩ ⟨B⟩ hA.good hB.good hA.small hB.small w hw), h1]
  rfl
theorem meet_val {n m : Nat} {A B : List Node} (hA : Drawn n A) (hB : Drawn m B) (hn : n + m ≤ 100) : ∃ D, m_impl_MeetDawg ⟨A⟩ ⟨B⟩ = some (⟨D⟩, 0) ∧ Drawn (n + m) D ∧ wordsD D = (wordsD A).filter fun t => decide (t ∈ wordsD B) == true := by
  obtain ⟨D, h1, h2, h3⟩ := drawn_of (both_short hA.words hB.words fun w => decide (w ∈ wordsD A) && decide (w ∈ wordsD B)) hn
  rw [meet_same hA.words.sorted hB.words.sorted] at h3
  refine ⟨D, ?_, h2, h3⟩
  unfold m_impl_MeetDawg
  rw [combined_val hA hB _ _ (fun w hw => inter_has ⟨A⟩ ⟨B⟩ hA.good hB.good hA.small hB.small w hw), h1]
  rfl
theorem minus_val {n m : Nat} {A B : List Node} (hA : Drawn n A) (hB : Drawn m B) (hn : n + m ≤ 100) : ∃ D, m_impl_MinusDawg ⟨A⟩ ⟨B⟩ = some (⟨D⟩, 0) ∧ Drawn (n + m) D ∧ wordsD D = (wordsD A).filter fun t => decide (t ∈ wordsD B) == false := by
  obtain ⟨D, h1, h2, h3⟩ := drawn_of (both_short hA.words hB.words fun w => decide (w ∈ wordsD A) && !decide (w ∈ wordsD B)) hn
  rw [only_same hA.words.sorted hB.words.sorted] at h3
  refine ⟨D, ?_, h2, h3⟩
  unfold m_impl_MinusDawg
  rw [combined_val hA hB _ _ (fun w hw => minus_has ⟨A⟩ ⟨B⟩ hA.good hB.good hA.small hB.small w hw), h1]
  rfl
theorem words_val {n : Nat} {D : List Node} (h : Drawn n D) : m_impl_WordsOf ⟨D⟩ = some (wordsD D, 0) ∧ m_spec_WordsOf ⟨D⟩ = some (wordsD D, 0) := by
  constructor
  · unfold m_impl_WordsOf
    rw [h.valid.1, Option.bind_some, Bool.not_true, cond_false, words_eq ⟨D⟩ h.good h.small, Option.bind_some]
    rfl
  · have hL := List_eq ⟨D⟩ h.good h.small
    unfold m_spec_l08List at hL
    unfold m_spec_WordsOf
    rw [h.valid.2, Option.bind_some, Bool.not_true, cond_false]
    cases hw : m_spec_l06Words ⟨D⟩ with
    | none => rw [hw] at hL; cases hL
    | some v =>
      rw [hw, Option.bind_some] at hL
      rw [Option.bind_some, Option.some.inj hL]
/-! ### Words turned round -/
theorem getM_mid (P t : Str) (x : UInt8) {i : Int} (hi : i = P.length) : getL (P ++ x :: t) i = some x := by rw [hi]; exact getL_mid P t x
theorem setM_mid (P t : Str) (x y : UInt8) {i : Int} (hi : i = P.length) : setL (P ++ x :: t) i y = some (P ++ y :: t) := by rw [hi]; exact setL_mid P t x y
theorem turn_loop : ∀ (k : Nat) (m P Q : Str), m.length ≤ k → (P ++ m ++ Q).length ≤ 1000 →
    loopM (fun s : Str × Int × Int => m_slices_Reverse_byte_byte_l1 s.1 s.2.1 s.2.2) (P ++ m ++ Q, (P.length : Int), (P.length : Int) + m.length - 1) = some (P ++ m.reverse ++ Q)
  | k, [], P, Q, hk, hl => by
    refine loopM_done ?_
    show m_slices_Reverse_byte_byte_l1 (P ++ [] ++ Q) (P.length : Int) ((P.length : Int) + (([] : Str).length : Nat) - 1) = _
    unfold m_slices_Reverse_byte_byte_l1
    rw [decide_eq_false (by simp only [List.length_nil]; omega), cond_false]
    rfl
  | k, [x], P, Q, hk, hl => by
    refine loopM_done ?_
    show m_slices_Reverse_byte_byte_l1 (P ++ [x] ++ Q) (P.length : Int) ((P.length : Int) + (([x] : Str).length : Nat) - 1) = _
    unfold m_slices_Reverse_byte_byte_l1
    rw [decide_eq_false (by simp), cond_false]
    rfl
  | 0, a :: b :: t, P, Q, hk, hl => by simp at hk
  | k + 1, a :: c :: t, P, Q, hk, hl => by
    obtain ⟨m, b, hm⟩ : ∃ m b, c :: t = m ++ [b] := by
      rcases nil_or_snoc (c :: t) with h | h
      · cases h
      · exact h
    rw [hm] at hk hl ⊢
    simp only [List.length_append, List.length_cons, List.length_nil] at hk hl
    have ih := turn_loop k m (P ++ [b]) (a :: Q) (by omega) (by simp; omega)
    have e1 : P ++ a :: (m ++ [b]) ++ Q = P ++ a :: (m ++ b :: Q) := by simp
    have e2 : P ++ a :: (m ++ b :: Q) = (P ++ a :: m) ++ b :: Q := by simp
    have e3 : P ++ b :: (m ++ b :: Q) = (P ++ b :: m) ++ b :: Q := by simp
    have e4 : (P ++ b :: m) ++ a :: Q = (P ++ [b]) ++ m ++ (a :: Q) := by simp
    have hst : m_slices_Reverse_byte_byte_l1 (P ++ a :: (m ++ [b]) ++ Q) (P.length : Int) ((P.length : Int) + ((a :: (m ++ [b])).length : Nat) - 1) = some (.inl ((P ++ [b]) ++ m ++ (a :: Q), ((P ++ [b]).length : Int), ((P ++ [b]).length : Int) + (m.length : Nat) - 1)) := by
      have hj : (P.length : Int) + ((a :: (m ++ [b])).length : Nat) - 1 = ((P ++ a :: m).length : Nat) := by simp; omega
      have hj' : ((P ++ a :: m).length : Int) = ((P ++ b :: m).length : Nat) := by simp
      rw [hj]
      unfold m_slices_Reverse_byte_byte_l1
      rw [decide_eq_true (by simp; omega), cond_true, e1, e2, getM_mid (P ++ a :: m) Q b rfl, Option.bind_some, ← e2, getM_mid P _ a rfl, Option.bind_some, Option.bind_some, setM_mid P _ a b rfl, Option.bind_some, e3, getM_mid (P ++ b :: m) Q b hj', Option.bind_some, setM_mid (P ++ b :: m) Q b a hj', Option.bind_some, chk_in (by omega) (by omega), Option.bind_some, chk_in (by rw [List.length_append, List.length_cons]; omega) (by rw [List.length_append, List.length_cons]; omega), Option.bind_some, e4]
      simp only [List.length_append, List.length_cons, List.length_nil]
      refine congrArg some (congrArg Sum.inl (Prod.ext rfl (Prod.ext ?_ ?_)))
      · show _ = _
        push_cast
        omega
      · show _ = _
        push_cast
        omega
    rw [loopM_next (step := fun s : Str × Int × Int => m_slices_Reverse_byte_byte_l1 s.1 s.2.1 s.2.2) hst, ih]
    simp
theorem reversed_eq (w : Str) (hw : w.length ≤ 100) : m_impl_reversed w = some w.reverse := by
  have h := turn_loop w.length w [] [] (Nat.le_refl _) (by simp; omega)
  simp only [List.nil_append, List.append_nil, List.length_nil] at h
  unfold m_impl_reversed m_slices_Reverse_byte_byte
  rw [chk_in (by omega) (by omega), Option.bind_some]
  rw [show ((w.length : Int) - 1) = ((0 : Nat) : Int) + (w.length : Nat) - 1 by omega]
  have h' : loopM (fun s : Str × Int × Int => m_slices_Reverse_byte_byte_l1 s.1 s.2.1 s.2.2) (w, 0, ((0 : Nat) : Int) + (w.length : Nat) - 1) = some w.reverse := h
  rw [h']
  rfl
theorem turn_all (L : List Str) (hl : L.length ≤ 1000) (hw : ∀ w ∈ L, w.length ≤ 100) : loopM (fun s : (List Str) × Int => m_impl_ReverseDawg_l1 L s.1 s.2) (([] : (List Str)), 0) = some (L.map List.reverse) := by
  refine loop_run2 (step := fun s : List Str × Int => m_impl_ReverseDawg_l1 L s.1 s.2) (fun i => ((L.take i).map List.reverse, (i : Int))) L.length _ (fun i hi => ?_) ?_ rfl
  · show m_impl_ReverseDawg_l1 L ((L.take i).map List.reverse) (i : Int) = _
    unfold m_impl_ReverseDawg_l1
    have e : (L.take (i + 1)).map List.reverse = (L.take i).map List.reverse ++ [L[i].reverse] := by
      rw [List.take_add_one, List.getElem?_eq_getElem hi, List.map_append]
      rfl
    rw [decide_eq_true (by omega), cond_true, getL_at hi, Option.bind_some, reversed_eq _ (hw _ (List.getElem_mem hi)), Option.bind_some, catL_of (by simp; omega), Option.bind_some, chk_succ (by omega), e]
    rfl
  · show m_impl_ReverseDawg_l1 L ((L.take L.length).map List.reverse) (L.length : Int) = _
    unfold m_impl_ReverseDawg_l1
    rw [decide_eq_false (by omega), cond_false, List.take_length]
def turnW (L : List Str) : List Str := (L.map List.reverse).mergeSort fun x y => decide (x ≤ y)
theorem turnW_mem (L : List Str) (y : Str) : y ∈ turnW L ↔ y.reverse ∈ L := by
  unfold turnW
  rw [List.mem_mergeSort, List.mem_map]
  constructor
  · rintro ⟨x, hx, rfl⟩
    rwa [List.reverse_reverse]
  · intro h
    exact ⟨y.reverse, h, List.reverse_reverse y⟩
theorem turnW_sorted {L : List Str} (h : SortedW L) : SortedW (turnW L) := by
  have h1 : L.Nodup := h.imp fun h e => by rw [e, ltS_irrefl] at h; cases h
  have h2 : (L.map List.reverse).Nodup := List.Pairwise.map _ (fun a b hab e => hab (by have := congrArg List.reverse e; simpa using this)) h1
  have h3 : (turnW L).Nodup := (List.mergeSort_perm _ _).nodup_iff.2 h2
  have h4 := sortE (L.map List.reverse)
  refine (List.pairwise_and_iff.2 ⟨h4, h3⟩).imp ?_
  rintro a b ⟨q1, q2⟩
  rcases ltS_total a b with q | q | q
  · exact q
  · exact absurd q q2
  · rw [q1] at q; cases q
theorem turnW_short {n : Nat} {L : List Str} (h : ShortL n L) : ShortL n (turnW L) := by
  refine ⟨turnW_sorted h.sorted, ?_, fun w hw => ?_⟩
  · unfold turnW
    rw [List.length_mergeSort, List.length_map]
    exact h.len
  · have := h.word _ ((turnW_mem L w).1 hw)
    simpa using this
theorem turnW_twice {L : List Str} (h : SortedW L) : turnW (turnW L) = L :=
  sortedW_ext (turnW_sorted (turnW_sorted h)) h fun y => by rw [turnW_mem, turnW_mem, List.reverse_reverse]
theorem reverse_val {n : Nat} {D : List Node} (h : Drawn n D) (hn : n ≤ 100) : ∃ B, m_impl_ReverseDawg ⟨D⟩ = some (⟨B⟩, 0) ∧ Drawn n B ∧ wordsD B = turnW (wordsD D) := by
  obtain ⟨B, h1, h2, h3⟩ := drawn_of (turnW_short h.words) hn
  refine ⟨B, ?_, h2, h3⟩
  have hl := h.words.len
  unfold m_impl_ReverseDawg
  rw [h.valid.1, Option.bind_some, Bool.not_true, cond_false, show m_impl_Dawg_words ⟨D⟩ = some (wordsD D) from words_eq ⟨D⟩ h.good h.small, Option.bind_some, turn_all _ (by omega) (fun w hw => by have := (h.words.word w hw).2.2; omega), Option.bind_some, Option.bind_some]
  unfold m_slices_Sort_string_string
  rw [decide_eq_true (by rw [List.length_map]; unfold lim; omega), cond_true, Option.bind_some]
  show (m_impl_dawgOf (turnW (wordsD D))).bind _ = _
  rw [h1]
  rfl
theorem same_val {n : Nat} {D : List Node} (h : Drawn n D) : m_spec_SameDawg ⟨D⟩ ⟨D⟩ = some true := by
  have hmax := h.good.shape.max
  unfold m_spec_SameDawg
  rw [Same_eq ⟨D⟩ ⟨D⟩ (by simp only; omega) (fun x hx => by have := h.small x hx; omega)]
  simp
theorem drawn_code (code : Str) : ∃ D : List Node, m_spec_A2Dawg code = some ⟨D⟩ ∧ Drawn 25 D := by
  obtain ⟨D, h1, h2, h3, h4, h5, h6⟩ := drawnD code
  refine ⟨D, h1, h2, h3, h5, h4, fun w hw => ?_⟩
  obtain ⟨q1, q2, q3⟩ := someD_ok.2 w (h6 w hw)
  exact ⟨q1, by omega, q3⟩
theorem count_parts {a b : List Str} (ha : SortedW a) (hb : SortedW b) : (bothW a b).length = b.length + (a.filter fun t => decide (t ∈ b) == false).length ∧ a.length = (a.filter fun t => decide (t ∈ b) == true).length + (a.filter fun t => decide (t ∈ b) == false).length := by
  have e1 : (bothW a b).filter (fun t => decide (t ∈ b) == true) = b := sortedW_ext ((bothW_sorted a b).filter _) hb fun y => by
    rw [List.mem_filter, bothW_mem]
    by_cases h : y ∈ b <;> simp [h]
  have e2 : (bothW a b).filter (fun t => decide (t ∈ b) == false) = a.filter fun t => decide (t ∈ b) == false := sortedW_ext ((bothW_sorted a b).filter _) (ha.filter _) fun y => by
    rw [List.mem_filter, List.mem_filter, bothW_mem]
    by_cases h : y ∈ b <;> simp [h]
  have key : ∀ l : List Str, l.length = (l.filter fun t => decide (t ∈ b) == true).length + (l.filter fun t => decide (t ∈ b) == false).length := by
    intro l
    induction l with
    | nil => rfl
    | cons x l ih =>
      rw [List.filter_cons, List.filter_cons, List.length_cons]
      by_cases h : x ∈ b <;> simp [h] at ih ⊢ <;> omega
  refine ⟨?_, key a⟩
  have := key (bothW a b)
  rw [e1, e2] at this
  exact this
theorem parts_again {a b : List Str} (ha : SortedW a) : bothW (a.filter fun t => decide (t ∈ b) == false) (a.filter fun t => decide (t ∈ b) == true) = a :=
  sortedW_ext (bothW_sorted _ _) ha fun y => by
    rw [bothW_mem, List.mem_filter, List.mem_filter]
    by_cases h : y ∈ b <;> simp [h]
theorem m_laws_FnSets_true (code : Str) (more : Str) (h : Lies (sliceRep byteRep) code) (h' : Lies (sliceRep byteRep) more) : m_laws_FnSets code more = some true := by
  unfold m_laws_FnSets
  obtain ⟨q, hq⟩ : ∃ q, m_laws_a2Long code more = some q := by
    unfold m_laws_a2Long
    by_cases h1 : (3000 : Int) < (code.length : Int)
    · rw [decide_eq_true h1]; exact ⟨_, rfl⟩
    · rw [decide_eq_false h1]; exact ⟨_, rfl⟩
  rw [hq, Option.bind_some]
  cases q with
  | true => rfl
  | false =>
    rw [cond_false]
    obtain ⟨A, a1, a2⟩ := drawn_code code
    obtain ⟨B, b1, b2⟩ := drawn_code more
    obtain ⟨U, u1, u2, u3⟩ := union_val a2 b2 (by omega)
    obtain ⟨M, m1, m2, m3⟩ := meet_val a2 b2 (by omega)
    obtain ⟨N, n1, n2, n3⟩ := minus_val a2 b2 (by omega)
    obtain ⟨V, v1, v2, v3⟩ := union_val n2 m2 (by omega)
    obtain ⟨R, r1, r2, r3⟩ := reverse_val a2 (by omega)
    obtain ⟨S, s1, s2, s3⟩ := reverse_val r2 (by omega)
    have hV : V = A := v2.unique a2 (by rw [v3, n3, m3, parts_again a2.words.sorted])
    have hS : S = A := s2.unique a2 (by rw [s3, r3, turnW_twice a2.words.sorted])
    subst hV
    obtain ⟨c1, c2⟩ := count_parts a2.words.sorted b2.words.sorted
    rw [← u3] at c1
    rw [← m3, ← n3] at c2
    rw [← n3] at c1
    have lA := a2.words.len
    have lB := b2.words.len
    have lU := u2.words.len
    have lM := m2.words.len
    have lN := n2.words.len
    simp only [a1, b1, u1, m1, n1, v1, r1, s1, hS, (words_val u2).1, (words_val m2).1, (words_val n2).1, (words_val a2).2, (words_val b2).2, Option.bind_some, bne_self_eq_false, beq_self_eq_true, cond_false, cond_true]
    rw [chk_in (by omega) (by omega), Option.bind_some, chk_in (by omega) (by omega), Option.bind_some]
    rw [show (((wordsD U).length : Int) + ((wordsD M).length : Int) == ((wordsD V).length : Int) + ((wordsD B).length : Int)) = true by rw [beq_iff_eq]; omega, cond_true]
    rw [chk_in (by omega) (by omega), Option.bind_some]
    rw [show (((wordsD N).length : Int) + ((wordsD M).length : Int) == ((wordsD V).length : Int)) = true by rw [beq_iff_eq]; omega, cond_true]
    rw [same_val a2, Option.bind_some, cond_true, Option.bind_some, Option.bind_some]
end Go.Proofs.YtccoeheoifbpcaaGreatDoor
