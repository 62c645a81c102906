/- Groups of an ordered list; the reference's builder makes the node of a list. -/
import Derived.Test.YtdaoecpkgobelaaDoorPureK7
namespace Go.Proofs.YtdaoecpkgobelaaDoor
open Go Go.RowKit
set_option linter.unusedSimpArgs false
set_option linter.unusedVariables false

/-! groups -/
/-- The tails of the words at the front that begin with c. -/
def runT (c : UInt8) : List Str → List Str
  | (d :: t) :: R => if d = c then t :: runT c R else []
  | _ => []
theorem runT_hd (c : UInt8) (t : Str) (R : List Str) : runT c ((c :: t) :: R) = t :: runT c R := by rw [runT, if_pos rfl]
theorem grpA_run : ∀ (R : List Str) (c : UInt8) (t : Str), (∀ w ∈ R, w ≠ []) → grpA ((c :: t) :: R) = (c, runT c ((c :: t) :: R)) :: grpA (((c :: t) :: R).drop (runT c ((c :: t) :: R)).length)
  | [], c, t, _ => by rw [runT_hd]; rfl
  | [] :: R, c, t, h => absurd rfl (h [] List.mem_cons_self)
  | (d :: u) :: R, c, t, h => by
    have ih := grpA_run R d u fun w hw => h w (List.mem_cons_of_mem _ hw)
    rw [runT_hd, grpA, ih]
    by_cases hcd : c = d
    · subst hcd
      simp only [if_true, List.length_cons, List.drop_succ_cons]
    · simp only [if_neg hcd]
      have : runT c ((d :: u) :: R) = [] := by rw [runT, if_neg (fun e => hcd e.symm)]
      rw [this, ← ih]
      rfl
theorem runT_at (c : UInt8) : ∀ (L : List Str) (j : Nat) (h : j < (runT c L).length), L[j]? = some (c :: (runT c L)[j])
  | [], j, h => by simp [runT] at h
  | [] :: R, j, h => by simp [runT] at h
  | (d :: t) :: R, j, h => by
    by_cases hd : d = c
    · subst hd
      have e : runT d ((d :: t) :: R) = t :: runT d R := runT_hd d t R
      cases j with
      | zero => simp [e]
      | succ j =>
        have hj : j < (runT d R).length := by rw [e] at h; simpa using h
        have := runT_at d R j hj
        rw [List.getElem?_cons_succ, this]
        simp [e]
    · simp [runT, hd] at h
theorem runT_end (c : UInt8) : ∀ (L : List Str), (∀ w ∈ L, w ≠ []) → ∀ d t, L[(runT c L).length]? = some (d :: t) → d ≠ c
  | [], _, d, t, h => by simp at h
  | [] :: R, hn, _, _, _ => absurd rfl (hn [] List.mem_cons_self)
  | (e :: u) :: R, hn, d, t, h => by
    by_cases hd : e = c
    · subst hd
      rw [runT_hd, List.length_cons, List.getElem?_cons_succ] at h
      exact runT_end e R (fun w hw => hn w (List.mem_cons_of_mem _ hw)) d t h
    · have : runT c ((e :: u) :: R) = [] := by rw [runT, if_neg hd]
      rw [this, List.length_nil, List.getElem?_cons_zero, Option.some.injEq, List.cons.injEq] at h
      exact h.1 ▸ hd
theorem runT_le (c : UInt8) : ∀ (L : List Str), (runT c L).length ≤ L.length
  | [] => by simp [runT]
  | [] :: R => by simp [runT]
  | (d :: t) :: R => by
    rw [runT]
    split
    · rw [List.length_cons, List.length_cons]; have := runT_le c R; omega
    · simp
theorem flat_grp : ∀ (R : List Str), (∀ w ∈ R, w ≠ []) → flatG (grpA R) = R
  | [], _ => rfl
  | [] :: R, h => absurd rfl (h [] List.mem_cons_self)
  | (c :: t) :: R, h => by
    have ih := flat_grp R fun w hw => h w (List.mem_cons_of_mem _ hw)
    rw [grpA]
    cases hg : grpA R with
    | nil => rw [hg] at ih; simp only [flatG, List.flatMap_nil] at ih; rw [← ih]; rfl
    | cons g G =>
      obtain ⟨d, T⟩ := g
      rw [hg] at ih
      simp only
      split
      · rename_i e
        subst e
        rw [← ih]; rfl
      · rw [← ih]; rfl
theorem grp_ne : ∀ (R : List Str), ∀ e ∈ grpA R, e.2 ≠ []
  | [], e, h => by cases h
  | [] :: R, e, h => grp_ne R e (by rw [grpA] at h; exact h)
  | (c :: t) :: R, e, h => by
    rw [grpA] at h
    have ih := grp_ne R
    cases hg : grpA R with
    | nil =>
      rw [hg] at h
      simp only [List.mem_singleton] at h
      subst h; simp
    | cons g G =>
      obtain ⟨d, T⟩ := g
      rw [hg] at h ih
      simp only at h
      split at h
      · rcases List.mem_cons.1 h with rfl | h
        · simp
        · exact ih e (List.mem_cons_of_mem _ h)
      · rcases List.mem_cons.1 h with rfl | h
        · simp
        · exact ih e h
theorem grp_mem : ∀ {R : List Str} {e : UInt8 × List Str}, e ∈ grpA R → ∀ w ∈ e.2, e.1 :: w ∈ R
  | [], e, h, w, hw => by cases h
  | [] :: R, e, h, w, hw => List.mem_cons_of_mem _ (grp_mem (R := R) (by rw [grpA] at h; exact h) w hw)
  | (c :: t) :: R, e, h, w, hw => by
    rw [grpA] at h
    cases hg : grpA R with
    | nil =>
      rw [hg] at h
      simp only [List.mem_singleton] at h
      subst h
      rw [List.mem_singleton] at hw
      subst hw
      exact List.mem_cons_self
    | cons g G =>
      obtain ⟨d, T⟩ := g
      have ih := fun e he => grp_mem (R := R) (e := e) (by rw [hg]; exact he)
      rw [hg] at h
      simp only at h
      split at h
      · rename_i hcd
        subst hcd
        rcases List.mem_cons.1 h with rfl | h
        · rcases List.mem_cons.1 hw with rfl | hw
          · exact List.mem_cons_self
          · exact List.mem_cons_of_mem _ (ih (c, T) List.mem_cons_self w hw)
        · exact List.mem_cons_of_mem _ (ih e (List.mem_cons_of_mem _ h) w hw)
      · rcases List.mem_cons.1 h with rfl | h
        · rw [List.mem_singleton] at hw
          subst hw
          exact List.mem_cons_self
        · exact List.mem_cons_of_mem _ (ih e h w hw)
theorem grp_sorted : ∀ {R : List Str}, SortedW R → RiseG (grpA R) ∧ ∀ e ∈ grpA R, SortedW e.2
  | [], _ => ⟨List.Pairwise.nil, fun e h => by cases h⟩
  | [] :: R, h => by
    rw [SortedW, List.pairwise_cons] at h
    rw [grpA]
    exact grp_sorted h.2
  | (c :: t) :: R, h => by
    rw [SortedW, List.pairwise_cons] at h
    obtain ⟨ih1, ih2⟩ := grp_sorted (R := R) h.2
    rw [grpA]
    cases hg : grpA R with
    | nil => exact ⟨List.pairwise_singleton _ _, fun e he => by rw [List.mem_singleton] at he; subst he; exact List.pairwise_singleton _ _⟩
    | cons g G =>
      obtain ⟨d, T⟩ := g
      rw [hg] at ih1 ih2
      have hmem := fun e he => grp_mem (R := R) (e := e) (by rw [hg]; exact he)
      have hlt : ∀ w ∈ T, c < d ∨ (c = d ∧ ltS t w = true) := fun w hw => by
        have := h.1 (d :: w) (hmem (d, T) List.mem_cons_self w hw)
        rw [ltS_cons, Bool.or_eq_true, decide_eq_true_iff, Bool.and_eq_true, beq_iff_eq] at this
        exact this
      have hT : T ≠ [] := grp_ne R (d, T) (by rw [hg]; exact List.mem_cons_self)
      simp only
      split
      · rename_i hcd
        subst hcd
        refine ⟨?_, fun e he => ?_⟩
        · rw [RiseG, List.pairwise_cons] at ih1 ⊢
          exact ⟨ih1.1, ih1.2⟩
        · rcases List.mem_cons.1 he with rfl | he
          · rw [SortedW, List.pairwise_cons]
            refine ⟨fun w hw => ?_, ih2 (c, T) List.mem_cons_self⟩
            rcases hlt w hw with h' | h'
            · exact absurd h' (UInt8.lt_irrefl _)
            · exact h'.2
          · exact ih2 e (List.mem_cons_of_mem _ he)
      · rename_i hcd
        have hcd' : c < d := by
          obtain ⟨w, hw⟩ := List.exists_mem_of_ne_nil T hT
          rcases hlt w hw with h' | h'
          · exact h'
          · exact absurd h'.1 hcd
        refine ⟨?_, fun e he => ?_⟩
        · have ih1' := ih1
          rw [RiseG, List.pairwise_cons] at ih1'
          rw [RiseG, List.pairwise_cons]
          refine ⟨fun e he => ?_, ih1⟩
          rcases List.mem_cons.1 he with rfl | he
          · exact hcd'
          · exact UInt8.lt_trans hcd' (ih1'.1 e he)
        · rcases List.mem_cons.1 he with rfl | he
          · exact List.pairwise_singleton _ _
          · exact ih2 e he
/-- Behind the empty word there are no empty words. -/
theorem sorted_tail {x : Str} {R : List Str} (h : SortedW (x :: R)) : ∀ w ∈ R, w ≠ [] := fun w hw e => by
  rw [SortedW, List.pairwise_cons] at h
  have := h.1 w hw
  rw [e, ltS_nil] at this
  cases this
theorem sorted_split {R : List Str} (h : SortedW R) : R = (if hasE R then [[]] else []) ++ flatG (grpA R) := by
  cases R with
  | nil => rfl
  | cons x R =>
    cases x with
    | nil =>
      show [] :: R = [[]] ++ flatG (grpA ([] :: R))
      rw [grpA, flat_grp R (sorted_tail h)]
      rfl
    | cons c t =>
      show (c :: t) :: R = [] ++ flatG (grpA ((c :: t) :: R))
      rw [flat_grp _ (fun w hw => ?_)]
      · rfl
      · rcases List.mem_cons.1 hw with rfl | hw
        · simp
        · exact sorted_tail h w hw
def totA (R : List Str) : Nat := (R.map List.length).sum
theorem totA_grp : ∀ (R : List Str), ((grpA R).map fun e => 1 + totA e.2).sum ≤ totA R
  | [] => Nat.le_refl _
  | [] :: R => by
    rw [grpA]
    have := totA_grp R
    simp only [totA, List.map_cons, List.length_nil, List.sum_cons, Nat.zero_add] at this ⊢
    exact this
  | (c :: t) :: R => by
    have ih := totA_grp R
    rw [grpA]
    cases hg : grpA R with
    | nil => simp only [totA, List.map_cons, List.map_nil, List.sum_cons, List.sum_nil, List.length_cons]; omega
    | cons g G =>
      obtain ⟨d, T⟩ := g
      rw [hg] at ih
      simp only
      split
      · simp only [totA, List.map_cons, List.sum_cons, List.length_cons] at ih ⊢; omega
      · simp only [totA, List.map_cons, List.map_nil, List.sum_cons, List.sum_nil, List.length_cons] at ih ⊢; omega

/-! the reference's tails -/
theorem Tails_eq (R : List Str) (p : Nat) (c : UInt8) (t : Str) (L : List Str) (hp : R.drop p = (c :: t) :: L) (hne : ∀ w ∈ R.drop p, w ≠ []) (hl : R.length ≤ 10000000) :
    m_spec_l06Tails R (p : Int) = some (runT c (R.drop p), (((p + (runT c (R.drop p)).length : Nat)) : Int)) := by
  have hat : ∀ j, (R.drop p)[j]? = R[p + j]? := fun j => List.getElem?_drop
  have h0 : R[p]? = some (c :: t) := by
    have := hat 0
    rw [hp, Nat.add_zero] at this
    exact this.symm
  obtain ⟨hpl, hp0⟩ := List.getElem?_eq_some_iff.1 h0
  unfold m_spec_l06Tails
  have hg0 : getL (c :: t) 0 = some c := rfl
  rw [bind_of (getL_at hpl), hp0, bind_of hg0]
  generalize hL : R.drop p = L' at hne hat ⊢
  have hrl := runT_le c L'
  have hLl : L'.length = R.length - p := by rw [← hL, List.length_drop]
  have hloop : loopM (fun s : (List Str) × Int => m_spec_l06Tails_l1 R c s.1 s.2) (([] : (List Str)), (p : Int)) = some (runT c L', (((p + (runT c L').length : Nat)) : Int)) := by
    refine loop_run (step := fun s : (List Str) × Int => m_spec_l06Tails_l1 R c s.1 s.2) (fun j => ((runT c L').take j, (((p + j : Nat)) : Int))) (runT c L').length _ (fun j hj => ?_) ?_ 0 (Nat.zero_le _)
    · have h1 := runT_at c L' j hj
      rw [hat] at h1
      obtain ⟨h2, h3⟩ := List.getElem?_eq_some_iff.1 h1
      show m_spec_l06Tails_l1 R c ((runT c L').take j) (((p + j : Nat)) : Int) = _
      unfold m_spec_l06Tails_l1
      rw [chk_succ (show p + j ≤ 8000000000000000000 by omega), decide_eq_true (show (((p + j : Nat)) : Int) < (R.length : Int) by omega), cond_true, bind_of (getL_at h2), h3]
      show ((some (c == c)).bind _) = _
      rw [show (c == c) = true by simp, Option.bind_some, cond_true, bind_of (getL_at h2), h3]
      have hsub : subL (c :: (runT c L')[j]) 1 ((c :: (runT c L')[j]).length : Int) = some (runT c L')[j] := by
        rw [subL_of (by omega) (by simp; omega) (by omega)]
        have : ((c :: (runT c L')[j]).length : Int).toNat - (1 : Int).toNat = (runT c L')[j].length := by simp
        rw [this, show (1 : Int).toNat = 1 from rfl, List.drop_succ_cons, List.drop_zero, List.take_length]
      rw [hsub, Option.bind_some, catL_of (by rw [List.length_take]; simp; omega)]
      rw [Option.bind_some, Option.bind_some, List.take_add_one, List.getElem?_eq_getElem hj]
      rfl
    · show m_spec_l06Tails_l1 R c ((runT c L').take (runT c L').length) (((p + (runT c L').length : Nat)) : Int) = _
      unfold m_spec_l06Tails_l1
      rw [List.take_length]
      by_cases hend : p + (runT c L').length < R.length
      · rw [decide_eq_true (show (((p + (runT c L').length : Nat)) : Int) < (R.length : Int) by omega), cond_true, bind_of (getL_at hend)]
        have h1 : L'[(runT c L').length]? = some R[p + (runT c L').length] := by rw [hat, List.getElem?_eq_getElem hend]
        have hw := hne _ (List.mem_of_getElem? h1)
        cases hx : R[p + (runT c L').length] with
        | nil => exact absurd hx hw
        | cons d u =>
          rw [hx] at h1
          have hd := runT_end c L' hne d u h1
          show ((some (d == c)).bind _) = _
          rw [show (d == c) = false by simpa using hd]
          rfl
      · rw [decide_eq_false (show ¬ (((p + (runT c L').length : Nat)) : Int) < (R.length : Int) by omega)]
        rfl
  rw [bind_of hloop]
  rfl

/-! equal nodes -/
theorem l00Same_eq (a b : List Int) (hl : a.length ≤ 10000000) : m_spec_l00Same a b = some (decide (a = b)) := by
  unfold m_spec_l00Same
  by_cases h : a.length = b.length
  · rw [show ((a.length : Int) != (b.length : Int)) = false by rw [h]; simp, cond_false]
    have := loop_all (step := fun s => m_spec_l00Same_l1 a b s) (fun i => a[i]? == b[i]?) a.length (Sum.inl () : Unit ⊕ Bool) (.inr false) (fun i hi => by
        have hib : i < b.length := by omega
        show m_spec_l00Same_l1 a b (i : Int) = _
        unfold m_spec_l00Same_l1
        rw [show chk ((i : Int) + 1) = some ((i : Int) + 1) from chk_in (by omega) (by omega), decide_eq_true (show (i : Int) < (a.length : Int) by omega), cond_true, bind_of (getL_at hi), bind_of (getL_at hib), List.getElem?_eq_getElem hi, List.getElem?_eq_getElem hib]
        by_cases he : a[i] = b[i]
        · rw [show (a[i] != b[i]) = false by rw [he]; simp, show (some a[i] == some b[i]) = true by rw [he]; simp]; rfl
        · rw [show (a[i] != b[i]) = true by simpa using he, show (some a[i] == some b[i]) = false by simpa using he]; rfl)
      (by show m_spec_l00Same_l1 a b (a.length : Int) = _; unfold m_spec_l00Same_l1; rw [decide_eq_false (by omega)]; rfl) a.length 0 (by omega)
    rw [show ((0 : Nat) : Int) = 0 from rfl] at this
    rw [bind_of this]
    have hiff : allI (fun i => a[i]? == b[i]?) 0 a.length = decide (a = b) := by
      rw [Bool.eq_iff_iff, allI_iff, decide_eq_true_iff]
      constructor
      · intro hh
        apply List.ext_getElem?
        intro i
        by_cases hi : i < a.length
        · have := hh i (Nat.zero_le _) (by omega)
          simpa using this
        · rw [List.getElem?_eq_none (by omega), List.getElem?_eq_none (by omega)]
      · rintro rfl i _ _; simp
    rw [hiff]
    cases decide (a = b) <;> rfl
  · rw [show ((a.length : Int) != (b.length : Int)) = true by rw [bne_iff_ne]; omega, cond_true, decide_eq_false (fun e => h (by rw [e]))]
theorem l06Equal_eq (a b : Node) (hl : a.Next.length ≤ 10000000) : m_spec_l06Equal a b = some (decide (a = b)) := by
  unfold m_spec_l06Equal
  obtain ⟨f, l, n⟩ := a
  obtain ⟨g, l', n'⟩ := b
  simp only at hl ⊢
  rw [l00Same_eq n n' hl]
  by_cases h1 : f = g
  · subst h1
    rw [show (f == f) = true by simp, cond_true]
    by_cases h2 : l = l'
    · subst h2
      rw [show (l == l) = true by simp, cond_true]
      have : decide (n = n') = decide ((⟨f, l, n⟩ : Node) = ⟨f, l, n'⟩) := by
        rw [decide_eq_decide]; simp
      rw [this]; rfl
    · rw [show (l == l') = false by simpa using h2, cond_false, decide_eq_false (by simp [h2])]; rfl
  · rw [show (f == g) = false by simpa using h1, cond_false, decide_eq_false (by simp [h1])]; rfl

end Go.Proofs.YtdaoecpkgobelaaDoor
