/- Piles that are sorted, taken apart and put together, on both sides. -/
import Derived.Test.YtbekokenomhgeaaGreatDoorPureZ6
namespace Go.Proofs.YtbekokenomhgeaaGreatDoor
open Go Go.RowKit
set_option linter.unusedSimpArgs false
set_option linter.unusedVariables false

theorem sorted_pairJ : ∀ {s : Str}, SortedB s ↔ s.Pairwise fun a b => a.toNat ≤ b.toNat
  | [] => by simp [SortedB]
  | x :: t => by
    rw [List.pairwise_cons, ← sorted_pairJ (s := t)]
    exact Iff.rfl

theorem sorted_sub {a b : Str} (h : a.Sublist b) (hb : SortedB b) : SortedB a := by
  rw [sorted_pairJ] at hb ⊢
  exact hb.sublist h

theorem sorted_unique : ∀ {a b : Str}, SortedB a → SortedB b → a.Perm b → a = b
  | [], b, _, _, h => (List.length_eq_zero_iff.1 h.length_eq.symm).symm
  | x :: a, [], _, _, h => absurd h.length_eq (by simp)
  | x :: a, y :: b, ha, hb, h => by
    have h1 : x ∈ y :: b := h.mem_iff.1 List.mem_cons_self
    have h2 : y ∈ x :: a := h.mem_iff.2 List.mem_cons_self
    have e : x = y := by
      rcases List.mem_cons.1 h1 with e | h1
      · exact e
      · rcases List.mem_cons.1 h2 with e | h2
        · exact e.symm
        · have := ha.1 y h2
          have := hb.1 x h1
          exact UInt8.toNat_inj.1 (by omega)
    subst e
    rw [sorted_unique ha.2 hb.2 (List.Perm.cons_inv h)]

theorem count_ext {a b : Str} (ha : SortedB a) (hb : SortedB b) (ta : Tiles a) (tb : Tiles b) (h : ∀ j, j < 27 → a.count (tileK j) = b.count (tileK j)) : a = b := by
  refine sorted_unique ha hb (List.perm_iff_count.2 fun c => ?_)
  by_cases hc : c ∈ a
  · obtain ⟨j, hj, rfl⟩ := ta c hc
    exact h j hj
  · by_cases hc' : c ∈ b
    · obtain ⟨j, hj, rfl⟩ := tb c hc'
      exact h j hj
    · rw [List.count_eq_zero.2 hc, List.count_eq_zero.2 hc']

/-! ### The reference's sort -/

theorem insert_sortedJ {l : Str} {n : Nat} {c : UInt8} (hs : SortedB l) (hn : n ≤ l.length) (h1 : ∀ y ∈ l.drop n, c.toNat ≤ y.toNat) (h2 : ∀ y ∈ l.take n, y.toNat ≤ c.toNat) : SortedB (l.take n ++ c :: l.drop n) := by
  rw [sorted_pairJ] at hs ⊢
  rw [← List.take_append_drop n l, List.pairwise_append] at hs
  rw [List.pairwise_append, List.pairwise_cons]
  refine ⟨hs.1, ⟨h1, hs.2.1⟩, fun a ha b hb => ?_⟩
  rcases List.mem_cons.1 hb with rfl | hb
  · exact h2 a ha
  · exact hs.2.2 a ha b hb

theorem sort_innerJ (s l : Str) (k : Nat) (hk : k < s.length) (hl : SortedB l) (hlen : l.length ≤ 1000) : ∀ (n : Nat) (x : UInt8), n ≤ l.length → (∀ y ∈ l.drop n, (s[k]).toNat ≤ y.toNat) → ∃ (m : Nat) (x' : UInt8), m ≤ l.length ∧ loopM (fun q : Str × Int => m_spec_l03Sort_l2 s (k : Int) q.1 q.2) (l.take n ++ x :: l.drop n, (n : Int)) = some (l.take m ++ x' :: l.drop m, (m : Int)) ∧ SortedB (l.take m ++ s[k] :: l.drop m)
  | 0, x, hn, hd => by
    refine ⟨0, x, hn, loopM_done ?_, insert_sortedJ hl hn hd (by simp)⟩
    show m_spec_l03Sort_l2 s (k : Int) _ ((0 : Nat) : Int) = _
    unfold m_spec_l03Sort_l2
    rw [decide_eq_false (by omega)]
    rfl
  | n + 1, x, hn, hd => by
    have hn' : n < l.length := by omega
    have hlen1 : (l.take (n + 1) ++ x :: l.drop (n + 1)).length = l.length + 1 := by
      rw [List.length_append, List.length_take, List.length_cons, List.length_drop]; omega
    have hget : (l.take (n + 1) ++ x :: l.drop (n + 1))[n]'(by omega) = l[n] := by
      rw [List.getElem_append_left (by rw [List.length_take]; omega), List.getElem_take]
    by_cases hlt : s[k] < l[n]
    · have hle := UInt8.lt_iff_toNat_lt.1 hlt
      obtain ⟨m, x', m1, m2, m3⟩ := sort_innerJ s l k hk hl hlen n l[n] (by omega) (fun y hy => by
        rw [List.drop_eq_getElem_cons hn'] at hy
        rcases List.mem_cons.1 hy with rfl | hy
        · omega
        · exact hd y hy)
      refine ⟨m, x', m1, ?_, m3⟩
      rw [← m2]
      refine loopM_next ?_
      show m_spec_l03Sort_l2 s (k : Int) (l.take (n + 1) ++ x :: l.drop (n + 1)) ((n + 1 : Nat) : Int) = _
      have hset : (l.take (n + 1) ++ x :: l.drop (n + 1)).set (n + 1) l[n] = l.take n ++ l[n] :: l.drop n := by
        rw [List.set_append_right _ _ (by rw [List.length_take]; omega), List.length_take, show n + 1 - min (n + 1) l.length = 0 by omega, List.set_cons_zero, List.take_add_one, List.getElem?_eq_getElem hn', List.drop_eq_getElem_cons hn', Option.toList_some, List.append_assoc, List.singleton_append]
      unfold m_spec_l03Sort_l2
      rw [decide_eq_true (by omega), cond_true, chk_to (n : Int) (by omega) (by omega) (by omega), Option.bind_some, getL_at (by omega), Option.bind_some, getL_at hk, Option.bind_some, Option.bind_some, hget, decide_eq_true hlt, cond_true, Option.bind_some, getL_at (by omega), Option.bind_some, getL_at (by omega), Option.bind_some, hget, setL_of (by omega), Option.bind_some, Option.bind_some, hset]
    · have hle : (l[n]).toNat ≤ (s[k]).toNat := by
        rcases Nat.lt_or_ge (s[k]).toNat (l[n]).toNat with h | h
        · exact absurd (UInt8.lt_iff_toNat_lt.2 h) hlt
        · exact h
      refine ⟨n + 1, x, hn, loopM_done ?_, insert_sortedJ hl hn hd fun y hy => ?_⟩
      · show m_spec_l03Sort_l2 s (k : Int) (l.take (n + 1) ++ x :: l.drop (n + 1)) ((n + 1 : Nat) : Int) = _
        unfold m_spec_l03Sort_l2
        rw [decide_eq_true (by omega), cond_true, chk_to (n : Int) (by omega) (by omega) (by omega), Option.bind_some, getL_at (by omega), Option.bind_some, getL_at hk, Option.bind_some, Option.bind_some, hget, decide_eq_false hlt, cond_false]
      · obtain ⟨q, hq, e⟩ := List.getElem_of_mem hy
        rw [List.length_take] at hq
        rw [List.getElem_take] at e
        have := sorted_le hl hn' (by omega : q ≤ n)
        rw [e] at this
        omega

theorem sort_perm (s : Str) (hlen : s.length ≤ 900) : ∃ r, m_spec_l03Sort s = some r ∧ SortedB r ∧ r.Perm s := by
  have key : ∀ (d k : Nat) (l : Str), k + d = s.length → l.Perm (s.take k) → SortedB l → ∃ r, loopM (fun q : Str × Int => m_spec_l03Sort_l1 s q.1 q.2) (l, (k : Int)) = some r ∧ SortedB r ∧ r.Perm s := by
    intro d
    induction d with
    | zero =>
      intro k l hk hp hs'
      rw [List.take_of_length_le (by omega)] at hp
      refine ⟨l, loopM_done ?_, hs', hp⟩
      show m_spec_l03Sort_l1 s l (k : Int) = _
      unfold m_spec_l03Sort_l1
      rw [decide_eq_false (by omega)]
      rfl
    | succ d ih =>
      intro k l hk hp hs'
      have hk' : k < s.length := by omega
      have hl : l.length = k := by rw [hp.length_eq, List.length_take]; omega
      obtain ⟨m, x', m1, m2, m3⟩ := sort_innerJ s l k hk' hs' (by omega) l.length s[k] (Nat.le_refl _) (by simp)
      rw [List.take_length, List.drop_length] at m2
      have hp' : (l.take m ++ s[k] :: l.drop m).Perm (s.take (k + 1)) := by
        have h1 : (l.take m ++ s[k] :: l.drop m).Perm (s[k] :: l) := by
          have := @List.perm_middle _ s[k] (l.take m) (l.drop m)
          rwa [List.take_append_drop] at this
        rw [List.take_add_one, List.getElem?_eq_getElem hk', Option.toList_some]
        exact (h1.trans (List.Perm.cons _ hp)).trans (List.perm_append_singleton _ _).symm
      obtain ⟨r, r1, r2, r3⟩ := ih (k + 1) (l.take m ++ s[k] :: l.drop m) (by omega) hp' m3
      refine ⟨r, ?_, r2, r3⟩
      rw [← r1]
      refine loopM_next ?_
      show m_spec_l03Sort_l1 s l (k : Int) = _
      have hlm : (l.take m).length = m := by rw [List.length_take]; omega
      have hlen1 : (l.take m ++ x' :: l.drop m).length = l.length + 1 := by
        rw [List.length_append, List.length_take, List.length_cons, List.length_drop]; omega
      unfold m_spec_l03Sort_l1
      rw [decide_eq_true (by omega), cond_true, getL_at hk', Option.bind_some, catL_of (by simp; omega), Option.bind_some, m2, Option.bind_some, Option.bind_some]
      simp only
      rw [Option.bind_some, getL_at (by omega), Option.bind_some, setL_of (by omega), Option.bind_some, Option.bind_some, chk_succ (by omega), Option.bind_some, List.set_append_right _ _ (by omega), hlm, Nat.sub_self, List.set_cons_zero]
  obtain ⟨r, e, h⟩ := key s.length 0 [] (by omega) (List.Perm.refl _) trivial
  unfold m_spec_l03Sort
  rw [show ((0 : Nat) : Int) = 0 from rfl] at e
  rw [e]
  exact ⟨r, rfl, h⟩

/-! ### The program's pile of counts -/

def pileTo (f : Nat → Nat) : Nat → Str
  | 0 => []
  | k + 1 => pileTo f k ++ List.replicate (f k) (tileK k)

theorem pileTo_mem {f : Nat → Nat} : ∀ {k : Nat} {y : UInt8}, y ∈ pileTo f k → ∃ j, j < k ∧ y = tileK j
  | 0, y, h => by cases h
  | k + 1, y, h => by
    rcases List.mem_append.1 h with h | h
    · obtain ⟨j, hj, e⟩ := pileTo_mem h
      exact ⟨j, by omega, e⟩
    · exact ⟨k, by omega, (List.mem_replicate.1 h).2⟩

theorem pileTo_sorted {f : Nat → Nat} : ∀ {k : Nat}, k ≤ 27 → SortedB (pileTo f k)
  | 0, _ => trivial
  | k + 1, hk => by
    have h := pileTo_sorted (f := f) (k := k) (by omega)
    rw [sorted_pairJ] at h ⊢
    show List.Pairwise _ (pileTo f k ++ List.replicate (f k) (tileK k))
    rw [List.pairwise_append]
    refine ⟨h, List.pairwise_replicate.2 (.inr (Nat.le_refl _)), fun a ha b hb => ?_⟩
    obtain ⟨j, hj, rfl⟩ := pileTo_mem ha
    rw [(List.mem_replicate.1 hb).2]
    exact Nat.le_of_lt (tileK_lt hj (by omega))

theorem pileTo_count {f : Nat → Nat} {j : Nat} (hj : j < 27) : ∀ {k : Nat}, k ≤ 27 → (pileTo f k).count (tileK j) = if j < k then f j else 0
  | 0, _ => rfl
  | k + 1, hk => by
    show (pileTo f k ++ List.replicate (f k) (tileK k)).count (tileK j) = _
    rw [List.count_append, pileTo_count hj (k := k) (by omega), List.count_replicate]
    by_cases e : k = j
    · subst e
      simp
    · have : tileK k ≠ tileK j := fun e' => e (tileK_inj (by omega) hj e')
      rw [show (tileK k == tileK j) = false from beq_eq_false_iff_ne.2 this, if_neg (by decide : ¬ (false = true)), Nat.add_zero]
      by_cases h : j < k
      · rw [if_pos h, if_pos (by omega)]
      · rw [if_neg h, if_neg (by omega)]

theorem pileTo_len {f : Nat → Nat} (hf : ∀ j, j < 27 → f j ≤ 1000) : ∀ {k : Nat}, k ≤ 27 → (pileTo f k).length ≤ 1000 * k
  | 0, _ => by simp [pileTo]
  | k + 1, hk => by
    have h := pileTo_len hf (k := k) (by omega)
    have := hf k (by omega)
    show (pileTo f k ++ List.replicate (f k) (tileK k)).length ≤ _
    rw [List.length_append, List.length_replicate]
    omega

theorem pileTo_zero (f : Nat → Nat) : pileTo f 0 = [] := rfl

theorem pileTo_succ (f : Nat → Nat) (k : Nat) : pileTo f (k + 1) = pileTo f k ++ List.replicate (f k) (tileK k) := rfl

attribute [local irreducible] pileTo diffN

theorem pile_in (k : Nat) (hk : k < 27) : ∀ (m : Nat) (xs : Str), xs.length + m ≤ 1000000 → loopM (fun q : Str × Int => m_impl_counts_pile_l2 (k : Int) q.1 q.2) (xs, (m : Int)) = some (xs ++ List.replicate m (tileK k))
  | 0, xs, h => by rw [List.replicate_zero, List.append_nil]; exact loopM_done rfl
  | m + 1, xs, h => by
    have e := pile_in k hk m (xs ++ [tileK k]) (by simp; omega)
    rw [List.append_assoc, List.singleton_append, ← List.replicate_succ] at e
    rw [← e]
    refine loopM_next ?_
    show m_impl_counts_pile_l2 (k : Int) xs ((m + 1 : Nat) : Int) = _
    unfold m_impl_counts_pile_l2 m_strings_Builder_WriteByte m_strings_Builder_copyCheck
    rw [decide_eq_true (by omega), cond_true, tileAt_eq hk, Option.bind_some, Option.bind_some, catL_of (by simp; omega), Option.bind_some, Option.bind_some, chk_to (m : Int) (by omega) (by omega) (by omega), Option.bind_some]

theorem pile_val (c : List Int) (f : Nat → Nat) (hc : ∀ j, j < 27 → c[j]? = some (f j : Int)) (hf : ∀ j, j < 27 → f j ≤ 1000) : m_impl_counts_pile c = some (pileTo f 27) := by
  have hrun := loop_run (step := fun q : Str × Int => m_impl_counts_pile_l1 c q.1 q.2) (fun k => (pileTo f k, (k : Int))) 27 (pileTo f 27) (fun k hk => by
      have hl := pileTo_len hf (k := k) (by omega)
      have hk1 := hf k hk
      show m_impl_counts_pile_l1 c (pileTo f k) (k : Int) = _
      unfold m_impl_counts_pile_l1
      rw [decide_eq_true (by omega), cond_true, getL_nat, hc k hk, Option.bind_some, pile_in k hk (f k) _ (by omega), Option.bind_some, Option.bind_some, chk_succ (by omega), Option.bind_some, pileTo_succ])
    (by
      show m_impl_counts_pile_l1 c (pileTo f 27) ((27 : Nat) : Int) = _
      unfold m_impl_counts_pile_l1
      rw [decide_eq_false (by omega)]
      rfl) 0 (Nat.zero_le _)
  unfold m_impl_counts_pile m_strings_Builder_String
  rw [pileTo_zero, show ((0 : Nat) : Int) = (0 : Int) from rfl] at hrun
  rw [hrun]
  rfl

def sortP (s : Str) : Str := pileTo (fun j => s.count (tileK j)) 27

theorem sortP_tiles (s : Str) : Tiles (sortP s) := fun y hy => pileTo_mem hy

theorem sortP_sorted (s : Str) : SortedB (sortP s) := pileTo_sorted (Nat.le_refl _)

theorem sortP_of {s r : Str} (ht : Tiles s) (hs : SortedB r) (hp : r.Perm s) : r = sortP s := by
  refine count_ext hs (sortP_sorted s) (fun y hy => ht y (hp.mem_iff.1 hy)) (sortP_tiles s) fun j hj => ?_
  unfold sortP
  rw [pileTo_count hj (Nat.le_refl _), if_pos hj]
  exact List.perm_iff_count.1 hp _

theorem pileCnt_eq (s : Str) (hl : s.length ≤ 1000) : m_impl_counts_pile (cnt s) = some (sortP s) :=
  pile_val _ _ (fun j hj => cnt_get s hj) (fun j hj => Nat.le_trans List.count_le_length hl)

theorem sortS_eq (s : Str) (ht : Tiles s) (hl : s.length ≤ 900) : m_spec_l03Sort s = some (sortP s) := by
  obtain ⟨r, r1, r2, r3⟩ := sort_perm s hl
  rw [r1, sortP_of ht r2 r3]

theorem sorted_eqP (s : Str) (ht : Tiles s) (hl : s.length ≤ 900) : m_impl_sorted s = some (sortP s) := by
  unfold m_impl_sorted
  rw [countsOf_eq s ht (by omega), Option.bind_some, pileCnt_eq s (by omega), Option.bind_some]

/-! ### Tiles taken out of a pile: what is left -/

def takeO : Str → Str → Str
  | [], _ => []
  | x :: a, [] => x :: takeO a []
  | x :: a, y :: b => if y = x then takeO a b else x :: takeO a (y :: b)

def keepT (x : UInt8) : Str → Str
  | [] => [x]
  | y :: _ => if y = x then [] else [x]

theorem takeO_snoc : ∀ (a b : Str) (x : UInt8), takeO (a ++ [x]) b = takeO a b ++ keepT x (remT a b)
  | [], [], x => rfl
  | [], y :: b, x => by
    show takeO [x] (y :: b) = _
    rw [takeO]
    rfl
  | z :: a, [], x => by
    have h := takeO_snoc a [] x
    rw [remT_nil] at h
    show z :: takeO (a ++ [x]) [] = z :: takeO a [] ++ keepT x []
    rw [h]
    rfl
  | z :: a, y :: b, x => by
    rw [List.cons_append, takeO, takeO, remT]
    split
    · exact takeO_snoc a b x
    · rw [takeO_snoc a (y :: b) x]
      rfl

theorem takeO_count : ∀ (a b : Str) (c : UInt8), (takeO a b).count c + b.count c = a.count c + (remT a b).count c
  | [], b, c => rfl
  | x :: a, [], c => by
    have h := takeO_count a [] c
    rw [remT_nil] at h
    rw [takeO, remT, List.count_cons, List.count_cons]
    simp only [List.count_nil] at h ⊢
    omega
  | x :: a, y :: b, c => by
    rw [takeO, remT]
    split
    · rename_i e
      subst e
      have h := takeO_count a b c
      rw [List.count_cons, List.count_cons]
      omega
    · have h := takeO_count a (y :: b) c
      rw [List.count_cons (l := takeO a (y :: b)), List.count_cons (l := a)]
      omega

theorem takeO_sub : ∀ (a b : Str), (takeO a b).Sublist a
  | [], b => List.Sublist.refl _
  | x :: a, [] => by rw [takeO]; exact (takeO_sub a []).cons_cons x
  | x :: a, y :: b => by
    rw [takeO]
    split
    · exact (takeO_sub a b).cons x
    · exact (takeO_sub a (y :: b)).cons_cons x

theorem takeS_full (a b : Str) (ha : a.length ≤ 1000) (hb : b.length ≤ 1000) : m_spec_l03Take a b = some (takeO a b, decide (remT a b = [])) := by
  unfold m_spec_l03Take
  have key : ∀ (d i n : Nat), i + d = a.length → n ≤ b.length → remT (a.take i) b = b.drop n → ∃ (k : Nat), loopM (fun q : Str × Int × Int => m_spec_l03Take_l1 a b q.1 q.2.1 q.2.2) (takeO (a.take i) b, (n : Int), (i : Int)) = some (takeO a b, (k : Int)) ∧ k ≤ b.length ∧ remT a b = b.drop k := by
    intro d
    induction d with
    | zero =>
      intro i n hi hn hr
      rw [List.take_of_length_le (by omega)] at hr ⊢
      refine ⟨n, loopM_done ?_, hn, hr⟩
      show m_spec_l03Take_l1 a b _ (n : Int) (i : Int) = _
      unfold m_spec_l03Take_l1
      rw [decide_eq_false (by omega)]
      rfl
    | succ d ih =>
      intro i n hi hn hr
      have hia : i < a.length := by omega
      have ho : (takeO (a.take i) b).length ≤ 1000 := Nat.le_trans (takeO_sub _ _).length_le (by rw [List.length_take]; omega)
      have hsn : remT (a.take (i + 1)) b = stepT a[i] (b.drop n) := by
        rw [List.take_add_one, List.getElem?_eq_getElem hia, Option.toList_some, remT_snoc, hr]
      have hon : takeO (a.take (i + 1)) b = takeO (a.take i) b ++ keepT a[i] (b.drop n) := by
        rw [List.take_add_one, List.getElem?_eq_getElem hia, Option.toList_some, takeO_snoc, hr]
      by_cases hnb : n < b.length
      · rw [List.drop_eq_getElem_cons hnb, stepT_cons] at hsn
        rw [List.drop_eq_getElem_cons hnb] at hon
        by_cases e : b[n] = a[i]
        · rw [if_pos e] at hsn
          rw [show keepT a[i] (b[n] :: b.drop (n + 1)) = [] from if_pos e, List.append_nil] at hon
          obtain ⟨k, k1, k2, k3⟩ := ih (i + 1) (n + 1) (by omega) (by omega) hsn
          refine ⟨k, ?_, k2, k3⟩
          rw [← k1, hon]
          refine loopM_next ?_
          show m_spec_l03Take_l1 a b _ (n : Int) (i : Int) = _
          unfold m_spec_l03Take_l1
          rw [decide_eq_true (by omega : (i : Int) < a.length), cond_true, decide_eq_true (by omega : (n : Int) < b.length), cond_true, getL_at hnb, Option.bind_some, getL_at hia, Option.bind_some, Option.bind_some, beq_iff_eq.2 e, cond_true, chk_succ (by omega), Option.bind_some, Option.bind_some]
          try simp only
          rw [chk_succ (by omega), Option.bind_some]
        · rw [if_neg e, ← List.drop_eq_getElem_cons hnb] at hsn
          rw [show keepT a[i] (b[n] :: b.drop (n + 1)) = [a[i]] from if_neg e] at hon
          obtain ⟨k, k1, k2, k3⟩ := ih (i + 1) n (by omega) hn hsn
          refine ⟨k, ?_, k2, k3⟩
          rw [← k1, hon]
          refine loopM_next ?_
          show m_spec_l03Take_l1 a b _ (n : Int) (i : Int) = _
          unfold m_spec_l03Take_l1
          rw [decide_eq_true (by omega : (i : Int) < a.length), cond_true, decide_eq_true (by omega : (n : Int) < b.length), cond_true, getL_at hnb, Option.bind_some, getL_at hia, Option.bind_some, Option.bind_some, beq_eq_false_iff_ne.2 e, cond_false, Option.bind_some, catL_of (by simp; omega), Option.bind_some, Option.bind_some]
          try simp only
          rw [chk_succ (by omega), Option.bind_some]
      · rw [List.drop_eq_nil_of_le (by omega)] at hsn hr hon
        replace hsn : remT (a.take (i + 1)) b = [] := hsn
        replace hon : takeO (a.take (i + 1)) b = takeO (a.take i) b ++ [a[i]] := hon
        obtain ⟨k, k1, k2, k3⟩ := ih (i + 1) n (by omega) hn (by rw [hsn, List.drop_eq_nil_of_le (by omega)])
        refine ⟨k, ?_, k2, k3⟩
        rw [← k1, hon]
        refine loopM_next ?_
        show m_spec_l03Take_l1 a b _ (n : Int) (i : Int) = _
        unfold m_spec_l03Take_l1
        rw [decide_eq_true (by omega : (i : Int) < a.length), cond_true, decide_eq_false (by omega : ¬ (n : Int) < b.length), cond_false, Option.bind_some, cond_false, getL_at hia, Option.bind_some, catL_of (by simp; omega), Option.bind_some, Option.bind_some]
        try simp only
        rw [chk_succ (by omega), Option.bind_some]
  obtain ⟨k, k1, k2, k3⟩ := key a.length 0 0 (by omega) (by omega) rfl
  rw [show (takeO (a.take 0) b, ((0 : Nat) : Int), ((0 : Nat) : Int)) = (([] : Str), (0 : Int), (0 : Int)) from by rw [List.take_zero]; rfl] at k1
  rw [k1, Option.bind_some, Option.bind_some]
  have e : ((k : Int) == (b.length : Int)) = decide (remT a b = []) := by
    rw [k3, Bool.eq_iff_iff, beq_iff_eq, decide_eq_true_eq, List.drop_eq_nil_iff]
    omega
  exact congrArg (fun t => some (takeO a b, t)) e

theorem without_rest (a b : Str) (ha : SortedB a) (hb : SortedB b) (ta : Tiles a) (tb : Tiles b) (la : a.length ≤ 1000) (lb : b.length ≤ 1000) (h : remT a b = []) : m_impl_without a b = some (takeO a b, true) := by
  unfold m_impl_without
  have hw := within_all ha hb tb
  rw [decide_eq_true h] at hw
  rw [countsOf_eq a ta la, Option.bind_some, countsOf_eq b tb lb, Option.bind_some, less_eq a b la lb, Option.bind_some, hw, cond_true]
  have hle : ∀ j, j < 27 → b.count (tileK j) ≤ a.count (tileK j) := fun j hj => of_decide_eq_true (allI_iff.1 hw j (by omega) (by omega))
  have e : m_impl_counts_pile (diffN a b 27) = some (pileTo (fun j => a.count (tileK j) - b.count (tileK j)) 27) := pile_val (diffN a b 27) (fun j => a.count (tileK j) - b.count (tileK j)) (fun j hj => by
      rw [diffN_get a b hj 27, if_pos hj]
      have := hle j hj
      exact congrArg some (by omega)) (fun j hj => by
      have c1 : a.count (tileK j) ≤ 1000 := Nat.le_trans List.count_le_length la
      show a.count (tileK j) - b.count (tileK j) ≤ 1000
      omega)
  show (m_impl_counts_pile (diffN a b 27)).bind _ = _
  rw [e, Option.bind_some]
  have e2 : pileTo (fun j => a.count (tileK j) - b.count (tileK j)) 27 = takeO a b := by
    refine count_ext (pileTo_sorted (Nat.le_refl _)) (sorted_sub (takeO_sub a b) ha) (fun y hy => pileTo_mem hy) (fun y hy => ta y ((takeO_sub a b).subset hy)) fun j hj => ?_
    rw [pileTo_count hj (Nat.le_refl _), if_pos hj]
    have := takeO_count a b (tileK j)
    rw [h] at this
    simp only [List.count_nil] at this
    omega
  rw [e2]

end Go.Proofs.YtbekokenomhgeaaGreatDoor
