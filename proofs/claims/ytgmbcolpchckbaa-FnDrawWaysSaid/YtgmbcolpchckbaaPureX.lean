/- Sub-piles of a pile, in order. -/
import Derived.Test.YtgmbcolpchckbaaPureA
namespace Go.Proofs.Ytgmbcolpchckbaa
open Go Go.RowKit
set_option linter.unusedSimpArgs false
set_option linter.unusedVariables false

/-- Sorted, as bytes. -/
def SortedB : Str → Prop
  | [] => True
  | x :: t => (∀ y ∈ t, x.toNat ≤ y.toNat) ∧ SortedB t
theorem SortedB.drop : ∀ {s : Str} (n : Nat), SortedB s → SortedB (s.drop n)
  | [], n, h => by simp [SortedB]
  | x :: t, 0, h => h
  | x :: t, n + 1, h => SortedB.drop (s := t) n h.2
theorem SortedB.dropWhile {p : UInt8 → Bool} : ∀ {s : Str}, SortedB s → SortedB (s.dropWhile p)
  | [], h => h
  | x :: t, h => by
    rw [List.dropWhile_cons]
    split
    · exact SortedB.dropWhile h.2
    · exact h
theorem dropWhile_len (p : UInt8 → Bool) (s : Str) : (s.dropWhile p).length ≤ s.length := by
  induction s with
  | nil => simp
  | cons x t ih =>
    rw [List.dropWhile_cons]
    split
    · simp; omega
    · simp
/-- The sub-piles of n tiles, each once, in order. -/
def subsP (s : Str) (n : Nat) : List Str := match n, s with
  | 0, _ => [[]]
  | _ + 1, [] => []
  | n + 1, x :: t => (subsP t n).map (x :: ·) ++ subsP (t.dropWhile (· == x)) (n + 1)
termination_by s.length
decreasing_by
  · simp
  · have := dropWhile_len (· == x) t
    simp; omega
theorem subsP_zero (s : Str) : subsP s 0 = [[]] := by unfold subsP; rfl
theorem subsP_nil (n : Nat) : subsP [] (n + 1) = [] := by unfold subsP; rfl
theorem subsP_cons (x : UInt8) (t : Str) (n : Nat) : subsP (x :: t) (n + 1) = (subsP t n).map (x :: ·) ++ subsP (t.dropWhile (· == x)) (n + 1) := by rw [subsP]
/-- An induction on the pile and the number of tiles, as subsP goes. -/
theorem subs_ind {Q : Str → Nat → Prop} (h0 : ∀ s, Q s 0) (hn : ∀ n, Q [] (n + 1)) (hc : ∀ x t n, Q t n → Q (t.dropWhile (· == x)) (n + 1) → Q (x :: t) (n + 1)) : ∀ (k : Nat) (s : Str) (n : Nat), s.length ≤ k → Q s n
  | _, s, 0, _ => h0 s
  | _, [], n + 1, _ => hn n
  | k + 1, x :: t, n + 1, h => by
    have hl : t.length ≤ k := by simp at h; omega
    have := dropWhile_len (· == x) t
    exact hc x t n (subs_ind h0 hn hc k t n hl) (subs_ind h0 hn hc k _ (n + 1) (by omega))
theorem subsP_len_each {s : Str} {n : Nat} : ∀ y ∈ subsP s n, y.length = n := by
  refine subs_ind (Q := fun s n => ∀ y ∈ subsP s n, y.length = n) (fun s y hy => ?_) (fun n y hy => ?_) (fun x t n h1 h2 y hy => ?_) s.length s n (Nat.le_refl _)
  · rw [subsP_zero, List.mem_singleton] at hy
    rw [hy]; rfl
  · rw [subsP_nil] at hy; cases hy
  · rw [subsP_cons, List.mem_append] at hy
    rcases hy with hy | hy
    · obtain ⟨z, hz, rfl⟩ := List.mem_map.1 hy
      simp [h1 z hz]
    · exact h2 y hy
theorem subsP_few {s : Str} {n : Nat} : s.length < n → subsP s n = [] := by
  refine subs_ind (Q := fun s n => s.length < n → subsP s n = []) (fun s h => by omega) (fun n _ => subsP_nil n) (fun x t n h1 h2 h => ?_) s.length s n (Nat.le_refl _)
  have hl := dropWhile_len (· == x) t
  rw [List.length_cons] at h
  rw [subsP_cons, h1 (by omega), h2 (by omega)]
  rfl
theorem subsP_count {s : Str} {n : Nat} : (subsP s n).length ≤ 2 ^ s.length := by
  refine subs_ind (Q := fun s n => (subsP s n).length ≤ 2 ^ s.length) (fun s => ?_) (fun n => ?_) (fun x t n h1 h2 => ?_) s.length s n (Nat.le_refl _)
  · rw [subsP_zero]
    have := Nat.one_le_two_pow (n := s.length)
    simpa using this
  · rw [subsP_nil]; simp
  · have hl := dropWhile_len (· == x) t
    have hp : 2 ^ (t.dropWhile (· == x)).length ≤ 2 ^ t.length := Nat.pow_le_pow_right (by omega) hl
    rw [subsP_cons, List.length_append, List.length_map, List.length_cons, Nat.pow_succ]
    omega
/-- All tiles of a sub-pile are tiles of the pile. -/
theorem subsP_mem {s : Str} {n : Nat} : ∀ y ∈ subsP s n, ∀ b ∈ y, b ∈ s := by
  refine subs_ind (Q := fun s n => ∀ y ∈ subsP s n, ∀ b ∈ y, b ∈ s) (fun s y hy b hb => ?_) (fun n y hy => ?_) (fun x t n h1 h2 y hy b hb => ?_) s.length s n (Nat.le_refl _)
  · rw [subsP_zero, List.mem_singleton] at hy
    rw [hy] at hb; cases hb
  · rw [subsP_nil] at hy; cases hy
  · rw [subsP_cons, List.mem_append] at hy
    rcases hy with hy | hy
    · obtain ⟨z, hz, rfl⟩ := List.mem_map.1 hy
      rcases List.mem_cons.1 hb with rfl | hb
      · exact List.mem_cons_self
      · exact List.mem_cons_of_mem _ (h1 z hz b hb)
    · exact List.mem_cons_of_mem _ ((List.dropWhile_sublist _).subset (h2 y hy b hb))

/-! ### Their order -/
theorem ltS_cons (a b : UInt8) (x y : Str) : ltS (a :: x) (b :: y) = (decide (a < b) || (a == b && ltS x y)) := by
  unfold ltS; rw [Op.bytesLess]
theorem ltS_nil (x : Str) : ltS x [] = false := by unfold ltS; cases x <;> rfl
theorem ltS_nil_cons (b : UInt8) (y : Str) : ltS [] (b :: y) = true := rfl
theorem ltS_irrefl : ∀ x : Str, ltS x x = false
  | [] => rfl
  | a :: x => by rw [ltS_cons, ltS_irrefl x]; simp
theorem drop_gt {x : UInt8} : ∀ {t : Str}, SortedB t → (∀ y ∈ t, x.toNat ≤ y.toNat) → ∀ y ∈ t.dropWhile (· == x), x < y
  | [], _, _, y, hy => by simp at hy
  | z :: t, hs, hx, y, hy => by
    rw [List.dropWhile_cons] at hy
    by_cases hz : z = x
    · rw [if_pos (beq_iff_eq.2 hz)] at hy
      exact drop_gt hs.2 (fun w hw => hx w (List.mem_cons_of_mem _ hw)) y hy
    · rw [if_neg (fun e => hz (beq_iff_eq.1 e))] at hy
      have h1 := hx z List.mem_cons_self
      have h2 : z.toNat ≠ x.toNat := fun e => hz (UInt8.toNat_inj.1 e)
      have h3 : z.toNat ≤ y.toNat := by
        rcases List.mem_cons.1 hy with rfl | hy
        · exact Nat.le_refl _
        · exact hs.1 y hy
      exact UInt8.lt_iff_toNat_lt.2 (by omega)
theorem subsP_rise {s : Str} {n : Nat} : SortedB s → (subsP s n).Pairwise fun a b => ltS a b = true := by
  refine subs_ind (Q := fun s n => SortedB s → (subsP s n).Pairwise fun a b => ltS a b = true) (fun s _ => ?_) (fun n _ => ?_) (fun x t n h1 h2 hs => ?_) s.length s n (Nat.le_refl _)
  · rw [subsP_zero]; exact List.pairwise_singleton _ _
  · rw [subsP_nil]; exact List.Pairwise.nil
  · rw [subsP_cons, List.pairwise_append]
    refine ⟨?_, h2 hs.2.dropWhile, fun a ha b hb => ?_⟩
    · rw [List.pairwise_map]
      refine (h1 hs.2).imp fun {a b} hab => ?_
      rw [ltS_cons, hab, beq_self_eq_true]
      simp
    · obtain ⟨a', ha', rfl⟩ := List.mem_map.1 ha
      have hl := subsP_len_each b hb
      cases b with
      | nil => simp at hl
      | cons y b =>
        have hy := subsP_mem (y :: b) hb y List.mem_cons_self
        have := drop_gt hs.2 hs.1 y hy
        rw [ltS_cons, decide_eq_true this]
        rfl

theorem insert_end (l : List Str) (t : Str) (hl : l.length ≤ 100000) (h : ∀ w ∈ l, ltS w t = true) : m_spec_l03Insert l t = some (l ++ [t]) := by
  unfold m_spec_l03Insert
  have hst : m_spec_l03Insert_l1 l t (l.length : Int) = some (.inr (l.length : Int)) := by
    unfold m_spec_l03Insert_l1
    by_cases h0 : 0 < l.length
    · rw [decide_eq_true (by omega), cond_true, chk_to ((l.length - 1 : Nat) : Int) (by omega) (by omega) (by omega), Option.bind_some, getL_at (by omega), Option.bind_some, Option.bind_some, h _ (List.getElem_mem _)]
      rfl
    · rw [decide_eq_false (by omega)]
      rfl
  rw [loopM_done hst, Option.bind_some, Option.bind_some]
  have hb : (bif decide (0 < (l.length : Int)) then (chk ((l.length : Int) - 1)).bind fun z54 => (getL l z54).bind fun e56 => some (e56 == t) else some false : Option Bool) = some false := by
    by_cases h0 : 0 < l.length
    · rw [decide_eq_true (by omega), cond_true, chk_to ((l.length - 1 : Nat) : Int) (by omega) (by omega) (by omega), Option.bind_some, getL_at (by omega), Option.bind_some]
      have hlt := h _ (List.getElem_mem (by omega : l.length - 1 < l.length))
      have : (l[l.length - 1] == t) = false := by
        rw [beq_eq_false_iff_ne]
        intro e
        rw [e, ltS_irrefl] at hlt
        cases hlt
      rw [this]
    · rw [decide_eq_false (by omega)]
      rfl
  rw [hb, Option.bind_some, cond_false, subL_of (by omega) (by omega) (by omega), Option.bind_some, catL_of (by simp; omega), Option.bind_some, catL_of (by simp; omega), Option.bind_some, subL_of (by omega) (by omega) (by omega), Option.bind_some, catL_of (by simp; omega)]
  simp

/-! ### The reference's way -/
/-- What is left of a pile at place i: the tiles from there on, without those like the one before. -/
def restAt (s : Str) (i : Nat) : Str := match i with
  | 0 => s
  | i + 1 => (s.drop (i + 1)).dropWhile (· == s.getD i 0)
theorem restAt_succ (s : Str) (i : Nat) : restAt s (i + 1) = (s.drop (i + 1)).dropWhile (· == s.getD i 0) := rfl
theorem restAt_len (s : Str) (i : Nat) : (restAt s i).length ≤ s.length - i := by
  cases i with
  | zero => simp [restAt]
  | succ i =>
    have := dropWhile_len (· == s.getD i 0) (s.drop (i + 1))
    unfold restAt
    rw [List.length_drop] at this
    omega
theorem insLoopX (s : Str) (i : Nat) (hi : i < s.length) (hs : s.length ≤ 12) (ys zs all : List Str) (hp : all.Pairwise fun a b => ltS a b = true) (rest : List Str) (he : all = zs ++ ys.map (s[i] :: ·) ++ rest) (hlen : all.length ≤ 5000) (hy : ∀ y ∈ ys, y.length ≤ 12) : ∀ (k j : Nat), j + k = ys.length → loopM (fun q : (List Str) × Int => m_spec_l03Subs_l2 ys (i : Int) s q.1 q.2) (zs ++ (ys.take j).map (s[i] :: ·), (j : Int)) = some (zs ++ ys.map (s[i] :: ·))
  | 0, j, h => by
    rw [List.take_of_length_le (by omega)]
    refine loopM_done ?_
    show m_spec_l03Subs_l2 ys (i : Int) s _ (j : Int) = _
    unfold m_spec_l03Subs_l2
    rw [decide_eq_false (by omega)]
    rfl
  | k + 1, j, h => by
    have hj : j < ys.length := by omega
    rw [← insLoopX s i hi hs ys zs all hp rest he hlen hy k (j + 1) (by omega)]
    refine loopM_next ?_
    show m_spec_l03Subs_l2 ys (i : Int) s (zs ++ (ys.take j).map (s[i] :: ·)) (j : Int) = _
    have hsub : (s.drop i).take ((i + 1) - i) = [s[i]] := by
      rw [List.drop_eq_getElem_cons hi, show i + 1 - i = 1 by omega]
      rfl
    have hyl := hy _ (List.getElem_mem hj)
    have hsplit : all = (zs ++ (ys.take j).map (s[i] :: ·)) ++ ((s[i] :: ys[j]) :: ((ys.drop (j + 1)).map (s[i] :: ·) ++ rest)) := by
      have hm : ys.map (s[i] :: ·) = (ys.take j).map (s[i] :: ·) ++ ((s[i] :: ys[j]) :: (ys.drop (j + 1)).map (s[i] :: ·)) := by
        conv => lhs; rw [← List.take_append_drop j ys, List.drop_eq_getElem_cons hj, List.map_append, List.map_cons]
      rw [he, hm]
      simp only [List.append_assoc, List.cons_append]
    have hys : ys.length ≤ 5000 := by
      rw [he, List.length_append, List.length_append, List.length_map] at hlen
      omega
    have hord : ∀ w ∈ zs ++ (ys.take j).map (s[i] :: ·), ltS w (s[i] :: ys[j]) = true := fun w hw => by
      rw [hsplit, List.pairwise_append] at hp
      exact hp.2.2 w hw _ List.mem_cons_self
    have hcnt : (zs ++ (ys.take j).map (s[i] :: ·)).length ≤ 5000 := by
      have := congrArg List.length hsplit
      rw [List.length_append] at this
      omega
    unfold m_spec_l03Subs_l2
    rw [decide_eq_true (by omega), cond_true, chk_succ (by omega), Option.bind_some, subL_of (by omega) (by omega) (by omega), Option.bind_some, getL_at hj, Option.bind_some]
    simp only [Int.toNat_natCast]
    rw [hsub, catL_of (by simp; omega), Option.bind_some, List.singleton_append, insert_end _ _ (by omega) hord, Option.bind_some, chk_succ (by omega), Option.bind_some, List.take_add_one, List.getElem?_eq_getElem hj, List.map_append, List.append_assoc]
    rfl

theorem getD_at {s : Str} {i : Nat} (h : i < s.length) : s.getD i 0 = s[i] := by simp [List.getD_eq_getElem?_getD, List.getElem?_eq_getElem h]
theorem restAt_same {s : Str} {j : Nat} (hi : j + 1 < s.length) (h : s[j + 1] = s[j]) : restAt s (j + 2) = restAt s (j + 1) := by
  rw [restAt_succ, restAt_succ]
  conv => rhs; rw [List.drop_eq_getElem_cons hi, List.dropWhile_cons, getD_at (by omega : j < s.length), h, if_pos (beq_self_eq_true _)]
  rw [getD_at hi, h]
theorem restAt_new {s : Str} {i : Nat} (hi : i < s.length) (h : ∀ j, (hj : i = j + 1) → s[i] ≠ s[j]) : restAt s i = s[i] :: s.drop (i + 1) := by
  cases i with
  | zero =>
    show s = _
    conv => lhs; rw [← List.drop_zero (l := s), List.drop_eq_getElem_cons hi]
  | succ j =>
    rw [restAt_succ, List.drop_eq_getElem_cons hi, List.dropWhile_cons, getD_at (by omega : j < s.length), if_neg (fun e => h j rfl (beq_iff_eq.1 e))]
theorem restAt_next {s : Str} {i : Nat} (hi : i < s.length) : restAt s (i + 1) = (s.drop (i + 1)).dropWhile (· == s[i]) := by
  rw [restAt_succ, getD_at hi]
def sameAt (s : Str) : Nat → Bool
  | 0 => false
  | j + 1 => s.getD (j + 1) 0 == s.getD j 0
theorem sameAt_succ (s : Str) (j : Nat) : sameAt s (j + 1) = (s.getD (j + 1) 0 == s.getD j 0) := rfl
theorem subs_loop (rc : Str → Int → Option (List Str)) (m : Nat) (s : Str) (hs : SortedB s) (hl : s.length ≤ 12) (hm : m ≤ 100) (hrc : ∀ t : Str, SortedB t → t.length ≤ 12 → rc t (m : Int) = some (subsP t m)) : ∀ (k i : Nat) (xs : List Str), i + k = s.length → subsP s (m + 1) = xs ++ subsP (restAt s i) (m + 1) → loopM (fun q : (List Str) × Int => m_spec_l03Subs_l1 ((m + 1 : Nat) : Int) s rc q.1 q.2) (xs, (i : Int)) = some (subsP s (m + 1)) := by
  have hcount := subsP_count (s := s) (n := m + 1)
  have h12 : 2 ^ s.length ≤ 2 ^ 12 := Nat.pow_le_pow_right (by omega) hl
  have stop : ∀ (i : Nat) (xs : List Str), i ≤ s.length → s.length < i + (m + 1) → subsP s (m + 1) = xs ++ subsP (restAt s i) (m + 1) → loopM (fun q : (List Str) × Int => m_spec_l03Subs_l1 ((m + 1 : Nat) : Int) s rc q.1 q.2) (xs, (i : Int)) = some (subsP s (m + 1)) := fun i xs hi hlt he => by
    have hr := restAt_len s i
    rw [subsP_few (s := restAt s i) (n := m + 1) (by omega), List.append_nil] at he
    rw [he]
    refine loopM_done ?_
    show m_spec_l03Subs_l1 _ s rc xs (i : Int) = _
    unfold m_spec_l03Subs_l1
    rw [chk_in (by omega) (by omega), Option.bind_some, decide_eq_false (by omega)]
    rfl
  intro k
  induction k with
  | zero => intro i xs h he; exact stop i xs (by omega) (by omega) he
  | succ k ih =>
    intro i xs h he
    by_cases hlt : s.length < i + (m + 1)
    · exact stop i xs (by omega) hlt he
    have hi : i < s.length := by omega
    -- is the tile like the one before?
    have htest : (bif decide (0 < (i : Int)) then (getL s (i : Int)).bind fun c45 => (chk ((i : Int) - 1)).bind fun z47 => (getL s z47).bind fun c49 => some (c45 == c49) else some false : Option Bool) = some (sameAt s i) := by
      cases i with
      | zero => rfl
      | succ j =>
        rw [decide_eq_true (by omega), cond_true, getL_at hi, Option.bind_some, chk_to (j : Int) (by omega) (by omega) (by omega), Option.bind_some, getL_at (by omega), Option.bind_some, sameAt_succ, getD_at hi, getD_at (by omega : j < s.length)]
    have hstep : ∀ ys : List Str, m_spec_l03Subs_l1 ((m + 1 : Nat) : Int) s rc xs (i : Int) = some (.inl (ys, ((i + 1 : Nat) : Int))) → subsP s (m + 1) = ys ++ subsP (restAt s (i + 1)) (m + 1) → loopM (fun q : (List Str) × Int => m_spec_l03Subs_l1 ((m + 1 : Nat) : Int) s rc q.1 q.2) (xs, (i : Int)) = some (subsP s (m + 1)) := fun ys e1 e2 => by
      rw [← ih (i + 1) ys (by omega) e2]
      exact loopM_next e1
    cases hb : sameAt s i
    · -- a new tile
      have hnew : ∀ j, (hj : i = j + 1) → s[i] ≠ s[j] := fun j hj e => by
        subst hj
        rw [sameAt_succ, getD_at hi, getD_at (by omega : j < s.length), e, beq_self_eq_true] at hb
        cases hb
      have hr := restAt_new hi hnew
      rw [hr, subsP_cons, ← restAt_next hi, ← List.append_assoc] at he
      refine hstep _ ?_ he
      unfold m_spec_l03Subs_l1
      rw [chk_in (by omega) (by omega), Option.bind_some, decide_eq_true (by omega), cond_true, htest, hb, Option.bind_some, cond_false, chk_succ (by omega), Option.bind_some, subL_of (by omega) (by omega) (by omega), Option.bind_some, chk_to (m : Int) (by omega) (by omega) (by omega), Option.bind_some]
      have ht : (s.drop ((i + 1 : Nat) : Int).toNat).take ((s.length : Int).toNat - ((i + 1 : Nat) : Int).toNat) = s.drop (i + 1) := by
        rw [Int.toNat_natCast, Int.toNat_natCast, List.take_of_length_le (by rw [List.length_drop]; exact Nat.le_refl _)]
      rw [ht, hrc _ (hs.drop _) (by rw [List.length_drop]; omega), Option.bind_some]
      have hin := insLoopX s i hi hl (subsP (s.drop (i + 1)) m) xs (subsP s (m + 1)) (subsP_rise hs) (subsP (restAt s (i + 1)) (m + 1)) he (by omega) (fun y hy => by
        have h1 := subsP_len_each y hy
        omega) (subsP (s.drop (i + 1)) m).length 0 (by omega)
      rw [List.take_zero, List.map_nil, List.append_nil, show ((0 : Nat) : Int) = 0 from rfl] at hin
      rw [hin, Option.bind_some, Option.bind_some, Option.bind_some]
    · -- one like the one before
      cases i with
      | zero => cases hb
      | succ j =>
        rw [sameAt_succ, getD_at hi, getD_at (by omega : j < s.length)] at hb
        refine hstep xs ?_ (by rw [restAt_same hi (beq_iff_eq.1 hb)]; exact he)
        unfold m_spec_l03Subs_l1
        rw [chk_in (by omega) (by omega), Option.bind_some, decide_eq_true (by omega), cond_true, htest, sameAt_succ, getD_at hi, getD_at (by omega : j < s.length), hb, Option.bind_some, cond_true, Option.bind_some, chk_succ (by omega), Option.bind_some]
theorem subsS_n : ∀ (m : Nat) (s : Str) (f : Nat), m < f → m ≤ 100 → SortedB s → s.length ≤ 12 → m_spec_l03Subs_n f s (m : Int) = some (subsP s m)
  | 0, s, f + 1, _, _, _, _ => by
    rw [subsP_zero]
    rfl
  | m + 1, s, f + 1, hf, hm, hs, hl => by
    show m_spec_l03Subs_b (m_spec_l03Subs_n f) s ((m + 1 : Nat) : Int) = _
    unfold m_spec_l03Subs_b
    have := subs_loop (m_spec_l03Subs_n f) m s hs hl (by omega) (fun t ht htl => subsS_n m t f (by omega) (by omega) ht htl) s.length 0 [] (by omega) rfl
    rw [show ((0 : Nat) : Int) = 0 from rfl] at this
    rw [beq_eq_false_iff_ne.2 (by omega), cond_false, this]
    rfl
theorem l03Subs_eq (s : Str) (m : Nat) (hm : m ≤ 100) (hs : SortedB s) (hl : s.length ≤ 12) : m_spec_l03Subs s (m : Int) = some (subsP s m) := by
  unfold m_spec_l03Subs
  exact subsS_n m s fuelN (by unfold fuelN; omega) hm hs hl

end Go.Proofs.Ytgmbcolpchckbaa
