/- FnDrawWays: the law's model is true for all bytes. -/
import Derived.Test.YtgmbcolpchckbaaPureU0
import Derived.Test.YtgmbcolpchckbaaPureZ7
import Derived.Test.YtgmbcolpchckbaaChanceOfPure
namespace Go.Proofs.Ytgmbcolpchckbaa
open Go Go.RowKit
set_option linter.unusedSimpArgs false
set_option linter.unusedVariables false

/-! ### What is drawn is a pile -/
theorem sorted_pair : ∀ {s : Str}, SortedB s ↔ s.Pairwise fun a b => a.toNat ≤ b.toNat
  | [] => by simp [SortedB]
  | x :: t => by
    rw [List.pairwise_cons, ← sorted_pair (s := t)]
    exact Iff.rfl
theorem insert_sorted {l : Str} {n : Nat} {c : UInt8} (hs : SortedB l) (hn : n ≤ l.length) (h1 : ∀ y ∈ l.drop n, c.toNat ≤ y.toNat) (h2 : ∀ y ∈ l.take n, y.toNat ≤ c.toNat) : SortedB (l.take n ++ c :: l.drop n) := by
  rw [sorted_pair] at hs ⊢
  rw [← List.take_append_drop n l, List.pairwise_append] at hs
  rw [List.pairwise_append, List.pairwise_cons]
  refine ⟨hs.1, ⟨h1, hs.2.1⟩, fun a ha b hb => ?_⟩
  rcases List.mem_cons.1 hb with rfl | hb
  · exact h2 a ha
  · exact hs.2.2 a ha b hb
theorem sort_inner (s l : Str) (k : Nat) (hk : k < s.length) (hl : SortedB l) (hlen : l.length ≤ 1000) : ∀ (n : Nat) (x : UInt8), n ≤ l.length → (∀ y ∈ l.drop n, (s[k]).toNat ≤ y.toNat) → ∃ (m : Nat) (x' : UInt8), m ≤ l.length ∧ loopM (fun q : Str × Int => m_spec_l03Sort_l2 s (k : Int) q.1 q.2) (l.take n ++ x :: l.drop n, (n : Int)) = some (l.take m ++ x' :: l.drop m, (m : Int)) ∧ SortedB (l.take m ++ s[k] :: l.drop m)
  | 0, x, hn, hd => by
    refine ⟨0, x, hn, loopM_done ?_, insert_sorted hl hn hd (by simp)⟩
    show m_spec_l03Sort_l2 s (k : Int) _ ((0 : Nat) : Int) = _
    unfold m_spec_l03Sort_l2
    rw [decide_eq_false (by omega)]
    rfl
  | n + 1, x, hn, hd => by
    have hn' : n < l.length := by omega
    have hlen1 : (l.take (n + 1) ++ x :: l.drop (n + 1)).length = l.length + 1 := by
      rw [List.length_append, List.length_take, List.length_cons, List.length_drop]; omega
    have hget : (l.take (n + 1) ++ x :: l.drop (n + 1))[n]'(by omega) = l[n] := by
      rw [List.getElem_append_left (by rw [List.length_take]; omega), List.getElem_take]
    by_cases hlt : s[k] < l[n]
    · have hle := UInt8.lt_iff_toNat_lt.1 hlt
      obtain ⟨m, x', m1, m2, m3⟩ := sort_inner s l k hk hl hlen n l[n] (by omega) (fun y hy => by
        rw [List.drop_eq_getElem_cons hn'] at hy
        rcases List.mem_cons.1 hy with rfl | hy
        · omega
        · exact hd y hy)
      refine ⟨m, x', m1, ?_, m3⟩
      rw [← m2]
      refine loopM_next ?_
      show m_spec_l03Sort_l2 s (k : Int) (l.take (n + 1) ++ x :: l.drop (n + 1)) ((n + 1 : Nat) : Int) = _
      have hset : (l.take (n + 1) ++ x :: l.drop (n + 1)).set (n + 1) l[n] = l.take n ++ l[n] :: l.drop n := by
        rw [List.set_append_right _ _ (by rw [List.length_take]; omega), List.length_take, show n + 1 - min (n + 1) l.length = 0 by omega, List.set_cons_zero, List.take_add_one, List.getElem?_eq_getElem hn', List.drop_eq_getElem_cons hn', Option.toList_some, List.append_assoc, List.singleton_append]
      unfold m_spec_l03Sort_l2
      rw [decide_eq_true (by omega), cond_true, chk_to (n : Int) (by omega) (by omega) (by omega), Option.bind_some, getL_at (by omega), Option.bind_some, getL_at hk, Option.bind_some, Option.bind_some, hget, decide_eq_true hlt, cond_true, Option.bind_some, getL_at (by omega), Option.bind_some, getL_at (by omega), Option.bind_some, hget, setL_of (by omega), Option.bind_some, Option.bind_some, hset]
    · have hle : (l[n]).toNat ≤ (s[k]).toNat := by
        rcases Nat.lt_or_ge (s[k]).toNat (l[n]).toNat with h | h
        · exact absurd (UInt8.lt_iff_toNat_lt.2 h) hlt
        · exact h
      refine ⟨n + 1, x, hn, loopM_done ?_, insert_sorted hl hn hd fun y hy => ?_⟩
      · show m_spec_l03Sort_l2 s (k : Int) (l.take (n + 1) ++ x :: l.drop (n + 1)) ((n + 1 : Nat) : Int) = _
        unfold m_spec_l03Sort_l2
        rw [decide_eq_true (by omega), cond_true, chk_to (n : Int) (by omega) (by omega) (by omega), Option.bind_some, getL_at (by omega), Option.bind_some, getL_at hk, Option.bind_some, Option.bind_some, hget, decide_eq_false hlt, cond_false]
      · obtain ⟨q, hq, e⟩ := List.getElem_of_mem hy
        rw [List.length_take] at hq
        rw [List.getElem_take] at e
        have := sorted_le hl hn' (by omega : q ≤ n)
        rw [e] at this
        omega
theorem sort_ok (s : Str) (ht : Tiles s) (hlen : s.length ≤ 900) : ∃ r, m_spec_l03Sort s = some r ∧ SortedB r ∧ Tiles r ∧ r.length = s.length := by
  have key : ∀ (d k : Nat) (l : Str), k + d = s.length → l.length = k → SortedB l → Tiles l → ∃ r, loopM (fun q : Str × Int => m_spec_l03Sort_l1 s q.1 q.2) (l, (k : Int)) = some r ∧ SortedB r ∧ Tiles r ∧ r.length = s.length := by
    intro d
    induction d with
    | zero =>
      intro k l hk hl hs' ht'
      refine ⟨l, loopM_done ?_, hs', ht', by omega⟩
      show m_spec_l03Sort_l1 s l (k : Int) = _
      unfold m_spec_l03Sort_l1
      rw [decide_eq_false (by omega)]
      rfl
    | succ d ih =>
      intro k l hk hl hs' ht'
      have hk' : k < s.length := by omega
      obtain ⟨m, x', m1, m2, m3⟩ := sort_inner s l k hk' hs' (by omega) l.length s[k] (Nat.le_refl _) (by simp)
      rw [List.take_length, List.drop_length] at m2
      obtain ⟨r, r1, r2, r3, r4⟩ := ih (k + 1) (l.take m ++ s[k] :: l.drop m) (by omega) (by rw [List.length_append, List.length_take, List.length_cons, List.length_drop]; omega) m3 (fun y hy => by
        rcases List.mem_append.1 hy with hy | hy
        · exact ht' y (List.mem_of_mem_take hy)
        · rcases List.mem_cons.1 hy with rfl | hy
          · exact ht _ (List.getElem_mem hk')
          · exact ht' y (List.mem_of_mem_drop hy))
      refine ⟨r, ?_, r2, r3, r4⟩
      rw [← r1]
      refine loopM_next ?_
      show m_spec_l03Sort_l1 s l (k : Int) = _
      have hlm : (l.take m).length = m := by rw [List.length_take]; omega
      have hlen1 : (l.take m ++ x' :: l.drop m).length = l.length + 1 := by
        rw [List.length_append, List.length_take, List.length_cons, List.length_drop]; omega
      unfold m_spec_l03Sort_l1
      rw [decide_eq_true (by omega), cond_true, getL_at hk', Option.bind_some, catL_of (by simp; omega), Option.bind_some, m2, Option.bind_some, Option.bind_some]
      simp only
      rw [Option.bind_some, getL_at (by omega), Option.bind_some, setL_of (by omega), Option.bind_some, Option.bind_some, chk_succ (by omega), Option.bind_some, List.set_append_right _ _ (by omega), hlm, Nat.sub_self, List.set_cons_zero]
  obtain ⟨r, e, h⟩ := key s.length 0 [] (by omega) rfl trivial (fun y hy => by cases hy)
  unfold m_spec_l03Sort
  rw [show ((0 : Nat) : Int) = 0 from rfl] at e
  rw [e]
  exact ⟨r, rfl, h⟩
def pileTexts : List Str := [[97], [101], [101], [110], [114], [115], [116], [98], [63]]
theorem pileTexts_ok : ∀ x ∈ pileTexts, x.length = 1 ∧ x.all tileB = true := by decide +kernel
theorem l03Draw_ok {k : Nat} {s : l00Src} (h : SrcOk k s) (hk : k ≤ 700000) (most : Nat) (hm : most ≤ 100) : ∃ r s', m_spec_l03Draw s (most : Int) = some (r, s') ∧ SortedB r ∧ Tiles r ∧ r.length ≤ most ∧ SrcOk (k + 300) s' := by
  obtain ⟨v, s1, e1, a1, a2, h1⟩ := pick_ok h (by omega) ((most + 1 : Nat) : Int) (by omega)
  have a2 := a2 (by omega)
  obtain ⟨V, hV⟩ : ∃ V : Nat, v = V := ⟨v.toNat, by omega⟩
  subst hV
  obtain ⟨s2, x, e2, h2, p1, p2⟩ := draw_loop m_spec_l03Draw_l1 (fun i (x : Str) => x.length + i = V ∧ Tiles x) (fun i k s x hs hk hp hi => by
      obtain ⟨y, s', e, hy, hs'⟩ := text_ok hs (by omega) pileTexts (by decide) (by decide)
      obtain ⟨y1, y2⟩ := pileTexts_ok y hy
      refine ⟨s', x ++ y, ?_, hs', by rw [List.length_append, y1]; omega, fun b hb => ?_⟩
      · unfold m_spec_l03Draw_l1
        rw [decide_eq_true (by omega), cond_true]
        show Option.bind (m_spec_l00Src_text s pileTexts) _ = _
        rw [e, Option.bind_some]
        simp only
        rw [catL_of (by omega), Option.bind_some, chk_to (i : Int) (by omega) (by omega) (by omega), Option.bind_some]
      · rcases List.mem_append.1 hb with hb | hb
        · exact hp.2 b hb
        · exact tiles_of y2 b hb)
    (fun s x => rfl) V _ s1 [] h1 (by omega) (by omega) ⟨by simp, fun b hb => by cases hb⟩
  obtain ⟨r, r1, r2, r3, r4⟩ := sort_ok x p2 (by omega)
  unfold m_spec_l03Draw
  rw [chk_succ (by omega), Option.bind_some, e1, Option.bind_some]
  simp only
  rw [e2, Option.bind_some, Option.bind_some]
  simp only
  rw [r1, Option.bind_some]
  exact ⟨_, _, rfl, r2, r3, by omega, h2.mono (by omega)⟩
theorem A2Piles_ok (code : Str) : ∃ p q, m_spec_A2Piles code = some (p, q) ∧ SortedB p ∧ Tiles p ∧ p.length ≤ 9 := by
  obtain ⟨e0, h0⟩ := from_ok code
  obtain ⟨p, s1, e1, p1, p2, p3, h1⟩ := l03Draw_ok h0 (by omega) 9 (by omega)
  obtain ⟨q, s2, e2, q1, q2, q3, h2⟩ := l03Draw_ok h1 (by omega) 5 (by omega)
  unfold m_spec_A2Piles
  rw [e0, Option.bind_some]
  rw [show ((9 : Nat) : Int) = 9 from rfl] at e1
  rw [show ((5 : Nat) : Int) = 5 from rfl] at e2
  rw [e1, Option.bind_some]
  simp only
  rw [e2, Option.bind_some]
  exact ⟨_, _, rfl, p1, p2, p3⟩
theorem a2At_ok (more : Str) : ∃ n : Nat, m_laws_a2At more 0 8 = some (n : Int) ∧ n < 8 := by
  unfold m_laws_a2At
  by_cases h : (more.length : Int) ≤ 0
  · rw [decide_eq_true h]
    exact ⟨0, rfl, by omega⟩
  · have h0 : 0 < more.length := by omega
    rw [decide_eq_false h, cond_false, Option.bind_some, decide_eq_false (by omega), cond_false, show (0 : Int) = ((0 : Nat) : Int) from rfl, getL_at h0, Option.bind_some]
    have hr : remI (((more[0]).toNat : Nat) : Int) 8 = some ((((more[0]).toNat % 8 : Nat)) : Int) := by
      unfold remI
      rw [beq_eq_false_iff_ne.2 (by omega), cond_false, Int.tmod_eq_emod_of_nonneg (by omega)]
      rfl
    rw [hr]
    exact ⟨_, rfl, Nat.mod_lt _ (by omega)⟩

/-! ### The law -/
theorem chN_sum {s t : Str} : ∀ (l : List Str), (∀ y ∈ l, remT y t = []) → chN s t l l.length = sumL (fun y => waysN s y 27) l := by
  intro l h
  have key : ∀ (m : Nat) , m ≤ l.length → chN s t l m + sumL (fun y => waysN s y 27) (l.drop m) = sumL (fun y => waysN s y 27) l := by
    intro m
    induction m with
    | zero => intro _; rw [List.drop_zero]; simp [chN]
    | succ m ih =>
      intro hm
      rw [← ih (by omega), chN_succ _ _ _ (by omega : m < l.length), if_pos (h _ (List.getElem_mem _)), List.drop_eq_getElem_cons (by omega : m < l.length), sumL]
      omega
  have := key l.length (Nat.le_refl _)
  rw [List.drop_length] at this
  simpa [sumL] using this
theorem chN_one {s t : Str} {l : List Str} {i : Nat} (hi : i < l.length) (h : ∀ j (hj : j < l.length), remT l[j] t = [] ↔ j = i) : ∀ m, m ≤ l.length → chN s t l m = if i < m then waysN s l[i] 27 else 0
  | 0, _ => by simp [chN]
  | m + 1, hm => by
    rw [chN_succ _ _ _ (by omega : m < l.length), chN_one hi h m (by omega)]
    by_cases e : m = i
    · subst e
      rw [if_pos ((h m hi).2 rfl), if_neg (by omega), if_pos (by omega), Nat.zero_add]
    · have hno : ¬ remT l[m] t = [] := fun hr => e ((h m (by omega)).1 hr)
      rw [if_neg hno, Nat.add_zero]
      by_cases h' : i < m
      · rw [if_pos h', if_pos (by omega)]
      · rw [if_neg h', if_neg (by omega)]
theorem DrawWays_eq' (s : Str) (n : Nat) (hl : s.length ≤ 12) : m_impl_DrawWays s (n : Int) = some (bif codeR s n == 0 then ((chooseV s.length n : Nat) : Int) else 0, codeR s n) := by
  unfold m_impl_DrawWays
  rw [drawCode_eq s n (by omega), Option.bind_some]
  by_cases h0 : codeR s n = 0
  · rw [h0, bne_self_eq_false, cond_false, choose_eq n hl, beq_self_eq_true]
    rfl
  · rw [bne_iff_ne.2 h0, beq_eq_false_iff_ne.2 h0]
    rfl
theorem m_laws_FnDrawWays_true (code more : Str) (h : Lies (sliceRep byteRep) code) (h' : Lies (sliceRep byteRep) more) : m_laws_FnDrawWays code more = some true := by
  unfold m_laws_FnDrawWays m_laws_a2Long
  by_cases hlong : 3000 < (code.length : Int)
  · rw [decide_eq_true hlong]; rfl
  by_cases hlong' : 3000 < (more.length : Int)
  · rw [decide_eq_false hlong, cond_false, decide_eq_true hlong']; rfl
  rw [decide_eq_false hlong, cond_false, decide_eq_false hlong', Option.bind_some, Option.bind_some, cond_false]
  obtain ⟨p, q, ep, p1, p2, p3⟩ := A2Piles_ok code
  obtain ⟨n, en, hn⟩ := a2At_ok more
  have hpile : pileB p = true := pile_of p1 p2 (by omega)
  have hpool : poolB p = true := by unfold poolB; rw [hpile, decide_eq_true (by omega)]; rfl
  have hempty : pileB [] = true := pile_of trivial (fun y hy => by cases hy) (by simp)
  rw [ep, Option.bind_some, en, Option.bind_some]
  simp only
  rw [(DrawsOf_eq p n (by omega)).1, Option.bind_some, DrawWays_eq' p n (by omega), Option.bind_some, ChanceOf_eq p n [] (by omega) (by simp), Option.bind_some]
  have hcode : codeR p n = if n ≤ p.length then 0 else 2 := by
    unfold codeR
    rw [hpool, Bool.not_true, cond_false, (inB_iff.2 ⟨by omega, by omega⟩ : inB (n : Int) 0 7 = true), Bool.true_and]
    by_cases hle : n ≤ p.length
    · rw [decide_eq_true (by omega), if_pos hle]; rfl
    · rw [decide_eq_false (by omega), if_neg hle]; rfl
  by_cases hle : n ≤ p.length
  case neg =>
    rw [if_neg hle] at hcode
    rw [decide_eq_true (by omega), cond_true]
    unfold drawsR chanceR
    rw [hcode, hpool, hempty]
    rfl
  rw [if_pos hle] at hcode
  obtain ⟨hc, hy⟩ := subs_small p1 p2 (by omega) hle
  have hall : chN p [] (subsP p n) (subsP p n).length = chooseV p.length n := by
    rw [chN_sum _ (fun y _ => remT_nil y), ways_sum p n p1 p2 (by omega)]
  have hch : chanceR p n [] = (((chooseV p.length n : Nat) : Int), 0) := by
    unfold chanceR
    rw [hcode, hpool, hempty, Bool.not_true, Bool.or_false, cond_false, beq_self_eq_true, cond_true, Int.toNat_natCast, hall]
  rw [decide_eq_false (by omega), cond_false, hch, hcode, beq_self_eq_true, cond_true]
  simp only [bne_self_eq_false, cond_false, Option.bind_some]
  unfold drawsR
  rw [hcode, beq_self_eq_true, cond_true, Int.toNat_natCast]
  by_cases hfull : 40 < ((drawsL p n).length : Int)
  · rw [decide_eq_true hfull]; rfl
  rw [decide_eq_false hfull, cond_false]
  simp only [bne_self_eq_false, cond_false]
  have hlen : (drawsL p n).length = (subsP p n).length := by unfold drawsL; rw [List.length_map]
  have hchm := choose_max_all ⟨p.length, by omega⟩ ⟨n, by omega⟩
  simp only at hchm
  have hsum := ways_sum p n p1 p2 (by omega)
  have hrise := subsP_rise (n := n) p1
  have hrun := loop_run (step := fun u : Int × Int => m_laws_FnDrawWays_l1 (drawsL p n, 0) (p, q) (n : Int) u.1 u.2) (fun i => (((chN p [] (subsP p n) i : Nat) : Int), (i : Int))) (subsP p n).length (.inl ((chooseV p.length n : Nat) : Int) : Int ⊕ Bool) (fun i hi => by
      obtain ⟨y1, y2, y3⟩ := hy _ (List.getElem_mem hi)
      have hpi : pileB (subsP p n)[i] = true := pile_of y3 y2 (by omega)
      have hli : (subsP p n)[i].length = n := subsP_len_each _ (List.getElem_mem hi)
      have hge : ∀ j, (hj : j < (subsP p n).length) → (drawsL p n)[j]'(by omega) = ⟨(subsP p n)[j], ((waysN p (subsP p n)[j] 27 : Nat) : Int)⟩ := fun j hj => by
        unfold drawsL
        rw [List.getElem_map]
      have hone : chN p (subsP p n)[i] (subsP p n) (subsP p n).length = waysN p (subsP p n)[i] 27 := by
        rw [chN_one hi (fun j hj => ?_) _ (Nat.le_refl _), if_pos hi]
        constructor
        · intro hr
          have hlj : (subsP p n)[j].length = n := subsP_len_each _ (List.getElem_mem hj)
          have hsame := remT_same _ _ hr (by omega)
          rw [List.pairwise_iff_getElem] at hrise
          rcases Nat.lt_trichotomy j i with hl | he | hl
          · have := hrise j i hj hi hl
            rw [hsame, ltS_irrefl] at this
            cases this
          · exact he
          · have := hrise i j hi hj hl
            rw [hsame, ltS_irrefl] at this
            cases this
        · rintro rfl
          exact remT_self _
      have hchi : chanceR p n (subsP p n)[i] = (((waysN p (subsP p n)[i] 27 : Nat) : Int), 0) := by
        unfold chanceR
        rw [hcode, hpool, hpi, Bool.not_true, Bool.or_false, cond_false, beq_self_eq_true, cond_true, Int.toNat_natCast, hone]
      have hcont : remT p (subsP p n)[i] = [] := (remT_iff _ _ p1 y3).2 fun c => (subsP_sub _ (List.getElem_mem hi)).count_le c
      have hpos := waysN_pos (by omega : p.length ≤ 12) (subsP_sub _ (List.getElem_mem hi)) 27
      have hmax : waysN p (subsP p n)[i] 27 ≤ chooseV p.length n := by
        rw [← hsum]
        exact sumL_mem (f := fun y => waysN p y 27) (List.getElem_mem hi)
      have hb' := chN_succ p [] (subsP p n) hi
      rw [if_pos (remT_nil _)] at hb'
      have hb := chN_le (s := p) (t := []) (by omega) (fun y hy' => (hy y hy').1) i (by omega)
      have hord : (bif decide (0 < (i : Int)) then (getL (drawsL p n) (i : Int)).bind fun e157 => (chk ((i : Int) - 1)).bind fun z167 => (getL (drawsL p n) z167).bind fun e169 => (bif ltS e157.Tiles e169.Tiles || e157.Tiles == e169.Tiles then some true else bif decide (((waysN p (subsP p n)[i] 27 : Nat) : Int) < 1) then some true else some (decide (1000000 < ((waysN p (subsP p n)[i] 27 : Nat) : Int))) : Option Bool) else (bif decide (((waysN p (subsP p n)[i] 27 : Nat) : Int) < 1) then some true else some (decide (1000000 < ((waysN p (subsP p n)[i] 27 : Nat) : Int))) : Option Bool)) = some false := by
        cases i with
        | zero =>
          rw [decide_eq_false (by omega), cond_false, decide_eq_false (by omega), cond_false, decide_eq_false (by omega)]
        | succ i =>
          rw [List.pairwise_iff_getElem] at hrise
          have hlt := ltS_not (hrise i (i + 1) (by omega) hi (by omega))
          rw [decide_eq_true (by omega), cond_true, getL_at (by omega), Option.bind_some, chk_to (i : Int) (by omega) (by omega) (by omega), Option.bind_some, getL_at (by omega), Option.bind_some, hge (i + 1) hi, hge i (by omega)]
          simp only
          rw [hlt, cond_false, decide_eq_false (by omega), cond_false, decide_eq_false (by omega)]
      show m_laws_FnDrawWays_l1 (drawsL p n, 0) (p, q) (n : Int) ((chN p [] (subsP p n) i : Nat) : Int) (i : Int) = _
      unfold m_laws_FnDrawWays_l1
      simp only
      rw [decide_eq_true (by omega : (i : Int) < (drawsL p n).length), cond_true, getL_at (by omega), Option.bind_some, hge i hi]
      simp only
      rw [ChanceOf_eq p n _ (by omega) (by omega), Option.bind_some, hchi]
      simp only
      rw [bne_self_eq_false, cond_false, Option.bind_some]
      simp only
      rw [bne_self_eq_false, cond_false, Option.bind_some]
      simp only
      rw [hli, bne_self_eq_false, cond_false, Option.bind_some]
      simp only
      rw [containsS_eq p _ hpile hpi (by omega) (by omega), decide_eq_true hcont, Option.bind_some, Bool.not_true, cond_false]
      rw [getL_at (by omega : i < (drawsL p n).length), hge i hi] at hord
      rw [hord, Option.bind_some, cond_false, chk_to ((chN p [] (subsP p n) (i + 1) : Nat) : Int) (by omega) (by omega) (by omega), Option.bind_some, chk_succ (by omega), Option.bind_some])
    (by
      show m_laws_FnDrawWays_l1 (drawsL p n, 0) (p, q) (n : Int) _ ((subsP p n).length : Int) = _
      unfold m_laws_FnDrawWays_l1
      simp only
      rw [decide_eq_false (by omega), cond_false, hall]) 0 (Nat.zero_le _)
  rw [show (((chN p [] (subsP p n) 0 : Nat) : Int), ((0 : Nat) : Int)) = ((0 : Int), (0 : Int)) from rfl] at hrun
  rw [hrun, Option.bind_some, Option.bind_some]
  simp only
  rw [beq_self_eq_true]

end Go.Proofs.Ytgmbcolpchckbaa
