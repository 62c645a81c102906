/- PureK17, PureK18, PureK19, PureK20, PureK21, PureK22 in one text. -/
import Derived.Test.YtdaoecpkgobelaaGreatDoorPureM2
namespace Go.Proofs.YtdaoecpkgobelaaGreatDoor
open Go Go.RowKit
set_option linter.unusedSimpArgs false
set_option linter.unusedVariables false
set_option linter.unusedSectionVars false
section
theorem ddA_len {α : Type} [DecidableEq α] : ∀ (l acc : List α), (ddA acc l).length ≤ acc.length + l.length
 | [], acc => Nat.le_refl _
 | x :: l, acc => by
  rw [ddA]
  split
  ·have := ddA_len l acc; rw [List.length_cons]; omega
  ·have := ddA_len l (acc ++ [x]); rw [List.length_append, List.length_singleton] at this; rw [List.length_cons]; omega
theorem totA_append (A B : List Str) : totA (A ++ B) = totA A + totA B := by unfold totA; rw [List.map_append, List.sum_append]
theorem totA_cons (c : UInt8) (T : List Str) : totA (T.map (c :: ·)) = T.length + totA T := by
 unfold totA
 induction T with
 | nil => rfl
 | cons x T ih => rw [List.map_cons, List.map_cons, List.sum_cons, ih, List.map_cons, List.sum_cons, List.length_cons, List.length_cons]; omega
theorem pre_tot {nd : Nat → Bool × List (UInt8 × Nat)} {F : Nat} : ∀ (n : Nat) (k : Nat), n ≤ F → shortA nd n k → (∀ j ∈ preA nd n k, ∀ e ∈ (nd j).2, langA nd F e.2 ≠ []) → (preA nd n k).length ≤ 1 + totA (langA nd n k)
 | 0, _, _, h, _ => h.elim
 | n + 1, k, hn, h, hu => by
  have key : ∀ (G : List (UInt8 × Nat)), (∀ e ∈ G, shortA nd n e.2 ∧ langA nd n e.2 ≠ [] ∧ (preA nd n e.2).length ≤ 1 + totA (langA nd n e.2)) → (G.flatMap fun e => preA nd n e.2).length ≤ totA (G.flatMap fun e => (langA nd n e.2).map (e.1 :: ·)) := by
   intro G
   induction G with
   | nil => exact fun _ => Nat.le_refl _
   | cons e G ih =>
    intro hG
    obtain ⟨_, h2, h3⟩ := hG e List.mem_cons_self
    have h4 := ih fun x hx => hG x (List.mem_cons_of_mem _ hx)
    have h5 := List.length_pos_iff.2 h2
    rw [List.flatMap_cons, List.flatMap_cons, List.length_append, totA_append, totA_cons]
    omega
  have hk := key (nd k).2 fun e he => by
   have h1 := h e he
   have h2 := hu k List.mem_cons_self e he
   rw [langA_fuel nd (by omega : n ≤ F) h1] at h2
   exact ⟨h1, h2, pre_tot n e.2 (by omega) h1 fun j hj => hu j (List.mem_cons_of_mem _ (List.mem_flatMap.2 ⟨e, he, hj⟩))⟩
  rw [preA, langA, List.length_cons, totA_append]
  omega
theorem GoodN.size {D : List Node} (h : GoodN 14 (D.map ndN)) : D.length ≤ 1 + totA (langA (ndD D) 14 0) := by
 have h1 := h.num
 rw [List.length_map] at h1
 have h2 := congrArg List.length h1
 rw [List.length_range] at h2
 have h3 := ddA_len (preA (ndL (D.map ndN)) 14 0) []
 have h4 : (preA (ndD D) 14 0).length ≤ 1 + totA (langA (ndD D) 14 0) := pre_tot 14 0 (Nat.le_refl _) h.good.short h.good.use
 rw [List.length_nil, Nat.zero_add] at h3
 exact Nat.le_trans (h2 ▸ h3) h4
theorem build_good (R : List Str) (hRs : SortedW R) (hR : ∀ w ∈ R, w ≠ [] ∧ w.length ≤ 13 ∧ ∀ c ∈ w, formB c = true) (hfew : R.length ≤ 3000) (hbig : totA R + 1 ≤ 3000) :
  ∃ D : List Node, m_spec_l06Build R = some ⟨D⟩ ∧ GoodD D ∧ langA (ndD D) 14 0 = R ∧ ∀ x ∈ D, x.Next.length ≤ 10000 := by
 obtain ⟨D, h1, h2, h3, h4, h5, h6, h7⟩ := Build_eq R hRs (fun w hw => (hR w hw).2) (by omega)
 have h8 := h2.size
 rw [h3] at h8
 refine ⟨D, h1, ⟨⟨h6, by omega, h4⟩, ?_, h2, by rw [h3]; exact hfew⟩, h3, h5⟩
 have h9 : shortA (ndD D) 14 0 := h2.good.short
 cases hf : (ndD D 0).1 with
 | false => rfl
 | true =>
  have : ([] : Str) ∈ langA (ndD D) 14 0 := by rw [lang_fl h9, hf]; simp
  rw [h3] at this
  exact absurd rfl (hR _ this).1
/-! the source of numbers -/
def SrcK (code : Str) (k : Nat) (s : l00Src) : Prop := 0 ≤ s.at_ ∧ s.at_ ≤ k ∧ s.code = code
theorem SrcK.mono {code : Str} {k k' : Nat} {s : l00Src} (h : SrcK code k s) (hk : k ≤ k') : SrcK code k' s := ⟨h.1, by have := h.2.1; omega, h.2.2⟩
theorem next_k {code : Str} {k : Nat} {s : l00Src} (h : SrcK code k s) (hk : k ≤ 1000000) : ∃ v s', m_spec_l00Src_next s = some (v, s') ∧ 0 ≤ v ∧ v < 256 ∧ SrcK code (k + 1) s' := by
 obtain ⟨h0, h1, hcode⟩ := h
 have hb : ∃ b : Int, (bif decide (s.at_ < (s.code.length : Int)) then (getL s.code s.at_).bind fun e16 => some (e16.toNat : Int) else some 0 : Option Int) = some b ∧ 0 ≤ b ∧ b < 256 := by
  by_cases hlt : s.at_ < (s.code.length : Int)
  ·rw [decide_eq_true hlt, cond_true, getL_int h0 (by omega)]
   have := UInt8.toNat_lt s.code[s.at_.toNat]
   exact ⟨_, rfl, by omega, by omega⟩
  ·rw [decide_eq_false hlt]
   exact ⟨0, rfl, by omega, by omega⟩
 obtain ⟨b, e, b1, b2⟩ := hb
 unfold m_spec_l00Src_next
 rw [e, Option.bind_some, chk_in (by omega) (by omega), Option.bind_some]
 cases decide (s.at_ + 1 ≤ (s.code.length : Int))
 ·rw [cond_false]
  have g1 := Int.emod_nonneg (((((((s.seed * 6364136223846793005) % 18446744073709551616) + (b % 18446744073709551616)) % 18446744073709551616) + 1442695040888963407) % 18446744073709551616) / 1099511627776) (show (256 : Int) ≠ 0 by decide)
  have g2 := Int.emod_lt_of_pos (((((((s.seed * 6364136223846793005) % 18446744073709551616) + (b % 18446744073709551616)) % 18446744073709551616) + 1442695040888963407) % 18446744073709551616) / 1099511627776) (show (0 : Int) < 256 by decide)
  rw [chk_in (by omega) (by omega), Option.bind_some]
  exact ⟨_, _, rfl, g1, g2, by show 0 ≤ s.at_ + 1; omega, by show s.at_ + 1 ≤ ((k + 1 : Nat) : Int); omega, hcode⟩
 ·rw [cond_true]
  exact ⟨_, _, rfl, b1, b2, by show 0 ≤ s.at_ + 1; omega, by show s.at_ + 1 ≤ ((k + 1 : Nat) : Int); omega, hcode⟩
theorem pick_k {code : Str} {k : Nat} {s : l00Src} (h : SrcK code k s) (hk : k ≤ 900000) (n : Int) (hn : n ≤ 200) : ∃ v s', m_spec_l00Src_pick s n = some (v, s') ∧ 0 ≤ v ∧ v < 256 ∧ (1 ≤ n → v < n) ∧ SrcK code (k + 1) s' := by
 unfold m_spec_l00Src_pick
 by_cases h1 : n ≤ 1
 ·rw [decide_eq_true h1, cond_true]
  exact ⟨0, s, rfl, by omega, by omega, by omega, h.mono (by omega)⟩
 rw [decide_eq_false h1, cond_false]
 obtain ⟨v, s', e, v1, v2, hs⟩ := next_k h (by omega)
 rw [e, Option.bind_some, decide_eq_false (show ¬ (200 < n) by omega), cond_false, Option.bind_some]
 have hr : remI v n = some (v.tmod n) ∧ 0 ≤ v.tmod n ∧ v.tmod n < n := by
  unfold remI
  rw [beq_eq_false_iff_ne.2 (by omega), cond_false]
  exact ⟨rfl, Int.tmod_nonneg _ v1, Int.tmod_lt_of_pos _ (by omega)⟩
 obtain ⟨a1, a2, a3⟩ := hr
 have hcode : (⟨s.code, s'.at_, s'.seed⟩ : l00Src) = s' := by rw [h.2.2, ← hs.2.2]
 simp only
 rw [a1, Option.bind_some, hcode]
 exact ⟨_, _, rfl, a2, by omega, fun _ => a3, hs⟩
/-! the words that are drawn -/
noncomputable def someD : List Str := (m_spec_l05Some).getD []
theorem someD_eq : m_spec_l05Some = some someD := rfl
theorem someD_ok : someD.length = 60 ∧ ∀ x ∈ someD, x.all smB = true ∧ 2 ≤ x.length ∧ x.length ≤ 6 := by
 constructor
 ·rfl
 ·unfold someD m_spec_l05Some
  decide +kernel
theorem insPos (l : List Str) (t : Str) (hl : l.length ≤ 10000) : ∀ i : Nat, i ≤ l.length → (∀ k (h : k < l.length), i ≤ k → ltS t l[k] = true) →
  ∃ j : Nat, j ≤ l.length ∧ loopM (fun s : Int => m_spec_l03Insert_l1 l t s) (i : Int) = some (j : Int) ∧ (∀ k (h : k < l.length), j ≤ k → ltS t l[k] = true) ∧ ∀ k (h : k < l.length), k + 1 = j → ltS t l[k] = false
 | 0, h, hk => ⟨0, Nat.zero_le _, loopM_done rfl, hk, fun k _ e => by omega⟩
 | i + 1, h, hk => by
  have hi : i < l.length := by omega
  have hs : m_spec_l03Insert_l1 l t ((i + 1 : Nat) : Int) = some (bif ltS t l[i] then .inl (i : Int) else .inr ((i + 1 : Nat) : Int)) := by
   unfold m_spec_l03Insert_l1
   rw [decide_eq_true (by omega), cond_true, chk_to (i : Int) (by omega) (by omega) (by omega), Option.bind_some, getL_at hi, Option.bind_some, Option.bind_some, ltS_le]
   cases ltS t l[i] <;> rfl
  cases hlt : ltS t l[i] with
  | true =>
   rw [hlt] at hs
   obtain ⟨j, h1, h2, h3, h4⟩ := insPos l t hl i (by omega) fun k hkl hik => by
    rcases Nat.eq_or_lt_of_le hik with rfl | h'
    ·exact hlt
    ·exact hk k hkl h'
   exact ⟨j, h1, by rw [loopM_next (step := fun s : Int => m_spec_l03Insert_l1 l t s) hs]; exact h2, h3, h4⟩
  | false =>
   rw [hlt] at hs
   exact ⟨i + 1, h, loopM_done hs, hk, fun k hkl e => by
    obtain rfl : k = i := by omega
    exact hlt⟩
def LexD (n : Nat) (l : List Str) : Prop := l.length ≤ n ∧ SortedW l ∧ ∀ w ∈ l, w ∈ someD
theorem insert_sorted {n : Nat} (l : List Str) (t : Str) (hn : n ≤ 9000) (hl : LexD n l) (ht : t ∈ someD) : ∃ r, m_spec_l03Insert l t = some r ∧ LexD (n + 1) r := by
 obtain ⟨h1, h2, h3⟩ := hl
 obtain ⟨j, hj, e, hgt, hle⟩ := insPos l t (by omega) l.length (Nat.le_refl _) (fun k h h' => by omega)
 have hb : (bif decide (0 < (j : Int)) then (chk ((j : Int) - 1)).bind fun z54 => (getL l z54).bind fun e56 => some (e56 == t) else some false : Option Bool) = some (decide (0 < j) && l.getD (j - 1) [] == t) := by
  cases j with
  | zero => rfl
  | succ i =>
   have hi : i < l.length := by omega
   rw [decide_eq_true (show (0 : Int) < ((i + 1 : Nat) : Int) by omega), cond_true, chk_to (i : Int) (by omega) (by omega) (by omega), Option.bind_some, getL_getD hi [], decide_eq_true (show 0 < i + 1 by omega)]
   rfl
 unfold m_spec_l03Insert
 rw [e, Option.bind_some, Option.bind_some, hb, Option.bind_some]
 cases hin : (decide (0 < j) && l.getD (j - 1) [] == t) with
 | true => exact ⟨l, rfl, by omega, h2, h3⟩
 | false =>
  rw [cond_false, subL_of (by omega) (by omega) (by omega), Option.bind_some, catL_of (by simp; omega), Option.bind_some, catL_of (by simp; omega), Option.bind_some, subL_of (by omega) (by omega) (by omega), Option.bind_some, catL_of (by simp; omega), Option.bind_some]
  have e1 : (List.drop (Int.toNat 0) l).take ((j : Int).toNat - Int.toNat 0) = l.take j := by
   rw [show Int.toNat 0 = 0 from rfl, List.drop_zero]; congr 1
  have e2 : (List.drop (j : Int).toNat l).take ((l.length : Int).toNat - (j : Int).toNat) = l.drop j := by
   rw [List.take_of_length_le (by rw [List.length_drop]; omega)]; congr 1
  rw [e1, e2, List.nil_append]
  refine ⟨_, rfl, by simp; omega, ?_, fun w hw => ?_⟩
  ·have hlt : ∀ a ∈ l.take j, ltS a t = true := fun a ha => by
    obtain ⟨k, hk, rfl⟩ := List.mem_iff_getElem.1 ha
    rw [List.length_take] at hk
    have hkj : k < j := by omega
    have hj1 : j - 1 < l.length := by omega
    have hlast := hle (j - 1) hj1 (by omega)
    rw [decide_eq_true (show 0 < j by omega), Bool.true_and, beq_eq_false_iff_ne, List.getD_eq_getElem?_getD, List.getElem?_eq_getElem hj1, Option.getD_some] at hin
    have hl1 : ltS l[j - 1] t = true := by
     rcases ltS_total l[j - 1] t with h | h | h
     ·exact h
     ·exact absurd h hin
     ·rw [h] at hlast; cases hlast
    rw [List.getElem_take]
    rcases Nat.lt_or_ge k (j - 1) with h | h
    ·exact ltS_trans (List.pairwise_iff_getElem.1 h2 k (j - 1) (by omega) hj1 h) hl1
    ·have : k = j - 1 := by omega
     subst this
     exact hl1
   have hgt' : ∀ b ∈ l.drop j, ltS t b = true := fun b hb => by
    obtain ⟨k, hk, rfl⟩ := List.mem_iff_getElem.1 hb
    rw [List.length_drop] at hk
    rw [List.getElem_drop]
    exact hgt (j + k) (by omega) (by omega)
   unfold SortedW
   rw [List.pairwise_append, List.pairwise_append]
   refine ⟨⟨h2.sublist (List.take_sublist j l), List.pairwise_singleton _ _, fun a ha b hb => by rw [List.mem_singleton] at hb; rw [hb]; exact hlt a ha⟩, h2.sublist (List.drop_sublist j l), fun a ha b hb => ?_⟩
   rcases List.mem_append.1 ha with ha | ha
   ·exact ltS_trans (hlt a ha) (hgt' b hb)
   ·rw [List.mem_singleton] at ha; rw [ha]; exact hgt' b hb
  ·rcases List.mem_append.1 hw with hw | hw
   ·rcases List.mem_append.1 hw with hw | hw
    ·exact h3 w (List.mem_of_mem_take hw)
    ·rw [List.mem_singleton.1 hw]; exact ht
   ·exact h3 w (List.mem_of_mem_drop hw)
theorem draw_words (s1 : l00Src) : ∀ (n k : Nat) (s : l00Src) (x : List Str), SrcK s1.code k s → k + 2 * n ≤ 800000 → LexD (25 - n) x → n ≤ 25 →
  ∃ (s' : l00Src) (x' : List Str), loopM (fun q : Int × Int × (List Str) × Int => m_spec_l05Draw_l1 s1 someD q.1 q.2.1 q.2.2.1 q.2.2.2) (s.at_, s.seed, x, (n : Int)) = some (s'.at_, s'.seed, x') ∧ LexD 25 x'
 | 0, k, s, x, h, hk, hx, hn => ⟨s, x, loopM_done rfl, hx⟩
 | n + 1, k, s, x, h, hk, hx, hn => by
  obtain ⟨h60, hlen⟩ := someD_ok
  obtain ⟨u, s', e, u1, _, u2, hs'⟩ := pick_k h (by omega) (someD.length : Int) (by omega)
  have u2 := u2 (by omega)
  have hu : u.toNat < someD.length := by omega
  obtain ⟨r, er, hr⟩ := insert_sorted (n := 25 - (n + 1)) x someD[u.toNat] (by omega) hx (List.getElem_mem hu)
  have hstep : m_spec_l05Draw_l1 s1 someD s.at_ s.seed x ((n + 1 : Nat) : Int) = some (.inl (s'.at_, s'.seed, r, (n : Int))) := by
   unfold m_spec_l05Draw_l1
   have hs : (⟨s1.code, s.at_, s.seed⟩ : l00Src) = s := by rw [← h.2.2]
   rw [decide_eq_true (by omega), cond_true, hs, e, Option.bind_some]
   simp only
   rw [getL_int u1 hu, Option.bind_some, er, Option.bind_some, chk_to (n : Int) (by omega) (by omega) (by omega), Option.bind_some]
  obtain ⟨s'', x', e2, h2⟩ := draw_words s1 n (k + 1) s' r hs' (by omega) (by rw [show 25 - n = 25 - (n + 1) + 1 by omega]; exact hr) (by omega)
  exact ⟨s'', x', by rw [loopM_next (step := fun q : Int × Int × (List Str) × Int => m_spec_l05Draw_l1 s1 someD q.1 q.2.1 q.2.2.1 q.2.2.2) hstep]; exact e2, h2⟩
theorem form_small {c : UInt8} (h : smB c = true) : formB c = true := by
 unfold formB
 rw [h]; rfl
theorem drawnD (code : Str) : ∃ D : List Node, m_spec_A2Dawg code = some ⟨D⟩ ∧ GoodD D ∧ (∀ x ∈ D, x.Next.length ≤ 2000000) ∧ LexD 25 (langA (ndD D) 14 0) := by
 have h0 : SrcK code 0 (⟨code, 0, 0⟩ : l00Src) := ⟨by simp, by simp, rfl⟩
 obtain ⟨v, s1, e1, a1, _, a2, h1⟩ := pick_k h0 (by omega) (14 + 1) (by omega)
 have a2 := a2 (by omega)
 obtain ⟨n, hn⟩ : ∃ n : Nat, v = n := ⟨v.toNat, by omega⟩
 subst hn
 obtain ⟨s2, x, e2, h2, h3, h4⟩ := draw_words (⟨code, 0, 0⟩ : l00Src) n 1 s1 [] h1 (by omega) ⟨by simp, List.Pairwise.nil, by simp⟩ (by omega)
 obtain ⟨h60, hlen⟩ := someD_ok
 have hlen' : ∀ w ∈ x, w.length ≤ 6 := fun w hw => (hlen w (h4 w hw)).2.2
 have htot := totA_le hlen'
 obtain ⟨D, g1, g2, g3, g4⟩ := build_good x h3 (fun w hw => by
  obtain ⟨q1, q2, q3⟩ := hlen w (h4 w hw)
  refine ⟨?_, by omega, fun c hc => form_small (List.all_eq_true.1 q1 c hc)⟩
  rintro rfl
  simp at q2) (by omega) (by omega)
 refine ⟨D, ?_, g2, fun x hx => Nat.le_trans (g4 x hx) (by omega), by rw [g3]; exact ⟨h2, h3, h4⟩⟩
 unfold m_spec_A2Dawg m_spec_l00From m_spec_l06Draw m_spec_l05Draw
 rw [Option.bind_some, someD_eq, Option.bind_some, chk_in (by omega) (by omega), Option.bind_some, e1, Option.bind_some]
 simp only
 rw [e2]
 simp only [Option.bind_some]
 rw [g1]
 rfl
end
section
section
variable {D : List Node} (hG : GoodD D) (hlen : ∀ x ∈ D, x.Next.length ≤ 2000000)
include hG hlen
end
/-! lexicons of drawn words -/
theorem A2Word_val (code : Str) : ∃ w, m_spec_A2Word code = some w ∧ w ∈ someD := by
 have h0 : SrcK code 0 (⟨code, 0, 0⟩ : l00Src) := ⟨by simp, by simp, rfl⟩
 have h60 := someD_ok.1
 obtain ⟨v, s1, e1, a1, _, a2, h1⟩ := pick_k h0 (by omega) (someD.length : Int) (by omega)
 have a2 := a2 (by omega)
 have hu : v.toNat < someD.length := by omega
 refine ⟨someD[v.toNat], ?_, List.getElem_mem hu⟩
 unfold m_spec_A2Word m_spec_l00From m_spec_l00Src_text
 rw [Option.bind_some, someD_eq, Option.bind_some, e1, Option.bind_some]
 simp only
 rw [getL_int a1 hu]
 rfl
end
section
/-! keys of nodes with many successors' numbers -/
theorem pieceB_len (e : UInt8 × Nat) (h : e.2 ≤ 2000000) : (pieceA e).length ≤ 23 := by
 unfold pieceA
 have h1 := Lib.itoa_length_le (e.2 : Int) (by omega) (by omega)
 unfold Lib.itoa at h1
 rw [if_neg (by omega), Int.toNat_natCast] at h1
 simp only [List.length_cons, List.length_append, List.length_nil]
 omega
theorem piecesB_len : ∀ (es : List (UInt8 × Nat)), (∀ e ∈ es, e.2 ≤ 2000000) → (es.flatMap pieceA).length ≤ 23 * es.length
 | [], _ => Nat.le_refl _
 | e :: es, h => by
  rw [List.flatMap_cons, List.length_append, List.length_cons]
  have := pieceB_len e (h e List.mem_cons_self)
  have := piecesB_len es fun x hx => h x (List.mem_cons_of_mem _ hx)
  omega
theorem keyOf_eq2 {n : Nat} {x : Node} (hn : n ≤ 2000000) (hx : NodeOk n x) (hl : x.Next.length ≤ 2000000) : m_impl_keyOf x = some (keyA (ndN x)) := by
 have hel := hx.edges_len
 have hto : ∀ e ∈ (ndN x).2, e.2 ≤ 2000000 := fun e he => by
  have := (List.of_mem_zip (he : (e.1, e.2) ∈ _)).2
  obtain ⟨t, ht, e1⟩ := List.mem_map.1 this
  have := hx.next t ht
  omega
 have hhead : (bif x.Final then (m_strings_Builder_WriteByte ([] : Str) 43).bind fun y22 => some y22.2 else some ([] : Str) : Option Str) = some (if x.Final then [43] else []) := by
  cases x.Final <;> rfl
 unfold m_impl_keyOf
 rw [hhead, Option.bind_some]
 have hpre : (if x.Final = true then ([43] : Str) else []).length ≤ 1 := by split <;> simp
 generalize hp : (if x.Final = true then ([43] : Str) else []) = pre at hpre
 have hloop : loopM (fun s : Str × Int => m_impl_keyOf_l1 x s.1 s.2) (pre, 0) = some (pre ++ (ndN x).2.flatMap pieceA) := by
  have htk : (ndN x).2 = (ndN x).2.take x.Next.length := (List.take_of_length_le (by omega)).symm
  rw [htk]
  have h0 : (pre, (0 : Int)) = (pre ++ ((ndN x).2.take 0).flatMap pieceA, ((0 : Nat) : Int)) := by simp
  rw [h0]
  refine loop_run (fun i => (pre ++ ((ndN x).2.take i).flatMap pieceA, ((i : Nat) : Int))) x.Next.length _ (fun i hi => ?_) ?_ 0 (Nat.zero_le _)
  ·have he := hx.edge hi
   have hli : i < x.Letters.length := by rw [hx.len]; exact hi
   have hlen : (((ndN x).2.take i).flatMap pieceA).length ≤ 23 * x.Next.length := by
    have := piecesB_len ((ndN x).2.take i) fun e he => hto e (List.mem_of_mem_take he)
    rw [List.length_take] at this
    omega
   have hnn := (hx.next _ (List.getElem_mem hi))
   obtain ⟨t, ht⟩ : ∃ t : Nat, x.Next[i] = (t : Int) := ⟨x.Next[i].toNat, by omega⟩
   have hit : Lib.itoa x.Next[i] = Lib.decDigits t := by rw [ht]; unfold Lib.itoa; rw [if_neg (by omega), Int.toNat_natCast]
   have hpl := pieceB_len (x.Letters[i], t) (by show t ≤ 2000000; omega)
   unfold pieceA at hpl
   simp only [List.length_cons, List.length_append, List.length_nil] at hpl
   show m_impl_keyOf_l1 x _ ((i : Nat) : Int) = _
   unfold m_impl_keyOf_l1
   rw [chk_succ (show i ≤ 8000000000000000000 by omega), decide_eq_true (show (i : Int) < (x.Next.length : Int) by omega), cond_true, bind_of (getL_at hi), Option.bind_some]
   have hsub : subL x.Letters (i : Int) ((i + 1 : Nat) : Int) = some [x.Letters[i]] := by
    rw [subL_of (by omega) (by omega) (by omega), Int.toNat_natCast, Int.toNat_natCast, Nat.add_sub_cancel_left, List.drop_eq_getElem_cons hli]
    rfl
   rw [bind_of hsub, bind_of (Decimal_eq _), hit, catL_of (by simp; omega), Option.bind_some, catL_of (by simp; omega), Option.bind_some]
   have hw : ∀ (a b : Str), a.length + b.length ≤ 100000000 → m_strings_Builder_WriteString a b = some ((b.length : Int), (), a ++ b) := fun a b h => by
    unfold m_strings_Builder_WriteString
    show (catL a b).bind _ = _
    rw [catL_of h]; rfl
   rw [bind_of (hw _ _ (by simp only [List.length_append, List.length_cons, List.length_nil]; omega)), Option.bind_some]
   have : (ndN x).2.take (i + 1) = (ndN x).2.take i ++ [(x.Letters[i], t)] := by
    rw [List.take_add_one, he, ht, Int.toNat_natCast]; rfl
   rw [this, List.flatMap_append, List.append_assoc]
   simp [pieceA]
  ·show m_impl_keyOf_l1 x _ ((x.Next.length : Nat) : Int) = _
   unfold m_impl_keyOf_l1
   rw [decide_eq_false (by omega)]; rfl
 rw [bind_of (bind_of hloop ▸ rfl : ((loopM (fun s : Str × Int => m_impl_keyOf_l1 x s.1 s.2) (pre, 0)).bind fun xs52 => some xs52) = some (pre ++ (ndN x).2.flatMap pieceA))]
 unfold keyA
 rw [← hp]
 rfl
structure RegOk (N : List Node) (mp : List (Str × Int)) : Prop where
 at_ : ∀ i (h : i < N.length), getM mp (keyA (ndN N[i])) = some (i : Int)
 all : ∀ k, (getM mp k).isSome = true → ∃ i, ∃ h : i < N.length, keyA (ndN N[i]) = k
theorem node_form {n : Nat} {x : Node} (h : NodeOk n x) : ∀ e ∈ (ndN x).2, formB e.1 = true := fun e he =>
 h.form _ (List.of_mem_zip (he : (e.1, e.2) ∈ _)).1
theorem keyN_inj {n m : Nat} {x y : Node} (hx : NodeOk n x) (hy : NodeOk m y) (h : keyA (ndN x) = keyA (ndN y)) : x = y :=
 ndN_inj hx hy (keyA_inj (node_form hx) (node_form hy) h)
theorem node_eq {N : List Node} {mp : List (Str × Int)} (hN : InvB N) (hR : RegOk N mp) {x : Node} (hx : NodeOk N.length x) (hxl : x.Next.length ≤ 10000) (hNl : N.length ≤ 1000000) :
  (∃ j, ∃ (h : j < N.length), N[j] = x ∧ m_impl_maker_node ⟨N, mp⟩ x = some ((j : Int), ⟨N, mp⟩)) ∨
  (x ∉ N ∧ ∃ mp', m_impl_maker_node ⟨N, mp⟩ x = some ((N.length : Int), ⟨N ++ [x], mp'⟩) ∧ RegOk (N ++ [x]) mp') := by
 unfold m_impl_maker_node
 rw [keyOf_eq2 (by omega) hx (by omega), Option.bind_some]
 by_cases hm : x ∈ N
 ·left
  obtain ⟨j, hj, hjx⟩ := List.mem_iff_getElem.1 hm
  have hg := hR.at_ j hj
  rw [hjx] at hg
  refine ⟨j, hj, hjx, ?_⟩
  show ((bif !((getM mp (keyA (ndN x))).isSome) then _ else _ : Option _).bind _) = _
  rw [hg]
  rfl
 ·right
  have hnone : getM mp (keyA (ndN x)) = none := by
   cases hg : getM mp (keyA (ndN x)) with
   | none => rfl
   | some v =>
    obtain ⟨i, hi, hk⟩ := hR.all (keyA (ndN x)) (by rw [hg]; rfl)
    exact absurd (keyN_inj (hN.node i hi) hx hk ▸ List.getElem_mem hi) hm
  refine ⟨hm, putM mp (keyA (ndN x)) (N.length : Int), ?_, fun i hi => ?_, fun k hk => ?_⟩
  ·show ((bif !((getM mp (keyA (ndN x))).isSome) then _ else _ : Option _).bind _) = _
   rw [hnone]
   show (((catL N [x]).bind _).bind _) = _
   rw [catL_of (by rw [List.length_singleton]; omega)]
   rfl
  ·rw [getM_put]
   rcases Nat.lt_or_ge i N.length with h | h
   ·rw [List.getElem_append_left h]
    rw [if_neg (fun e => hm (keyN_inj (hN.node i h) hx e ▸ List.getElem_mem h))]
    exact hR.at_ i h
   ·have : i = N.length := by rw [List.length_append, List.length_singleton] at hi; omega
    subst this
    rw [List.getElem_append_right (Nat.le_refl _)]
    simp
  ·rw [getM_put] at hk
   by_cases e : k = keyA (ndN x)
   ·exact ⟨N.length, by simp, by rw [List.getElem_append_right (Nat.le_refl _)]; simp [e]⟩
   ·rw [if_neg e] at hk
    obtain ⟨i, hi, h⟩ := hR.all k hk
    exact ⟨i, by rw [List.length_append]; omega, by rw [List.getElem_append_left hi]; exact h⟩
def tlA (dp : Nat) (L : List Str) : List Str := L.map (·.drop dp)
theorem tlA_at {dp : Nat} {L : List Str} {j : Nat} {d : UInt8} {t : Str} (h : (tlA dp L)[j]? = some (d :: t)) : ∃ hj : j < L.length, getL L[j] (dp : Int) = some d ∧ L[j].drop (dp + 1) = t := by
 unfold tlA at h
 rw [List.getElem?_map] at h
 cases hL : L[j]? with
 | none => rw [hL] at h; cases h
 | some w =>
  obtain ⟨hj, hw⟩ := List.getElem?_eq_some_iff.1 hL
  rw [hL, Option.map_some, Option.some.injEq] at h
  refine ⟨hj, ?_, ?_⟩
  ·have : (w.drop dp)[0]? = w[dp + 0]? := List.getElem?_drop
   rw [h, Nat.add_zero] at this
   rw [hw, getL_nat, ← this]
   rfl
  ·have : (w.drop dp).drop 1 = w.drop (dp + 1) := List.drop_drop
   rw [hw, ← this, h]
   rfl
theorem count_eq (L : List Str) (dp : Nat) (ch : UInt8) (hne : ∀ w ∈ tlA dp L, w ≠ []) (hll : L.length ≤ 10000000) (h1 : 1 ≤ (runT ch (tlA dp L)).length) :
  loopM (fun s : Int => m_impl_maker_build_l2 L (dp : Int) ch s) 1 = some ((runT ch (tlA dp L)).length : Int) := by
 have hTl : (tlA dp L).length = L.length := by unfold tlA; simp
 have hle := runT_le ch (tlA dp L)
 have key : ∀ (c i : Nat), i + c = (runT ch (tlA dp L)).length → loopM (fun s : Int => m_impl_maker_build_l2 L (dp : Int) ch s) (i : Int) = some ((runT ch (tlA dp L)).length : Int) := by
  intro c
  induction c with
  | zero =>
   intro i hi
   obtain rfl : i = (runT ch (tlA dp L)).length := by omega
   refine loopM_done ?_
   unfold m_impl_maker_build_l2
   rcases Nat.lt_or_ge (runT ch (tlA dp L)).length L.length with h | h
   ·cases hw : (tlA dp L)[(runT ch (tlA dp L)).length]? with
    | none => rw [List.getElem?_eq_none_iff] at hw; omega
    | some w =>
     cases w with
     | nil => exact absurd rfl (hne [] (List.mem_of_getElem? hw))
     | cons d t =>
      obtain ⟨hj, hg, _⟩ := tlA_at hw
      have hd := runT_end ch _ hne d t hw
      rw [decide_eq_true (by omega), cond_true, getL_at hj, Option.bind_some, hg, Option.bind_some, Option.bind_some, show (d == ch) = false by simpa using hd]
      rfl
   ·rw [decide_eq_false (by omega)]; rfl
  | succ c ih =>
   intro i hi
   obtain ⟨hj, hg, _⟩ := tlA_at (runT_at ch (tlA dp L) i (by omega))
   have hstep : m_impl_maker_build_l2 L (dp : Int) ch (i : Int) = some (.inl (((i + 1 : Nat)) : Int)) := by
    unfold m_impl_maker_build_l2
    rw [decide_eq_true (by omega), cond_true, getL_at hj, Option.bind_some, hg, Option.bind_some, Option.bind_some, chk_succ (by omega)]
    simp
   rw [loopM_next (step := fun s : Int => m_impl_maker_build_l2 L (dp : Int) ch s) hstep]
   exact ih (i + 1) (by omega)
 exact key ((runT ch (tlA dp L)).length - 1) 1 (by omega)
theorem take_tl (L : List Str) (dp : Nat) (ch : UInt8) : tlA (dp + 1) (L.take (runT ch (tlA dp L)).length) = runT ch (tlA dp L) := by
 have hTl : (tlA dp L).length = L.length := by unfold tlA; simp
 have hle := runT_le ch (tlA dp L)
 have hat : ∀ j (h : j < (runT ch (tlA dp L)).length), ∃ hj : j < L.length, L[j].drop (dp + 1) = (runT ch (tlA dp L))[j] := fun j h => by
  obtain ⟨hj, _, ht⟩ := tlA_at (runT_at ch (tlA dp L) j h)
  exact ⟨hj, ht⟩
 generalize runT ch (tlA dp L) = T at hle hat
 show (L.take T.length).map (·.drop (dp + 1)) = T
 apply List.ext_getElem?
 intro j
 rcases Nat.lt_or_ge j T.length with h | h
 ·obtain ⟨hj, ht⟩ := hat j h
  rw [List.getElem?_map, List.getElem?_take_of_lt h, List.getElem?_eq_getElem hj, Option.map_some, ht, List.getElem?_eq_getElem h]
 ·rw [List.getElem?_eq_none h, List.getElem?_eq_none]
  rw [List.length_map, List.length_take]
  omega
theorem encR_small {c : UInt8} (h : formB c = true) : encR (c.toNat : Int) = some [c] := by
 have hc : c.toNat < 128 := by
  unfold formB at h
  rw [Bool.or_eq_true] at h
  rcases h with h | h
  ·unfold smB at h
   rw [Bool.and_eq_true, decide_eq_true_iff, decide_eq_true_iff] at h
   have := UInt8.le_iff_toNat_le.1 h.2
   have e : (122 : UInt8).toNat = 122 := rfl
   omega
  ·rw [beq_iff_eq] at h
   rw [h]; decide
 unfold encR
 rw [decide_eq_true (by omega), decide_eq_true (by omega)]
 simp
def SpecP (n : Nat) : Prop := ∀ (f : Nat) (N : List Node) (mp : List (Str × Int)) (L : List Str) (dp : Nat), n < f → InvB N → RegOk N mp → (∀ x ∈ N, x.Next.length ≤ 10000) → SortedW (tlA dp L) → (∀ w ∈ L, dp ≤ w.length) → (∀ w ∈ tlA dp L, w.length ≤ n ∧ ∀ c ∈ w, formB c = true) → dp + n ≤ 1000 → N.length + totA (tlA dp L) + L.length + 1 ≤ 1000000 →
 ∃ (idx : Nat) (t : List Node) (mp' : List (Str × Int)), m_impl_maker_build_n f ⟨N, mp⟩ L (dp : Int) = some ((idx : Int), ⟨N ++ t, mp'⟩) ∧ RegOk (N ++ t) mp' ∧ InvB (N ++ t) ∧ (∀ x ∈ N ++ t, x.Next.length ≤ 10000) ∧ idx < (N ++ t).length ∧
  shortA (ndD (N ++ t)) (n + 1) idx ∧ langA (ndD (N ++ t)) (n + 1) idx = tlA dp L ∧ t.length ≤ totA (tlA dp L) + 1
theorem totA_split {R : List Str} {ch : UInt8} {T : List Str} (hgr : grpA R = (ch, T) :: grpA (R.drop T.length)) (hne : ∀ w ∈ R, w ≠ []) : totA R = (T.length + totA T) + totA (R.drop T.length) := by
 have h1 := flat_grp R hne
 have h2 := flat_grp (R.drop T.length) fun w hw => hne w (List.mem_of_mem_drop hw)
 rw [hgr, flatG, List.flatMap_cons] at h1
 have h3 : (grpA (R.drop T.length)).flatMap (fun e => e.2.map (e.1 :: ·)) = R.drop T.length := h2
 rw [h3] at h1
 have h4 := congrArg totA h1
 rw [totA_append] at h4
 rw [← h4]
 congr 1
 exact totA_cons ch T
theorem buildP_loop {m f : Nat} (ih : SpecP m) (hf : m < f) (dp : Nat) (hdp : dp + (m + 1) ≤ 1000) :
  ∀ (c : Nat) (L : List Str) (N : List Node) (mp : List (Str × Int)) (ls : Str) (ids : List Int), L.length = c → (∀ w ∈ L, dp ≤ w.length) → (∀ w ∈ tlA dp L, w ≠ []) → SortedW (tlA dp L) → (∀ w ∈ tlA dp L, w.length ≤ m + 1 ∧ ∀ c ∈ w, formB c = true) → InvB N → RegOk N mp → (∀ x ∈ N, x.Next.length ≤ 10000) → N.length + totA (tlA dp L) + L.length + 1 ≤ 1000000 → ls.length + L.length ≤ 2000000 → ids.length + L.length ≤ 2000000 →
   ∃ (js : List Nat) (t : List Node) (mp' : List (Str × Int)), loopM (fun s : Str × (List (Str × Int)) × (List Node) × (List Int) × (List Str) => m_impl_maker_build_l1 (dp : Int) (m_impl_maker_build_n f) s.1 s.2.1 s.2.2.1 s.2.2.2.1 s.2.2.2.2) (ls, mp, N, ids, L) =
     some (ls ++ (grpA (tlA dp L)).map (·.1), mp', N ++ t, ids ++ js.map (fun j : Nat => (j : Int))) ∧ RegOk (N ++ t) mp' ∧ InvB (N ++ t) ∧ (∀ x ∈ N ++ t, x.Next.length ≤ 10000) ∧
    (grpA (tlA dp L)).map (·.2) = js.map (langA (ndD (N ++ t)) (m + 1)) ∧ (∀ j ∈ js, j < (N ++ t).length ∧ shortA (ndD (N ++ t)) (m + 1) j) ∧ t.length ≤ totA (tlA dp L) := by
 intro c
 induction c using Nat.strongRecOn with
 | _ c ihc =>
  intro L N mp ls ids hc hdl hne hRs hR hN hreg hNx hbig hls hids
  have hTL : (tlA dp L).length = L.length := by unfold tlA; simp
  cases hR0 : tlA dp L with
  | nil =>
   have hL : L = [] := List.eq_nil_of_length_eq_zero (by rw [← hTL, hR0]; rfl)
   refine ⟨[], [], mp, ?_, by simpa using hreg, by simpa using hN, by simpa using hNx, rfl, (fun j hj => by cases hj), Nat.zero_le _⟩
   simp only [grpA, List.map_nil, List.append_nil]
   refine loopM_done ?_
   show m_impl_maker_build_l1 (dp : Int) _ ls mp N ids L = _
   unfold m_impl_maker_build_l1
   rw [hL]; rfl
  | cons w0 R' =>
   have hw0 : w0 ≠ [] := hne w0 (by rw [hR0]; exact List.mem_cons_self)
   obtain ⟨ch, u, rfl⟩ : ∃ ch u, w0 = ch :: u := by
    cases w0 with
    | nil => exact absurd rfl hw0
    | cons ch u => exact ⟨ch, u, rfl⟩
   rw [← hR0]
   have hgr := grpA_run R' ch u fun w hw => hne w (by rw [hR0]; exact List.mem_cons_of_mem _ hw)
   rw [← hR0] at hgr
   have hTl : 1 ≤ (runT ch (tlA dp L)).length := by rw [hR0, runT_hd]; simp
   have hTle := runT_le ch (tlA dp L)
   have hcount := count_eq L dp ch hne (by omega) hTl
   have htake := take_tl L dp ch
   generalize hTe : runT ch (tlA dp L) = T at hgr hTl hTle hcount htake
   have hTs : SortedW T := (grp_sorted hRs).2 (ch, T) (by rw [hgr]; exact List.mem_cons_self)
   have hTm : ∀ w ∈ T, w.length ≤ m ∧ ∀ c ∈ w, formB c = true := fun w hw => by
    have h1 : ch :: w ∈ tlA dp L := grp_mem (e := (ch, T)) (by rw [hgr]; exact List.mem_cons_self) w hw
    have := hR _ h1
    rw [List.length_cons] at this
    exact ⟨by omega, fun c hc => this.2 c (List.mem_cons_of_mem _ hc)⟩
   have hform : formB ch = true := (hR (ch :: u) (by rw [hR0]; exact List.mem_cons_self)).2 ch List.mem_cons_self
   have hsplit := totA_split hgr hne
   have h0at : (tlA dp L)[0]? = some (ch :: u) := by rw [hR0]; rfl
   obtain ⟨h0L, hg0, _⟩ := tlA_at h0at
   obtain ⟨idx, t1, mp1, hrun, hreg1, hI1, hX1, hidx, hsh, hlang, htl⟩ := ih f N mp (L.take T.length) (dp + 1) hf hN hreg hNx (by rw [htake]; exact hTs)
    (fun w hw => by
     obtain ⟨k, hk, rfl⟩ := List.mem_iff_getElem.1 hw
     rw [List.length_take] at hk
     obtain ⟨hkL, hgk, _⟩ := tlA_at (runT_at ch (tlA dp L) k (by rw [hTe]; omega))
     rw [List.getElem_take]
     rw [getL_nat] at hgk
     have := (List.getElem?_eq_some_iff.1 hgk).1
     omega)
    (by rw [htake]; exact hTm) (by omega) (by rw [htake, List.length_take]; omega)
   rw [htake] at hlang htl
   have hsub1 : subL L 0 (T.length : Int) = some (L.take T.length) := by
    rw [subL_of (by omega) (by omega) (by omega), show Int.toNat 0 = 0 from rfl, List.drop_zero]; congr 1
   have hsub2 : subL L (T.length : Int) (L.length : Int) = some (L.drop T.length) := by
    rw [subL_of (by omega) (by omega) (by omega), List.take_of_length_le (by rw [List.length_drop]; omega)]; congr 1
   have hcount' : ((loopM (fun s : Int => m_impl_maker_build_l2 L (dp : Int) ch s) 1).bind fun n121 => some n121) = some (T.length : Int) := by rw [hcount]; rfl
   have hdl' : chk ((dp : Int) + 1) = some (((dp + 1 : Nat)) : Int) := chk_to _ (by push_cast; rfl) (by omega) (by omega)
   have hstep : m_impl_maker_build_l1 (dp : Int) (m_impl_maker_build_n f) ls mp N ids L = some (.inl (ls ++ [ch], mp1, N ++ t1, ids ++ [(idx : Int)], L.drop T.length)) := by
    unfold m_impl_maker_build_l1
    have hgl : getL L 0 = some L[0] := getL_at h0L
    rw [decide_eq_true (show (0 : Int) < (L.length : Int) by omega), cond_true, bind_of hgl, bind_of hg0, hcount', Option.bind_some, bind_of (encR_small hform), catL_of (by rw [List.length_singleton]; omega), Option.bind_some, bind_of hsub1, hdl', Option.bind_some, bind_of hrun, bind_of (catL_of (by rw [List.length_singleton]; omega)), bind_of hsub2]
   have hdd : tlA dp (L.drop T.length) = (tlA dp L).drop T.length := by unfold tlA; rw [List.map_drop]
   obtain ⟨js, t2, mp2, hrun2, hreg2, hI2, hX2, hg2, hj2, htl2⟩ := ihc (c - T.length) (by omega) (L.drop T.length) (N ++ t1) mp1 (ls ++ [ch]) (ids ++ [(idx : Int)]) (by rw [List.length_drop]; omega)
    (fun w hw => hdl w (List.mem_of_mem_drop hw)) (fun w hw => by rw [hdd] at hw; exact hne w (List.mem_of_mem_drop hw)) (by rw [hdd]; exact hRs.sublist (List.drop_sublist _ _)) (fun w hw => by rw [hdd] at hw; exact hR w (List.mem_of_mem_drop hw)) hI1 hreg1 hX1
    (by rw [hdd, List.length_append, List.length_drop]; omega) (by rw [List.length_append, List.length_singleton, List.length_drop]; omega) (by rw [List.length_append, List.length_singleton, List.length_drop]; omega)
   obtain ⟨_, hl, hs⟩ := hI1.ext (t := t2) (m + 1) hidx
   refine ⟨idx :: js, t1 ++ t2, mp2, ?_, by rw [← List.append_assoc]; exact hreg2, by rw [← List.append_assoc]; exact hI2, by rw [← List.append_assoc]; exact hX2, ?_, fun j hj => ?_, by rw [hdd] at htl2; rw [List.length_append]; omega⟩
   ·rw [loopM_next (step := fun s : Str × (List (Str × Int)) × (List Node) × (List Int) × (List Str) => m_impl_maker_build_l1 (dp : Int) (m_impl_maker_build_n f) s.1 s.2.1 s.2.2.1 s.2.2.2.1 s.2.2.2.2) hstep, hrun2, hgr, hdd]
    simp [List.append_assoc]
   ·rw [hgr, ← hdd, List.map_cons, hg2, List.map_cons, ← List.append_assoc, hl, hlang]
   ·rw [← List.append_assoc]
    rcases List.mem_cons.1 hj with rfl | hj
    ·exact ⟨by rw [List.length_append]; omega, hs hsh⟩
    ·exact hj2 j hj
end
section
theorem headP (L : List Str) (dp : Nat) (hd : ∀ w ∈ L, dp ≤ w.length) : (bif decide (0 < (L.length : Int)) then (getL L 0).bind fun e33 => some ((e33.length : Int) == (dp : Int)) else some false : Option Bool) = some (hasE (tlA dp L)) := by
 cases L with
 | nil => rfl
 | cons w L =>
  have hw := hd w List.mem_cons_self
  rw [decide_eq_true (show (0 : Int) < ((w :: L).length : Int) by rw [List.length_cons]; omega), cond_true]
  show some ((w.length : Int) == (dp : Int)) = some (hasE (w.drop dp :: tlA dp L))
  congr 1
  rcases Nat.eq_or_lt_of_le hw with h | h
  ·have e : w.drop dp = [] := List.drop_of_length_le (by omega)
   rw [e, show ((w.length : Int) == (dp : Int)) = true by rw [beq_iff_eq]; omega]
   rfl
  ·have e : w.drop dp ≠ [] := fun e => by
    have := congrArg List.length e
    rw [List.length_drop, List.length_nil] at this
    omega
   rw [show ((w.length : Int) == (dp : Int)) = false by rw [beq_eq_false_iff_ne]; omega]
   cases hx : w.drop dp with
   | nil => exact absurd hx e
   | cons c u => rfl
theorem buildP_step : ∀ n, SpecP n := by
 intro n
 induction n using Nat.strongRecOn with
 | _ n ihn =>
  intro f N mp L dp hf hN hreg hNx hRs hdl hR hdp hbig
  obtain ⟨f, rfl⟩ : ∃ g, f = g + 1 := ⟨f - 1, by omega⟩
  show ∃ idx t mp', m_impl_maker_build_b (m_impl_maker_build_n f) ⟨N, mp⟩ L (dp : Int) = _ ∧ _
  unfold m_impl_maker_build_b
  rw [headP L dp hdl, Option.bind_some]
  have hTL : (tlA dp L).length = L.length := by unfold tlA; simp
  obtain ⟨L', hL', hsub, hpd, hpg, hpne, htd, hle'⟩ : ∃ L', (bif hasE (tlA dp L) then (subL L 1 (L.length : Int)).bind fun l49 => some (true, l49) else some (false, L) : Option (Bool × (List Str))) = some (hasE (tlA dp L), L') ∧ (∀ w ∈ L', w ∈ L) ∧ SortedW (tlA dp L') ∧ grpA (tlA dp L') = grpA (tlA dp L) ∧ (∀ w ∈ tlA dp L', w ≠ []) ∧ totA (tlA dp L') ≤ totA (tlA dp L) ∧ L'.length ≤ L.length := by
   cases L with
   | nil => exact ⟨[], rfl, fun w hw => hw, hRs, rfl, (fun w hw => by cases hw), Nat.le_refl _, Nat.le_refl _⟩
   | cons w L =>
    have hcons : tlA dp (w :: L) = w.drop dp :: tlA dp L := rfl
    rw [hcons] at hRs ⊢
    cases hx : w.drop dp with
    | nil =>
     rw [hx] at hRs
     refine ⟨L, ?_, fun w hw => List.mem_cons_of_mem _ hw, hRs.of_cons, ?_, sorted_tail hRs, ?_, by rw [List.length_cons]; omega⟩
     ·show (((subL (w :: L) 1 ((w :: L).length : Int)).bind _)) = _
      have : subL (w :: L) 1 ((w :: L).length : Int) = some L := by
       rw [subL_of (by omega) (by rw [List.length_cons]; omega) (by omega)]
       congr 1
       rw [show Int.toNat 1 = 1 from rfl, List.drop_succ_cons, List.drop_zero, List.take_of_length_le (by rw [List.length_cons]; omega)]
      rw [this]; rfl
     ·rw [grpA]
     ·show totA _ ≤ totA ([] :: tlA dp L)
      unfold totA
      rw [List.map_cons, List.sum_cons]; omega
    | cons c u =>
     rw [hx] at hRs
     refine ⟨w :: L, rfl, fun w hw => hw, by rw [hcons, hx]; exact hRs, by rw [hcons, hx], fun y hy => ?_, by rw [hcons, hx]; exact Nat.le_refl _, Nat.le_refl _⟩
     rw [hcons, hx] at hy
     rcases List.mem_cons.1 hy with rfl | hy
     ·simp
     ·exact sorted_tail hRs y hy
  have hR' : ∀ w ∈ tlA dp L', w.length ≤ n ∧ ∀ c ∈ w, formB c = true := fun w hw => by
   obtain ⟨v, hv, rfl⟩ := List.mem_map.1 hw
   exact hR _ (List.mem_map.2 ⟨v, hsub v hv, rfl⟩)
  rw [hL', Option.bind_some]
  generalize hRR : tlA dp L = R at hRs hR hbig hpg htd hTL
  -- the loop over the groups
  obtain ⟨js, t, mp1, hloop, hreg1, hI, hX, hg, hj, htl⟩ : ∃ (js : List Nat) (t : List Node) (mp1 : List (Str × Int)), loopM (fun s : Str × (List (Str × Int)) × (List Node) × (List Int) × (List Str) => m_impl_maker_build_l1 (dp : Int) (m_impl_maker_build_n f) s.1 s.2.1 s.2.2.1 s.2.2.2.1 s.2.2.2.2) (([] : Str), mp, N, ([] : List Int), L') =
     some ((grpA R).map (·.1), mp1, N ++ t, js.map (fun j : Nat => (j : Int))) ∧ RegOk (N ++ t) mp1 ∧ InvB (N ++ t) ∧ (∀ x ∈ N ++ t, x.Next.length ≤ 10000) ∧
    (grpA R).map (·.2) = js.map (langA (ndD (N ++ t)) n) ∧ (∀ j ∈ js, j < (N ++ t).length ∧ shortA (ndD (N ++ t)) n j) ∧ t.length ≤ totA R := by
   cases n with
   | zero =>
    have hdn : L' = [] := by
     cases hd : L' with
     | nil => rfl
     | cons w L2 =>
      have hm : w.drop dp ∈ tlA dp L' := List.mem_map.2 ⟨w, by rw [hd]; exact List.mem_cons_self, rfl⟩
      exact absurd (List.eq_nil_of_length_eq_zero (by have := (hR' _ hm).1; omega)) (hpne _ hm)
    have hgn : grpA R = [] := by rw [← hpg, hdn]; rfl
    refine ⟨[], [], mp, ?_, by simpa using hreg, by simpa using hN, by simpa using hNx, by rw [hgn]; rfl, (fun j hj => by cases hj), Nat.zero_le _⟩
    rw [hgn, hdn]
    refine loopM_done ?_
    show m_impl_maker_build_l1 (dp : Int) _ [] mp N [] [] = _
    unfold m_impl_maker_build_l1
    simp
   | succ m =>
    obtain ⟨js, t, mp1, h1, h2, h3, h4, h5, h6, h7⟩ := buildP_loop (ihn m (Nat.lt_succ_self m)) (show m < f by omega) dp hdp L'.length L' N mp [] [] rfl (fun w hw => hdl w (hsub w hw)) hpne hpd hR' hN hreg hNx (by omega) (by simp; omega) (by simp; omega)
    rw [hpg] at h1 h5
    simp only [List.nil_append] at h1
    exact ⟨js, t, mp1, h1, h2, h3, h4, h5, h6, by omega⟩
  have hloop' : ((loopM (fun s : Str × (List (Str × Int)) × (List Node) × (List Int) × (List Str) => m_impl_maker_build_l1 (dp : Int) (m_impl_maker_build_n f) s.1 s.2.1 s.2.2.1 s.2.2.2.1 s.2.2.2.2) (([] : Str), mp, N, ([] : List Int), L')).bind fun x96 => match x96 with | (s85, mp87, xs90, xs93) => some (s85, xs93, mp87, xs90)) = some ((grpA R).map (·.1), js.map (fun j : Nat => (j : Int)), mp1, N ++ t) := by
   rw [bind_of hloop]
  show ∃ idx t mp', (((loopM (fun s : Str × (List (Str × Int)) × (List Node) × (List Int) × (List Str) => m_impl_maker_build_l1 (dp : Int) (m_impl_maker_build_n f) s.1 s.2.1 s.2.2.1 s.2.2.2.1 s.2.2.2.2) (([] : Str), mp, N, ([] : List Int), L')).bind fun x96 => match x96 with | (s85, mp87, xs90, xs93) => some (s85, xs93, mp87, xs90)).bind _) = _ ∧ _
  rw [bind_of hloop']
  -- the node
  have hrise := (grp_sorted hRs).1
  have hGl := rise_len hrise
  have hjl : js.length = (grpA R).length := by
   have := congrArg List.length hg
   rw [List.length_map, List.length_map] at this
   exact this.symm
  have hx : NodeOk (N ++ t).length (⟨hasE R, (grpA R).map (·.1), js.map (fun j : Nat => (j : Int))⟩ : Node) := by
   refine ⟨by simp [hjl], fun c hc => ?_, fun i hi => ?_, fun q hq => ?_⟩
   ·obtain ⟨e, he, rfl⟩ := List.mem_map.1 hc
    obtain ⟨w, hw⟩ := List.exists_mem_of_ne_nil _ (grp_ne R e he)
    exact (hR _ (grp_mem he w hw)).2 _ List.mem_cons_self
   ·have hi' : i + 1 < (grpA R).length := by simpa using hi
    have := List.pairwise_iff_getElem.1 hrise i (i + 1) (by omega) hi' (by omega)
    simpa using this
   ·obtain ⟨j, hj', rfl⟩ := List.mem_map.1 hq
    have := (hj j hj').1
    exact ⟨by omega, by omega⟩
  have hndx : ndN (⟨hasE R, (grpA R).map (·.1), js.map (fun j : Nat => (j : Int))⟩ : Node) = (hasE R, ((grpA R).map (·.1)).zip js) := by
   unfold ndN
   have : (js.map (fun j : Nat => (j : Int))).map Int.toNat = js := by
    rw [List.map_map]
    refine (List.map_congr_left fun j _ => ?_).trans (List.map_id _)
    simp
   simp only [this]
  have hxn : (⟨hasE R, (grpA R).map (·.1), js.map (fun j : Nat => (j : Int))⟩ : Node).Next.length ≤ 256 := by simp; omega
  show ∃ idx t' mp', ((m_impl_maker_node ⟨N ++ t, mp1⟩ (⟨hasE R, (grpA R).map (·.1), js.map (fun j : Nat => (j : Int))⟩ : Node)).bind _) = _ ∧ _
  generalize hxx : (⟨hasE R, (grpA R).map (·.1), js.map (fun j : Nat => (j : Int))⟩ : Node) = x at hx hndx hxn
  have hsp := sorted_split hRs
  have hedge : ∀ e ∈ (ndN x).2, e.2 ∈ js := fun e he => by
   rw [hndx] at he
   exact (List.of_mem_zip (he : (e.1, e.2) ∈ _)).2
  rcases node_eq hI hreg1 hx (by omega) (by rw [List.length_append]; omega) with ⟨j, hjlt, hjx, hfl⟩ | ⟨hnot, mp2, hfl, hreg2⟩
  ·refine ⟨j, t, mp1, by rw [hfl]; rfl, hreg1, hI, hX, hjlt, ?_, ?_, by omega⟩
   ·intro e he
    rw [ndD_at hjlt, hjx] at he
    exact (hj _ (hedge e he)).2
   ·rw [lang_node (b := hasE R) (G := grpA R) (js := js) (by rw [ndD_at hjlt, hjx, hndx]) hg]
    exact hsp.symm
  ·have hlt : (N ++ t).length < (N ++ t ++ [x]).length := by rw [List.length_append (bs := [x])]; simp
   have hlast : ndD (N ++ t ++ [x]) (N ++ t).length = ndN x := by
    rw [ndD_at hlt, List.getElem_append_right (Nat.le_refl _)]; simp
   have hext : ∀ j ∈ js, langA (ndD (N ++ t ++ [x])) n j = langA (ndD (N ++ t)) n j ∧ shortA (ndD (N ++ t ++ [x])) n j := fun j hj' => by
    obtain ⟨_, h2, h3⟩ := hI.ext (t := [x]) n (hj j hj').1
    exact ⟨h2, h3 (hj j hj').2⟩
   have hg2 : (grpA R).map (·.2) = js.map (langA (ndD (N ++ t ++ [x])) n) := by
    rw [hg]
    exact List.map_congr_left fun j hj' => (hext j hj').1.symm
   refine ⟨(N ++ t).length, t ++ [x], mp2, by rw [hfl, ← List.append_assoc]; rfl, by rw [← List.append_assoc]; exact hreg2, ?_, ?_, ?_, ?_, ?_, ?_⟩
   ·rw [← List.append_assoc]
    refine ⟨fun j hjl' => ?_, ?_, fun k e he => ?_⟩
    ·rcases Nat.lt_or_ge j (N ++ t).length with h' | h'
     ·rw [List.getElem_append_left h']; exact hI.node j h'
     ·have hjj : j = (N ++ t).length := by rw [List.length_append (bs := [x]), List.length_singleton] at hjl'; omega
      subst hjj
      rw [List.getElem_append_right (Nat.le_refl _)]
      simp only [Nat.sub_self, List.getElem_cons_zero]
      exact hx
    ·rw [List.nodup_append]
     exact ⟨hI.dist, by simp, fun a ha b hb => by rw [List.mem_singleton] at hb; subst hb; rintro rfl; exact hnot ha⟩
    ·rcases Nat.lt_or_ge k (N ++ t).length with h' | h'
     ·rw [ndD_app h'] at he
      obtain ⟨h, h1, h2⟩ := hI.use k e he
      obtain ⟨_, h3, h4⟩ := hI.ext (t := [x]) h (Nat.lt_trans (hI.edge_lt e he).1 h')
      exact ⟨h, h4 h1, by rw [h3]; exact h2⟩
     ·have hk : k < (N ++ t ++ [x]).length := by
       rcases Nat.lt_or_ge k (N ++ t ++ [x]).length with h1 | h1
       ·exact h1
       ·rw [ndD_none h1] at he; cases he
      have hkk : k = (N ++ t).length := by rw [List.length_append (bs := [x]), List.length_singleton] at hk; omega
      subst hkk
      rw [hlast] at he
      have hin := hedge e he
      refine ⟨n, (hext _ hin).2, ?_⟩
      have hmem : langA (ndD (N ++ t ++ [x])) n e.2 ∈ (grpA R).map (·.2) := by
       rw [hg2]; exact List.mem_map.2 ⟨_, hin, rfl⟩
      obtain ⟨g, hg', hge⟩ := List.mem_map.1 hmem
      rw [← hge]
      exact grp_ne R g hg'
   ·rw [← List.append_assoc]
    intro y hy
    rcases List.mem_append.1 hy with hy | hy
    ·exact hX y hy
    ·rw [List.mem_singleton] at hy; subst hy; omega
   ·rw [← List.append_assoc]; exact hlt
   ·rw [← List.append_assoc]
    intro e he
    rw [hlast] at he
    exact (hext _ (hedge e he)).2
   ·rw [← List.append_assoc, lang_node (b := hasE R) (G := grpA R) (js := js) (by rw [hlast, hndx]) hg2]
    exact hsp.symm
   ·rw [List.length_append, List.length_singleton]; omega
end
section
theorem ddA_new {α : Type} [DecidableEq α] : ∀ (l acc : List α), ∃ t, ddA acc l = acc ++ t ∧ ∀ x ∈ t, x ∈ l
 | [], acc => ⟨[], by simp [ddA], fun x hx => by cases hx⟩
 | x :: l, acc => by
  rw [ddA]
  split
  ·obtain ⟨t, h1, h2⟩ := ddA_new l acc
   exact ⟨t, h1, fun y hy => List.mem_cons_of_mem _ (h2 y hy)⟩
  ·obtain ⟨t, h1, h2⟩ := ddA_new l (acc ++ [x])
   refine ⟨x :: t, by rw [h1, List.append_assoc]; rfl, fun y hy => ?_⟩
   rcases List.mem_cons.1 hy with rfl | hy
   ·exact List.mem_cons_self
   ·exact List.mem_cons_of_mem _ (h2 y hy)
structure PSt (N : List Node) (K : List Nat) (mp : List (Int × Int)) (out : List Node) : Prop where
 at_ : ∀ j : Nat, getM mp (j : Int) = if j ∈ K then some (K.idxOf j : Int) else none
 len : out.length = K.length
 lt : ∀ k ∈ K, k < N.length
 nd : K.Nodup
theorem PSt.add {N : List Node} {K : List Nat} {mp : List (Int × Int)} {out : List Node} (h : PSt N K mp out) {k : Nat} (hk : k < N.length) (hn : k ∉ K) :
  PSt N (K ++ [k]) (putM mp (k : Int) (out.length : Int)) (out ++ [headN N k]) := by
 refine ⟨fun j => ?_, by rw [List.length_append, List.length_append, h.len]; rfl, fun j hj => ?_, ?_⟩
 ·rw [getM_put, idxOf_snoc hn, h.at_ j]
  by_cases hjk : j = k
  ·subst hjk; rw [if_pos rfl, if_pos (by simp), if_neg hn, if_pos rfl, h.len]
  ·rw [if_neg (by omega)]
   by_cases hjK : j ∈ K
   ·rw [if_pos hjK, if_pos (List.mem_append_left _ hjK), if_pos hjK]
   ·rw [if_neg hjK, if_neg (by rw [List.mem_append, List.mem_singleton]; exact fun h' => h'.elim hjK hjk)]
 ·rcases List.mem_append.1 hj with hj | hj
  ·exact h.lt j hj
  ·rw [List.mem_singleton] at hj; omega
 ·rw [List.nodup_append]
  exact ⟨h.nd, by simp, fun a ha b hb => by rw [List.mem_singleton] at hb; subst hb; rintro rfl; exact hn ha⟩
theorem full_ext {N : List Node} {K T : List Nat} {j : Nat} (hN : InvB N) (hj : j < N.length) (hc : ∀ e ∈ (ndD N j).2, e.2 ∈ K) : fullN N (K ++ T) j = fullN N K j := by
 unfold fullN
 rw [List.getElem?_eq_getElem hj]
 have hx := hN.node j hj
 have : N[j].Next.map (fun t => (((K ++ T).idxOf t.toNat : Nat) : Int)) = N[j].Next.map fun t => ((K.idxOf t.toNat : Nat) : Int) := List.map_congr_left fun t ht => by
  obtain ⟨i, hi, rfl⟩ := List.mem_iff_getElem.1 ht
  have he := hx.edge hi
  have := hc _ (by rw [ndD_at hj]; exact List.mem_of_getElem? he)
  simp only at this
  rw [List.idxOf_append, if_pos this]
 simp only [this]
structure VisP (N : List Node) (K K' : List Nat) (out : List Node) (mp' : List (Int × Int)) (out' : List Node) : Prop where
 st : PSt N K' mp' out'
 old : ∀ i, i < K.length → out'[i]? = out[i]?
 new : ∀ i, K.length ≤ i → ∀ j, K'[i]? = some j → out'[i]? = some (fullN N K' j)
def SpecNP (N : List Node) (p : maker) (n : Nat) : Prop := ∀ (f : Nat) (K : List Nat) (mp : List (Int × Int)) (out : List Node) (k : Nat), n ≤ f → shortA (ndD N) n k → k < N.length → DoneA (ndD N) n k K → PSt N K mp out →
 ∃ mp' out', m_impl_maker_numbered_1_n f (k : Int) mp ⟨out⟩ p = some (((ddA K (preA (ndD N) n k)).idxOf k : Int), mp', ⟨out'⟩) ∧ VisP N K (ddA K (preA (ndD N) n k)) out mp' out'
theorem vis_join {N : List Node} (hN : InvB N) {n t : Nat} {K : List Nat} {l : List Nat} {out out1 out2 : List Node} {mp1 mp2 : List (Int × Int)} (hs : shortA (ndD N) n t) (htl : t < N.length)
  (h1 : VisP N K (ddA K (preA (ndD N) n t)) out mp1 out1) (h2 : VisP N (ddA K (preA (ndD N) n t)) (ddA (ddA K (preA (ndD N) n t)) l) out1 mp2 out2) :
  VisP N K (ddA K (preA (ndD N) n t ++ l)) out mp2 out2 := by
 rw [ddA_append]
 obtain ⟨T, hT, hTm⟩ := ddA_new (preA (ndD N) n t) K
 obtain ⟨U, hU, _⟩ := ddA_new l (ddA K (preA (ndD N) n t))
 have hle : K.length ≤ (ddA K (preA (ndD N) n t)).length := by rw [hT, List.length_append]; omega
 refine ⟨h2.st, fun i hi => by rw [h2.old i (by omega), h1.old i hi], fun i hi j hj => ?_⟩
 rcases Nat.lt_or_ge i (ddA K (preA (ndD N) n t)).length with h | h
 ·have hj1 : (ddA K (preA (ndD N) n t))[i]? = some j := by
   rw [hU, List.getElem?_append_left h] at hj; exact hj
  rw [h2.old i h, h1.new i hi j hj1, hU]
  have hjp : j ∈ preA (ndD N) n t := by
   rw [hT, List.getElem?_append_right hi] at hj1
   exact hTm j (List.mem_of_getElem? hj1)
  rw [full_ext hN (hN.pre_lt n htl hjp) fun e he => by
   rw [mem_ddA]; exact .inr (preA_next _ hs hjp e he)]
 ·exact h2.new i h j hj
theorem numP_loop {N : List Node} (hN : InvB N) (hX : ∀ x ∈ N, x.Next.length ≤ 10000) (p : maker) (hp : p.nodes = N) {n f : Nat} (ih : SpecNP N p n) (hf : n ≤ f) {k : Nat} (hk : k < N.length) (hs : shortA (ndD N) (n + 1) k) :
  ∀ (c i : Nat) (K : List Nat) (mp : List (Int × Int)) (out : List Node) (xs : List Int), i + c = N[k].Next.length → (∀ e ∈ (ndD N k).2, DoneA (ndD N) n e.2 K) → PSt N K mp out → xs = (N[k].Next.take i).map (fun t => (K.idxOf t.toNat : Int)) → (∀ t ∈ N[k].Next.take i, t.toNat ∈ K) →
   ∃ mp' out', loopM (fun s : (List (Int × Int)) × (List Node) × (List Int) × Int => m_impl_maker_numbered_1_l1 N[k] (m_impl_maker_numbered_1_n f) p s.1 s.2.1 s.2.2.1 s.2.2.2) (mp, out, xs, (i : Int)) =
     some (mp', out', N[k].Next.map (fun t => ((ddA K (((ndD N k).2.drop i).flatMap fun e => preA (ndD N) n e.2)).idxOf t.toNat : Int))) ∧
    VisP N K (ddA K (((ndD N k).2.drop i).flatMap fun e => preA (ndD N) n e.2)) out mp' out'
 | 0, i, K, mp, out, xs, hc, hD, hR, hxs, hin => by
  have hx := hN.node k hk
  have hdrop : (ndD N k).2.drop i = [] := by
   rw [ndD_at hk]; exact List.drop_of_length_le (by rw [hx.edges_len]; omega)
  rw [hdrop]
  refine ⟨mp, out, loopM_done ?_, hR, fun i _ => rfl, fun i hi j hj => ?_⟩
  ·show m_impl_maker_numbered_1_l1 N[k] _ p mp out xs (i : Int) = _
   unfold m_impl_maker_numbered_1_l1
   rw [decide_eq_false (by omega), hxs, List.take_of_length_le (by omega)]; rfl
  ·have hj' : K[i]? = some j := hj
   rw [List.getElem?_eq_none hi] at hj'; cases hj'
 | c + 1, i, K, mp, out, xs, hc, hD, hR, hxs, hin => by
  have hx := hN.node k hk
  have hxl := hX _ (List.getElem_mem hk)
  have hi : i < N[k].Next.length := by omega
  have hnn := (hx.next _ (List.getElem_mem hi))
  obtain ⟨t, ht⟩ : ∃ t : Nat, N[k].Next[i] = (t : Int) := ⟨N[k].Next[i].toNat, by omega⟩
  have htl : t < N.length := by omega
  have hedge : (ndD N k).2[i]? = some (N[k].Letters[i]'(by rw [hx.len]; exact hi), t) := by
   rw [ndD_at hk, hx.edge hi, ht, Int.toNat_natCast]
  obtain ⟨h2, h3⟩ := List.getElem?_eq_some_iff.1 hedge
  have hdrop : (ndD N k).2.drop i = (N[k].Letters[i]'(by rw [hx.len]; exact hi), t) :: (ndD N k).2.drop (i + 1) := by
   rw [List.drop_eq_getElem_cons h2, h3]
  have hmem : (N[k].Letters[i]'(by rw [hx.len]; exact hi), t) ∈ (ndD N k).2 := List.mem_of_getElem? hedge
  have hst : shortA (ndD N) n t := hs _ hmem
  obtain ⟨mp1, out1, hch, hv1⟩ := ih f K mp out t hf hst htl (hD _ hmem) hR
  obtain ⟨T, hT, _⟩ := ddA_new (preA (ndD N) n t) K
  have htin : t ∈ ddA K (preA (ndD N) n t) := by rw [mem_ddA]; exact .inr (preA_self _ hst)
  have htake : N[k].Next.take (i + 1) = N[k].Next.take i ++ [(t : Int)] := by
   rw [List.take_add_one, List.getElem?_eq_getElem hi, ht]; rfl
  have hxs1 : xs ++ [((ddA K (preA (ndD N) n t)).idxOf t : Int)] = (N[k].Next.take (i + 1)).map (fun q => ((ddA K (preA (ndD N) n t)).idxOf q.toNat : Int)) := by
   rw [htake, List.map_append, hxs]
   congr 1
   refine List.map_congr_left fun q hq => ?_
   rw [hT, List.idxOf_append, if_pos (hin q hq)]
  have hxsl : xs.length ≤ 10000 := by rw [hxs, List.length_map, List.length_take]; omega
  have hstep : m_impl_maker_numbered_1_l1 N[k] (m_impl_maker_numbered_1_n f) p mp out xs (i : Int) = some (.inl (mp1, out1, xs ++ [((ddA K (preA (ndD N) n t)).idxOf t : Int)], (((i + 1 : Nat)) : Int))) := by
   unfold m_impl_maker_numbered_1_l1
   rw [chk_succ (show i ≤ 8000000000000000000 by omega), decide_eq_true (show (i : Int) < (N[k].Next.length : Int) by omega), cond_true, bind_of (getL_at hi), ht, bind_of hch, catL_of (by rw [List.length_singleton]; omega)]
   rfl
  obtain ⟨mp2, out2, hrec, hv2⟩ := numP_loop hN hX p hp ih hf hk hs c (i + 1) (ddA K (preA (ndD N) n t)) mp1 out1 _ (by omega) (fun e he => DoneA.add hst (hD e he)) hv1.st hxs1 (fun q hq => by
   rw [htake] at hq
   rcases List.mem_append.1 hq with hq | hq
   ·rw [mem_ddA]; exact .inl (hin q hq)
   ·rw [List.mem_singleton] at hq; rw [hq]; exact htin)
  refine ⟨mp2, out2, ?_, ?_⟩
  ·rw [loopM_next (step := fun s : (List (Int × Int)) × (List Node) × (List Int) × Int => m_impl_maker_numbered_1_l1 N[k] (m_impl_maker_numbered_1_n f) p s.1 s.2.1 s.2.2.1 s.2.2.2) hstep, hrec, hdrop, List.flatMap_cons, ddA_append]
  ·rw [hdrop, List.flatMap_cons]
   exact vis_join hN hst htl hv1 hv2
theorem numP_step {N : List Node} (hN : InvB N) (hX : ∀ x ∈ N, x.Next.length ≤ 10000) (hNl : N.length ≤ 2000000) (p : maker) (hp : p.nodes = N) : ∀ n, SpecNP N p n
 | 0 => fun f K mp out k hf hs => hs.elim
 | n + 1 => fun f K mp out k hf hs hk hD hR => by
  obtain ⟨f, rfl⟩ : ∃ g, f = g + 1 := ⟨f - 1, by omega⟩
  show ∃ mp' out', m_impl_maker_numbered_1_b (m_impl_maker_numbered_1_n f) (k : Int) mp ⟨out⟩ p = _ ∧ _
  unfold m_impl_maker_numbered_1_b
  have hKl := nodup_len hR.lt hR.nd
  by_cases hkK : k ∈ K
  ·have hsame : ddA K (preA (ndD N) (n + 1) k) = K := ddA_all fun x hx => hD k hkK (preA_self _ hs) (n + 1) x hx
   have hg : getM mp (k : Int) = some (K.idxOf k : Int) := by rw [hR.at_ k, if_pos hkK]
   rw [hsame, hg]
   refine ⟨mp, out, rfl, hR, fun i _ => rfl, fun i hi j hj => ?_⟩
   rw [List.getElem?_eq_none hi] at hj; cases hj
  ·have hg : getM mp (k : Int) = none := by rw [hR.at_ k, if_neg hkK]
   have hadd := hR.add hk hkK
   have hhd : headN N k = (⟨N[k].Final, N[k].Letters, ([] : List Int)⟩ : Node) := by unfold headN; rw [List.getElem?_eq_getElem hk]
   have hgp : getL p.nodes (k : Int) = some N[k] := by subst hp; exact getL_at hk
   have hol := hR.len
   rw [hg]
   show ∃ mp' out', ((getL p.nodes (k : Int)).bind _) = _ ∧ _
   rw [bind_of hgp, ← hhd]
   show ∃ mp' out', ((catL out [headN N k]).bind _) = _ ∧ _
   rw [catL_of (by rw [List.length_singleton]; omega), Option.bind_some]
   obtain ⟨mp2, out2, hrun, hv⟩ := numP_loop (n := n) (f := f) hN hX p hp (numP_step hN hX hNl p hp n) (by omega) hk hs N[k].Next.length 0 (K ++ [k]) _ _ [] (by omega) (DoneA.child hs hD) hadd (by simp) (by simp)
   rw [List.drop_zero] at hrun hv
   have hK' : ddA K (preA (ndD N) (n + 1) k) = ddA (K ++ [k]) ((ndD N k).2.flatMap fun e => preA (ndD N) n e.2) := by rw [preA, ddA, if_neg hkK]
   rw [hK']
   obtain ⟨U, hU, _⟩ := ddA_new ((ndD N k).2.flatMap fun e => preA (ndD N) n e.2) (K ++ [k])
   generalize hKe : ddA (K ++ [k]) ((ndD N k).2.flatMap fun e => preA (ndD N) n e.2) = K' at hrun hv hU
   have hidx : K'.idxOf k = K.length := by
    rw [hU, List.append_assoc, List.idxOf_append, if_neg hkK]
    simp
   have hrun' : ((loopM (fun s : (List (Int × Int)) × (List Node) × (List Int) × Int => m_impl_maker_numbered_1_l1 N[k] (m_impl_maker_numbered_1_n f) p s.1 s.2.1 s.2.2.1 s.2.2.2) (putM mp (k : Int) (out.length : Int), out ++ [headN N k], ([] : List Int), 0)).bind fun x101 => match x101 with | (mp92, xs95, xs98) => some (mp92, xs95, xs98)) = some (mp2, out2, N[k].Next.map (fun t => (K'.idxOf t.toNat : Int))) := by
    have : loopM (fun s : (List (Int × Int)) × (List Node) × (List Int) × Int => m_impl_maker_numbered_1_l1 N[k] (m_impl_maker_numbered_1_n f) p s.1 s.2.1 s.2.2.1 s.2.2.2) (putM mp (k : Int) (out.length : Int), out ++ [headN N k], ([] : List Int), 0) = _ := hrun
    rw [this]; rfl
   show ∃ mp' out', (((loopM (fun s : (List (Int × Int)) × (List Node) × (List Int) × Int => m_impl_maker_numbered_1_l1 N[k] (m_impl_maker_numbered_1_n f) p s.1 s.2.1 s.2.2.1 s.2.2.2) (putM mp (k : Int) (out.length : Int), out ++ [headN N k], ([] : List Int), 0)).bind fun x101 => match x101 with | (mp92, xs95, xs98) => some (mp92, xs95, xs98)).bind _) = _ ∧ _
   rw [bind_of hrun']
   have hl2 : out2.length = K'.length := hv.st.len
   have hK'l : K.length + 1 ≤ K'.length := by rw [hU]; simp
   have hat : out2[K.length]? = some (headN N k) := by
    rw [hv.old K.length (by simp), List.getElem?_append_right (by omega), hol, Nat.sub_self]; rfl
   have hatl : getL out2 (out.length : Int) = some (headN N k) := by rw [getL_nat, hol]; exact hat
   show ∃ mp' out', ((getL out2 (out.length : Int)).bind _) = _ ∧ _
   rw [bind_of hatl, hhd]
   show ∃ mp' out', ((setL out2 (out.length : Int) (⟨N[k].Final, N[k].Letters, N[k].Next.map (fun t => (K'.idxOf t.toNat : Int))⟩ : Node)).bind _) = _ ∧ _
   rw [bind_of (setL_of (by omega)), hidx, hol]
   have hfull : (⟨N[k].Final, N[k].Letters, N[k].Next.map (fun t => (K'.idxOf t.toNat : Int))⟩ : Node) = fullN N K' k := by
    unfold fullN; rw [List.getElem?_eq_getElem hk]
   rw [hfull]
   refine ⟨mp2, out2.set K.length (fullN N K' k), rfl, ⟨hv.st.at_, by rw [List.length_set]; exact hl2, hv.st.lt, hv.st.nd⟩, fun i hi => ?_, fun i hi j hj => ?_⟩
   ·rw [List.getElem?_set_ne (by omega), hv.old i (by rw [List.length_append]; omega), List.getElem?_append_left (by omega)]
   ·rcases Nat.eq_or_lt_of_le hi with rfl | h
    ·have : j = k := by
      rw [hU, List.append_assoc, List.getElem?_append_right (Nat.le_refl _), Nat.sub_self] at hj
      simpa using hj.symm
     subst this
     rw [List.getElem?_set_self (by omega)]
    ·rw [List.getElem?_set_ne (by omega)]
     exact hv.new i (by rw [List.length_append, List.length_singleton]; omega) j hj
theorem numbered_eq {N : List Node} (hN : InvB N) (hX : ∀ x ∈ N, x.Next.length ≤ 10000) (hNl : N.length ≤ 2000000) (mp : List (Str × Int)) {n root : Nat} (hn : n ≤ 1000) (hr : root < N.length) (hs : shortA (ndD N) n root) :
  m_impl_maker_numbered ⟨N, mp⟩ (root : Int) = some ⟨(ddA [] (preA (ndD N) n root)).map (fullN N (ddA [] (preA (ndD N) n root)))⟩ := by
 have hR0 : PSt N [] [] [] := ⟨fun j => by rw [if_neg (by simp)]; rfl, rfl, (fun k hk => by cases hk), List.nodup_nil⟩
 obtain ⟨mp', out, hrun, hv⟩ := numP_step hN hX hNl ⟨N, mp⟩ rfl n fuelN [] [] [] root (by show n ≤ 100000; omega) hs hr (fun j hj => by cases hj) hR0
 have hrun' : m_impl_maker_numbered_1 (root : Int) ([] : (List (Int × Int))) (⟨([] : (List Node))⟩ : Dawg) ⟨N, mp⟩ = _ := hrun
 unfold m_impl_maker_numbered
 rw [bind_of hrun']
 congr 2
 apply List.ext_getElem?
 intro i
 rw [List.getElem?_map]
 cases hK : (ddA [] (preA (ndD N) n root))[i]? with
 | some j => exact hv.new i (Nat.zero_le _) j hK
 | none =>
  rw [List.getElem?_eq_none_iff] at hK
  exact List.getElem?_eq_none (by rw [hv.st.len]; exact hK)
end
section
theorem canon_of {t : List Node} (hI : InvB t) (hX : ∀ x ∈ t, x.Next.length ≤ 10000) {idx : Nat} (hidx : idx < t.length) (hsh : shortA (ndD t) 14 idx) :
  ∃ D : List Node, D = (ddA [] (preA (ndD t) 14 idx)).map (fullN t (ddA [] (preA (ndD t) 14 idx))) ∧ GoodN 14 (D.map ndN) ∧ langA (ndD D) 14 0 = langA (ndD t) 14 idx ∧ (∀ x ∈ D, NodeOk D.length x) ∧ (∀ x ∈ D, x.Next.length ≤ 10000) ∧ 1 ≤ D.length := by
 have hgood := hI.good hidx hsh
 have hKlt : ∀ k ∈ ddA [] (preA (ndD t) 14 idx), k < t.length := fun k hk => by
  rw [mem_ddA] at hk
  exact hI.pre_lt 14 hidx (hk.resolve_left (by simp))
 have hGN := hgood.num
 generalize hK : ddA [] (preA (ndD t) 14 idx) = K at hKlt hGN
 have hfull := full_nd (K := K) hKlt
 have hcl : ∀ k ∈ K, ∀ e ∈ (ndD t k).2, e.2 ∈ K := fun k hk e he => by
  rw [← hK, mem_ddA] at hk ⊢
  exact .inr (preA_next _ hsh (hk.resolve_left (by simp)) e he)
 have hat : ∀ k ∈ K, ∃ hk : k < t.length, fullN t K k = ⟨t[k].Final, t[k].Letters, t[k].Next.map fun t => (K.idxOf t.toNat : Int)⟩ := fun k hk => by
  have hk' := hKlt k hk
  exact ⟨hk', by unfold fullN; rw [List.getElem?_eq_getElem hk']⟩
 refine ⟨K.map (fullN t K), rfl, ?_, ?_, fun x hx => ?_, fun x hx => ?_, ?_⟩
 ·rw [hfull]; exact hGN.1
 ·show langA (ndL ((K.map (fullN t K)).map ndN)) 14 0 = _
  rw [hfull, hGN.2]
 ·obtain ⟨k, hk, rfl⟩ := List.mem_map.1 hx
  obtain ⟨hk', hf⟩ := hat k hk
  have hn := hI.node k hk'
  rw [hf]
  refine ⟨by simp [hn.len], hn.form, hn.inc, fun q hq => ?_⟩
  obtain ⟨u, hu, rfl⟩ := List.mem_map.1 hq
  obtain ⟨i, hi, rfl⟩ := List.mem_iff_getElem.1 hu
  have he := hn.edge hi
  have := hcl k hk _ (by rw [ndD_at hk']; exact List.mem_of_getElem? he)
  have := List.idxOf_lt_length_of_mem this
  simp only at this
  rw [List.length_map]
  exact ⟨by omega, by omega⟩
 ·obtain ⟨k, hk, rfl⟩ := List.mem_map.1 hx
  obtain ⟨hk', hf⟩ := hat k hk
  rw [hf]
  simp only [List.length_map]
  exact hX _ (List.getElem_mem hk')
 ·rw [List.length_map]
  have : idx ∈ K := by rw [← hK, mem_ddA]; exact .inr (preA_self _ hsh)
  exact List.length_pos_of_mem this
theorem dawgOf_eq (R : List Str) (hRs : SortedW R) (hR : ∀ w ∈ R, w.length ≤ 13 ∧ ∀ c ∈ w, formB c = true) (hfew : R.length ≤ 3000) :
  ∃ D : List Node, m_impl_dawgOf R = some (if 3000 < D.length then ((⟨[]⟩ : Dawg), 5) else (⟨D⟩, 0)) ∧ GoodN 14 (D.map ndN) ∧ langA (ndD D) 14 0 = R ∧ (∀ x ∈ D, NodeOk D.length x) ∧ (∀ x ∈ D, x.Next.length ≤ 10000) ∧ 1 ≤ D.length := by
 have hI0 : InvB [] := ⟨fun j h => by simp at h, List.nodup_nil, fun k e he => by rw [ndD_none (Nat.zero_le _)] at he; cases he⟩
 have hr0 : RegOk [] [] := ⟨fun i h => by simp at h, fun k hk => by cases hk⟩
 have htl : tlA 0 R = R := by unfold tlA; simp
 have htot := totA_le (fun w hw => (hR w hw).1)
 obtain ⟨idx, t, mp, hrun, hreg, hI, hX, hidx, hsh, hlang, htlen⟩ := buildP_step 13 fuelN [] [] R 0 (by show 13 < 100000; omega) hI0 hr0 (fun x hx => by cases hx) (by rw [htl]; exact hRs) (fun w _ => Nat.zero_le _) (by rw [htl]; exact hR) (by omega) (by rw [htl]; simp; omega)
 rw [List.nil_append] at hrun hreg hI hX hidx hsh hlang
 rw [htl] at hlang htlen
 obtain ⟨D, hD, h1, h2, h3, h4, h5⟩ := canon_of hI hX hidx hsh
 have hnum := numbered_eq hI hX (by omega) mp (n := 14) (by omega) hidx hsh
 rw [← hD] at hnum
 refine ⟨D, ?_, h1, by rw [h2, hlang], h3, h4, h5⟩
 have hrun' : m_impl_maker_build (⟨([] : (List Node)), ([] : (List (Str × Int)))⟩ : maker) R 0 = some ((idx : Int), ⟨t, mp⟩) := hrun
 unfold m_impl_dawgOf
 rw [decide_eq_false (by omega), cond_false, hrun', Option.bind_some, hnum, Option.bind_some]
 show (bif decide ((3000 : Int) < (D.length : Int)) then _ else _ : Option (Dawg × Int)) = _
 by_cases h : 3000 < D.length
 ·rw [if_pos h, decide_eq_true (by omega)]; rfl
 ·rw [if_neg h, decide_eq_false (by omega)]; rfl
theorem dawgOf_good (R : List Str) (hRs : SortedW R) (hR : ∀ w ∈ R, w ≠ [] ∧ w.length ≤ 13 ∧ ∀ c ∈ w, formB c = true) (hfew : R.length ≤ 3000) (hbig : totA R + 1 ≤ 3000) :
  ∃ D : List Node, m_impl_dawgOf R = some (⟨D⟩, 0) ∧ GoodD D ∧ langA (ndD D) 14 0 = R ∧ ∀ x ∈ D, x.Next.length ≤ 2000000 := by
 obtain ⟨D, h1, h2, h3, h4, h5, h6⟩ := dawgOf_eq R hRs (fun w hw => (hR w hw).2) hfew
 have h8 := h2.size
 rw [h3] at h8
 rw [if_neg (by omega)] at h1
 refine ⟨D, h1, ⟨⟨h6, by omega, h4⟩, ?_, h2, by rw [h3]; exact hfew⟩, h3, fun x hx => Nat.le_trans (h5 x hx) (by omega)⟩
 have h9 : shortA (ndD D) 14 0 := h2.good.short
 cases hf : (ndD D 0).1 with
 | false => rfl
 | true =>
  have : ([] : Str) ∈ langA (ndD D) 14 0 := by rw [lang_fl h9, hf]; simp
  rw [h3] at this
  exact absurd rfl (hR _ this).1
/-! words of an automaton -/
theorem CutA.mem {L : List Str} {s : Str} {A M B : List Str} (h : CutA L s A M B) (u : Str) : s ++ u ∈ L ↔ u ∈ M := by
 constructor
 ·intro hu
  rw [h.eq] at hu
  rcases List.mem_append.1 hu with hu | hu
  ·rcases List.mem_append.1 hu with hu | hu
   ·have := h.lt _ hu
    rw [ltS_pre] at this; cases this
   ·obtain ⟨v, hv, e⟩ := List.mem_map.1 hu
    rw [← List.append_cancel_left e]; exact hv
  ·exact absurd (List.prefix_append _ _) (h.ge _ hu).2
 ·intro hu
  rw [h.eq]
  exact List.mem_append_left _ (List.mem_append_right _ (List.mem_map.2 ⟨u, hu, rfl⟩))
end
end Go.Proofs.YtdaoecpkgobelaaGreatDoor
