/- PureK17, PureK18, PureK19, PureK20, PureK21, PureK22 in one text. -/
import Derived.Test.YtdaoecpkgobelaaDoorPureM2
namespace Go.Proofs.YtdaoecpkgobelaaDoor
open Go Go.RowKit
set_option linter.unusedSimpArgs false
set_option linter.unusedVariables false
set_option linter.unusedSectionVars false

section
theorem ddA_len {α : Type} [DecidableEq α] : ∀ (l acc : List α), (ddA acc l).length ≤ acc.length + l.length
 | [], acc => Nat.le_refl _
 | x :: l, acc => by
  rw [ddA]
  split
  ·have := ddA_len l acc; rw [List.length_cons]; omega
  ·have := ddA_len l (acc ++ [x]); rw [List.length_append, List.length_singleton] at this; rw [List.length_cons]; omega
theorem totA_append (A B : List Str) : totA (A ++ B) = totA A + totA B := by unfold totA; rw [List.map_append, List.sum_append]
theorem totA_cons (c : UInt8) (T : List Str) : totA (T.map (c :: ·)) = T.length + totA T := by
 unfold totA
 induction T with
 | nil => rfl
 | cons x T ih => rw [List.map_cons, List.map_cons, List.sum_cons, ih, List.map_cons, List.sum_cons, List.length_cons, List.length_cons]; omega
theorem pre_tot {nd : Nat → Bool × List (UInt8 × Nat)} {F : Nat} : ∀ (n : Nat) (k : Nat), n ≤ F → shortA nd n k → (∀ j ∈ preA nd n k, ∀ e ∈ (nd j).2, langA nd F e.2 ≠ []) → (preA nd n k).length ≤ 1 + totA (langA nd n k)
 | 0, _, _, h, _ => h.elim
 | n + 1, k, hn, h, hu => by
  have key : ∀ (G : List (UInt8 × Nat)), (∀ e ∈ G, shortA nd n e.2 ∧ langA nd n e.2 ≠ [] ∧ (preA nd n e.2).length ≤ 1 + totA (langA nd n e.2)) → (G.flatMap fun e => preA nd n e.2).length ≤ totA (G.flatMap fun e => (langA nd n e.2).map (e.1 :: ·)) := by
   intro G
   induction G with
   | nil => exact fun _ => Nat.le_refl _
   | cons e G ih =>
    intro hG
    obtain ⟨_, h2, h3⟩ := hG e List.mem_cons_self
    have h4 := ih fun x hx => hG x (List.mem_cons_of_mem _ hx)
    have h5 := List.length_pos_iff.2 h2
    rw [List.flatMap_cons, List.flatMap_cons, List.length_append, totA_append, totA_cons]
    omega
  have hk := key (nd k).2 fun e he => by
   have h1 := h e he
   have h2 := hu k List.mem_cons_self e he
   rw [langA_fuel nd (by omega : n ≤ F) h1] at h2
   exact ⟨h1, h2, pre_tot n e.2 (by omega) h1 fun j hj => hu j (List.mem_cons_of_mem _ (List.mem_flatMap.2 ⟨e, he, hj⟩))⟩
  rw [preA, langA, List.length_cons, totA_append]
  omega
theorem GoodN.size {D : List Node} (h : GoodN 14 (D.map ndN)) : D.length ≤ 1 + totA (langA (ndD D) 14 0) := by
 have h1 := h.num
 rw [List.length_map] at h1
 have h2 := congrArg List.length h1
 rw [List.length_range] at h2
 have h3 := ddA_len (preA (ndL (D.map ndN)) 14 0) []
 have h4 : (preA (ndD D) 14 0).length ≤ 1 + totA (langA (ndD D) 14 0) := pre_tot 14 0 (Nat.le_refl _) h.good.short h.good.use
 rw [List.length_nil, Nat.zero_add] at h3
 exact Nat.le_trans (h2 ▸ h3) h4
/-- An automaton for an ordered list of not too many words, all with letters. -/
theorem build_good (R : List Str) (hRs : SortedW R) (hR : ∀ w ∈ R, w ≠ [] ∧ w.length ≤ 13 ∧ ∀ c ∈ w, formB c = true) (hfew : R.length ≤ 3000) (hbig : totA R + 1 ≤ 3000) :
  ∃ D : List Node, m_spec_l06Build R = some ⟨D⟩ ∧ GoodD D ∧ langA (ndD D) 14 0 = R ∧ ∀ x ∈ D, x.Next.length ≤ 10000 := by
 obtain ⟨D, h1, h2, h3, h4, h5, h6, h7⟩ := Build_eq R hRs (fun w hw => (hR w hw).2) (by omega)
 have h8 := h2.size
 rw [h3] at h8
 refine ⟨D, h1, ⟨⟨h6, by omega, h4⟩, ?_, h2, by rw [h3]; exact hfew⟩, h3, h5⟩
 have h9 : shortA (ndD D) 14 0 := h2.good.short
 cases hf : (ndD D 0).1 with
 | false => rfl
 | true =>
  have : ([] : Str) ∈ langA (ndD D) 14 0 := by rw [lang_fl h9, hf]; simp
  rw [h3] at this
  exact absurd rfl (hR _ this).1

/-! the source of numbers -/
/-- A source that has been asked at most k times. -/
def SrcK (code : Str) (k : Nat) (s : l00Src) : Prop := 0 ≤ s.at_ ∧ s.at_ ≤ k ∧ s.code = code
theorem SrcK.mono {code : Str} {k k' : Nat} {s : l00Src} (h : SrcK code k s) (hk : k ≤ k') : SrcK code k' s := ⟨h.1, by have := h.2.1; omega, h.2.2⟩
theorem next_k {code : Str} {k : Nat} {s : l00Src} (h : SrcK code k s) (hk : k ≤ 1000000) : ∃ v s', m_spec_l00Src_next s = some (v, s') ∧ 0 ≤ v ∧ v < 256 ∧ SrcK code (k + 1) s' := by
 obtain ⟨h0, h1, hcode⟩ := h
 have hb : ∃ b : Int, (bif decide (s.at_ < (s.code.length : Int)) then (getL s.code s.at_).bind fun e16 => some (e16.toNat : Int) else some 0 : Option Int) = some b ∧ 0 ≤ b ∧ b < 256 := by
  by_cases hlt : s.at_ < (s.code.length : Int)
  ·rw [decide_eq_true hlt, cond_true, getL_int h0 (by omega)]
   have := UInt8.toNat_lt s.code[s.at_.toNat]
   exact ⟨_, rfl, by omega, by omega⟩
  ·rw [decide_eq_false hlt]
   exact ⟨0, rfl, by omega, by omega⟩
 obtain ⟨b, e, b1, b2⟩ := hb
 unfold m_spec_l00Src_next
 rw [e, Option.bind_some, chk_in (by omega) (by omega), Option.bind_some]
 cases decide (s.at_ + 1 ≤ (s.code.length : Int))
 ·rw [cond_false]
  have g1 := Int.emod_nonneg (((((((s.seed * 6364136223846793005) % 18446744073709551616) + (b % 18446744073709551616)) % 18446744073709551616) + 1442695040888963407) % 18446744073709551616) / 1099511627776) (show (256 : Int) ≠ 0 by decide)
  have g2 := Int.emod_lt_of_pos (((((((s.seed * 6364136223846793005) % 18446744073709551616) + (b % 18446744073709551616)) % 18446744073709551616) + 1442695040888963407) % 18446744073709551616) / 1099511627776) (show (0 : Int) < 256 by decide)
  rw [chk_in (by omega) (by omega), Option.bind_some]
  exact ⟨_, _, rfl, g1, g2, by show 0 ≤ s.at_ + 1; omega, by show s.at_ + 1 ≤ ((k + 1 : Nat) : Int); omega, hcode⟩
 ·rw [cond_true]
  exact ⟨_, _, rfl, b1, b2, by show 0 ≤ s.at_ + 1; omega, by show s.at_ + 1 ≤ ((k + 1 : Nat) : Int); omega, hcode⟩
theorem pick_k {code : Str} {k : Nat} {s : l00Src} (h : SrcK code k s) (hk : k ≤ 900000) (n : Int) (hn : n ≤ 200) : ∃ v s', m_spec_l00Src_pick s n = some (v, s') ∧ 0 ≤ v ∧ v < 256 ∧ (1 ≤ n → v < n) ∧ SrcK code (k + 1) s' := by
 unfold m_spec_l00Src_pick
 by_cases h1 : n ≤ 1
 ·rw [decide_eq_true h1, cond_true]
  exact ⟨0, s, rfl, by omega, by omega, by omega, h.mono (by omega)⟩
 rw [decide_eq_false h1, cond_false]
 obtain ⟨v, s', e, v1, v2, hs⟩ := next_k h (by omega)
 rw [e, Option.bind_some, decide_eq_false (show ¬ (200 < n) by omega), cond_false, Option.bind_some]
 have hr : remI v n = some (v.tmod n) ∧ 0 ≤ v.tmod n ∧ v.tmod n < n := by
  unfold remI
  rw [beq_eq_false_iff_ne.2 (by omega), cond_false]
  exact ⟨rfl, Int.tmod_nonneg _ v1, Int.tmod_lt_of_pos _ (by omega)⟩
 obtain ⟨a1, a2, a3⟩ := hr
 have hcode : (⟨s.code, s'.at_, s'.seed⟩ : l00Src) = s' := by rw [h.2.2, ← hs.2.2]
 simp only
 rw [a1, Option.bind_some, hcode]
 exact ⟨_, _, rfl, a2, by omega, fun _ => a3, hs⟩

/-! the words that are drawn -/
noncomputable def someD : List Str := (m_spec_l05Some).getD []

theorem someD_eq : m_spec_l05Some = some someD := rfl

theorem someD_ok : someD.length = 60 ∧ ∀ x ∈ someD, x.all smB = true ∧ 2 ≤ x.length ∧ x.length ≤ 6 := by
 constructor
 ·rfl
 ·unfold someD m_spec_l05Some
  decide +kernel

theorem insPos (l : List Str) (t : Str) (hl : l.length ≤ 10000) : ∀ i : Nat, i ≤ l.length → (∀ k (h : k < l.length), i ≤ k → ltS t l[k] = true) →
  ∃ j : Nat, j ≤ l.length ∧ loopM (fun s : Int => m_spec_l03Insert_l1 l t s) (i : Int) = some (j : Int) ∧ (∀ k (h : k < l.length), j ≤ k → ltS t l[k] = true) ∧ ∀ k (h : k < l.length), k + 1 = j → ltS t l[k] = false
 | 0, h, hk => ⟨0, Nat.zero_le _, loopM_done rfl, hk, fun k _ e => by omega⟩
 | i + 1, h, hk => by
  have hi : i < l.length := by omega
  have hs : m_spec_l03Insert_l1 l t ((i + 1 : Nat) : Int) = some (bif ltS t l[i] then .inl (i : Int) else .inr ((i + 1 : Nat) : Int)) := by
   unfold m_spec_l03Insert_l1
   rw [decide_eq_true (by omega), cond_true, chk_to (i : Int) (by omega) (by omega) (by omega), Option.bind_some, getL_at hi, Option.bind_some, Option.bind_some, ltS_le]
   cases ltS t l[i] <;> rfl
  cases hlt : ltS t l[i] with
  | true =>
   rw [hlt] at hs
   obtain ⟨j, h1, h2, h3, h4⟩ := insPos l t hl i (by omega) fun k hkl hik => by
    rcases Nat.eq_or_lt_of_le hik with rfl | h'
    ·exact hlt
    ·exact hk k hkl h'
   exact ⟨j, h1, by rw [loopM_next (step := fun s : Int => m_spec_l03Insert_l1 l t s) hs]; exact h2, h3, h4⟩
  | false =>
   rw [hlt] at hs
   exact ⟨i + 1, h, loopM_done hs, hk, fun k hkl e => by
    obtain rfl : k = i := by omega
    exact hlt⟩
/-- Words drawn so far, in order. -/
def LexD (n : Nat) (l : List Str) : Prop := l.length ≤ n ∧ SortedW l ∧ ∀ w ∈ l, w ∈ someD
theorem insert_sorted {n : Nat} (l : List Str) (t : Str) (hn : n ≤ 9000) (hl : LexD n l) (ht : t ∈ someD) : ∃ r, m_spec_l03Insert l t = some r ∧ LexD (n + 1) r := by
 obtain ⟨h1, h2, h3⟩ := hl
 obtain ⟨j, hj, e, hgt, hle⟩ := insPos l t (by omega) l.length (Nat.le_refl _) (fun k h h' => by omega)
 have hb : (bif decide (0 < (j : Int)) then (chk ((j : Int) - 1)).bind fun z54 => (getL l z54).bind fun e56 => some (e56 == t) else some false : Option Bool) = some (decide (0 < j) && l.getD (j - 1) [] == t) := by
  cases j with
  | zero => rfl
  | succ i =>
   have hi : i < l.length := by omega
   rw [decide_eq_true (show (0 : Int) < ((i + 1 : Nat) : Int) by omega), cond_true, chk_to (i : Int) (by omega) (by omega) (by omega), Option.bind_some, getL_getD hi [], decide_eq_true (show 0 < i + 1 by omega)]
   rfl
 unfold m_spec_l03Insert
 rw [e, Option.bind_some, Option.bind_some, hb, Option.bind_some]
 cases hin : (decide (0 < j) && l.getD (j - 1) [] == t) with
 | true => exact ⟨l, rfl, by omega, h2, h3⟩
 | false =>
  rw [cond_false, subL_of (by omega) (by omega) (by omega), Option.bind_some, catL_of (by simp; omega), Option.bind_some, catL_of (by simp; omega), Option.bind_some, subL_of (by omega) (by omega) (by omega), Option.bind_some, catL_of (by simp; omega), Option.bind_some]
  have e1 : (List.drop (Int.toNat 0) l).take ((j : Int).toNat - Int.toNat 0) = l.take j := by
   rw [show Int.toNat 0 = 0 from rfl, List.drop_zero]; congr 1
  have e2 : (List.drop (j : Int).toNat l).take ((l.length : Int).toNat - (j : Int).toNat) = l.drop j := by
   rw [List.take_of_length_le (by rw [List.length_drop]; omega)]; congr 1
  rw [e1, e2, List.nil_append]
  refine ⟨_, rfl, by simp; omega, ?_, fun w hw => ?_⟩
  ·have hlt : ∀ a ∈ l.take j, ltS a t = true := fun a ha => by
    obtain ⟨k, hk, rfl⟩ := List.mem_iff_getElem.1 ha
    rw [List.length_take] at hk
    have hkj : k < j := by omega
    have hj1 : j - 1 < l.length := by omega
    have hlast := hle (j - 1) hj1 (by omega)
    rw [decide_eq_true (show 0 < j by omega), Bool.true_and, beq_eq_false_iff_ne, List.getD_eq_getElem?_getD, List.getElem?_eq_getElem hj1, Option.getD_some] at hin
    have hl1 : ltS l[j - 1] t = true := by
     rcases ltS_total l[j - 1] t with h | h | h
     ·exact h
     ·exact absurd h hin
     ·rw [h] at hlast; cases hlast
    rw [List.getElem_take]
    rcases Nat.lt_or_ge k (j - 1) with h | h
    ·exact ltS_trans (List.pairwise_iff_getElem.1 h2 k (j - 1) (by omega) hj1 h) hl1
    ·have : k = j - 1 := by omega
     subst this
     exact hl1
   have hgt' : ∀ b ∈ l.drop j, ltS t b = true := fun b hb => by
    obtain ⟨k, hk, rfl⟩ := List.mem_iff_getElem.1 hb
    rw [List.length_drop] at hk
    rw [List.getElem_drop]
    exact hgt (j + k) (by omega) (by omega)
   unfold SortedW
   rw [List.pairwise_append, List.pairwise_append]
   refine ⟨⟨h2.sublist (List.take_sublist j l), List.pairwise_singleton _ _, fun a ha b hb => by rw [List.mem_singleton] at hb; rw [hb]; exact hlt a ha⟩, h2.sublist (List.drop_sublist j l), fun a ha b hb => ?_⟩
   rcases List.mem_append.1 ha with ha | ha
   ·exact ltS_trans (hlt a ha) (hgt' b hb)
   ·rw [List.mem_singleton] at ha; rw [ha]; exact hgt' b hb
  ·rcases List.mem_append.1 hw with hw | hw
   ·rcases List.mem_append.1 hw with hw | hw
    ·exact h3 w (List.mem_of_mem_take hw)
    ·rw [List.mem_singleton.1 hw]; exact ht
   ·exact h3 w (List.mem_of_mem_drop hw)
theorem draw_words (s1 : l00Src) : ∀ (n k : Nat) (s : l00Src) (x : List Str), SrcK s1.code k s → k + 2 * n ≤ 800000 → LexD (25 - n) x → n ≤ 25 →
  ∃ (s' : l00Src) (x' : List Str), loopM (fun q : Int × Int × (List Str) × Int => m_spec_l05Draw_l1 s1 someD q.1 q.2.1 q.2.2.1 q.2.2.2) (s.at_, s.seed, x, (n : Int)) = some (s'.at_, s'.seed, x') ∧ LexD 25 x'
 | 0, k, s, x, h, hk, hx, hn => ⟨s, x, loopM_done rfl, hx⟩
 | n + 1, k, s, x, h, hk, hx, hn => by
  obtain ⟨h60, hlen⟩ := someD_ok
  obtain ⟨u, s', e, u1, _, u2, hs'⟩ := pick_k h (by omega) (someD.length : Int) (by omega)
  have u2 := u2 (by omega)
  have hu : u.toNat < someD.length := by omega
  obtain ⟨r, er, hr⟩ := insert_sorted (n := 25 - (n + 1)) x someD[u.toNat] (by omega) hx (List.getElem_mem hu)
  have hstep : m_spec_l05Draw_l1 s1 someD s.at_ s.seed x ((n + 1 : Nat) : Int) = some (.inl (s'.at_, s'.seed, r, (n : Int))) := by
   unfold m_spec_l05Draw_l1
   have hs : (⟨s1.code, s.at_, s.seed⟩ : l00Src) = s := by rw [← h.2.2]
   rw [decide_eq_true (by omega), cond_true, hs, e, Option.bind_some]
   simp only
   rw [getL_int u1 hu, Option.bind_some, er, Option.bind_some, chk_to (n : Int) (by omega) (by omega) (by omega), Option.bind_some]
  obtain ⟨s'', x', e2, h2⟩ := draw_words s1 n (k + 1) s' r hs' (by omega) (by rw [show 25 - n = 25 - (n + 1) + 1 by omega]; exact hr) (by omega)
  exact ⟨s'', x', by rw [loopM_next (step := fun q : Int × Int × (List Str) × Int => m_spec_l05Draw_l1 s1 someD q.1 q.2.1 q.2.2.1 q.2.2.2) hstep]; exact e2, h2⟩
theorem form_small {c : UInt8} (h : smB c = true) : formB c = true := by
 unfold formB
 rw [h]; rfl
theorem drawnD (code : Str) : ∃ D : List Node, m_spec_A2Dawg code = some ⟨D⟩ ∧ GoodD D ∧ (∀ x ∈ D, x.Next.length ≤ 2000000) ∧ LexD 25 (langA (ndD D) 14 0) := by
 have h0 : SrcK code 0 (⟨code, 0, 0⟩ : l00Src) := ⟨by simp, by simp, rfl⟩
 obtain ⟨v, s1, e1, a1, _, a2, h1⟩ := pick_k h0 (by omega) (14 + 1) (by omega)
 have a2 := a2 (by omega)
 obtain ⟨n, hn⟩ : ∃ n : Nat, v = n := ⟨v.toNat, by omega⟩
 subst hn
 obtain ⟨s2, x, e2, h2, h3, h4⟩ := draw_words (⟨code, 0, 0⟩ : l00Src) n 1 s1 [] h1 (by omega) ⟨by simp, List.Pairwise.nil, by simp⟩ (by omega)
 obtain ⟨h60, hlen⟩ := someD_ok
 have hlen' : ∀ w ∈ x, w.length ≤ 6 := fun w hw => (hlen w (h4 w hw)).2.2
 have htot := totA_le hlen'
 obtain ⟨D, g1, g2, g3, g4⟩ := build_good x h3 (fun w hw => by
  obtain ⟨q1, q2, q3⟩ := hlen w (h4 w hw)
  refine ⟨?_, by omega, fun c hc => form_small (List.all_eq_true.1 q1 c hc)⟩
  rintro rfl
  simp at q2) (by omega) (by omega)
 refine ⟨D, ?_, g2, fun x hx => Nat.le_trans (g4 x hx) (by omega), by rw [g3]; exact ⟨h2, h3, h4⟩⟩
 unfold m_spec_A2Dawg m_spec_l00From m_spec_l06Draw m_spec_l05Draw
 rw [Option.bind_some, someD_eq, Option.bind_some, chk_in (by omega) (by omega), Option.bind_some, e1, Option.bind_some]
 simp only
 rw [e2]
 simp only [Option.bind_some]
 rw [g1]
 rfl
end

section
section
variable {D : List Node} (hG : GoodD D) (hlen : ∀ x ∈ D, x.Next.length ≤ 2000000)
include hG hlen
theorem valid_val : m_impl_ValidDawg ⟨D⟩ = some true ∧ m_spec_l06Ok ⟨D⟩ = some true := by
 obtain ⟨r, h1, h2, h3⟩ := tests_agree ⟨D⟩ hlen
 have : r = true := h3.2 hG
 subst this
 exact ⟨h1, h2⟩
theorem wordsS_val : m_spec_WordsOf ⟨D⟩ = some (langA (ndD D) 14 0, 0) := by
 obtain ⟨out, ok, h1, h2, h3⟩ := Words_eq ⟨D⟩ hG.shape hlen
 have : ok = true := h2.2 ⟨hG.num.good.short, hG.few⟩
 unfold m_spec_WordsOf
 rw [(valid_val hG hlen).2, Option.bind_some, Bool.not_true, cond_false, h1, Option.bind_some, h3 this]
theorem countsP_val : m_impl_CountsOf ⟨D⟩ = some (cntL D, 0) := by
 unfold m_impl_CountsOf
 rw [(valid_val hG hlen).1, Option.bind_some, Bool.not_true, cond_false, behind_eq ⟨D⟩ hG hlen]
 rfl
theorem numberP_val {s : Str} (hs : s.length ≤ 1000000000) {A B : List Str} (hc : CutA (langA (ndD D) 14 0) s A (behindA D s) B) (ha : accA (ndD D) s = true) : m_impl_NumberOf ⟨D⟩ s = some ((A.length : Int), 0) := by
 unfold m_impl_NumberOf
 rw [(valid_val hG hlen).1, Option.bind_some, Bool.not_true, cond_false, accepts_eq ⟨D⟩ hG.shape hlen s (by omega), Option.bind_some]
 show (bif !accA (ndD D) s then _ else _ : Option (Int × Int)) = _
 rw [ha, Bool.not_true, cond_false, words_eq ⟨D⟩ hG hlen, Option.bind_some, prefixRange_eq hc hG.few hG.sorted]
 rfl
theorem wordP_val {q : Nat} (hq : q < (langA (ndD D) 14 0).length) : m_impl_WordAt ⟨D⟩ (q : Int) = some ((langA (ndD D) 14 0).getD q [], 0) := by
 have hc : cntA D 0 ≤ 3000 := hG.few
 have h0 : getL (cntL D) 0 = some (cntA D 0 : Int) := getL_cnt hG.shape.pos
 have hq' : q < cntA D 0 := hq
 unfold m_impl_WordAt
 rw [(valid_val hG hlen).1, Option.bind_some, Bool.not_true, cond_false, behind_eq ⟨D⟩ hG hlen, Option.bind_some]
 show (((getL (cntL D) 0).bind _)) = _
 rw [h0, Option.bind_some, chk_in (by omega) (by omega), Option.bind_some, within_eq, Option.bind_some, inB_iff.2 ⟨by omega, by omega⟩, Bool.not_true, cond_false]
 have h := atP_loop ⟨D⟩ hG hlen 14 0 q [] hG.num.good.short hG.shape.pos hq' (by simp)
 have h' : loopM (fun s : Str × Int × Int => m_impl_WordAt_l1 ⟨D⟩ (cntL D) s.1 s.2.1 s.2.2) (([] : Str), (q : Int), 0) = _ := h
 rw [bind_of h', List.nil_append]
theorem nextP_val {s : Str} {A B : List Str} (hc : CutA (langA (ndD D) 14 0) s A (behindA D s) B) (ha : accA (ndD D) s = true) : m_impl_NextWord ⟨D⟩ s = some (if A.length + 1 < (langA (ndD D) 14 0).length then ((langA (ndD D) 14 0).getD (A.length + 1) [], 0) else ([], 3)) := by
 have hfew := hG.few
 obtain ⟨n, hn, hb⟩ := binary_eq (langA (ndD D) 14 0) s (by omega) hG.sorted.rise
 obtain rfl := hn.unique hc.first
 have hf := acc_first D hG s hc
 rw [hf] at hb
 rw [ha, Bool.and_eq_true, decide_eq_true_eq] at hf
 have hf1 := hf.1
 unfold m_impl_NextWord
 rw [(valid_val hG hlen).1, Option.bind_some, Bool.not_true, cond_false, words_eq ⟨D⟩ hG hlen, Option.bind_some]
 show (((m_slices_BinarySearch_string_string (langA (ndD D) 14 0) s).bind _)) = _
 rw [hb, Option.bind_some, ha, cond_true, chk_succ (by omega), Option.bind_some, Option.bind_some]
 split
 ·rename_i h
  rw [show ((((A.length + 1 : Nat)) : Int) == ((langA (ndD D) 14 0).length : Int)) = false by rw [beq_eq_false_iff_ne]; omega, cond_false]
  show (((getL (langA (ndD D) 14 0) (((A.length + 1 : Nat)) : Int)).bind _)) = _
  rw [getL_getD h []]; rfl
 ·rename_i h
  rw [show ((((A.length + 1 : Nat)) : Int) == ((langA (ndD D) 14 0).length : Int)) = true by rw [beq_iff_eq]; omega]
  rfl
theorem rangeP_val {s : Str} {A B : List Str} (hc : CutA (langA (ndD D) 14 0) s A (behindA D s) B) : m_impl_RangeOf ⟨D⟩ s = some ((A.length : Int), ((behindA D s).length : Int), 0) := by
 unfold m_impl_RangeOf
 rw [(valid_val hG hlen).1, Option.bind_some, Bool.not_true, cond_false, words_eq ⟨D⟩ hG hlen, Option.bind_some, prefixRange_eq hc hG.few hG.sorted]
 rfl
end
/-- A word of the list is the first that is not below it. -/
theorem first_at {L : List Str} (hL : SortedW L) {i : Nat} (hi : i < L.length) : IsFirst L (L.getD i []) i :=
 ⟨by omega, fun j hj => riseB_lt hL.rise i j hj hi, fun _ => ltS_irrefl _⟩
theorem at_word {D : List Node} (hG : GoodD D) {i : Nat} (hi : i < (langA (ndD D) 14 0).length) : ∃ A B, CutA (langA (ndD D) 14 0) ((langA (ndD D) 14 0).getD i []) A (behindA D ((langA (ndD D) 14 0).getD i [])) B ∧ A.length = i ∧ accA (ndD D) ((langA (ndD D) 14 0).getD i []) = true := by
 obtain ⟨A, B, hc⟩ := hG.cut ((langA (ndD D) 14 0).getD i [])
 have he : A.length = i := hc.first.unique (first_at hG.sorted hi)
 refine ⟨A, B, hc, he, ?_⟩
 rw [← acc_first D hG _ hc, he, decide_eq_true hi]
 simp

/-! lexicons of drawn words -/
theorem isWord_small {s : Str} (h : s.all smB = true) (h1 : 1 ≤ s.length) (h2 : s.length ≤ 12) : m_spec_IsWord s = some true := by
 unfold m_spec_IsWord
 have h := loop_all (step := fun i : Int => m_spec_IsWord_l1 s i) (fun i => (s[i]?.map smB).getD true) s.length (.inl () : Unit ⊕ Bool) (.inr false) (fun i hi => by
   unfold m_spec_IsWord_l1
   rw [decide_eq_true (by omega : (i : Int) < s.length), cond_true, getL_at hi, Option.bind_some, l01Small_eq, Option.bind_some, chk_succ (by omega), List.getElem?_eq_getElem hi, Option.map_some, Option.getD_some]
   cases smB s[i] <;> rfl)
  (by unfold m_spec_IsWord_l1; rw [decide_eq_false (by omega)]; rfl) s.length 0 (by omega)
 rw [show ((0 : Nat) : Int) = 0 from rfl, all_idx] at h
 rw [h, l00In_eq, inB_iff.2 ⟨by omega, by omega⟩]
 rw [‹s.all smB = true›]
 rfl
theorem long_someD {s : Str} (h : s ∈ someD) : m_spec_l05Long s = some true := by
 obtain ⟨h1, h2, h3⟩ := someD_ok.2 s h
 unfold m_spec_l05Long
 rw [isWord_small h1 (by omega) (by omega), decide_eq_true (by omega)]
 rfl
theorem ok_drawn {n : Nat} {L : List Str} (h : LexD n L) (hn : n ≤ 200) : m_spec_l05Ok ⟨L⟩ = some true := by
 obtain ⟨h1, h2, h3⟩ := h
 have key : ∀ (c i : Nat), i + c = L.length → loopM (fun s : Int => m_spec_l05Ok_l1 ⟨L⟩ s) (i : Int) = some (.inl ()) := by
  intro c
  induction c with
  | zero =>
   intro i hi
   refine loopM_done ?_
   unfold m_spec_l05Ok_l1
   rw [decide_eq_false (by show ¬ ((i : Int) < (L.length : Int)); omega)]; rfl
  | succ c ih =>
   intro i hi
   have hil : i < L.length := by omega
   have hstep : m_spec_l05Ok_l1 ⟨L⟩ (i : Int) = some (.inl (((i + 1 : Nat)) : Int)) := by
    unfold m_spec_l05Ok_l1
    show (bif decide ((i : Int) < (L.length : Int)) then (((getL L (i : Int)).bind _).bind _) else _ : Option _) = _
    rw [decide_eq_true (by omega), cond_true, getL_at hil, Option.bind_some, long_someD (h3 _ (List.getElem_mem hil)), Option.bind_some, Bool.not_true, cond_false, chk_succ (by omega)]
    rcases Nat.eq_zero_or_pos i with h0 | h0
    ·rw [decide_eq_false (by omega)]; rfl
    ·have hlt := List.pairwise_iff_getElem.1 h2 (i - 1) i (by omega) hil (by omega)
     rw [decide_eq_true (by omega), cond_true, Option.bind_some, chk_pred h0 (by omega), Option.bind_some]
     show (((getL L (((i - 1 : Nat)) : Int)).bind _).bind _) = _
     rw [getL_at (show i - 1 < L.length by omega), Option.bind_some, Option.bind_some, ltS_le, hlt]
     rfl
   rw [loopM_next (step := fun s : Int => m_spec_l05Ok_l1 ⟨L⟩ s) hstep]
   exact ih (i + 1) (by omega)
 have hk := key L.length 0 (by omega)
 unfold m_spec_l05Ok
 have hk' : loopM (fun s : Int => m_spec_l05Ok_l1 ⟨L⟩ s) 0 = some (.inl ()) := hk
 rw [hk', Option.bind_some, Option.bind_some]
 show some (decide ((L.length : Int) ≤ 200)) = some true
 rw [decide_eq_true (by omega)]
theorem begins_eq (w s : Str) : m_spec_l05Begins w s = some (decide (s <+: w)) := by
 have h := hasPrefix_eq w s
 unfold m_strings_HasPrefix m_internal_stringslite_HasPrefix at h
 unfold m_spec_l05Begins
 rw [← h]
 cases decide ((s.length : Int) ≤ (w.length : Int)) with
 | true => rw [cond_true]; cases (subL w 0 (s.length : Int)) <;> rfl
 | false => rfl
theorem prefixS_val {L : List Str} {s : Str} {A M B : List Str} (h : CutA L s A M B) (hL : L.length ≤ 200) (hok : m_spec_l05Ok ⟨L⟩ = some true) : m_spec_PrefixRange ⟨L⟩ s = some ((A.length : Int), (M.length : Int), 0) := by
 obtain ⟨n, hf, hn⟩ := firstS_eq L s (by omega)
 obtain rfl := hn.unique h.first
 have hlen := h.len
 unfold m_spec_PrefixRange
 rw [hok, Option.bind_some, Bool.not_true, cond_false, hf, Option.bind_some]
 have key : ∀ (c i : Nat), i + c = M.length → loopM (fun q : Int × Int => m_spec_PrefixRange_l1 ⟨L⟩ s q.1 q.2) ((i : Int), (((A.length + i : Nat)) : Int)) = some (M.length : Int) := by
  intro c
  induction c with
  | zero =>
   intro i hi
   obtain rfl : i = M.length := by omega
   refine loopM_done ?_
   show m_spec_PrefixRange_l1 ⟨L⟩ s (M.length : Int) (((A.length + M.length : Nat)) : Int) = _
   unfold m_spec_PrefixRange_l1
   show ((bif decide ((((A.length + M.length : Nat)) : Int) < (L.length : Int)) then (getL L (((A.length + M.length : Nat)) : Int)).bind _ else some false : Option Bool).bind _) = _
   rcases Nat.lt_or_ge (A.length + M.length) L.length with h1 | h1
   ·rw [decide_eq_true (by omega), cond_true, getL_getD h1 [], Option.bind_some, begins_eq, decide_eq_false (h.getD_end h1)]; rfl
   ·rw [decide_eq_false (by omega)]; rfl
  | succ c ih =>
   intro i hi
   have hstep : m_spec_PrefixRange_l1 ⟨L⟩ s (i : Int) (((A.length + i : Nat)) : Int) = some (.inl ((((i + 1 : Nat)) : Int), (((A.length + (i + 1) : Nat)) : Int))) := by
    unfold m_spec_PrefixRange_l1
    show ((bif decide ((((A.length + i : Nat)) : Int) < (L.length : Int)) then (getL L (((A.length + i : Nat)) : Int)).bind _ else some false : Option Bool).bind _) = _
    rw [chk_succ (show i ≤ 8000000000000000000 by omega), chk_succ (show A.length + i ≤ 8000000000000000000 by omega), decide_eq_true (by omega), cond_true, getL_getD (by omega) [], Option.bind_some, begins_eq, decide_eq_true (h.getD_pre (by omega))]
    rfl
   rw [loopM_next (step := fun q : Int × Int => m_spec_PrefixRange_l1 ⟨L⟩ s q.1 q.2) hstep]
   exact ih (i + 1) (by omega)
 have hk := key M.length 0 (by omega)
 rw [Nat.add_zero] at hk
 have hk' : loopM (fun q : Int × Int => m_spec_PrefixRange_l1 ⟨L⟩ s q.1 q.2) (0, (A.length : Int)) = some (M.length : Int) := hk
 rw [hk']
 rfl
theorem A2Word_val (code : Str) : ∃ w, m_spec_A2Word code = some w ∧ w ∈ someD := by
 have h0 : SrcK code 0 (⟨code, 0, 0⟩ : l00Src) := ⟨by simp, by simp, rfl⟩
 have h60 := someD_ok.1
 obtain ⟨v, s1, e1, a1, _, a2, h1⟩ := pick_k h0 (by omega) (someD.length : Int) (by omega)
 have a2 := a2 (by omega)
 have hu : v.toNat < someD.length := by omega
 refine ⟨someD[v.toNat], ?_, List.getElem_mem hu⟩
 unfold m_spec_A2Word m_spec_l00From m_spec_l00Src_text
 rw [Option.bind_some, someD_eq, Option.bind_some, e1, Option.bind_some]
 simp only
 rw [getL_int a1 hu]
 rfl
theorem a2At_val (code : Str) (n : Nat) (hn : 1 ≤ n) : ∃ v : Nat, m_laws_a2At code 0 (n : Int) = some (v : Int) ∧ v < n := by
 unfold m_laws_a2At
 by_cases hc : (code.length : Int) ≤ 0
 ·rw [decide_eq_true hc]
  exact ⟨0, rfl, by omega⟩
 ·have hpos : 0 < code.length := by omega
  rw [decide_eq_false hc, cond_false, Option.bind_some, decide_eq_false (show ¬ ((n : Int) < 1) by omega), cond_false]
  have hg : getL code 0 = some code[0] := getL_at hpos
  rw [hg, Option.bind_some]
  have h1 : (0 : Int) ≤ ((code[0].toNat : Int).tmod (n : Int)) := Int.tmod_nonneg _ (by omega)
  have h2 : ((code[0].toNat : Int).tmod (n : Int)) < (n : Int) := Int.tmod_lt_of_pos _ (by omega)
  refine ⟨((code[0].toNat : Int).tmod (n : Int)).toNat, ?_, by omega⟩
  unfold remI
  rw [beq_eq_false_iff_ne.2 (by omega), cond_false, Option.bind_some]
  congr 1
end

section
/-! keys of nodes with many successors' numbers -/
end

section
end

section
/-- The numbering's state: these nodes have their numbers. -/
structure PSt (N : List Node) (K : List Nat) (mp : List (Int × Int)) (out : List Node) : Prop where
 at_ : ∀ j : Nat, getM mp (j : Int) = if j ∈ K then some (K.idxOf j : Int) else none
 len : out.length = K.length
 lt : ∀ k ∈ K, k < N.length
 nd : K.Nodup
theorem PSt.add {N : List Node} {K : List Nat} {mp : List (Int × Int)} {out : List Node} (h : PSt N K mp out) {k : Nat} (hk : k < N.length) (hn : k ∉ K) :
  PSt N (K ++ [k]) (putM mp (k : Int) (out.length : Int)) (out ++ [headN N k]) := by
 refine ⟨fun j => ?_, by rw [List.length_append, List.length_append, h.len]; rfl, fun j hj => ?_, ?_⟩
 ·rw [getM_put, idxOf_snoc hn, h.at_ j]
  by_cases hjk : j = k
  ·subst hjk; rw [if_pos rfl, if_pos (by simp), if_neg hn, if_pos rfl, h.len]
  ·rw [if_neg (by omega)]
   by_cases hjK : j ∈ K
   ·rw [if_pos hjK, if_pos (List.mem_append_left _ hjK), if_pos hjK]
   ·rw [if_neg hjK, if_neg (by rw [List.mem_append, List.mem_singleton]; exact fun h' => h'.elim hjK hjk)]
 ·rcases List.mem_append.1 hj with hj | hj
  ·exact h.lt j hj
  ·rw [List.mem_singleton] at hj; omega
 ·rw [List.nodup_append]
  exact ⟨h.nd, by simp, fun a ha b hb => by rw [List.mem_singleton] at hb; subst hb; rintro rfl; exact hn ha⟩
end

section
/-! words of an automaton -/
theorem CutA.mem {L : List Str} {s : Str} {A M B : List Str} (h : CutA L s A M B) (u : Str) : s ++ u ∈ L ↔ u ∈ M := by
 constructor
 ·intro hu
  rw [h.eq] at hu
  rcases List.mem_append.1 hu with hu | hu
  ·rcases List.mem_append.1 hu with hu | hu
   ·have := h.lt _ hu
    rw [ltS_pre] at this; cases this
   ·obtain ⟨v, hv, e⟩ := List.mem_map.1 hu
    rw [← List.append_cancel_left e]; exact hv
  ·exact absurd (List.prefix_append _ _) (h.ge _ hu).2
 ·intro hu
  rw [h.eq]
  exact List.mem_append_left _ (List.mem_append_right _ (List.mem_map.2 ⟨u, hu, rfl⟩))
end

end Go.Proofs.YtdaoecpkgobelaaDoor
