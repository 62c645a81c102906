/- What the laws draw: lexicons. -/
import Derived.Test.YtgmikhdealhlfaaPureU
namespace Go.Proofs.Ytgmikhdealhlfaa
open Go Go.RowKit
set_option linter.unusedSimpArgs false
set_option linter.unusedVariables false

/-! ### Lexicons -/
def LexOk (n : Nat) (l : List Str) : Prop := l.length ≤ n ∧ ∀ w ∈ l, w.length ≤ 20

theorem insLoop (l : List Str) (t : Str) (hl : l.length ≤ 10000) : ∀ i : Nat, i ≤ l.length → ∃ j : Nat, j ≤ i ∧ loopM (fun s : Int => m_spec_l03Insert_l1 l t s) (i : Int) = some (j : Int)
  | 0, h => ⟨0, Nat.le_refl _, loopM_done rfl⟩
  | i + 1, h => by
    have hi : i < l.length := by omega
    have hs : m_spec_l03Insert_l1 l t ((i + 1 : Nat) : Int) = some (.inl (i : Int)) ∨ m_spec_l03Insert_l1 l t ((i + 1 : Nat) : Int) = some (.inr ((i + 1 : Nat) : Int)) := by
      unfold m_spec_l03Insert_l1
      rw [decide_eq_true (by omega), cond_true, chk_to (i : Int) (by omega) (by omega) (by omega), Option.bind_some, getL_at hi, Option.bind_some, Option.bind_some]
      cases !(ltS l[i] t || l[i] == t)
      · right; rfl
      · left; rfl
    rcases hs with hs | hs
    · obtain ⟨j, hj, e⟩ := insLoop l t hl i (by omega)
      exact ⟨j, by omega, by rw [loopM_next hs]; exact e⟩
    · exact ⟨i + 1, Nat.le_refl _, loopM_done hs⟩

theorem l03Insert_ok {n : Nat} (l : List Str) (t : Str) (hn : n ≤ 9000) (hl : LexOk n l) (ht : t.length ≤ 20) : ∃ r, m_spec_l03Insert l t = some r ∧ LexOk (n + 1) r := by
  obtain ⟨h1, h2⟩ := hl
  obtain ⟨j, hj, e⟩ := insLoop l t (by omega) l.length (Nat.le_refl _)
  have hb : ∃ b : Bool, (bif decide (0 < (j : Int)) then (chk ((j : Int) - 1)).bind fun z54 => (getL l z54).bind fun e56 => some (e56 == t) else some false : Option Bool) = some b := by
    cases j with
    | zero => exact ⟨false, rfl⟩
    | succ i =>
      have hi : i < l.length := by omega
      rw [decide_eq_true (by omega), cond_true, chk_to (i : Int) (by omega) (by omega) (by omega), Option.bind_some, getL_at hi]
      exact ⟨_, rfl⟩
  obtain ⟨b, eb⟩ := hb
  unfold m_spec_l03Insert
  rw [e, Option.bind_some, Option.bind_some, eb, Option.bind_some]
  cases b
  · rw [cond_false, subL_of (by omega) (by omega) (by omega), Option.bind_some, catL_of (by simp; omega), Option.bind_some, catL_of (by simp; omega), Option.bind_some, subL_of (by omega) (by omega) (by omega), Option.bind_some, catL_of (by simp; omega), Option.bind_some]
    refine ⟨_, rfl, by simp; omega, fun w hw => ?_⟩
    rcases List.mem_append.1 hw with hw | hw
    · rcases List.mem_append.1 hw with hw | hw
      · exact h2 w (List.mem_of_mem_take (by simpa using hw : w ∈ List.take j l))
      · rw [List.mem_singleton.1 hw]; exact ht
    · exact h2 w (List.mem_of_mem_drop (List.mem_of_mem_take hw))
  · exact ⟨l, rfl, by omega, h2⟩

noncomputable def someL : List Str := (m_spec_l05Some).getD []

theorem some_eq : m_spec_l05Some = some someL := rfl

theorem someL_ok : someL.length = 60 ∧ ∀ x ∈ someL, x.length ≤ 20 := by
  constructor
  · rfl
  · unfold someL m_spec_l05Some
    decide +kernel

theorem l05Draw_ok {k : Nat} {s : l00Src} (h : SrcOk k s) (hk : k ≤ 600000) : ∃ l s', m_spec_l05Draw s 20 = some (l, s') ∧ LexOk 30 l.Words ∧ SrcOk (k + 60) s' := by
  obtain ⟨h60, hlen⟩ := someL_ok
  unfold m_spec_l05Draw
  rw [some_eq, Option.bind_some, chk_in (by omega) (by omega), Option.bind_some]
  obtain ⟨v, s1, e1, a1, a2, h1⟩ := pick_ok h (by omega) (20 + 1) (by omega)
  have a2 := a2 (by omega)
  obtain ⟨n, hn⟩ : ∃ n : Nat, v = n := ⟨v.toNat, by omega⟩
  subst hn
  rw [e1, Option.bind_some]
  obtain ⟨s3, x, e3, h3, p3⟩ := draw_loop (m_spec_l05Draw_l1 someL) (fun i (x : List Str) => LexOk (25 - i) x ∧ i ≤ 25) (fun i k s x hs hk hp hi => by
      obtain ⟨⟨hp1, hp2⟩, hi25⟩ := hp
      obtain ⟨u, s', e, u1, u2, hs'⟩ := pick_ok hs (by omega) (someL.length : Int) (by omega)
      have u2 := u2 (by omega)
      have hu : u.toNat < someL.length := by omega
      obtain ⟨r, er, hr⟩ := l03Insert_ok (n := 25 - (i + 1)) x someL[u.toNat] (by omega) ⟨hp1, hp2⟩ (hlen _ (List.getElem_mem hu))
      refine ⟨s', r, ?_, hs', ⟨⟨by have := hr.1; omega, hr.2⟩, by omega⟩⟩
      unfold m_spec_l05Draw_l1
      rw [decide_eq_true (by omega), cond_true, e, Option.bind_some]
      simp only
      rw [getL_int u1 hu, Option.bind_some, er, Option.bind_some, chk_to (i : Int) (by omega) (by omega) (by omega), Option.bind_some])
    (fun s x => rfl) n _ s1 [] h1 (by omega) (by omega) ⟨⟨by simp, by simp⟩, by omega⟩
  rw [e3, Option.bind_some, Option.bind_some]
  exact ⟨_, _, rfl, ⟨by have := p3.1.1; simp only; omega, p3.1.2⟩, h3.mono (by omega)⟩

theorem fullLoop (N : Nat) (hN : N ≤ 300) : ∀ (m i : Nat) (xs : List Str), i + m = N → LexOk i xs → ∃ ys, loopM (fun s : (List Str) × Int => m_spec_l05Full_l1 (N : Int) s.1 s.2) (xs, (i : Int)) = some ys ∧ LexOk N ys
  | 0, i, xs, h, hx => by
    have hst : m_spec_l05Full_l1 (N : Int) xs (i : Int) = some (.inr xs) := by
      unfold m_spec_l05Full_l1
      rw [decide_eq_false (by omega)]
      rfl
    exact ⟨xs, loopM_done hst, by rw [← h]; exact hx⟩
  | m + 1, i, xs, h, hx => by
    obtain ⟨h1, h2⟩ := hx
    have q1 : quoI (i : Int) 26 = some ((i / 26 : Nat) : Int) := by
      have : (i : Int).tdiv 26 = ((i / 26 : Nat) : Int) := by rw [Int.tdiv_eq_ediv_of_nonneg (by omega)]; omega
      unfold quoI
      rw [beq_eq_false_iff_ne.2 (by omega), cond_false, this]
      exact chk_nat (by omega)
    have q2 : remI (i : Int) 26 = some ((i % 26 : Nat) : Int) := by
      have : (i : Int).tmod 26 = ((i % 26 : Nat) : Int) := by rw [Int.tmod_eq_emod_of_nonneg (by omega)]; omega
      unfold remI
      rw [beq_eq_false_iff_ne.2 (by omega), cond_false, this]
    have hst : ∃ w : Str, w.length = 2 ∧ m_spec_l05Full_l1 (N : Int) xs (i : Int) = some (.inl (xs ++ [w], ((i + 1 : Nat) : Int))) := by
      unfold m_spec_l05Full_l1
      rw [decide_eq_true (by omega), cond_true, q1, Option.bind_some, chk_in (by omega) (by omega), Option.bind_some, q2, Option.bind_some, chk_in (by omega) (by omega), Option.bind_some, catL_of (by simp; omega), Option.bind_some, chk_succ (by omega)]
      exact ⟨_, rfl, rfl⟩
    obtain ⟨w, hw, e⟩ := hst
    obtain ⟨ys, e', hy⟩ := fullLoop N hN m (i + 1) (xs ++ [w]) (by omega) ⟨by simp; omega, fun x hx => by
      rcases List.mem_append.1 hx with hx | hx
      · exact h2 x hx
      · rw [List.mem_singleton.1 hx, hw]; omega⟩
    exact ⟨ys, by rw [loopM_next (s' := (xs ++ [w], ((i + 1 : Nat) : Int))) e]; exact e', hy⟩

theorem l05Full_ok (N : Nat) (hN : N ≤ 300) : ∃ ys, m_spec_l05Full (N : Int) = some ys ∧ LexOk N ys := by
  obtain ⟨ys, e, h⟩ := fullLoop N hN N 0 [] (by omega) ⟨by simp, by simp⟩
  unfold m_spec_l05Full
  rw [show ((0 : Nat) : Int) = 0 from rfl] at e
  rw [e]
  exact ⟨ys, rfl, h⟩

theorem makeLoop (ws : List Str) (hn : ws.length ≤ 100) (hw : ∀ w ∈ ws, w.length ≤ 20) : ∀ (m i : Nat) (xs : List Str), i + m = ws.length → LexOk i xs → ∃ ys, loopM (fun s : (List Str) × Int => m_spec_l05Make_l1 ws s.1 s.2) (xs, (i : Int)) = some ys ∧ LexOk ws.length ys
  | 0, i, xs, h, hx => by
    have hst : m_spec_l05Make_l1 ws xs (i : Int) = some (.inr xs) := by
      unfold m_spec_l05Make_l1
      rw [decide_eq_false (by omega)]
      rfl
    exact ⟨xs, loopM_done hst, by rw [← h]; exact hx⟩
  | m + 1, i, xs, h, hx => by
    have hi : i < ws.length := by omega
    obtain ⟨r, er, hr⟩ := l03Insert_ok (n := i) xs ws[i] (by omega) hx (hw _ (List.getElem_mem hi))
    have hst : m_spec_l05Make_l1 ws xs (i : Int) = some (.inl (r, ((i + 1 : Nat) : Int))) := by
      unfold m_spec_l05Make_l1
      rw [decide_eq_true (by omega), cond_true, getL_at hi, Option.bind_some, er, Option.bind_some, chk_succ (by omega), Option.bind_some]
    obtain ⟨ys, e', hy⟩ := makeLoop ws hn hw m (i + 1) r (by omega) hr
    exact ⟨ys, by rw [loopM_next (s' := (r, ((i + 1 : Nat) : Int))) hst]; exact e', hy⟩

theorem l12All_ok : ∃ l, m_spec_l12All = some l ∧ LexOk 300 l.Words := by
  obtain ⟨h60, hlen⟩ := someL_ok
  obtain ⟨ys, e, h1, h2⟩ := makeLoop someL (by omega) hlen someL.length 0 [] (by omega) ⟨by simp, by simp⟩
  unfold m_spec_l12All m_spec_l05Make
  rw [show ((0 : Nat) : Int) = 0 from rfl] at e
  rw [some_eq, Option.bind_some, e]
  exact ⟨_, rfl, by simp only; omega, h2⟩

def bentTexts : List Str := [[97], [97, 110], [122, 111, 111], [90, 111, 111], [122, 122, 122, 122, 122, 122, 122, 122, 122, 122, 122, 122, 122]]

theorem l05Bent_ok {k : Nat} {s : l00Src} (h : SrcOk k s) (hk : k ≤ 600000) : ∃ l s', m_spec_l05Bent s = some (l, s') ∧ LexOk 300 l.Words ∧ SrcOk (k + 80) s' := by
  obtain ⟨l, s1, e1, ⟨hl1, hl2⟩, h1⟩ := l05Draw_ok h hk
  obtain ⟨v, s2, e2, a1, a2, h2⟩ := pick_ok h1 (by omega) 20 (by omega)
  unfold m_spec_l05Bent
  rw [e1, Option.bind_some]
  simp only
  rw [e2, Option.bind_some]
  simp only
  cases hv0 : v == 0
  · cases hv1 : v == 1
    · simp only [cond_false, Option.bind_some]
      exact ⟨_, _, rfl, ⟨by simp only; omega, hl2⟩, h2.mono (by omega)⟩
    · obtain ⟨u, s3, e3, b1, b2, h3⟩ := pick_ok h2 (by omega) 2 (by omega)
      have b2 := b2 (by omega)
      obtain ⟨N, hN⟩ : ∃ N : Nat, 200 + u = N := ⟨(200 + u).toNat, by omega⟩
      obtain ⟨ys, ey, hy1, hy2⟩ := l05Full_ok N (by omega)
      rw [cond_false, cond_true, e3, Option.bind_some]
      simp only
      rw [hN, chk_nat (by omega), Option.bind_some, ey, Option.bind_some, Option.bind_some]
      exact ⟨_, _, rfl, ⟨by simp only; omega, hy2⟩, h3.mono (by omega)⟩
  · obtain ⟨y, s3, e3, hy, h3⟩ := text_ok h2 (by omega) bentTexts (by decide) (by decide)
    have hyl : y.length ≤ 20 := by
      have : ∀ x ∈ bentTexts, x.length ≤ 20 := by decide
      exact this y hy
    rw [cond_true]
    show ∃ l s', Option.bind (Option.bind (m_spec_l00Src_text s2 bentTexts) _) _ = some (l, s') ∧ _
    rw [e3, Option.bind_some]
    simp only
    rw [catL_of (by simp; omega), Option.bind_some, Option.bind_some]
    refine ⟨_, _, rfl, ⟨by simp; omega, fun w hw => ?_⟩, h3.mono (by omega)⟩
    rcases List.mem_append.1 hw with hw | hw
    · exact hl2 w hw
    · rw [List.mem_singleton.1 hw]; exact hyl

def shortTexts : List Str := [[97, 110], [97, 116], [116, 97], [101, 110], [101, 116], [116, 101], [97, 116, 101], [101, 97, 116], [116, 101, 97], [116, 101, 110], [110, 101, 116], [116, 97, 116], [97, 110, 116], [110, 97, 116], [101, 116, 97], [116, 116], [97, 97], [101, 101], [116, 101, 116, 101], [97, 110, 116, 97], [116, 97, 116, 101], [110, 101, 116, 116]]

theorem shortTexts_ok : ∀ x ∈ shortTexts, x.length ≤ 20 := by decide

theorem l25Lexicon_ok {k : Nat} {s : l00Src} (h : SrcOk k s) (hk : k ≤ 500000) : ∃ l s', m_spec_l25Lexicon s = some (l, s') ∧ LexOk 300 l.Words ∧ SrcOk (k + 100) s' := by
  obtain ⟨v, s1, e1, a1, a2, h1⟩ := pick_ok h (by omega) 5 (by omega)
  unfold m_spec_l25Lexicon
  rw [e1, Option.bind_some]
  simp only
  cases hv0 : v == 0
  · cases hv1 : v == 1
    · obtain ⟨u, s2, e2, b1, b2, h2⟩ := pick_ok h1 (by omega) 26 (by omega)
      have b2 := b2 (by omega)
      obtain ⟨n, hn⟩ : ∃ n : Nat, u = n := ⟨u.toNat, by omega⟩
      subst hn
      rw [cond_false, cond_false, e2, Option.bind_some]
      obtain ⟨s3, x, e3, h3, p3⟩ := draw_loop m_spec_l25Lexicon_l1 (fun i (x : List Str) => LexOk (30 - i) x ∧ i ≤ 30) (fun i k s x hs hk hp hi => by
          obtain ⟨⟨hp1, hp2⟩, hi25⟩ := hp
          obtain ⟨y, s', e, hy, hs'⟩ := text_ok hs (by omega) shortTexts (by decide) (by decide)
          obtain ⟨r, er, hr⟩ := l03Insert_ok (n := 30 - (i + 1)) x y (by omega) ⟨hp1, hp2⟩ (shortTexts_ok y hy)
          refine ⟨s', r, ?_, hs', ⟨⟨by have := hr.1; omega, hr.2⟩, by omega⟩⟩
          unfold m_spec_l25Lexicon_l1
          rw [decide_eq_true (by omega), cond_true]
          show Option.bind (m_spec_l00Src_text s shortTexts) _ = _
          rw [e, Option.bind_some]
          simp only
          rw [er, Option.bind_some, chk_to (i : Int) (by omega) (by omega) (by omega), Option.bind_some])
        (fun s x => rfl) n _ s2 [] h2 (by omega) (by omega) ⟨⟨by simp, by simp⟩, by omega⟩
      rw [e3, Option.bind_some, Option.bind_some]
      exact ⟨_, _, rfl, ⟨by have := p3.1.1; simp only; omega, p3.1.2⟩, h3.mono (by omega)⟩
    · obtain ⟨l, e2, h2⟩ := l12All_ok
      rw [cond_false, cond_true, e2, Option.bind_some]
      exact ⟨_, _, rfl, h2, h1.mono (by omega)⟩
  · obtain ⟨l, s2, e2, hl, h2⟩ := l05Bent_ok h1 (by omega)
    rw [cond_true, e2, Option.bind_some]
    exact ⟨_, _, rfl, hl, h2.mono (by omega)⟩

end Go.Proofs.Ytgmikhdealhlfaa
