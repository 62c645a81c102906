/- What the laws draw: the source of numbers never fails, and what is drawn is small. -/
import Derived.Test.YtgmikhdealhlfaaGreatDoorPureE
namespace Go.Proofs.YtgmikhdealhlfaaGreatDoor
open Go Go.RowKit
set_option linter.unusedSimpArgs false
set_option linter.unusedVariables false

/-- A source that has been asked at most k times. -/
def SrcOk (k : Nat) (s : l00Src) : Prop := 0 ≤ s.at_ ∧ s.at_ ≤ k
theorem SrcOk.mono {k k' : Nat} {s : l00Src} (h : SrcOk k s) (hk : k ≤ k') : SrcOk k' s := ⟨h.1, by have := h.2; omega⟩
theorem from_ok (code : Str) : m_spec_l00From code = some ⟨code, 0, 0⟩ ∧ SrcOk 0 ⟨code, 0, 0⟩ := ⟨rfl, by unfold SrcOk; simp⟩
theorem next_ok {k : Nat} {s : l00Src} (h : SrcOk k s) (hk : k ≤ 1000000) : ∃ v s', m_spec_l00Src_next s = some (v, s') ∧ 0 ≤ v ∧ v < 256 ∧ SrcOk (k + 1) s' := by
  obtain ⟨h0, h1⟩ := h
  have hb : ∃ b : Int, (bif decide (s.at_ < (s.code.length : Int)) then (getL s.code s.at_).bind fun e16 => some (e16.toNat : Int) else some 0 : Option Int) = some b ∧ 0 ≤ b ∧ b < 256 := by
    by_cases hlt : s.at_ < (s.code.length : Int)
    · rw [decide_eq_true hlt, cond_true, getL_int h0 (by omega)]
      have := UInt8.toNat_lt s.code[s.at_.toNat]
      exact ⟨_, rfl, by omega, by omega⟩
    · rw [decide_eq_false hlt]
      exact ⟨0, rfl, by omega, by omega⟩
  obtain ⟨b, e, b1, b2⟩ := hb
  unfold m_spec_l00Src_next
  rw [e, Option.bind_some, chk_in (by omega) (by omega), Option.bind_some]
  cases decide (s.at_ + 1 ≤ (s.code.length : Int))
  · rw [cond_false]
    have g1 := Int.emod_nonneg (((((((s.seed * 6364136223846793005) % 18446744073709551616) + (b % 18446744073709551616)) % 18446744073709551616) + 1442695040888963407) % 18446744073709551616) / 1099511627776) (show (256 : Int) ≠ 0 by decide)
    have g2 := Int.emod_lt_of_pos (((((((s.seed * 6364136223846793005) % 18446744073709551616) + (b % 18446744073709551616)) % 18446744073709551616) + 1442695040888963407) % 18446744073709551616) / 1099511627776) (show (0 : Int) < 256 by decide)
    rw [chk_in (by omega) (by omega), Option.bind_some]
    exact ⟨_, _, rfl, g1, g2, by constructor <;> simp only <;> omega⟩
  · rw [cond_true]
    exact ⟨_, _, rfl, b1, b2, by constructor <;> simp only <;> omega⟩
theorem pick_ok {k : Nat} {s : l00Src} (h : SrcOk k s) (hk : k ≤ 900000) (n : Int) (hn : n ≤ 60000) : ∃ v s', m_spec_l00Src_pick s n = some (v, s') ∧ 0 ≤ v ∧ (1 ≤ n → v < n) ∧ SrcOk (k + 2) s' := by
  unfold m_spec_l00Src_pick
  by_cases h1 : n ≤ 1
  · rw [decide_eq_true h1, cond_true]
    exact ⟨0, s, rfl, by omega, by omega, h.mono (by omega)⟩
  rw [decide_eq_false h1, cond_false]
  obtain ⟨v, s', e, v1, v2, hs⟩ := next_ok h (by omega)
  rw [e, Option.bind_some]
  have hr : ∀ x : Int, 0 ≤ x → remI x n = some (x.tmod n) ∧ 0 ≤ x.tmod n ∧ x.tmod n < n := fun x hx => by
    unfold remI
    rw [beq_eq_false_iff_ne.2 (by omega), cond_false]
    exact ⟨rfl, Int.tmod_nonneg _ hx, Int.tmod_lt_of_pos _ (by omega)⟩
  by_cases h2 : 200 < n
  · rw [decide_eq_true h2, cond_true, chk_in (by omega) (by omega), Option.bind_some]
    obtain ⟨v', s'', e', v1', v2', hs'⟩ := next_ok hs (by omega)
    simp only
    rw [e', Option.bind_some, chk_in (by omega) (by omega), Option.bind_some, Option.bind_some]
    obtain ⟨a1, a2, a3⟩ := hr (v * 256 + v') (by omega)
    simp only
    rw [a1, Option.bind_some]
    exact ⟨_, _, rfl, a2, fun _ => a3, hs'⟩
  · rw [decide_eq_false h2, cond_false, Option.bind_some]
    obtain ⟨a1, a2, a3⟩ := hr v v1
    simp only
    rw [a1, Option.bind_some]
    exact ⟨_, _, rfl, a2, fun _ => a3, hs.mono (by omega)⟩
theorem text_ok {k : Nat} {s : l00Src} (h : SrcOk k s) (hk : k ≤ 900000) (l : List Str) (hl : 1 ≤ l.length) (hl' : l.length ≤ 60000) : ∃ x s', m_spec_l00Src_text s l = some (x, s') ∧ x ∈ l ∧ SrcOk (k + 2) s' := by
  obtain ⟨v, s', e, v1, v2, hs⟩ := pick_ok h hk (l.length : Int) (by omega)
  have v2 := v2 (by omega)
  unfold m_spec_l00Src_text
  rw [e, Option.bind_some]
  simp only
  rw [getL_int v1 (by omega), Option.bind_some]
  exact ⟨_, _, rfl, List.getElem_mem _, hs⟩
theorem among_ok {k : Nat} {s : l00Src} (h : SrcOk k s) (hk : k ≤ 900000) (l : List Int) (hl : 1 ≤ l.length) (hl' : l.length ≤ 60000) : ∃ x s', m_spec_l00Src_among s l = some (x, s') ∧ x ∈ l ∧ SrcOk (k + 2) s' := by
  obtain ⟨v, s', e, v1, v2, hs⟩ := pick_ok h hk (l.length : Int) (by omega)
  have v2 := v2 (by omega)
  unfold m_spec_l00Src_among
  rw [e, Option.bind_some]
  simp only
  rw [getL_int v1 (by omega), Option.bind_some]
  exact ⟨_, _, rfl, List.getElem_mem _, hs⟩
theorem one_ok {k : Nat} {s : l00Src} (h : SrcOk k s) (hk : k ≤ 900000) (n : Int) (hn : n ≤ 60000) : ∃ b s', m_spec_l00Src_one s n = some (b, s') ∧ SrcOk (k + 2) s' := by
  obtain ⟨v, s', e, v1, v2, hs⟩ := pick_ok h hk n hn
  unfold m_spec_l00Src_one
  rw [e, Option.bind_some]
  exact ⟨_, _, rfl, hs⟩
/-- A loop that draws: n is what is left to do, P what holds of what is made. -/
theorem draw_loop {α : Type} (F : Str → Int → Int → α → Int → Option ((Str × Int × Int × α × Int) ⊕ (Str × Int × Int × α))) (P : Nat → α → Prop)
    (hstep : ∀ (i k : Nat) (s : l00Src) (x : α), SrcOk k s → k ≤ 800000 → P (i + 1) x → i ≤ 1000 → ∃ (s' : l00Src) (x' : α), F s.code s.at_ s.seed x ((i + 1 : Nat) : Int) = some (.inl (s'.code, s'.at_, s'.seed, x', (i : Int))) ∧ SrcOk (k + 2) s' ∧ P i x')
    (hend : ∀ (s : l00Src) (x : α), F s.code s.at_ s.seed x ((0 : Nat) : Int) = some (.inr (s.code, s.at_, s.seed, x))) :
    ∀ (n k : Nat) (s : l00Src) (x : α), SrcOk k s → k + 2 * n ≤ 800000 → n ≤ 1000 → P n x → ∃ (s' : l00Src) (x' : α), loopM (fun q : Str × Int × Int × α × Int => F q.1 q.2.1 q.2.2.1 q.2.2.2.1 q.2.2.2.2) (s.code, s.at_, s.seed, x, (n : Int)) = some (s'.code, s'.at_, s'.seed, x') ∧ SrcOk (k + 2 * n) s' ∧ P 0 x'
  | 0, k, s, x, h, hk, hn, hp => ⟨s, x, loopM_done (hend s x), h, hp⟩
  | n + 1, k, s, x, h, hk, hn, hp => by
    obtain ⟨s', x', e, h', hp'⟩ := hstep n k s x h (by omega) hp (by omega)
    obtain ⟨s'', x'', e'', h'', hp''⟩ := draw_loop F P hstep hend n (k + 2) s' x' h' (by omega) (by omega) hp'
    exact ⟨s'', x'', by rw [loopM_next (s' := (s'.code, s'.at_, s'.seed, x', (n : Int))) e]; exact e'', h''.mono (by omega), hp''⟩

/-! ### Grids -/
def gridTexts : List Str := [[46], [46], [46], [46], [46], [46], [35], [35], [116], [101], [97]]
theorem gridTexts_ok : ∀ x ∈ gridTexts, x.length = 1 ∧ x.all gridC = true := by decide +kernel
theorem l25Draw_ok {k : Nat} {s : l00Src} (h : SrcOk k s) (hk : k ≤ 700000) : ∃ g s', m_spec_l25Draw s = some (g, s') ∧ gridB g = true ∧ g.Rows ≤ 4 ∧ 1 ≤ g.Rows ∧ 1 ≤ g.Cells.length ∧ g.Cells.length ≤ 16 ∧ SrcOk (k + 40) s' := by
  obtain ⟨v, s1, e1, a1, a2, h1⟩ := pick_ok h (by omega) 4 (by omega)
  obtain ⟨u, s2, e2, b1, b2, h2⟩ := pick_ok h1 (by omega) 3 (by omega)
  have a2 := a2 (by omega)
  have b2 := b2 (by omega)
  unfold m_spec_l25Draw
  rw [e1, Option.bind_some]
  simp only
  rw [chk_in (by omega) (by omega), Option.bind_some, e2, Option.bind_some]
  simp only
  rw [chk_in (by omega) (by omega), Option.bind_some]
  obtain ⟨R, hR⟩ : ∃ R : Nat, 1 + v = R := ⟨(1 + v).toNat, by omega⟩
  obtain ⟨C, hC⟩ : ∃ C : Nat, 2 + u = C := ⟨(2 + u).toNat, by omega⟩
  rw [hR, hC]
  have hm : R * C ≤ 16 := Nat.mul_le_mul (by omega : R ≤ 4) (by omega : C ≤ 4)
  have hm1 : 1 * 1 ≤ R * C := Nat.mul_le_mul (by omega) (by omega)
  rw [← Int.natCast_mul, chk_nat (by omega), Option.bind_some]
  obtain ⟨s3, x, e3, h3, p1, p2⟩ := draw_loop m_spec_l25Draw_l1 (fun i (x : Str) => x.length + i = R * C ∧ x.all gridC = true) (fun i k s x hs hk hp hi => by
      obtain ⟨y, s', e, hy, hs'⟩ := text_ok hs (by omega) gridTexts (by decide) (by decide)
      obtain ⟨y1, y2⟩ := gridTexts_ok y hy
      refine ⟨s', x ++ y, ?_, hs', by rw [List.length_append, y1]; omega, by rw [List.all_append, hp.2, y2]; rfl⟩
      unfold m_spec_l25Draw_l1
      rw [decide_eq_true (by omega), cond_true]
      show Option.bind (m_spec_l00Src_text s gridTexts) _ = _
      rw [e, Option.bind_some]
      simp only
      rw [catL_of (by omega), Option.bind_some, chk_to (i : Int) (by omega) (by omega) (by omega), Option.bind_some])
    (fun s x => rfl) (R * C) _ s2 [] h2 (by omega) (by omega) ⟨by simp, rfl⟩
  rw [e3, Option.bind_some, Option.bind_some]
  refine ⟨_, _, rfl, gridB_iff.2 ⟨R, C, rfl, rfl, by omega, by omega, by omega, by omega, by simpa using p1, p2⟩, ?_, ?_, ?_, ?_, h3.mono (by omega)⟩
  · simp only; omega
  · simp only; omega
  · simp only; omega
  · simp only; omega
theorem repeat_ok (c : UInt8) (n : Nat) (hn : n ≤ 100) : m_spec_l02Repeat c (n : Int) = some (List.replicate n c) := by
  unfold m_spec_l02Repeat
  have key : ∀ (i : Nat) (xs : Str), xs.length + i ≤ 100 → loopM (fun s : Str × Int => m_spec_l02Repeat_l1 c s.1 s.2) (xs, (i : Int)) = some (xs ++ List.replicate i c) := by
    intro i
    induction i with
    | zero =>
      intro xs _
      rw [List.replicate_zero, List.append_nil]
      exact loopM_done rfl
    | succ i ih =>
      intro xs h
      have hst : m_spec_l02Repeat_l1 c xs ((i + 1 : Nat) : Int) = some (.inl (xs ++ [c], (i : Int))) := by
        unfold m_spec_l02Repeat_l1
        rw [decide_eq_true (by omega), cond_true, catL_of (by simp; omega), Option.bind_some, chk_to (i : Int) (by omega) (by omega) (by omega), Option.bind_some]
      rw [loopM_next (s' := (xs ++ [c], (i : Int))) hst, ih _ (by simp; omega), List.append_assoc]
      rfl
  rw [key n [] (by simpa using hn)]
  rfl
theorem l25Bent_ok {k : Nat} {s : l00Src} (h : SrcOk k s) (hk : k ≤ 700000) : ∃ g s', m_spec_l25Bent s = some (g, s') ∧ g.Cells.length ≤ 100 ∧ SrcOk (k + 60) s' := by
  obtain ⟨g, s1, e1, hg, r1, r2, c1, c2, h1⟩ := l25Draw_ok h hk
  obtain ⟨v, s2, e2, a1, a2, h2⟩ := pick_ok h1 (by omega) 24 (by omega)
  unfold m_spec_l25Bent
  rw [e1, Option.bind_some]
  simp only
  rw [e2, Option.bind_some]
  simp only
  cases hv0 : v == 0
  · cases hv1 : v == 1
    · cases hv2 : v == 2
      · cases hv3 : v == 3
        · simp only [cond_false, Option.bind_some]
          exact ⟨_, _, rfl, by simp only; omega, h2.mono (by omega)⟩
        · simp only [cond_false, cond_true, Option.bind_some]
          exact ⟨_, _, rfl, by simp, h2.mono (by omega)⟩
      · obtain ⟨u, s3, e3, b1, b2, h3⟩ := pick_ok h2 (by omega) 2 (by omega)
        have b2 := b2 (by omega)
        obtain ⟨n, hn⟩ : ∃ n : Nat, 5 + u = n := ⟨(5 + u).toNat, by omega⟩
        simp only [cond_false, cond_true]
        rw [e3, Option.bind_some]
        simp only
        rw [hn, chk_nat (by omega), Option.bind_some, repeat_ok _ _ (by omega), Option.bind_some, Option.bind_some]
        exact ⟨_, _, rfl, by simp; omega, h3.mono (by omega)⟩
    · obtain ⟨y, s3, e3, hy, h3⟩ := text_ok h2 (by omega) [([65] : Str), ([63] : Str), ([32] : Str)] (by decide) (by decide)
      have hyl : y.length = 1 := by
        have : ∀ x ∈ [([65] : Str), ([63] : Str), ([32] : Str)], x.length = 1 := by decide
        exact this y hy
      simp only [cond_false, cond_true]
      rw [subL_of (by omega) (by omega) (by omega), Option.bind_some, e3, Option.bind_some]
      simp only
      rw [catL_of (by simp; omega), Option.bind_some, Option.bind_some]
      exact ⟨_, _, rfl, by simp; omega, h3.mono (by omega)⟩
  · simp only [cond_true]
    rw [chk_in (by omega) (by omega), Option.bind_some]
    obtain ⟨y, s3, e3, hy, h3⟩ := among_ok h2 (by omega) [0, 6, g.Rows + 1] (by simp) (by simp)
    rw [e3, Option.bind_some, Option.bind_some]
    exact ⟨_, _, rfl, by simp only; omega, h3.mono (by omega)⟩
theorem l25Slot_ok {k : Nat} {s : l00Src} (g : Grid) (hg : g.Cells.length ≤ 100) (h : SrcOk k s) (hk : k ≤ 700000) : ∃ v s', m_spec_l25Slot s g = some (v, s') ∧ SrcOk (k + 10) s' := by
  have hn : ∃ n : Nat, (m_spec_l25Ok g).bind (fun y16 => bif y16 then (m_spec_l25Slots g).bind fun y22 => some (y22.length : Int) else some 0) = some (n : Int) ∧ n ≤ 50 := by
    rw [l25Ok_eq g (by omega), Option.bind_some]
    cases hb : gridB g
    · exact ⟨0, rfl, by omega⟩
    · obtain ⟨R, C, e1, e2, h1, h2, h3, h4, h5, h6⟩ := gridB_iff.1 hb
      rw [cond_true, slotsS_eq e1 e2 h2 h4 h5]
      exact ⟨_, rfl, slotsT_len h2 h4 _⟩
  obtain ⟨n, en, hn⟩ := hn
  unfold m_spec_l25Slot
  rw [en, Option.bind_some]
  obtain ⟨b, s1, e1, h1⟩ := one_ok h (by omega) 12 (by omega)
  rw [e1, Option.bind_some]
  cases b
  · obtain ⟨v, s2, e2, _, _, h2⟩ := pick_ok h1 (by omega) n (by omega)
    simp only [cond_false]
    rw [e2]
    exact ⟨_, _, rfl, h2.mono (by omega)⟩
  · obtain ⟨v, s2, e2, _, h2⟩ := among_ok h1 (by omega) [-1, (n : Int)] (by simp) (by simp)
    simp only [cond_true]
    rw [e2]
    exact ⟨_, _, rfl, h2.mono (by omega)⟩
theorem dots_ok : ∀ (m i : Nat) (xs : Str), i + m = xs.length → xs.length ≤ 100 → ∃ ys, loopM (fun s : Str × Int => m_spec_DrawPutWord_l1 s.1 s.2) (xs, (i : Int)) = some ys ∧ ys.length = xs.length
  | 0, i, xs, h, h' => by
    have hst : m_spec_DrawPutWord_l1 xs (i : Int) = some (.inr xs) := by
      unfold m_spec_DrawPutWord_l1
      rw [decide_eq_false (by omega)]
      rfl
    exact ⟨xs, loopM_done hst, rfl⟩
  | m + 1, i, xs, h, h' => by
    have hi : i < xs.length := by omega
    have hb : ∃ zs : Str, m_spec_DrawPutWord_l1 xs (i : Int) = some (.inl (zs, ((i + 1 : Nat) : Int))) ∧ zs.length = xs.length := by
      unfold m_spec_DrawPutWord_l1
      rw [decide_eq_true (by omega), cond_true, getL_at hi, Option.bind_some]
      cases xs[i] == 46
      · rw [cond_false, Option.bind_some, chk_succ (by omega)]
        exact ⟨xs, rfl, rfl⟩
      · rw [cond_true, Option.bind_some, setL_of hi, Option.bind_some, Option.bind_some, chk_succ (by omega)]
        exact ⟨_, rfl, by simp⟩
    obtain ⟨zs, e, hz⟩ := hb
    obtain ⟨ys, e', hy⟩ := dots_ok m (i + 1) zs (by omega) (by omega)
    exact ⟨ys, by rw [loopM_next (s' := (zs, ((i + 1 : Nat) : Int))) e]; exact e', by omega⟩
theorem code_eq (g : Grid) (k : Int) (hl : g.Cells.length ≤ 1000) : ∃ c : Int, m_spec_l25Code g k = some c ∧ (c = 0 → ∃ (R C : Nat) (s : Slot), g.Cols = C ∧ R ≤ 5 ∧ C ≤ 5 ∧ g.Cells.length = R * C ∧ SlotIn R C s ∧ (m_spec_l25Slots g).bind (fun y => getL y k) = some s ∧ m_spec_l25Slots g = some (slotsT g.Cells R C) ∧ getL (slotsT g.Cells R C) k = some s) := by
  unfold m_spec_l25Code
  rw [l25Ok_eq g (by omega), Option.bind_some]
  cases hb : gridB g
  · exact ⟨1, rfl, by omega⟩
  · obtain ⟨R, C, e1, e2, h1, h2, h3, h4, h5, h6⟩ := gridB_iff.1 hb
    have hlen := slotsT_len h2 h4 g.Cells
    have hs := slotsS_eq e1 e2 h2 h4 h5
    rw [Bool.not_true, cond_false, hs, Option.bind_some, chk_in (by omega) (by omega), Option.bind_some, l00In_eq, Option.bind_some]
    cases hk : inB k 0 (((slotsT g.Cells R C).length : Int) - 1)
    · exact ⟨2, rfl, by omega⟩
    · rw [inB_iff] at hk
      have hi : k.toNat < (slotsT g.Cells R C).length := by omega
      have hg := getL_int hk.1 hi
      exact ⟨0, rfl, fun _ => ⟨R, C, _, e2, h2, h4, h5, slotsT_in (List.getElem_mem hi), by rw [Option.bind_some, hg], rfl, hg⟩⟩
def putTexts : List Str := [[97, 110], [97, 116, 101], [116, 101, 116, 101], [97, 116], [101, 97, 116], [], [65], [116, 101, 115, 116, 115]]
theorem DrawPutWord_ok (code : Str) : ∃ v : Grid × Int × Str, m_spec_DrawPutWord code = some v ∧ v.1.Cells.length ≤ 100 ∧ v.2.2.length ≤ 100 := by
  obtain ⟨e0, h0⟩ := from_ok code
  obtain ⟨g, s1, e1, hg, h1⟩ := l25Bent_ok h0 (by omega)
  obtain ⟨k, s2, e2, h2⟩ := l25Slot_ok g hg h1 (by omega)
  obtain ⟨w, s3, e3, hw, h3⟩ := text_ok h2 (by omega) putTexts (by decide) (by decide)
  have hwl : w.length ≤ 5 := by
    have : ∀ x ∈ putTexts, x.length ≤ 5 := by decide
    exact this w hw
  obtain ⟨b, s4, e4, h4⟩ := one_ok h3 (by omega) 2 (by omega)
  obtain ⟨c, ec, hc⟩ := code_eq g k (by omega)
  unfold m_spec_DrawPutWord
  rw [e0, Option.bind_some, e1, Option.bind_some]
  simp only
  rw [e2, Option.bind_some]
  simp only
  show ∃ v : Grid × Int × Str, Option.bind (m_spec_l00Src_text s2 putTexts) _ = some v ∧ _
  rw [e3, Option.bind_some]
  simp only
  rw [e4, Option.bind_some]
  simp only
  cases b
  · simp only [cond_false, Option.bind_some]
    exact ⟨_, rfl, hg, by simp only; omega⟩
  · rw [cond_true, ec, Option.bind_some, Option.bind_some]
    simp only
    cases hc0 : c == 0
    · simp only [cond_false, Option.bind_some]
      exact ⟨_, rfl, hg, by simp only; omega⟩
    · obtain ⟨R, C, sl, q1, q2, q3, q4, q5, q6, q7, q8⟩ := hc (beq_iff_eq.1 hc0)
      have hp := pattern_eq q1 q2 q3 q4 q5
      have hpl := patT_len g.Cells q5 q2 q3
      obtain ⟨ys, ey, hy⟩ := dots_ok (patT g.Cells C sl).length 0 (patT g.Cells C sl) (by omega) (by omega)
      rw [cond_true, q7, Option.bind_some, q8, Option.bind_some, patternS_rfl, hp, Option.bind_some]
      rw [show ((0 : Nat) : Int) = 0 from rfl] at ey
      rw [ey, Option.bind_some, Option.bind_some, Option.bind_some]
      exact ⟨_, rfl, hg, by simp only; omega⟩

end Go.Proofs.YtgmikhdealhlfaaGreatDoor
