/- The source of numbers that the laws draw from never fails. -/
import Derived.Test.YtgmikhdealhlfaaPureA
namespace Go.Proofs.Ytgmikhdealhlfaa
open Go Go.RowKit
set_option linter.unusedSimpArgs false
set_option linter.unusedVariables false

/-- A source that has been asked at most k times. -/
def SrcOk (k : Nat) (s : l00Src) : Prop := 0 ≤ s.at_ ∧ s.at_ ≤ k
theorem SrcOk.mono {k k' : Nat} {s : l00Src} (h : SrcOk k s) (hk : k ≤ k') : SrcOk k' s := ⟨h.1, by have := h.2; omega⟩
theorem from_ok (code : Str) : m_spec_l00From code = some ⟨code, 0, 0⟩ ∧ SrcOk 0 ⟨code, 0, 0⟩ := ⟨rfl, by unfold SrcOk; simp⟩
theorem next_ok {k : Nat} {s : l00Src} (h : SrcOk k s) (hk : k ≤ 1000000) : ∃ v s', m_spec_l00Src_next s = some (v, s') ∧ 0 ≤ v ∧ v < 256 ∧ SrcOk (k + 1) s' := by
  obtain ⟨h0, h1⟩ := h
  have hb : ∃ b : Int, (bif decide (s.at_ < (s.code.length : Int)) then (getL s.code s.at_).bind fun e16 => some (e16.toNat : Int) else some 0 : Option Int) = some b ∧ 0 ≤ b ∧ b < 256 := by
    by_cases hlt : s.at_ < (s.code.length : Int)
    · rw [decide_eq_true hlt, cond_true, getL_int h0 (by omega)]
      have := UInt8.toNat_lt s.code[s.at_.toNat]
      exact ⟨_, rfl, by omega, by omega⟩
    · rw [decide_eq_false hlt]
      exact ⟨0, rfl, by omega, by omega⟩
  obtain ⟨b, e, b1, b2⟩ := hb
  unfold m_spec_l00Src_next
  rw [e, Option.bind_some, chk_in (by omega) (by omega), Option.bind_some]
  cases decide (s.at_ + 1 ≤ (s.code.length : Int))
  · rw [cond_false]
    have g1 := Int.emod_nonneg (((((((s.seed * 6364136223846793005) % 18446744073709551616) + (b % 18446744073709551616)) % 18446744073709551616) + 1442695040888963407) % 18446744073709551616) / 1099511627776) (show (256 : Int) ≠ 0 by decide)
    have g2 := Int.emod_lt_of_pos (((((((s.seed * 6364136223846793005) % 18446744073709551616) + (b % 18446744073709551616)) % 18446744073709551616) + 1442695040888963407) % 18446744073709551616) / 1099511627776) (show (0 : Int) < 256 by decide)
    rw [chk_in (by omega) (by omega), Option.bind_some]
    exact ⟨_, _, rfl, g1, g2, by constructor <;> simp only <;> omega⟩
  · rw [cond_true]
    exact ⟨_, _, rfl, b1, b2, by constructor <;> simp only <;> omega⟩
theorem pick_ok {k : Nat} {s : l00Src} (h : SrcOk k s) (hk : k ≤ 900000) (n : Int) (hn : n ≤ 60000) : ∃ v s', m_spec_l00Src_pick s n = some (v, s') ∧ 0 ≤ v ∧ (1 ≤ n → v < n) ∧ SrcOk (k + 2) s' := by
  unfold m_spec_l00Src_pick
  by_cases h1 : n ≤ 1
  · rw [decide_eq_true h1, cond_true]
    exact ⟨0, s, rfl, by omega, by omega, h.mono (by omega)⟩
  rw [decide_eq_false h1, cond_false]
  obtain ⟨v, s', e, v1, v2, hs⟩ := next_ok h (by omega)
  rw [e, Option.bind_some]
  have hr : ∀ x : Int, 0 ≤ x → remI x n = some (x.tmod n) ∧ 0 ≤ x.tmod n ∧ x.tmod n < n := fun x hx => by
    unfold remI
    rw [beq_eq_false_iff_ne.2 (by omega), cond_false]
    exact ⟨rfl, Int.tmod_nonneg _ hx, Int.tmod_lt_of_pos _ (by omega)⟩
  by_cases h2 : 200 < n
  · rw [decide_eq_true h2, cond_true, chk_in (by omega) (by omega), Option.bind_some]
    obtain ⟨v', s'', e', v1', v2', hs'⟩ := next_ok hs (by omega)
    simp only
    rw [e', Option.bind_some, chk_in (by omega) (by omega), Option.bind_some, Option.bind_some]
    obtain ⟨a1, a2, a3⟩ := hr (v * 256 + v') (by omega)
    simp only
    rw [a1, Option.bind_some]
    exact ⟨_, _, rfl, a2, fun _ => a3, hs'⟩
  · rw [decide_eq_false h2, cond_false, Option.bind_some]
    obtain ⟨a1, a2, a3⟩ := hr v v1
    simp only
    rw [a1, Option.bind_some]
    exact ⟨_, _, rfl, a2, fun _ => a3, hs.mono (by omega)⟩
theorem text_ok {k : Nat} {s : l00Src} (h : SrcOk k s) (hk : k ≤ 900000) (l : List Str) (hl : 1 ≤ l.length) (hl' : l.length ≤ 60000) : ∃ x s', m_spec_l00Src_text s l = some (x, s') ∧ x ∈ l ∧ SrcOk (k + 2) s' := by
  obtain ⟨v, s', e, v1, v2, hs⟩ := pick_ok h hk (l.length : Int) (by omega)
  have v2 := v2 (by omega)
  unfold m_spec_l00Src_text
  rw [e, Option.bind_some]
  simp only
  rw [getL_int v1 (by omega), Option.bind_some]
  exact ⟨_, _, rfl, List.getElem_mem _, hs⟩

theorem among_ok {k : Nat} {s : l00Src} (h : SrcOk k s) (hk : k ≤ 900000) (l : List Int) (hl : 1 ≤ l.length) (hl' : l.length ≤ 60000) : ∃ x s', m_spec_l00Src_among s l = some (x, s') ∧ x ∈ l ∧ SrcOk (k + 2) s' := by
  obtain ⟨v, s', e, v1, v2, hs⟩ := pick_ok h hk (l.length : Int) (by omega)
  have v2 := v2 (by omega)
  unfold m_spec_l00Src_among
  rw [e, Option.bind_some]
  simp only
  rw [getL_int v1 (by omega), Option.bind_some]
  exact ⟨_, _, rfl, List.getElem_mem _, hs⟩

/-- A loop that draws: n is what is left to do, P what holds of what is made. -/
theorem draw_loop {α : Type} (F : Str → Int → Int → α → Int → Option ((Str × Int × Int × α × Int) ⊕ (Str × Int × Int × α))) (P : Nat → α → Prop)
    (hstep : ∀ (i k : Nat) (s : l00Src) (x : α), SrcOk k s → k ≤ 800000 → P (i + 1) x → i ≤ 1000 → ∃ (s' : l00Src) (x' : α), F s.code s.at_ s.seed x ((i + 1 : Nat) : Int) = some (.inl (s'.code, s'.at_, s'.seed, x', (i : Int))) ∧ SrcOk (k + 2) s' ∧ P i x')
    (hend : ∀ (s : l00Src) (x : α), F s.code s.at_ s.seed x ((0 : Nat) : Int) = some (.inr (s.code, s.at_, s.seed, x))) :
    ∀ (n k : Nat) (s : l00Src) (x : α), SrcOk k s → k + 2 * n ≤ 800000 → n ≤ 1000 → P n x → ∃ (s' : l00Src) (x' : α), loopM (fun q : Str × Int × Int × α × Int => F q.1 q.2.1 q.2.2.1 q.2.2.2.1 q.2.2.2.2) (s.code, s.at_, s.seed, x, (n : Int)) = some (s'.code, s'.at_, s'.seed, x') ∧ SrcOk (k + 2 * n) s' ∧ P 0 x'
  | 0, k, s, x, h, hk, hn, hp => ⟨s, x, loopM_done (hend s x), h, hp⟩
  | n + 1, k, s, x, h, hk, hn, hp => by
    obtain ⟨s', x', e, h', hp'⟩ := hstep n k s x h (by omega) hp (by omega)
    obtain ⟨s'', x'', e'', h'', hp''⟩ := draw_loop F P hstep hend n (k + 2) s' x' h' (by omega) (by omega) hp'
    exact ⟨s'', x'', by rw [loopM_next (s' := (s'.code, s'.at_, s'.seed, x', (n : Int))) e]; exact e'', h''.mono (by omega), hp''⟩

end Go.Proofs.Ytgmikhdealhlfaa
