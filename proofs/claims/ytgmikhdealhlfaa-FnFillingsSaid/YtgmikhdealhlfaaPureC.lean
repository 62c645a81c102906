/- Grids: slots, patterns, words in slots. -/
import Derived.Test.YtgmikhdealhlfaaPureB
namespace Go.Proofs.Ytgmikhdealhlfaa
open Go Go.RowKit
set_option linter.unusedSimpArgs false
set_option linter.unusedVariables false
set_option linter.unusedSectionVars false

theorem getL_getD {α : Type} {xs : List α} {i : Nat} (h : i < xs.length) (d : α) : getL xs (i : Int) = some (xs.getD i d) := by
  rw [getL_at h, List.getD_eq_getElem?_getD, List.getElem?_eq_getElem h]; rfl
theorem loop_run2 {σ ρ : Type} {step : σ → Option (σ ⊕ ρ)} (s : Nat → σ) (n : Nat) (r : ρ) (hlt : ∀ i, i < n → step (s i) = some (.inl (s (i + 1)))) (hend : step (s n) = some (.inr r)) {s0 : σ} (h0 : s0 = s 0) : loopM step s0 = some r := by
  rw [h0]; exact loop_run s n r hlt hend 0 (Nat.zero_le _)

/-! ### Runs in a row -/
def runK (f : Nat → Bool) : Nat → Nat → Nat
  | 0, _ => 0
  | k + 1, c => if f c then runK f k (c + 1) + 1 else 0
theorem runK_le (f : Nat → Bool) : ∀ k c, runK f k c ≤ k
  | 0, c => Nat.le_refl _
  | k + 1, c => by
    rw [runK]
    have := runK_le f k (c + 1)
    split <;> omega
theorem runK_true (f : Nat → Bool) : ∀ k c j, c ≤ j → j < c + runK f k c → f j = true
  | 0, c, j, h1, h2 => by simp [runK] at h2; omega
  | k + 1, c, j, h1, h2 => by
    rw [runK] at h2
    split at h2
    · rename_i hc
      rcases Nat.eq_or_lt_of_le h1 with rfl | h
      · exact hc
      · exact runK_true f k (c + 1) j h (by omega)
    · omega
theorem runK_end (f : Nat → Bool) : ∀ k c, runK f k c < k → f (c + runK f k c) = false
  | 0, c, h => by omega
  | k + 1, c, h => by
    rw [runK] at h ⊢
    split
    · rename_i hc
      rw [if_pos hc] at h
      have := runK_end f k (c + 1) (by omega)
      rw [show c + (runK f k (c + 1) + 1) = c + 1 + runK f k (c + 1) by omega]
      exact this
    · rename_i hc
      simpa using hc
theorem runK_eq (f : Nat → Bool) : ∀ k c n, n ≤ k → (∀ j, c ≤ j → j < c + n → f j = true) → (n = k ∨ f (c + n) = false) → runK f k c = n
  | 0, c, n, h, _, _ => by simp [runK]; omega
  | k + 1, c, n, h, h1, h2 => by
    rw [runK]
    cases n with
    | zero =>
      rcases h2 with h2 | h2
      · omega
      · rw [Nat.add_zero] at h2; rw [if_neg (by rw [h2]; simp)]
    | succ n =>
      rw [if_pos (h1 c (Nat.le_refl _) (by omega))]
      rw [runK_eq f k (c + 1) n (by omega) (fun j a b => h1 j (by omega) (by omega)) (h2.imp (by omega) fun h => by rw [show c + 1 + n = c + (n + 1) by omega]; exact h)]
/-- The slots of a row from the place c on. -/
def slotsK (f : Nat → Bool) (C r : Nat) : Nat → Nat → List Slot
  | 0, _ => []
  | k + 1, c => if c < C then (if 2 ≤ runK f (C - c) c then [⟨r, c, false, (runK f (C - c) c : Nat)⟩] else []) ++ slotsK f C r k (c + runK f (C - c) c + 1) else []
theorem slotsK_fuel (f : Nat → Bool) (C r : Nat) : ∀ k k' c, C ≤ c + k → C ≤ c + k' → slotsK f C r k c = slotsK f C r k' c
  | 0, 0, c, _, _ => rfl
  | 0, k' + 1, c, h, _ => by simp only [slotsK]; rw [if_neg (by omega)]
  | k + 1, 0, c, _, h => by simp only [slotsK]; rw [if_neg (by omega)]
  | k + 1, k' + 1, c, h, h' => by
    simp only [slotsK]
    split
    · rw [slotsK_fuel f C r k k' _ (by omega) (by omega)]
    · rfl
def rowSlots (f : Nat → Bool) (C r c : Nat) : List Slot := slotsK f C r (C - c) c
theorem rowSlots_end (f : Nat → Bool) (C r c : Nat) (h : C ≤ c) : rowSlots f C r c = [] := by unfold rowSlots; rw [show C - c = 0 by omega]; rfl
theorem rowSlots_next (f : Nat → Bool) (C r c : Nat) (h : c < C) : rowSlots f C r c = (if 2 ≤ runK f (C - c) c then [⟨r, c, false, (runK f (C - c) c : Nat)⟩] else []) ++ rowSlots f C r (c + runK f (C - c) c + 1) := by
  unfold rowSlots
  rw [slotsK_fuel f C r (C - c) (C - c - 1 + 1) c (by omega) (by omega), slotsK, if_pos h, slotsK_fuel f C r (C - c - 1) (C - (c + runK f (C - c) c + 1)) _ (by omega) (by omega)]
theorem rowSlots_len (f : Nat → Bool) (C r : Nat) : ∀ k c, C ≤ c + k → (rowSlots f C r c).length ≤ k
  | 0, c, h => by rw [rowSlots_end f C r c (by omega)]; exact Nat.le_refl _
  | k + 1, c, h => by
    rcases Nat.lt_or_ge c C with hc | hc
    · rw [rowSlots_next f C r c hc, List.length_append]
      have := rowSlots_len f C r k (c + runK f (C - c) c + 1) (by omega)
      split <;> simp <;> omega
    · rw [rowSlots_end f C r c hc]; simp
theorem rowSlots_ok (f : Nat → Bool) (C r : Nat) : ∀ k c, C ≤ c + k → ∀ s ∈ rowSlots f C r c, ∃ c' n : Nat, s = ⟨r, c', false, n⟩ ∧ c' + n ≤ C ∧ 2 ≤ n
  | 0, c, h, s, hs => by rw [rowSlots_end f C r c (by omega)] at hs; simp at hs
  | k + 1, c, h, s, hs => by
    rcases Nat.lt_or_ge c C with hc | hc
    · rw [rowSlots_next f C r c hc, List.mem_append] at hs
      rcases hs with hs | hs
      · have := runK_le f (C - c) c
        split at hs
        · rename_i h2
          simp only [List.mem_singleton] at hs
          exact ⟨c, _, hs, by omega, h2⟩
        · simp at hs
      · exact rowSlots_ok f C r k _ (by omega) s hs
    · rw [rowSlots_end f C r c hc] at hs; simp at hs

/-! ### The grid's places -/
/-- No block at a place. -/
def openA (s : Str) (C r c : Nat) : Bool := s.getD (r * C + c) 0 != 35
section
variable {g : Grid} {R C : Nat} (e1 : g.Rows = R) (e2 : g.Cols = C) (hR : R ≤ 5) (hC : C ≤ 5) (hl : g.Cells.length = R * C)
include e1 e2 hR hC hl
omit e1 e2 hR hC in
theorem place_lt {r c : Nat} (hr : r < R) (hc : c < C) : r * C + c < g.Cells.length := by
  have : (r + 1) * C ≤ R * C := Nat.mul_le_mul_right C hr
  rw [Nat.succ_mul] at this
  omega
omit e1 e2 hR hl in
theorem place_chk {r : Nat} (hr : r ≤ 5) : chk ((r : Int) * (C : Int)) = some ((r * C : Nat) : Int) := by
  have h : r * C ≤ 25 := Nat.mul_le_mul hr hC
  rw [← Int.natCast_mul]
  exact chk_in (by omega) (by omega)
omit e1 e2 hR hl in
theorem place_chk2 {r c : Nat} (hr : r ≤ 5) (hc : c ≤ 100) : chk (((r * C : Nat) : Int) + (c : Int)) = some ((r * C + c : Nat) : Int) := by
  have h : r * C ≤ 25 := Nat.mul_le_mul hr hC
  rw [chk_in (by omega) (by omega)]
  push_cast
  rfl
theorem at_in {r c : Nat} (hr : r < R) (hc : c < C) : m_spec_l25At g r c = some (g.Cells.getD (r * C + c) 0) := by
  unfold m_spec_l25At
  simp only [e1, e2, chk_in (by omega : -9000000000000000000 ≤ (R : Int) - 1) (by omega), chk_in (by omega : -9000000000000000000 ≤ (C : Int) - 1) (by omega), Option.bind_some, l00In_eq, (inB_iff.2 ⟨by omega, by omega⟩ : inB (r : Int) 0 (R - 1) = true), (inB_iff.2 ⟨by omega, by omega⟩ : inB (c : Int) 0 (C - 1) = true), Bool.not_true, cond_false, place_chk hC (by omega : r ≤ 5), place_chk2 hC (by omega : r ≤ 5) (by omega : c ≤ 100), getL_getD (place_lt hl hr hc) 0]
theorem at_out {r c : Nat} (hr : r < R) (hc : C ≤ c) : m_spec_l25At g r c = some 35 := by
  unfold m_spec_l25At
  have : inB (c : Int) 0 (C - 1) = false := by rw [Bool.eq_false_iff]; intro h; rw [inB_iff] at h; omega
  simp only [e1, e2, chk_in (by omega : -9000000000000000000 ≤ (R : Int) - 1) (by omega), chk_in (by omega : -9000000000000000000 ≤ (C : Int) - 1) (by omega), Option.bind_some, l00In_eq, (inB_iff.2 ⟨by omega, by omega⟩ : inB (r : Int) 0 (R - 1) = true), this, Bool.not_true, Bool.not_false, cond_false, cond_true]

/-! ### Slots in the rows -/
theorem runLoop {r c : Nat} (hr : r < R) (hc : c < C) : loopM (fun s : Int => m_spec_l25Across_l3 (c : Int) g (r : Int) s) 0 = some ((runK (openA g.Cells C r) (C - c) c : Nat) : Int) := by
  have hle := runK_le (openA g.Cells C r) (C - c) c
  refine loop_run2 (step := fun s : Int => m_spec_l25Across_l3 (c : Int) g (r : Int) s) (fun i => (i : Int)) (runK (openA g.Cells C r) (C - c) c) _ (fun i hi => ?_) ?_ rfl
  · have ht := runK_true (openA g.Cells C r) (C - c) c (c + i) (by omega) (by omega)
    unfold openA at ht
    show m_spec_l25Across_l3 (c : Int) g (r : Int) (i : Int) = _
    unfold m_spec_l25Across_l3
    rw [← Int.natCast_add, chk_nat (by omega), Option.bind_some, at_in e1 e2 hR hC hl hr (by omega), Option.bind_some, ht, cond_true, chk_succ (by omega), Option.bind_some]
  · show m_spec_l25Across_l3 (c : Int) g (r : Int) ((runK (openA g.Cells C r) (C - c) c : Nat) : Int) = _
    unfold m_spec_l25Across_l3
    rw [← Int.natCast_add, chk_nat (by omega), Option.bind_some]
    rcases Nat.lt_or_ge (runK (openA g.Cells C r) (C - c) c) (C - c) with h | h
    · have hf := runK_end (openA g.Cells C r) (C - c) c h
      unfold openA at hf
      rw [at_in e1 e2 hR hC hl hr (by omega), Option.bind_some]
      unfold openA
      rw [hf]
      rfl
    · rw [at_out e1 e2 hR hC hl hr (by omega)]
      rfl
theorem rowLoopS {r : Nat} (hr : r < R) (k : Nat) : ∀ (c : Nat) (xs : List Slot), C ≤ c + k → xs.length + k ≤ 1000 → c ≤ 6 → loopM (fun s : (List Slot) × Int => m_spec_l25Across_l2 g (r : Int) s.1 s.2) (xs, (c : Int)) = some (xs ++ rowSlots (openA g.Cells C r) C r c) := by
  have done : ∀ (c : Nat) (xs : List Slot), C ≤ c → loopM (fun s : (List Slot) × Int => m_spec_l25Across_l2 g (r : Int) s.1 s.2) (xs, (c : Int)) = some (xs ++ rowSlots (openA g.Cells C r) C r c) := fun c xs hc => by
    have hst : m_spec_l25Across_l2 g (r : Int) xs (c : Int) = some (.inr xs) := by
      unfold m_spec_l25Across_l2
      rw [e2, decide_eq_false (by omega)]
      rfl
    rw [loopM_done hst, rowSlots_end _ C r c hc, List.append_nil]
  induction k with
  | zero => intro c xs h _ _; exact done c xs (by omega)
  | succ k ih =>
    intro c xs h hx hc6
    rcases Nat.lt_or_ge c C with hc | hc
    · have hle := runK_le (openA g.Cells C r) (C - c) c
      have hrun := runLoop e1 e2 hR hC hl hr hc
      rw [rowSlots_next _ C r c hc]
      generalize runK (openA g.Cells C r) (C - c) c = n at *
      have hst : m_spec_l25Across_l2 g (r : Int) xs (c : Int) = some (.inl (xs ++ (if 2 ≤ n then [⟨r, c, false, (n : Nat)⟩] else []), ((c + n + 1 : Nat) : Int))) := by
        unfold m_spec_l25Across_l2
        rw [e2, decide_eq_true (by omega : (c : Int) < (C : Int)), cond_true, hrun, Option.bind_some, Option.bind_some]
        by_cases h2 : 2 ≤ n
        · rw [decide_eq_true (by omega : (2 : Int) ≤ (n : Int)), cond_true, catL_of (by simp; omega), if_pos h2, Option.bind_some, Option.bind_some, chk_succ (by omega), Option.bind_some, ← Int.natCast_add, chk_nat (by omega), Option.bind_some, Nat.add_assoc c n 1]
        · rw [decide_eq_false (by omega : ¬ (2 : Int) ≤ (n : Int)), cond_false, if_neg h2, Option.bind_some, chk_succ (by omega), Option.bind_some, ← Int.natCast_add, chk_nat (by omega), Option.bind_some, List.append_nil, Nat.add_assoc c n 1]
      have hlen : (xs ++ (if 2 ≤ n then [(⟨r, c, false, (n : Nat)⟩ : Slot)] else [])).length ≤ xs.length + 1 := by
        rw [List.length_append]; split <;> simp
      rw [loopM_next hst, ih (c + n + 1) _ (by omega) (by omega) (by omega), List.append_assoc]
    · exact done c xs hc
/-- The same slots, found place by place. -/
theorem rowLoopI {r : Nat} (hr : r < R) (k : Nat) : ∀ (c d : Nat) (xs : List Slot), d + k = C + 1 → c ≤ d → (d ≤ C ∨ c = d) → (∀ j, c ≤ j → j < d → openA g.Cells C r j = true) → xs.length + k ≤ 1000 →
    loopM (fun s : (List Slot) × Int × Int => m_impl_Grid_across_l2 g (r : Int) s.1 s.2.1 s.2.2) (xs, (c : Int), (d : Int)) = some (xs ++ rowSlots (openA g.Cells C r) C r c) := by
  induction k with
  | zero =>
    intro c d xs hd hcd ho hopen _
    have hst : m_impl_Grid_across_l2 g (r : Int) xs (c : Int) (d : Int) = some (.inr xs) := by
      unfold m_impl_Grid_across_l2
      rw [e2, decide_eq_false (by omega)]
      rfl
    rw [loopM_done hst, rowSlots_end _ C r c (by omega), List.append_nil]
  | succ k ih =>
    intro c d xs hd hcd ho hopen hx
    have hle : d ≤ C := by omega
    -- is the place a free one?
    by_cases hfree : d < C ∧ openA g.Cells C r d = true
    · obtain ⟨h1, h2⟩ := hfree
      have hst : m_impl_Grid_across_l2 g (r : Int) xs (c : Int) (d : Int) = some (.inl (xs, (c : Int), ((d + 1 : Nat) : Int))) := by
        unfold openA at h2
        unfold m_impl_Grid_across_l2
        simp only [e2, decide_eq_true (by omega : (d : Int) ≤ (C : Int)), decide_eq_true (by omega : (d : Int) < (C : Int)), cond_true, place_chk hC (by omega : r ≤ 5), place_chk2 hC (by omega : r ≤ 5) (by omega : d ≤ 100), Option.bind_some, getL_getD (place_lt hl hr h1) 0, h2, chk_succ (by omega : d ≤ 8000000000000000000)]
      rw [loopM_next hst]
      exact ih c (d + 1) xs (by omega) (by omega) (by omega) (fun j a b => by
        rcases Nat.eq_or_lt_of_le (Nat.lt_succ_iff.1 b) with rfl | h
        · exact h2
        · exact hopen j a h) (by omega)
    · have hend : d = C ∨ openA g.Cells C r d = false := by
        rcases Nat.eq_or_lt_of_le hle with h | h
        · exact .inl h
        · right
          rw [Bool.eq_false_iff]
          exact fun h' => hfree ⟨h, h'⟩
      have hst : m_impl_Grid_across_l2 g (r : Int) xs (c : Int) (d : Int) = some (.inl (xs ++ (if 2 ≤ d - c then [⟨r, c, false, ((d - c : Nat) : Int)⟩] else []), ((d + 1 : Nat) : Int), ((d + 1 : Nat) : Int))) := by
        have e : (d : Int) - (c : Int) = ((d - c : Nat) : Int) := by omega
        unfold m_impl_Grid_across_l2
        have htest : (bif decide ((d : Int) < (C : Int)) then
              (chk ((r : Int) * (C : Int))).bind fun z66 =>
              (chk (z66 + (d : Int))).bind fun z68 =>
              (getL g.Cells z68).bind fun c70 =>
              some (c70 != 35)
            else
              some false : Option Bool) = some false := by
          rcases hend with h | h
          · rw [decide_eq_false (by omega)]; rfl
          · rcases Nat.lt_or_ge d C with h1 | h1
            · unfold openA at h
              simp only [decide_eq_true (by omega : (d : Int) < (C : Int)), cond_true, place_chk hC (by omega : r ≤ 5), place_chk2 hC (by omega : r ≤ 5) (by omega : d ≤ 100), Option.bind_some, getL_getD (place_lt hl hr h1) 0, h]
            · rw [decide_eq_false (by omega)]; rfl
        simp only [e2]
        rw [decide_eq_true (by omega : (d : Int) ≤ (C : Int)), cond_true, htest]
        simp only [Option.bind_some, cond_false, e, chk_nat (by omega : d - c ≤ 9000000000000000000), chk_succ (by omega : d ≤ 8000000000000000000)]
        by_cases h2 : 2 ≤ d - c
        · rw [decide_eq_true (by omega : (2 : Int) ≤ ((d - c : Nat) : Int)), cond_true, catL_of (by simp; omega), if_pos h2]
          rfl
        · rw [decide_eq_false (by omega : ¬ (2 : Int) ≤ ((d - c : Nat) : Int)), cond_false, if_neg h2, List.append_nil]
          rfl
      rw [loopM_next hst]
      have hlen : (xs ++ (if 2 ≤ d - c then [(⟨r, c, false, ((d - c : Nat) : Int)⟩ : Slot)] else [])).length ≤ xs.length + 1 := by
        rw [List.length_append]; split <;> simp
      rw [ih (d + 1) (d + 1) _ (by omega) (by omega) (by omega) (fun j a b => by omega) (by omega), List.append_assoc]
      congr 2
      rcases Nat.lt_or_ge c C with hc | hc
      · have hrun : runK (openA g.Cells C r) (C - c) c = d - c := runK_eq _ _ _ _ (by omega) (fun j a b => hopen j a (by omega)) (by
          rcases hend with h | h
          · left; omega
          · right; rw [show c + (d - c) = d by omega]; exact h)
        rw [rowSlots_next _ C r c hc, hrun, show c + (d - c) + 1 = d + 1 by omega]
      · rw [rowSlots_end _ C r c hc, rowSlots_end _ C r (d + 1) (by omega), if_neg (by omega)]
        rfl

/-- The slots of the first n rows. -/
def acrossT (s : Str) (C : Nat) : Nat → List Slot
  | 0 => []
  | n + 1 => acrossT s C n ++ rowSlots (openA s C n) C n 0
omit e1 e2 hR hC hl in
theorem acrossT_len (s : Str) (C : Nat) : ∀ n, (acrossT s C n).length ≤ n * C
  | 0 => by simp [acrossT]
  | n + 1 => by
    have h1 := acrossT_len s C n
    have h2 := rowSlots_len (openA s C n) C n C 0 (by omega)
    rw [acrossT, List.length_append, Nat.succ_mul]
    omega
omit e1 e2 hR hC hl in
theorem acrossT_ok (s : Str) (C : Nat) : ∀ n, ∀ x ∈ acrossT s C n, ∃ r c k : Nat, x = ⟨r, c, false, k⟩ ∧ r < n ∧ c + k ≤ C ∧ 2 ≤ k
  | 0, x, h => by simp [acrossT] at h
  | n + 1, x, h => by
    rw [acrossT, List.mem_append] at h
    rcases h with h | h
    · obtain ⟨r, c, k, a1, a2, a3, a4⟩ := acrossT_ok s C n x h
      exact ⟨r, c, k, a1, by omega, a3, a4⟩
    · obtain ⟨c, k, a1, a3, a4⟩ := rowSlots_ok _ C n C 0 (by omega) x h
      exact ⟨n, c, k, a1, by omega, a3, a4⟩
theorem acrossS_eq : m_spec_l25Across g = some (acrossT g.Cells C R) := by
  unfold m_spec_l25Across
  have h := loop_run2 (step := fun s : (List Slot) × Int => m_spec_l25Across_l1 g s.1 s.2) (fun i => (acrossT g.Cells C i, (i : Int))) R (acrossT g.Cells C R) (fun i hi => by
      have hn := acrossT_len g.Cells C i
      have hm : i * C ≤ 25 := Nat.mul_le_mul (by omega : i ≤ 5) hC
      show m_spec_l25Across_l1 g (acrossT g.Cells C i) (i : Int) = _
      unfold m_spec_l25Across_l1
      have := rowLoopS e1 e2 hR hC hl hi C 0 (acrossT g.Cells C i) (by omega) (by omega) (by omega)
      rw [show ((0 : Nat) : Int) = 0 from rfl] at this
      simp only [e1, decide_eq_true (by omega : (i : Int) < (R : Int)), cond_true, this, Option.bind_some, chk_succ (by omega : i ≤ 8000000000000000000)]
      rfl) (by
      show m_spec_l25Across_l1 g (acrossT g.Cells C R) (R : Int) = _
      unfold m_spec_l25Across_l1
      rw [e1, decide_eq_false (by omega)]
      rfl) (s0 := (([] : List Slot), 0)) rfl
  rw [h]
  rfl
theorem acrossI_eq : m_impl_Grid_across g = some (acrossT g.Cells C R) := by
  unfold m_impl_Grid_across
  have h := loop_run2 (step := fun s : (List Slot) × Int => m_impl_Grid_across_l1 g s.1 s.2) (fun i => (acrossT g.Cells C i, (i : Int))) R (acrossT g.Cells C R) (fun i hi => by
      have hn := acrossT_len g.Cells C i
      have hm : i * C ≤ 25 := Nat.mul_le_mul (by omega : i ≤ 5) hC
      show m_impl_Grid_across_l1 g (acrossT g.Cells C i) (i : Int) = _
      unfold m_impl_Grid_across_l1
      have := rowLoopI e1 e2 hR hC hl hi (C + 1) 0 0 (acrossT g.Cells C i) (by omega) (by omega) (by omega) (fun j a b => by omega) (by omega)
      rw [show ((0 : Nat) : Int) = 0 from rfl] at this
      simp only [e1, decide_eq_true (by omega : (i : Int) < (R : Int)), cond_true, this, Option.bind_some, chk_succ (by omega : i ≤ 8000000000000000000)]
      rfl) (by
      show m_impl_Grid_across_l1 g (acrossT g.Cells C R) (R : Int) = _
      unfold m_impl_Grid_across_l1
      rw [e1, decide_eq_false (by omega)]
      rfl) (s0 := (([] : List Slot), 0)) rfl
  rw [h]
  rfl

/-! ### The grid turned -/
/-- The first n places of the column c. -/
def colT (s : Str) (C c n : Nat) : Str := (List.range n).map fun r => s.getD (r * C + c) 0
def turnT (s : Str) (R C : Nat) : Nat → Str
  | 0 => []
  | n + 1 => turnT s R C n ++ colT s C n R
omit e1 e2 hR hC hl in
theorem colT_succ (s : Str) (C c n : Nat) : colT s C c (n + 1) = colT s C c n ++ [s.getD (n * C + c) 0] := by
  unfold colT; rw [List.range_succ, List.map_append]; rfl
omit e1 e2 hR hC hl in
theorem colT_len (s : Str) (C c n : Nat) : (colT s C c n).length = n := by unfold colT; simp
omit e1 e2 hR hC hl in
theorem turnT_len (s : Str) (R C : Nat) : ∀ n, (turnT s R C n).length = n * R
  | 0 => by simp [turnT]
  | n + 1 => by rw [turnT, List.length_append, turnT_len s R C n, colT_len, Nat.succ_mul]
theorem turnedS_eq : m_spec_l25Turn g = some ⟨C, R, turnT g.Cells R C C⟩ := by
  unfold m_spec_l25Turn
  have h := loop_run2 (step := fun s : Str × Int => m_spec_l25Turn_l1 g s.1 s.2) (fun i => (turnT g.Cells R C i, (i : Int))) C (turnT g.Cells R C C) (fun i hi => by
      have hn := turnT_len g.Cells R C i
      have hm : i * R ≤ 25 := Nat.mul_le_mul (by omega : i ≤ 5) hR
      show m_spec_l25Turn_l1 g (turnT g.Cells R C i) (i : Int) = _
      unfold m_spec_l25Turn_l1
      have := loop_run2 (step := fun s : Str × Int => m_spec_l25Turn_l2 g (i : Int) s.1 s.2) (fun r => (turnT g.Cells R C i ++ colT g.Cells C i r, (r : Int))) R (turnT g.Cells R C i ++ colT g.Cells C i R) (fun r hr => by
          have hc := colT_len g.Cells C i r
          show m_spec_l25Turn_l2 g (i : Int) (turnT g.Cells R C i ++ colT g.Cells C i r) (r : Int) = _
          unfold m_spec_l25Turn_l2
          rw [e1, decide_eq_true (by omega : (r : Int) < (R : Int)), cond_true, at_in e1 e2 hR hC hl hr hi, Option.bind_some, catL_of (by simp only [List.length_append, List.length_cons, List.length_nil]; omega), Option.bind_some, chk_succ (by omega), Option.bind_some, colT_succ, List.append_assoc]) (by
          show m_spec_l25Turn_l2 g (i : Int) _ (R : Int) = _
          unfold m_spec_l25Turn_l2
          rw [e1, decide_eq_false (by omega)]
          rfl) (s0 := (turnT g.Cells R C i, 0)) (by simp [colT])
      simp only [e2, decide_eq_true (by omega : (i : Int) < (C : Int)), cond_true, this, Option.bind_some, chk_succ (by omega : i ≤ 8000000000000000000)]
      rfl) (by
      show m_spec_l25Turn_l1 g _ (C : Int) = _
      unfold m_spec_l25Turn_l1
      rw [e2, decide_eq_false (by omega)]
      rfl) (s0 := (([] : Str), 0)) rfl
  rw [h, e1, e2]
  rfl
theorem turnedI_eq : m_impl_Grid_turned g = some ⟨C, R, turnT g.Cells R C C⟩ := by
  unfold m_impl_Grid_turned
  have h := loop_run2 (step := fun s : Str × Int => m_impl_Grid_turned_l1 g s.1 s.2) (fun i => (turnT g.Cells R C i, (i : Int))) C (turnT g.Cells R C C) (fun i hi => by
      have hn := turnT_len g.Cells R C i
      have hm : i * R ≤ 25 := Nat.mul_le_mul (by omega : i ≤ 5) hR
      show m_impl_Grid_turned_l1 g (turnT g.Cells R C i) (i : Int) = _
      unfold m_impl_Grid_turned_l1
      have := loop_run2 (step := fun s : Str × Int => m_impl_Grid_turned_l2 g (i : Int) s.1 s.2) (fun r => (turnT g.Cells R C i ++ colT g.Cells C i r, (r : Int))) R (turnT g.Cells R C i ++ colT g.Cells C i R) (fun r hr => by
          have hc := colT_len g.Cells C i r
          show m_impl_Grid_turned_l2 g (i : Int) (turnT g.Cells R C i ++ colT g.Cells C i r) (r : Int) = _
          unfold m_impl_Grid_turned_l2
          rw [e1, e2, decide_eq_true (by omega : (r : Int) < (R : Int)), cond_true, place_chk hC (by omega), Option.bind_some, place_chk2 hC (by omega) (by omega), Option.bind_some, getL_getD (place_lt hl hr hi) 0, Option.bind_some, catL_of (by simp only [List.length_append, List.length_cons, List.length_nil]; omega), Option.bind_some, chk_succ (by omega), Option.bind_some, colT_succ, List.append_assoc]) (by
          show m_impl_Grid_turned_l2 g (i : Int) _ (R : Int) = _
          unfold m_impl_Grid_turned_l2
          rw [e1, decide_eq_false (by omega)]
          rfl) (s0 := (turnT g.Cells R C i, 0)) (by simp [colT])
      simp only [e2, decide_eq_true (by omega : (i : Int) < (C : Int)), cond_true, this, Option.bind_some, chk_succ (by omega : i ≤ 8000000000000000000)]
      rfl) (by
      show m_impl_Grid_turned_l1 g _ (C : Int) = _
      unfold m_impl_Grid_turned_l1
      rw [e2, decide_eq_false (by omega)]
      rfl) (s0 := (([] : Str), 0)) rfl
  rw [h, e1, e2]
  rfl

/-! ### All slots -/
def downS (s : Slot) : Slot := ⟨s.Col, s.Row, true, s.Length⟩
def slotsT (s : Str) (R C : Nat) : List Slot := acrossT s C R ++ (acrossT (turnT s R C C) R C).map downS
omit e1 e2 hl in
include hR hC in
theorem slotsT_len (s : Str) : (slotsT s R C).length ≤ 50 := by
  have h1 := acrossT_len s C R
  have h2 := acrossT_len (turnT s R C C) R C
  have h3 : R * C ≤ 25 := Nat.mul_le_mul hR hC
  have h4 : C * R ≤ 25 := Nat.mul_le_mul hC hR
  unfold slotsT
  rw [List.length_append, List.length_map]
  omega
theorem slotsI_eq : m_impl_Grid_slots g = some (slotsT g.Cells R C) := by
  have hlT : (turnT g.Cells R C C).length = C * R := turnT_len _ _ _ _
  unfold m_impl_Grid_slots
  rw [acrossI_eq e1 e2 hR hC hl, Option.bind_some, turnedI_eq e1 e2 hR hC hl, Option.bind_some, acrossI_eq (g := ⟨C, R, turnT g.Cells R C C⟩) rfl rfl hC hR hlT, Option.bind_some]
  have h1 := acrossT_len g.Cells C R
  have h2 := acrossT_len (turnT g.Cells R C C) R C
  have h3 : R * C ≤ 25 := Nat.mul_le_mul hR hC
  have h4 : C * R ≤ 25 := Nat.mul_le_mul hC hR
  unfold slotsT
  simp only
  generalize acrossT (turnT g.Cells R C C) R C = ys at *
  generalize acrossT g.Cells C R = xs at *
  have h := loop_run2 (step := fun s : (List Slot) × Int => m_impl_Grid_slots_l1 ys s.1 s.2) (fun i => (xs ++ (ys.take i).map downS, (i : Int))) ys.length (xs ++ ys.map downS) (fun i hi => by
      show m_impl_Grid_slots_l1 ys (xs ++ (ys.take i).map downS) (i : Int) = _
      unfold m_impl_Grid_slots_l1
      rw [decide_eq_true (by omega : (i : Int) < (ys.length : Int)), cond_true, getL_at hi, Option.bind_some, catL_of (by simp; omega), Option.bind_some, chk_succ (by omega), Option.bind_some, List.take_add_one, List.getElem?_eq_getElem hi, List.map_append, List.append_assoc]
      rfl) (by
      show m_impl_Grid_slots_l1 ys _ (ys.length : Int) = _
      unfold m_impl_Grid_slots_l1
      rw [decide_eq_false (by omega), List.take_length]
      rfl) (s0 := (xs, 0)) (by simp)
  rw [h]
  rfl
theorem slotsS_eq : m_spec_l25Slots g = some (slotsT g.Cells R C) := by
  have hlT : (turnT g.Cells R C C).length = C * R := turnT_len _ _ _ _
  unfold m_spec_l25Slots
  rw [acrossS_eq e1 e2 hR hC hl, Option.bind_some, turnedS_eq e1 e2 hR hC hl, Option.bind_some, acrossS_eq (g := ⟨C, R, turnT g.Cells R C C⟩) rfl rfl hC hR hlT, Option.bind_some]
  have h1 := acrossT_len g.Cells C R
  have h2 := acrossT_len (turnT g.Cells R C C) R C
  have h3 : R * C ≤ 25 := Nat.mul_le_mul hR hC
  have h4 : C * R ≤ 25 := Nat.mul_le_mul hC hR
  unfold slotsT
  simp only
  generalize acrossT (turnT g.Cells R C C) R C = ys at *
  generalize acrossT g.Cells C R = xs at *
  have h := loop_run2 (step := fun s : (List Slot) × Int => m_spec_l25Slots_l1 ys s.1 s.2) (fun i => (xs ++ (ys.take i).map downS, (i : Int))) ys.length (xs ++ ys.map downS) (fun i hi => by
      show m_spec_l25Slots_l1 ys (xs ++ (ys.take i).map downS) (i : Int) = _
      unfold m_spec_l25Slots_l1
      rw [decide_eq_true (by omega : (i : Int) < (ys.length : Int)), cond_true, getL_at hi, Option.bind_some, Option.bind_some, Option.bind_some, catL_of (by simp; omega), Option.bind_some, chk_succ (by omega), Option.bind_some, List.take_add_one, List.getElem?_eq_getElem hi, List.map_append, List.append_assoc]
      rfl) (by
      show m_spec_l25Slots_l1 ys _ (ys.length : Int) = _
      unfold m_spec_l25Slots_l1
      rw [decide_eq_false (by omega), List.take_length]
      rfl) (s0 := (xs, 0)) (by simp)
  rw [h]
  rfl
end

/-! ### What is in a slot -/
/-- A slot that lies in a grid. -/
def SlotIn (R C : Nat) (s : Slot) : Prop := ∃ r c n : Nat, 2 ≤ n ∧ ((s = ⟨r, c, false, n⟩ ∧ r < R ∧ c + n ≤ C) ∨ (s = ⟨r, c, true, n⟩ ∧ r + n ≤ R ∧ c < C))
theorem slotsT_in {s : Str} {R C : Nat} {x : Slot} (h : x ∈ slotsT s R C) : SlotIn R C x := by
  unfold slotsT at h
  rcases List.mem_append.1 h with h | h
  · obtain ⟨r, c, n, a1, a2, a3, a4⟩ := acrossT_ok _ _ _ x h
    exact ⟨r, c, n, a4, .inl ⟨a1, a2, a3⟩⟩
  · obtain ⟨y, hy, rfl⟩ := List.mem_map.1 h
    obtain ⟨r, c, n, rfl, a2, a3, a4⟩ := acrossT_ok _ _ _ y hy
    exact ⟨c, r, n, a4, .inr ⟨rfl, a3, a2⟩⟩
/-- The place of a slot's square. -/
def sqT (C : Nat) (s : Slot) (k : Nat) : Nat := bif s.Down then (s.Row.toNat + k) * C + s.Col.toNat else s.Row.toNat * C + s.Col.toNat + k
theorem index_eq {g : Grid} {R C : Nat} (e2 : g.Cols = C) (hR : R ≤ 5) (hC : C ≤ 5) {s : Slot} (hs : SlotIn R C s) {k : Nat} (hk : (k : Int) < s.Length) : m_impl_Grid_index g s k = some (sqT C s k : Int) ∧ sqT C s k < R * C := by
  obtain ⟨r, c, n, hn, h | h⟩ := hs
  · obtain ⟨rfl, hr, hc⟩ := h
    simp only at hk
    have hm : (r + 1) * C ≤ R * C := Nat.mul_le_mul_right C hr
    rw [Nat.succ_mul] at hm
    have hm2 : R * C ≤ 25 := Nat.mul_le_mul hR hC
    have e : (r : Int) * (C : Int) = ((r * C : Nat) : Int) := by push_cast; rfl
    unfold m_impl_Grid_index sqT
    simp only [cond_false, e2, e, Int.toNat_natCast]
    rw [chk_nat (by omega), Option.bind_some, ← Int.natCast_add, chk_nat (by omega), Option.bind_some, ← Int.natCast_add, chk_nat (by omega)]
    exact ⟨rfl, by omega⟩
  · obtain ⟨rfl, hr, hc⟩ := h
    simp only at hk
    have hm : (r + k + 1) * C ≤ R * C := Nat.mul_le_mul_right C (by omega)
    rw [Nat.succ_mul] at hm
    have hm2 : R * C ≤ 25 := Nat.mul_le_mul hR hC
    unfold m_impl_Grid_index sqT
    simp only [cond_true, e2, Int.toNat_natCast]
    rw [← Int.natCast_add, chk_nat (by omega), Option.bind_some, ← Int.natCast_mul, chk_nat (by omega), Option.bind_some, ← Int.natCast_add, chk_nat (by omega)]
    exact ⟨rfl, by omega⟩
def patN (cs : Str) (C : Nat) (s : Slot) (n : Nat) : Str := (List.range n).map fun k => cs.getD (sqT C s k) 0
def patT (cs : Str) (C : Nat) (s : Slot) : Str := patN cs C s s.Length.toNat
theorem SlotIn.len {R C : Nat} {s : Slot} (h : SlotIn R C s) (hR : R ≤ 5) (hC : C ≤ 5) : ∃ n : Nat, s.Length = n ∧ 2 ≤ n ∧ n ≤ 5 := by
  obtain ⟨r, c, n, hn, h | h⟩ := h
  · obtain ⟨rfl, h1, h2⟩ := h; exact ⟨n, rfl, hn, by omega⟩
  · obtain ⟨rfl, h1, h2⟩ := h; exact ⟨n, rfl, hn, by omega⟩
theorem patT_len {R C : Nat} {s : Slot} (cs : Str) (h : SlotIn R C s) (hR : R ≤ 5) (hC : C ≤ 5) : ((patT cs C s).length : Int) = s.Length ∧ (patT cs C s).length ≤ 5 := by
  obtain ⟨n, e, _, h5⟩ := h.len hR hC
  unfold patT patN
  simp [e]
  exact h5
theorem pattern_eq {g : Grid} {R C : Nat} (e2 : g.Cols = C) (hR : R ≤ 5) (hC : C ≤ 5) (hl : g.Cells.length = R * C) {s : Slot} (hs : SlotIn R C s) : m_impl_Grid_pattern g s = some (patT g.Cells C s) := by
  obtain ⟨n, en, h2, h5⟩ := hs.len hR hC
  unfold m_impl_Grid_pattern
  have h := loop_run2 (step := fun x : Str × Int => m_impl_Grid_pattern_l1 s g x.1 x.2) (fun i => (patN g.Cells C s i, (i : Int))) n (patN g.Cells C s n) (fun i hi => by
      obtain ⟨h1, h2⟩ := index_eq e2 hR hC hs (k := i) (by omega)
      show m_impl_Grid_pattern_l1 s g (patN g.Cells C s i) (i : Int) = _
      unfold m_impl_Grid_pattern_l1
      rw [en, decide_eq_true (by omega : (i : Int) < (n : Int)), cond_true, h1, Option.bind_some, getL_getD (by omega) 0, Option.bind_some, catL_of (by unfold patN; simp; omega), Option.bind_some, chk_succ (by omega), Option.bind_some]
      unfold patN
      rw [List.range_succ, List.map_append]
      rfl) (by
      show m_impl_Grid_pattern_l1 s g _ (n : Int) = _
      unfold m_impl_Grid_pattern_l1
      rw [en, decide_eq_false (by omega)]
      rfl) (s0 := (([] : Str), 0)) rfl
  rw [h]
  unfold patT
  rw [en]
  rfl
theorem patternS_rfl (g : Grid) (s : Slot) : m_spec_l25Pattern g s = m_impl_Grid_pattern g s := rfl

end Go.Proofs.Ytgmikhdealhlfaa
