/- Cells behind a word that was put. -/
import Derived.Test.YtgmikhdealhlfaaPureD
namespace Go.Proofs.Ytgmikhdealhlfaa
open Go Go.RowKit
set_option linter.unusedSimpArgs false
set_option linter.unusedVariables false

/-! ### Cells behind a word that was put -/
theorem getD_set_ne {xs : Str} {i p : Nat} {x : UInt8} (h : i ≠ p) : (xs.set i x).getD p 0 = xs.getD p 0 := by
  simp only [List.getD_eq_getElem?_getD, List.getElem?_set_ne h]
theorem getD_set_self {xs : Str} {i : Nat} {x : UInt8} (h : i < xs.length) : (xs.set i x).getD i 0 = x := by
  simp [List.getD_eq_getElem?_getD, h]
theorem putN_other (C : Nat) (s : Slot) (w cs : Str) (p : Nat) : ∀ n, (∀ i, i < n → sqT C s i ≠ p) → (putN C s w n cs).getD p 0 = cs.getD p 0
  | 0, _ => rfl
  | n + 1, h => by rw [putN, getD_set_ne (h n (by omega)), putN_other C s w cs p n fun i hi => h i (by omega)]
theorem putN_at (C : Nat) (s : Slot) (w cs : Str) (i : Nat) (hlt : sqT C s i < cs.length) : ∀ n, i < n → (∀ j, j < n → j ≠ i → sqT C s j ≠ sqT C s i) → (putN C s w n cs).getD (sqT C s i) 0 = w.getD i 0
  | 0, h, _ => by omega
  | n + 1, h, hinj => by
    rw [putN]
    by_cases e : n = i
    · subst e
      rw [getD_set_self (by rw [putN_len]; exact hlt)]
    · rw [getD_set_ne (hinj n (by omega) e), putN_at C s w cs i hlt n (by omega) fun j hj => hinj j (by omega)]
theorem sq_inj {R C : Nat} {s : Slot} (hs : SlotIn R C s) {i j : Nat} (h : i ≠ j) : sqT C s i ≠ sqT C s j := by
  obtain ⟨r, c, n, hn, h' | h'⟩ := hs
  · obtain ⟨rfl, _, _⟩ := h'
    unfold sqT
    simp only [cond_false]
    omega
  · obtain ⟨rfl, _, hc⟩ := h'
    unfold sqT
    simp only [cond_true, Int.toNat_natCast]
    intro e
    have e' : (r + i) * C = (r + j) * C := by omega
    have := Nat.eq_of_mul_eq_mul_right (by omega : 0 < C) e'
    omega

/-! ### Slots hang on the blocks alone -/
def openL (s : Str) : List Bool := s.map fun c => c != 35
theorem openL_get (s : Str) (p : Nat) : (s.getD p 0 != 35) = ((openL s).getD p true) := by
  unfold openL
  simp only [List.getD_eq_getElem?_getD, List.getElem?_map]
  cases s[p]? <;> rfl
theorem openA_eq {s t : Str} (h : openL s = openL t) (C r : Nat) : openA s C r = openA t C r := by
  funext c
  unfold openA
  rw [openL_get, openL_get, h]
theorem across_eq {s t : Str} (h : openL s = openL t) (C : Nat) : ∀ n, acrossT s C n = acrossT t C n
  | 0 => rfl
  | n + 1 => by rw [acrossT, acrossT, across_eq h C n, openA_eq h]
theorem turn_open {s t : Str} (h : openL s = openL t) (R C : Nat) : ∀ n, openL (turnT s R C n) = openL (turnT t R C n)
  | 0 => rfl
  | n + 1 => by
    have ih := turn_open h R C n
    unfold openL at ih ⊢
    rw [turnT, turnT, List.map_append, List.map_append, ih]
    congr 1
    unfold colT
    rw [List.map_map, List.map_map]
    apply List.map_congr_left
    intro r _
    show (s.getD (r * C + n) 0 != 35) = (t.getD (r * C + n) 0 != 35)
    rw [openL_get, openL_get, h]
theorem slots_eq {s t : Str} (h : openL s = openL t) (R C : Nat) : slotsT s R C = slotsT t R C := by
  unfold slotsT
  rw [across_eq h, across_eq (turn_open h R C C)]

/-! ### What the cells hold -/
def Good (g : Grid) (k : Int) (w : Str) (R C : Nat) (s : Slot) : Prop := gridB g = true ∧ g.Rows = R ∧ g.Cols = C ∧ R ≤ 5 ∧ C ≤ 5 ∧ g.Cells.length = R * C ∧ 0 ≤ k ∧ (slotsT g.Cells R C)[k.toNat]? = some s ∧ wordB w = true ∧ fitB (patT g.Cells C s) w = true
theorem small_grid {c : UInt8} (h : smB c = true) : gridC c = true ∧ (c != 35) = true := by
  refine ⟨by unfold gridC; rw [h, Bool.or_true], ?_⟩
  rw [bne_iff_ne]
  rintro rfl
  exact absurd h (by decide)
/-- What the cells hold behind a word that was put. -/
theorem good_cells {g : Grid} {k : Int} {w : Str} {R C : Nat} {s : Slot} (h : Good g k w R C s) : (putT g s w).Cells.length = R * C ∧ (putT g s w).Cells.all gridC = true ∧ openL (putT g s w).Cells = openL g.Cells ∧ patT (putT g s w).Cells C s = w := by
  obtain ⟨hg, e1, e2, h2, h4, h5, hk, hs, hw, hf⟩ := h
  obtain ⟨ws, w1, w2⟩ := wordB_iff.1 hw
  obtain ⟨_, _, _, _, _, _, _, _, _, h6⟩ := gridB_iff.1 hg
  obtain ⟨hi, he⟩ := List.getElem?_eq_some_iff.1 hs
  have hin : SlotIn R C s := by rw [← he]; exact slotsT_in (List.getElem_mem hi)
  have hpl := patT_len g.Cells hin h2 h4
  unfold fitB at hf
  obtain ⟨hf1, hf2⟩ := Bool.and_eq_true_iff.1 hf
  have hle := of_decide_eq_true hf1
  have hn : s.Length = (w.length : Int) := by rw [← hpl.1, hle]
  have eC : g.Cols.toNat = C := by rw [e2]; rfl
  have hsq : ∀ i, i < w.length → sqT C s i < g.Cells.length := fun i hi => by
    have := (index_eq e2 h2 h4 hin (k := i) (by omega)).2
    omega
  have hcell : (putT g s w).Cells = putN C s w w.length g.Cells := by unfold putT; rw [eC]
  have hlen : (putT g s w).Cells.length = g.Cells.length := by rw [hcell, putN_len]
  have hat : ∀ i, i < w.length → (putT g s w).Cells.getD (sqT C s i) 0 = w.getD i 0 := fun i hi => by
    rw [hcell]
    exact putN_at C s w g.Cells i (hsq i hi) _ hi fun j _ hj => sq_inj hin hj
  have hoth : ∀ p, (∀ i, i < w.length → sqT C s i ≠ p) → (putT g s w).Cells.getD p 0 = g.Cells.getD p 0 := fun p hp => by
    rw [hcell]
    exact putN_other C s w g.Cells p _ hp
  have hsm : ∀ i, (hi : i < w.length) → smB (w.getD i 0) = true := fun i hi => by
    rw [List.getD_eq_getElem?_getD, List.getElem?_eq_getElem hi]
    exact List.all_eq_true.1 ws _ (List.getElem_mem hi)
  -- the slot's squares held no block
  have hold : ∀ i, i < w.length → (g.Cells.getD (sqT C s i) 0 != 35) = true := fun i hi => by
    have hfi : fitC (patT g.Cells C s) w i = true := allI_iff.1 hf2 i (by omega) (by omega)
    have hp : (patT g.Cells C s)[i]? = some (g.Cells.getD (sqT C s i) 0) := by
      unfold patT patN
      rw [List.getElem?_map, List.getElem?_range (by rw [hn]; omega)]
      rfl
    unfold fitC at hfi
    rw [hp, List.getElem?_eq_getElem hi] at hfi
    simp only at hfi
    rcases Bool.or_eq_true_iff.1 hfi with hx | hx
    · rw [beq_iff_eq.1 hx]; rfl
    · rw [beq_iff_eq.1 hx]
      exact (small_grid (List.all_eq_true.1 ws _ (List.getElem_mem hi))).2
  have hopen : ∀ p, ((putT g s w).Cells.getD p 0 != 35) = (g.Cells.getD p 0 != 35) := fun p => by
    by_cases hp : ∃ i, i < w.length ∧ sqT C s i = p
    · obtain ⟨i, hi, rfl⟩ := hp
      rw [hat i hi, hold i hi, (small_grid (hsm i hi)).2]
    · rw [hoth p fun i hi e => hp ⟨i, hi, e⟩]
  refine ⟨by rw [hlen, h5], ?_, ?_, ?_⟩
  · rw [List.all_eq_true]
    intro x hx
    obtain ⟨p, hp, rfl⟩ := List.getElem_of_mem hx
    have hd : (putT g s w).Cells[p] = (putT g s w).Cells.getD p 0 := by rw [List.getD_eq_getElem?_getD, List.getElem?_eq_getElem hp]; rfl
    rw [hd]
    by_cases hq : ∃ i, i < w.length ∧ sqT C s i = p
    · obtain ⟨i, hi, rfl⟩ := hq
      rw [hat i hi]
      exact (small_grid (hsm i hi)).1
    · rw [hoth p fun i hi e => hq ⟨i, hi, e⟩, List.getD_eq_getElem?_getD, List.getElem?_eq_getElem (by omega)]
      exact List.all_eq_true.1 h6 _ (List.getElem_mem _)
  · unfold openL
    apply List.ext_getElem?
    intro p
    rw [List.getElem?_map, List.getElem?_map]
    have := hopen p
    simp only [List.getD_eq_getElem?_getD] at this
    rcases Nat.lt_or_ge p g.Cells.length with hp | hp
    · rw [List.getElem?_eq_getElem hp, List.getElem?_eq_getElem (by omega)] at this ⊢
      simp only [Option.getD_some] at this
      simp only [Option.map_some, this]
    · rw [List.getElem?_eq_none hp, List.getElem?_eq_none (by omega)]
  · unfold patT patN
    rw [hn, Int.toNat_natCast]
    apply List.ext_getElem?
    intro i
    rw [List.getElem?_map]
    rcases Nat.lt_or_ge i w.length with hi | hi
    · rw [List.getElem?_range hi, Option.map_some, hat i hi, List.getD_eq_getElem?_getD, List.getElem?_eq_getElem hi]
      rfl
    · rw [List.getElem?_eq_none (by simpa using hi), List.getElem?_eq_none hi]
      rfl

end Go.Proofs.Ytgmikhdealhlfaa
