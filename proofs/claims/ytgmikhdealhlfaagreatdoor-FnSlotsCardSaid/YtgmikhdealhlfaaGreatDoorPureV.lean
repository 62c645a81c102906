/- A word that is put into a slot is its pattern; a grid is read back from its text. -/
import Derived.Test.YtgmikhdealhlfaaGreatDoorPutWordPure
import Derived.Test.YtgmikhdealhlfaaGreatDoorPatternOfPure
import Derived.Test.YtgmikhdealhlfaaGreatDoorCandidatesOfPure
import Derived.Test.YtgmikhdealhlfaaGreatDoorSlotsOfPure
import Derived.Test.YtgmikhdealhlfaaGreatDoorReadGridPure
namespace Go.Proofs.YtgmikhdealhlfaaGreatDoor
open Go Go.RowKit
set_option linter.unusedSimpArgs false
set_option linter.unusedVariables false

/-! ### Cells behind a word that was put -/
theorem getD_set_ne {xs : Str} {i p : Nat} {x : UInt8} (h : i ≠ p) : (xs.set i x).getD p 0 = xs.getD p 0 := by
  simp only [List.getD_eq_getElem?_getD, List.getElem?_set_ne h]
theorem getD_set_self {xs : Str} {i : Nat} {x : UInt8} (h : i < xs.length) : (xs.set i x).getD i 0 = x := by
  simp [List.getD_eq_getElem?_getD, h]
theorem putN_other (C : Nat) (s : Slot) (w cs : Str) (p : Nat) : ∀ n, (∀ i, i < n → sqT C s i ≠ p) → (putN C s w n cs).getD p 0 = cs.getD p 0
  | 0, _ => rfl
  | n + 1, h => by rw [putN, getD_set_ne (h n (by omega)), putN_other C s w cs p n fun i hi => h i (by omega)]
theorem putN_at (C : Nat) (s : Slot) (w cs : Str) (i : Nat) (hlt : sqT C s i < cs.length) : ∀ n, i < n → (∀ j, j < n → j ≠ i → sqT C s j ≠ sqT C s i) → (putN C s w n cs).getD (sqT C s i) 0 = w.getD i 0
  | 0, h, _ => by omega
  | n + 1, h, hinj => by
    rw [putN]
    by_cases e : n = i
    · subst e
      rw [getD_set_self (by rw [putN_len]; exact hlt)]
    · rw [getD_set_ne (hinj n (by omega) e), putN_at C s w cs i hlt n (by omega) fun j hj => hinj j (by omega)]
theorem sq_inj {R C : Nat} {s : Slot} (hs : SlotIn R C s) {i j : Nat} (h : i ≠ j) : sqT C s i ≠ sqT C s j := by
  obtain ⟨r, c, n, hn, h' | h'⟩ := hs
  · obtain ⟨rfl, _, _⟩ := h'
    unfold sqT
    simp only [cond_false]
    omega
  · obtain ⟨rfl, _, hc⟩ := h'
    unfold sqT
    simp only [cond_true, Int.toNat_natCast]
    intro e
    have e' : (r + i) * C = (r + j) * C := by omega
    have := Nat.eq_of_mul_eq_mul_right (by omega : 0 < C) e'
    omega

/-! ### Slots hang on the blocks alone -/
def openL (s : Str) : List Bool := s.map fun c => c != 35
theorem openL_get (s : Str) (p : Nat) : (s.getD p 0 != 35) = ((openL s).getD p true) := by
  unfold openL
  simp only [List.getD_eq_getElem?_getD, List.getElem?_map]
  cases s[p]? <;> rfl
theorem openA_eq {s t : Str} (h : openL s = openL t) (C r : Nat) : openA s C r = openA t C r := by
  funext c
  unfold openA
  rw [openL_get, openL_get, h]
theorem across_eq {s t : Str} (h : openL s = openL t) (C : Nat) : ∀ n, acrossT s C n = acrossT t C n
  | 0 => rfl
  | n + 1 => by rw [acrossT, acrossT, across_eq h C n, openA_eq h]
theorem turn_open {s t : Str} (h : openL s = openL t) (R C : Nat) : ∀ n, openL (turnT s R C n) = openL (turnT t R C n)
  | 0 => rfl
  | n + 1 => by
    have ih := turn_open h R C n
    unfold openL at ih ⊢
    rw [turnT, turnT, List.map_append, List.map_append, ih]
    congr 1
    unfold colT
    rw [List.map_map, List.map_map]
    apply List.map_congr_left
    intro r _
    show (s.getD (r * C + n) 0 != 35) = (t.getD (r * C + n) 0 != 35)
    rw [openL_get, openL_get, h]
theorem slots_eq {s t : Str} (h : openL s = openL t) (R C : Nat) : slotsT s R C = slotsT t R C := by
  unfold slotsT
  rw [across_eq h, across_eq (turn_open h R C C)]

/-! ### Put, then look -/
def Good (g : Grid) (k : Int) (w : Str) (R C : Nat) (s : Slot) : Prop := gridB g = true ∧ g.Rows = R ∧ g.Cols = C ∧ R ≤ 5 ∧ C ≤ 5 ∧ g.Cells.length = R * C ∧ 0 ≤ k ∧ (slotsT g.Cells R C)[k.toNat]? = some s ∧ wordB w = true ∧ fitB (patT g.Cells C s) w = true
theorem slotAt_good {g : Grid} {k : Int} {R C : Nat} {s : Slot} (e1 : g.Rows = R) (e2 : g.Cols = C) (h2 : R ≤ 5) (h4 : C ≤ 5) (h5 : g.Cells.length = R * C) (hk : 0 ≤ k) (hs : (slotsT g.Cells R C)[k.toNat]? = some s) : m_impl_Grid_slotAt g k = some (s, true) := by
  have hlen := slotsT_len h2 h4 g.Cells
  obtain ⟨hi, he⟩ := List.getElem?_eq_some_iff.1 hs
  unfold m_impl_Grid_slotAt
  rw [slotsI_eq e1 e2 h2 h4 h5, Option.bind_some, chk_in (by omega) (by omega), Option.bind_some, within_eq, (inB_iff.2 ⟨by omega, by omega⟩ : inB k 0 (((slotsT g.Cells R C).length : Int) - 1) = true), Option.bind_some, getL_int hk hi, he]
  rfl
theorem slotAt_cases (g : Grid) (k : Int) {R C : Nat} (e1 : g.Rows = R) (e2 : g.Cols = C) (h2 : R ≤ 5) (h4 : C ≤ 5) (h5 : g.Cells.length = R * C) : m_impl_Grid_slotAt g k = some ((⟨0, 0, false, 0⟩ : Slot), false) ∨ ∃ s, 0 ≤ k ∧ (slotsT g.Cells R C)[k.toNat]? = some s := by
  have hlen := slotsT_len h2 h4 g.Cells
  unfold m_impl_Grid_slotAt
  rw [slotsI_eq e1 e2 h2 h4 h5, Option.bind_some, chk_in (by omega) (by omega), Option.bind_some, within_eq]
  cases hk : inB k 0 (((slotsT g.Cells R C).length : Int) - 1)
  · left; rfl
  · right
    rw [inB_iff] at hk
    exact ⟨_, hk.1, List.getElem?_eq_getElem (by omega : k.toNat < (slotsT g.Cells R C).length)⟩
theorem put_of_good {g : Grid} {k : Int} {w : Str} {R C : Nat} {s : Slot} (h : Good g k w R C s) : m_impl_PutWord g k w = some (putT g s w, 0) := by
  obtain ⟨hg, e1, e2, h2, h4, h5, hk, hs, hw, hf⟩ := h
  obtain ⟨ws, w1, w2⟩ := wordB_iff.1 hw
  have hm : R * C ≤ 25 := Nat.mul_le_mul h2 h4
  obtain ⟨hi, he⟩ := List.getElem?_eq_some_iff.1 hs
  have hin : SlotIn R C s := by rw [← he]; exact slotsT_in (List.getElem_mem hi)
  have hpl := patT_len g.Cells hin h2 h4
  have hf' := hf
  unfold fitB at hf'
  have hle := of_decide_eq_true (Bool.and_eq_true_iff.1 hf').1
  unfold m_impl_PutWord
  rw [ValidGrid_eq g (by omega), hg, Option.bind_some, Bool.not_true, cond_false, slotAt_good e1 e2 h2 h4 h5 hk hs, Option.bind_some]
  simp only [Bool.not_true, cond_false]
  rw [IsWord_eq w (by omega), hw, Option.bind_some, Bool.not_true, cond_false, pattern_eq e2 h2 h4 h5 hin, Option.bind_some, fitsPattern_eq _ w ws, hf, Option.bind_some, Bool.not_true, cond_false, putI_eq e2 h2 h4 h5 hin ws (by rw [← hpl.1, hle]), Option.bind_some]
theorem good_of_put {g : Grid} {k : Int} {w : Str} {v : Grid × Int} (hl : g.Cells.length ≤ 1000) (hwl : w.length ≤ 1000) (h : m_impl_PutWord g k w = some v) (h0 : v.2 = 0) : ∃ R C s, Good g k w R C s ∧ v = (putT g s w, 0) := by
  have hno : ∀ {x : Grid} {c : Int}, c ≠ 0 → some (x, c) = some v → False := fun {x c} hc e => by
    cases Option.some.inj e
    exact hc h0
  unfold m_impl_PutWord at h
  rw [ValidGrid_eq g (by omega), Option.bind_some] at h
  cases hg : gridB g
  · rw [hg] at h
    exact (hno (by decide) h).elim
  obtain ⟨R, C, e1, e2, h1, h2, h3, h4, h5, h6⟩ := gridB_iff.1 hg
  rw [hg, Bool.not_true, cond_false] at h
  rcases slotAt_cases g k e1 e2 h2 h4 h5 with hs | ⟨s, hk, hs⟩
  · rw [hs, Option.bind_some] at h
    exact (hno (by decide) h).elim
  rw [slotAt_good e1 e2 h2 h4 h5 hk hs, Option.bind_some] at h
  simp only [Bool.not_true, cond_false] at h
  obtain ⟨hi, he⟩ := List.getElem?_eq_some_iff.1 hs
  have hin : SlotIn R C s := by rw [← he]; exact slotsT_in (List.getElem_mem hi)
  rw [IsWord_eq w (by omega), Option.bind_some] at h
  cases hw : wordB w
  · rw [hw] at h
    exact (hno (by decide) h).elim
  obtain ⟨ws, w1, w2⟩ := wordB_iff.1 hw
  rw [hw, Bool.not_true, cond_false, pattern_eq e2 h2 h4 h5 hin, Option.bind_some, fitsPattern_eq _ w ws, Option.bind_some] at h
  cases hf : fitB (patT g.Cells C s) w
  · rw [hf] at h
    exact (hno (by decide) h).elim
  have hgood : Good g k w R C s := ⟨hg, e1, e2, h2, h4, h5, hk, hs, hw, hf⟩
  refine ⟨R, C, s, hgood, ?_⟩
  have hput := put_of_good hgood
  unfold m_impl_PutWord at hput
  rw [ValidGrid_eq g (by omega), hg, Option.bind_some, Bool.not_true, cond_false, slotAt_good e1 e2 h2 h4 h5 hk hs, Option.bind_some] at hput
  simp only [Bool.not_true, cond_false] at hput
  rw [IsWord_eq w (by omega), hw, Option.bind_some, Bool.not_true, cond_false, pattern_eq e2 h2 h4 h5 hin, Option.bind_some, fitsPattern_eq _ w ws, Option.bind_some] at hput
  exact Option.some.inj (h.symm.trans hput)
theorem small_grid {c : UInt8} (h : smB c = true) : gridC c = true ∧ (c != 35) = true := by
  refine ⟨by unfold gridC; rw [h, Bool.or_true], ?_⟩
  rw [bne_iff_ne]
  rintro rfl
  exact absurd h (by decide)
/-- What the cells hold behind a word that was put. -/
theorem good_cells {g : Grid} {k : Int} {w : Str} {R C : Nat} {s : Slot} (h : Good g k w R C s) : (putT g s w).Cells.length = R * C ∧ (putT g s w).Cells.all gridC = true ∧ openL (putT g s w).Cells = openL g.Cells ∧ patT (putT g s w).Cells C s = w := by
  obtain ⟨hg, e1, e2, h2, h4, h5, hk, hs, hw, hf⟩ := h
  obtain ⟨ws, w1, w2⟩ := wordB_iff.1 hw
  obtain ⟨_, _, _, _, _, _, _, _, _, h6⟩ := gridB_iff.1 hg
  obtain ⟨hi, he⟩ := List.getElem?_eq_some_iff.1 hs
  have hin : SlotIn R C s := by rw [← he]; exact slotsT_in (List.getElem_mem hi)
  have hpl := patT_len g.Cells hin h2 h4
  unfold fitB at hf
  obtain ⟨hf1, hf2⟩ := Bool.and_eq_true_iff.1 hf
  have hle := of_decide_eq_true hf1
  have hn : s.Length = (w.length : Int) := by rw [← hpl.1, hle]
  have eC : g.Cols.toNat = C := by rw [e2]; rfl
  have hsq : ∀ i, i < w.length → sqT C s i < g.Cells.length := fun i hi => by
    have := (index_eq e2 h2 h4 hin (k := i) (by omega)).2
    omega
  have hcell : (putT g s w).Cells = putN C s w w.length g.Cells := by unfold putT; rw [eC]
  have hlen : (putT g s w).Cells.length = g.Cells.length := by rw [hcell, putN_len]
  have hat : ∀ i, i < w.length → (putT g s w).Cells.getD (sqT C s i) 0 = w.getD i 0 := fun i hi => by
    rw [hcell]
    exact putN_at C s w g.Cells i (hsq i hi) _ hi fun j _ hj => sq_inj hin hj
  have hoth : ∀ p, (∀ i, i < w.length → sqT C s i ≠ p) → (putT g s w).Cells.getD p 0 = g.Cells.getD p 0 := fun p hp => by
    rw [hcell]
    exact putN_other C s w g.Cells p _ hp
  have hsm : ∀ i, (hi : i < w.length) → smB (w.getD i 0) = true := fun i hi => by
    rw [List.getD_eq_getElem?_getD, List.getElem?_eq_getElem hi]
    exact List.all_eq_true.1 ws _ (List.getElem_mem hi)
  -- the slot's squares held no block
  have hold : ∀ i, i < w.length → (g.Cells.getD (sqT C s i) 0 != 35) = true := fun i hi => by
    have hfi : fitC (patT g.Cells C s) w i = true := allI_iff.1 hf2 i (by omega) (by omega)
    have hp : (patT g.Cells C s)[i]? = some (g.Cells.getD (sqT C s i) 0) := by
      unfold patT patN
      rw [List.getElem?_map, List.getElem?_range (by rw [hn]; omega)]
      rfl
    unfold fitC at hfi
    rw [hp, List.getElem?_eq_getElem hi] at hfi
    simp only at hfi
    rcases Bool.or_eq_true_iff.1 hfi with hx | hx
    · rw [beq_iff_eq.1 hx]; rfl
    · rw [beq_iff_eq.1 hx]
      exact (small_grid (List.all_eq_true.1 ws _ (List.getElem_mem hi))).2
  have hopen : ∀ p, ((putT g s w).Cells.getD p 0 != 35) = (g.Cells.getD p 0 != 35) := fun p => by
    by_cases hp : ∃ i, i < w.length ∧ sqT C s i = p
    · obtain ⟨i, hi, rfl⟩ := hp
      rw [hat i hi, hold i hi, (small_grid (hsm i hi)).2]
    · rw [hoth p fun i hi e => hp ⟨i, hi, e⟩]
  refine ⟨by rw [hlen, h5], ?_, ?_, ?_⟩
  · rw [List.all_eq_true]
    intro x hx
    obtain ⟨p, hp, rfl⟩ := List.getElem_of_mem hx
    have hd : (putT g s w).Cells[p] = (putT g s w).Cells.getD p 0 := by rw [List.getD_eq_getElem?_getD, List.getElem?_eq_getElem hp]; rfl
    rw [hd]
    by_cases hq : ∃ i, i < w.length ∧ sqT C s i = p
    · obtain ⟨i, hi, rfl⟩ := hq
      rw [hat i hi]
      exact (small_grid (hsm i hi)).1
    · rw [hoth p fun i hi e => hq ⟨i, hi, e⟩, List.getD_eq_getElem?_getD, List.getElem?_eq_getElem (by omega)]
      exact List.all_eq_true.1 h6 _ (List.getElem_mem _)
  · unfold openL
    apply List.ext_getElem?
    intro p
    rw [List.getElem?_map, List.getElem?_map]
    have := hopen p
    simp only [List.getD_eq_getElem?_getD] at this
    rcases Nat.lt_or_ge p g.Cells.length with hp | hp
    · rw [List.getElem?_eq_getElem hp, List.getElem?_eq_getElem (by omega)] at this ⊢
      simp only [Option.getD_some] at this
      simp only [Option.map_some, this]
    · rw [List.getElem?_eq_none hp, List.getElem?_eq_none (by omega)]
  · unfold patT patN
    rw [hn, Int.toNat_natCast]
    apply List.ext_getElem?
    intro i
    rw [List.getElem?_map]
    rcases Nat.lt_or_ge i w.length with hi | hi
    · rw [List.getElem?_range hi, Option.map_some, hat i hi, List.getD_eq_getElem?_getD, List.getElem?_eq_getElem hi]
      rfl
    · rw [List.getElem?_eq_none (by simpa using hi), List.getElem?_eq_none hi]
      rfl
theorem pattern_of_good {g : Grid} {k : Int} {w : Str} {R C : Nat} {s : Slot} (h : Good g k w R C s) : m_impl_PatternOf (putT g s w) k = some (w, 0) := by
  obtain ⟨c1, c2, c3, c4⟩ := good_cells h
  obtain ⟨hg, e1, e2, h2, h4, h5, hk, hs, hw, hf⟩ := h
  obtain ⟨R', C', e1', e2', r1, r2, r3, r4, r5, r6⟩ := gridB_iff.1 hg
  have hm : R * C ≤ 25 := Nat.mul_le_mul h2 h4
  have hg' : gridB (putT g s w) = true := gridB_iff.2 ⟨R, C, e1, e2, by omega, h2, by omega, h4, c1, c2⟩
  obtain ⟨hi, he⟩ := List.getElem?_eq_some_iff.1 hs
  have hin : SlotIn R C s := by rw [← he]; exact slotsT_in (List.getElem_mem hi)
  have hs' : (slotsT (putT g s w).Cells R C)[k.toNat]? = some s := by rw [slots_eq c3]; exact hs
  unfold m_impl_PatternOf
  rw [ValidGrid_eq _ (by omega), hg', Option.bind_some, Bool.not_true, cond_false, slotAt_good (g := putT g s w) e1 e2 h2 h4 c1 hk hs', Option.bind_some]
  simp only [Bool.not_true, cond_false]
  rw [pattern_eq (g := putT g s w) e2 h2 h4 c1 hin, c4]
  rfl

/-! ### A grid read back -/
theorem rowsT_take (s : Str) (C : Nat) : ∀ n, (rowsT s C n).flatten = s.take (n * C)
  | 0 => by simp [rowsT]
  | n + 1 => by
    rw [rowsT_succ, List.flatten_append, rowsT_take s C n]
    simp only [List.flatten_cons, List.flatten_nil, List.append_nil]
    unfold rowT
    rw [Nat.succ_mul, List.take_add]
theorem readBack (g : Grid) (hg : gridB g = true) : m_impl_ReadGrid (gridT g) = some (g, true) ∧ (gridT g != ([] : Str)) = true := by
  obtain ⟨R, C, e1, e2, h1, h2, h3, h4, h5, h6⟩ := gridB_iff.1 hg
  have hj := joinT_len g.Cells C R h4
  have ht : gridT g = Lib.join (rowsT g.Cells C R) [47] := by
    unfold gridT
    rw [hg, cond_true, e1, e2]
    rfl
  have hsp : splitC 47 (gridT g) = rowsT g.Cells C R := by
    rw [ht]
    refine splitC_join 47 _ (fun e => ?_) fun z hz hm => ?_
    · have := rowsT_len g.Cells C R
      rw [e] at this
      simp at this
      omega
    · unfold rowsT at hz
      obtain ⟨i, _, rfl⟩ := List.mem_map.1 hz
      have hm' : (47 : UInt8) ∈ g.Cells := List.mem_of_mem_drop (List.mem_of_mem_take hm)
      have := List.all_eq_true.1 h6 47 hm'
      rw [slash_not] at this
      cases this
  have hhead : ((rowsT g.Cells C R).headD []).length = C := by
    obtain ⟨R', rfl⟩ : ∃ R', R = R' + 1 := ⟨R - 1, by omega⟩
    unfold rowsT
    rw [List.range_succ_eq_map, List.map_cons]
    show (rowT g.Cells C 0).length = C
    have hle : 1 * C ≤ (R' + 1) * C := Nat.mul_le_mul_right C (by omega)
    unfold rowT
    rw [List.length_take, List.length_drop, h5]
    omega
  have hread : readG (gridT g) = g := by
    unfold readG
    rw [hsp, rowsT_len, hhead, rowsT_take, ← h5, List.take_length, ← e1, ← e2]
  constructor
  · rw [ReadGrid_eq _ (by rw [ht]; omega), hread, hg, beq_self_eq_true]
    rfl
  · rw [bne_iff_ne]
    intro e
    rw [e] at hsp
    rw [← hsp] at hhead
    simp [splitC] at hhead
    omega
theorem readNothing : m_impl_ReadGrid ([] : Str) = some ((⟨0, 0, ([] : Str)⟩ : Grid), false) := by
  rw [ReadGrid_eq _ (by simp)]
  have : gridB (readG []) = false := by decide +kernel
  rw [this]
  rfl
theorem ReadGrid_both (s : Str) (h : s.length ≤ 1048576) : ∃ v, m_impl_ReadGrid s = some v ∧ m_spec_ReadGrid s = some v := by
  rw [ReadGrid_eq s h, ReadGridS_eq s h]
  cases hg : gridB (readG s)
  · exact ⟨_, rfl, by rw [Bool.and_false]; rfl⟩
  · rw [tests_eq s hg]
    cases evenB (splitC 47 s) ((splitC 47 s).headD []).length <;> exact ⟨_, rfl, rfl⟩

end Go.Proofs.YtgmikhdealhlfaaGreatDoor
