/- What a play puts on a board: the new squares, the tiles, the board after it. -/
import Derived.Test.YtbekokenomhgeaaGreatDoorPureJb
import Derived.Test.YtbekokenomhgeaaGreatDoorPureJc
namespace Go.Proofs.YtbekokenomhgeaaGreatDoor
open Go Go.RowKit
set_option linter.unusedSimpArgs false
set_option linter.unusedVariables false

attribute [local irreducible] sortP pileTo

theorem mainB_all {s : Str} (h : mainB s = true) : s.all placedC = true ∧ 2 ≤ s.length := by
  unfold mainB placedB at h
  rw [Bool.and_eq_true, Bool.and_eq_true] at h
  exact ⟨h.2.1, of_decide_eq_true h.1⟩

theorem placed_rune {w : Str} (hw : w.all placedC = true) {i : Nat} (hi : i < w.length) : runeW w i = 1 := (rune_small hi (placed_lt (List.all_eq_true.1 hw _ (List.getElem_mem hi)))).2

def freshL (n : Nat) (b : Board) (p : Play) (i : Nat) : List Nat := (List.range i).filter fun k => fAt n b p (k : Int) == 46

theorem freshL_succ (n : Nat) (b : Board) (p : Play) (i : Nat) : freshL n b p (i + 1) = freshL n b p i ++ bif fAt n b p (i : Int) == 46 then [i] else [] := by
  unfold freshL
  rw [List.range_succ, List.filter_append]
  cases h : fAt n b p (i : Int) == 46
  · simp [List.filter_cons, h]
  · simp [List.filter_cons, h]

theorem freshL_lt {n : Nat} {b : Board} {p : Play} {i k : Nat} (h : k ∈ freshL n b p i) : k < i := List.mem_range.1 (List.mem_filter.1 h).1

theorem freshL_len (n : Nat) (b : Board) (p : Play) (i : Nat) : (freshL n b p i).length ≤ i := by
  have := List.length_filter_le (fun k : Nat => fAt n b p (k : Int) == 46) (List.range i)
  rwa [List.length_range] at this

set_option maxRecDepth 100000 in
theorem newSquares_eq {n : Nat} {b : Board} (hb : IsB n b) {p : Play} (h : onB n b p = true) : m_impl_newSquares b p = some ((freshL n b p p.Word.length).map (fun k : Nat => sqV p (k : Int)), (freshL n b p p.Word.length).map (fun k : Nat => (k : Int))) := by
  obtain ⟨hm, hin, hfit⟩ := onB_all h
  obtain ⟨hall, _⟩ := mainB_all hm
  have hlen := mainB_len hm
  have hi' := insB_iff.1 hin
  have hi'' := insB_iff.1 (flat_in n p ▸ hin)
  have h15 := hb.2.2.1
  have hrun := loop_run (step := fun s : Nat × (List Square) × (List Int) => m_impl_newSquares_l1 p b s.1 s.2.1 s.2.2) (fun i => (i, (freshL n b p i).map (fun k : Nat => sqV p (k : Int)), (freshL n b p i).map (fun k : Nat => (k : Int)))) p.Word.length (p.Word.length, (freshL n b p p.Word.length).map (fun k : Nat => sqV p (k : Int)), (freshL n b p p.Word.length).map (fun k : Nat => (k : Int))) (fun i hi => by
      have hfl := freshL_len n b p i
      have hins : insB n (flatP p).Row ((flatP p).Col + (i : Int)) = true := insB_iff.2 ⟨hi''.1, by omega, by omega⟩
      have hF := flatB_is hb p
      have e : letB n b.Cells (sqV p (i : Int)).Row (sqV p (i : Int)).Col = (fAt n b p (i : Int) != 46) := by
        rw [sq_let, letB_in hF.2.2.2.2.1 hF.2.2.2.2.2.2 hins]
        rfl
      show m_impl_newSquares_l1 p b i _ _ = _
      unfold m_impl_newSquares_l1
      rw [decide_eq_true hi, cond_true, square_eq p i (by omega) (by omega) (by omega), Option.bind_some, on_eq hb, Option.bind_some, e, placed_rune hall hi, freshL_succ]
      cases hc : fAt n b p (i : Int) == 46
      · rw [show (fAt n b p (i : Int) != 46) = true from by rw [bne, hc]; rfl, Bool.not_true, cond_false, cond_false, List.append_nil]
      · rw [show (fAt n b p (i : Int) != 46) = false from by rw [bne, hc]; rfl, Bool.not_false, cond_true, cond_true, catL_of (by rw [List.length_map]; simp; omega), Option.bind_some, catL_of (by rw [List.length_map]; simp; omega), Option.bind_some, List.map_append, List.map_append]
        rfl)
    (by
      show m_impl_newSquares_l1 p b p.Word.length _ _ = _
      unfold m_impl_newSquares_l1
      rw [decide_eq_false (by omega), cond_false]) 0 (Nat.zero_le _)
  unfold m_impl_newSquares
  rw [show (freshL n b p 0) = [] from rfl] at hrun
  rw [show loopM (fun s : Nat × (List Square) × (List Int) => m_impl_newSquares_l1 p b s.1 s.2.1 s.2.2) (0, ([] : List Square), ([] : List Int)) = _ from hrun]
  rfl

set_option maxRecDepth 100000 in
theorem l12Fresh_eq {n : Nat} {b : Board} (hb : IsB n b) {p : Play} (h : onB n b p = true) : m_spec_l12Fresh (flatB n b p) (flatP p) = some ((freshL n b p p.Word.length).map (fun k : Nat => (k : Int))) := by
  obtain ⟨hm, hin, hfit⟩ := onB_all h
  have hlen := mainB_len hm
  have hi'' := insB_iff.1 (flat_in n p ▸ hin)
  have h15 := hb.2.2.1
  have hF := flatB_is hb p
  have hrun := loop_run (step := fun s : (List Int) × Int => m_spec_l12Fresh_l1 (flatP p) (flatB n b p) s.1 s.2) (fun i => ((freshL n b p i).map (fun k : Nat => (k : Int)), (i : Int))) p.Word.length ((freshL n b p p.Word.length).map (fun k : Nat => (k : Int))) (fun i hi => by
      have hfl := freshL_len n b p i
      have hins : insB n (flatP p).Row ((flatP p).Col + (i : Int)) = true := insB_iff.2 ⟨hi''.1, by omega, by omega⟩
      show m_spec_l12Fresh_l1 (flatP p) (flatB n b p) _ (i : Int) = _
      unfold m_spec_l12Fresh_l1
      rw [flatP_word, decide_eq_true (by omega : (i : Int) < (p.Word.length : Int)), cond_true, chk_in (x := (flatP p).Col + (i : Int)) (by omega) (by omega), Option.bind_some, l11At_eq hF hins, Option.bind_some, freshL_succ]
      rw [show bAt n (flatB n b p).Cells (flatP p).Row ((flatP p).Col + (i : Int)) = fAt n b p (i : Int) from rfl]
      cases hc : fAt n b p (i : Int) == 46
      · rw [cond_false, cond_false, List.append_nil, Option.bind_some, chk_succ (by omega), Option.bind_some]
      · rw [cond_true, cond_true, catL_of (by rw [List.length_map]; simp; omega), Option.bind_some, Option.bind_some, chk_succ (by omega), Option.bind_some, List.map_append]
        rfl)
    (by
      show m_spec_l12Fresh_l1 (flatP p) (flatB n b p) _ (p.Word.length : Int) = _
      unfold m_spec_l12Fresh_l1
      rw [flatP_word, decide_eq_false (by omega), cond_false]) 0 (Nat.zero_le _)
  unfold m_spec_l12Fresh
  rw [show loopM (fun s : (List Int) × Int => m_spec_l12Fresh_l1 (flatP p) (flatB n b p) s.1 s.2) (([] : List Int), 0) = _ from hrun]
  rfl

def placedW (n : Nat) (b : Board) (p : Play) : Str := (freshL n b p p.Word.length).map fun k => p.Word.getD k 0

theorem placedW_ok {n : Nat} {b : Board} {p : Play} (hm : mainB p.Word = true) : (placedW n b p).all placedC = true ∧ (placedW n b p).length ≤ 12 := by
  obtain ⟨hall, _⟩ := mainB_all hm
  have hlen := mainB_len hm
  have hfl := freshL_len n b p p.Word.length
  refine ⟨List.all_eq_true.2 fun x hx => ?_, by unfold placedW; rw [List.length_map]; omega⟩
  unfold placedW at hx
  obtain ⟨k, hk, rfl⟩ := List.mem_map.1 hx
  have hk' := freshL_lt hk
  rw [getD_of hk']
  exact List.all_eq_true.1 hall _ (List.getElem_mem hk')

set_option maxRecDepth 100000 in
theorem placed_loop {n : Nat} {b : Board} {p : Play} (hm : mainB p.Word = true) (P : Play) (hP : P.Word = p.Word) : loopM (fun s : Str × Int => m_spec_l12Placed_l1 ((freshL n b p p.Word.length).map (fun k : Nat => (k : Int))) P s.1 s.2) (([] : Str), 0) = some (placedW n b p) := by
  have hlen := mainB_len hm
  have hfl := freshL_len n b p p.Word.length
  have hrun := loop_run (step := fun s : Str × Int => m_spec_l12Placed_l1 ((freshL n b p p.Word.length).map (fun k : Nat => (k : Int))) P s.1 s.2) (fun i => ((placedW n b p).take i, (i : Int))) (freshL n b p p.Word.length).length (placedW n b p) (fun i hi => by
      have hi2 : i < (placedW n b p).length := by unfold placedW; rw [List.length_map]; exact hi
      have hk := freshL_lt (List.getElem_mem hi)
      show m_spec_l12Placed_l1 _ P ((placedW n b p).take i) (i : Int) = _
      unfold m_spec_l12Placed_l1
      rw [List.length_map, decide_eq_true (by omega : (i : Int) < ((freshL n b p p.Word.length).length : Int)), cond_true, getL_at (by rw [List.length_map]; exact hi), Option.bind_some, List.getElem_map, hP, getL_D hk 0, Option.bind_some, catL_of (by rw [List.length_take]; simp; omega), Option.bind_some, chk_succ (by omega), Option.bind_some]
      rw [List.take_add_one, List.getElem?_eq_getElem hi2, Option.toList_some]
      have e : (placedW n b p)[i] = p.Word.getD (freshL n b p p.Word.length)[i] 0 := by
        simp only [placedW, List.getElem_map]
      rw [e])
    (by
      show m_spec_l12Placed_l1 _ P ((placedW n b p).take _) _ = _
      unfold m_spec_l12Placed_l1
      rw [List.length_map, decide_eq_false (by omega), cond_false, List.take_of_length_le (by unfold placedW; rw [List.length_map]; omega)]) 0 (Nat.zero_le _)
  exact hrun

/-! ### The tiles of letters -/

def tileC (c : UInt8) : UInt8 := bif cpB c then 63 else c

def tileW (w : Str) : Str := w.map tileC

theorem tileW_tiles {w : Str} (h : w.all placedC = true) : Tiles (tileW w) := by
  refine tiles_of (List.all_eq_true.2 fun x hx => ?_)
  unfold tileW at hx
  obtain ⟨c, hc, rfl⟩ := List.mem_map.1 hx
  have hp := List.all_eq_true.1 h c hc
  unfold tileC tileB
  unfold placedC at hp
  cases h2 : cpB c
  · rw [h2, Bool.or_false] at hp
    rw [cond_false, hp, Bool.or_true]
  · rfl

theorem tileW_take (w : Str) {i : Nat} (hi : i < w.length) : tileW (w.take (i + 1)) = tileW (w.take i) ++ [tileC w[i]] := by
  unfold tileW
  rw [List.take_add_one, List.getElem?_eq_getElem hi, Option.toList_some, List.map_append]
  rfl

theorem tileK_zero : tileK 0 = 63 := rfl

set_option maxRecDepth 100000 in
theorem tilesOf_eq (w : Str) (hp : w.all placedC = true) (hl : w.length ≤ 900) : m_impl_tilesOf w = some (sortP (tileW w)) := by
  have ht := tileW_tiles hp
  have hrun := loop_run (step := fun q : (List Int) × Int => m_impl_tilesOf_l1 w q.1 q.2) (fun i => (cnt (tileW (w.take i)), (i : Int))) w.length (cnt (tileW w)) (fun i hi => by
      have hlt : (tileW (w.take i)).length ≤ 1000 := by unfold tileW; rw [List.length_map, List.length_take]; omega
      have hpc := List.all_eq_true.1 hp _ (List.getElem_mem hi)
      show m_impl_tilesOf_l1 w (cnt (tileW (w.take i))) (i : Int) = _
      unfold m_impl_tilesOf_l1
      rw [decide_eq_true (by omega : (i : Int) < w.length), cond_true, getL_at hi, Option.bind_some, capital_eq, Option.bind_some, tileW_take w hi]
      cases h2 : cpB w[i]
      · have hs : smB w[i] = true := by
          unfold placedC at hpc
          rwa [h2, Bool.or_false] at hpc
        obtain ⟨j, hj, e⟩ := tiles_of (s := [w[i]]) (by unfold tileB; simp [hs]) w[i] (by simp)
        have hc : (tileW (w.take i)).count (tileK j) ≤ 1000 := Nat.le_trans List.count_le_length hlt
        have et : tileC w[i] = tileK j := by unfold tileC; rw [h2, cond_false, e]
        rw [cond_false, Option.bind_some, et, e, placeK_eq hj, Option.bind_some, getL_nat, cnt_get _ hj, Option.bind_some, chk_succ (by omega), Option.bind_some, Option.bind_some, setL_of (by rw [cnt_len]; exact hj), Option.bind_some, Option.bind_some, chk_succ (by omega), Option.bind_some, cnt_set _ hj]
      · have hc : (tileW (w.take i)).count (tileK 0) ≤ 1000 := Nat.le_trans List.count_le_length hlt
        have et : tileC w[i] = tileK 0 := by unfold tileC; rw [h2, cond_true, tileK_zero]
        rw [cond_true, show (0 : Int) = ((0 : Nat) : Int) from rfl, getL_nat, cnt_get _ (by omega : 0 < 27), Option.bind_some, chk_succ (by omega), Option.bind_some, Option.bind_some, setL_of (by rw [cnt_len]; omega), Option.bind_some, Option.bind_some, chk_succ (by omega), Option.bind_some, cnt_set _ (by omega : 0 < 27), et])
    (by
      show m_impl_tilesOf_l1 w _ (w.length : Int) = _
      unfold m_impl_tilesOf_l1
      rw [decide_eq_false (by omega), List.take_length]
      rfl) 0 (Nat.zero_le _)
  have h0 : (List.replicate 27 (0 : Int)) = cnt [] := by rfl
  unfold m_impl_tilesOf
  rw [h0]
  rw [show loopM (fun q : (List Int) × Int => m_impl_tilesOf_l1 w q.1 q.2) (cnt [], 0) = _ from hrun]
  rw [Option.bind_some, Option.bind_some, pileCnt_eq _ (by unfold tileW; rw [List.length_map]; omega), Option.bind_some]

set_option maxRecDepth 100000 in
theorem l03Tiles_eq (w : Str) (hp : w.all placedC = true) (hl : w.length ≤ 900) : m_spec_l03Tiles w = some (sortP (tileW w)) := by
  have hrun := loop_run (step := fun q : Str × Int => m_spec_l03Tiles_l1 q.1 q.2) (fun i => (tileW (w.take i) ++ w.drop i, (i : Int))) w.length (tileW w) (fun i hi => by
      have hlt : (tileW (w.take i)).length = i := by unfold tileW; rw [List.length_map, List.length_take]; omega
      have hlen : (tileW (w.take i) ++ w.drop i).length = w.length := by rw [List.length_append, hlt, List.length_drop]; omega
      have hg : (tileW (w.take i) ++ w.drop i)[i]'(by omega) = w[i] := by
        rw [List.getElem_append_right (by omega), List.getElem_drop]
        simp [hlt]
      show m_spec_l03Tiles_l1 (tileW (w.take i) ++ w.drop i) (i : Int) = _
      unfold m_spec_l03Tiles_l1
      rw [hlen, decide_eq_true (by omega : (i : Int) < (w.length : Int)), cond_true, getL_at (by omega), Option.bind_some, hg, l03Capital_eq, Option.bind_some, tileW_take w hi, Option.bind_some, setL_of (by omega), List.set_append_right _ _ (by omega), hlt, Nat.sub_self, List.drop_eq_getElem_cons hi, List.set_cons_zero]
      unfold tileC
      cases h2 : cpB w[i]
      · rw [cond_false, cond_false, Option.bind_some, chk_succ (by omega), Option.bind_some, List.append_assoc, List.singleton_append]
      · rw [cond_true, cond_true, Option.bind_some, Option.bind_some, chk_succ (by omega), Option.bind_some, List.append_assoc, List.singleton_append])
    (by
      have hlen : (tileW (w.take w.length) ++ w.drop w.length).length = w.length := by
        unfold tileW; rw [List.take_length, List.drop_length, List.append_nil, List.length_map]
      show m_spec_l03Tiles_l1 (tileW (w.take w.length) ++ w.drop w.length) (w.length : Int) = _
      unfold m_spec_l03Tiles_l1
      rw [hlen, decide_eq_false (by omega), List.take_length, List.drop_length, List.append_nil]
      rfl) 0 (Nat.zero_le _)
  unfold m_spec_l03Tiles
  rw [show loopM (fun q : Str × Int => m_spec_l03Tiles_l1 q.1 q.2) (w, 0) = _ from hrun]
  rw [Option.bind_some, Option.bind_some, sortS_eq _ (tileW_tiles hp) (by unfold tileW; rw [List.length_map]; omega), Option.bind_some]

def tlP (n : Nat) (b : Board) (p : Play) : Str := sortP (tileW (placedW n b p))

theorem tlP_ok {n : Nat} {b : Board} {p : Play} (hm : mainB p.Word = true) : SortedB (tlP n b p) ∧ Tiles (tlP n b p) ∧ (tlP n b p).length ≤ 12 := by
  obtain ⟨h1, h2⟩ := placedW_ok (n := n) (b := b) hm
  refine ⟨sortP_sorted _, sortP_tiles _, ?_⟩
  obtain ⟨r, r1, r2, r3⟩ := sort_perm (tileW (placedW n b p)) (by unfold tileW; rw [List.length_map]; omega)
  have := sortP_of (tileW_tiles h1) r2 r3
  unfold tlP
  rw [← this, r3.length_eq]
  unfold tileW
  rw [List.length_map]
  exact h2

theorem placedTiles_eq {n : Nat} {b : Board} (hb : IsB n b) {p : Play} (h : onB n b p = true) : m_impl_placedTiles b p = some (tlP n b p) := by
  have hm := (onB_all h).1
  obtain ⟨h1, h2⟩ := placedW_ok (n := n) (b := b) hm
  unfold m_impl_placedTiles
  rw [newSquares_eq hb h, Option.bind_some]
  rw [show loopM (fun s : Str × Int => m_impl_placedTiles_l1 ((freshL n b p p.Word.length).map (fun k : Nat => sqV p (k : Int)), (freshL n b p p.Word.length).map (fun k : Nat => (k : Int))) p s.1 s.2) (([] : Str), 0) = some (placedW n b p) from placed_loop hm p rfl]
  rw [Option.bind_some, Option.bind_some, tilesOf_eq _ h1 (by omega), Option.bind_some]
  rfl

theorem l12Placed_eq {n : Nat} {b : Board} (hb : IsB n b) {p : Play} (h : onB n b p = true) : m_spec_l12Placed (flatB n b p) (flatP p) = some (placedW n b p) := by
  have hm := (onB_all h).1
  unfold m_spec_l12Placed
  rw [l12Fresh_eq hb h, Option.bind_some, placed_loop hm (flatP p) (flatP_word p), Option.bind_some, Option.bind_some]

theorem l15Rest_eq {n : Nat} {b : Board} (hb : IsB n b) {p : Play} (h : onB n b p = true) (rack : Str) (hr : rack.length ≤ 1000) : m_spec_l15Rest b rack p = some (takeO rack (tlP n b p), decide (remT rack (tlP n b p) = [])) := by
  have hm := (onB_all h).1
  obtain ⟨h1, h2⟩ := placedW_ok (n := n) (b := b) hm
  have h3 := (tlP_ok (n := n) (b := b) hm).2.2
  unfold m_spec_l15Rest
  rw [l12Flat_eq hb, Option.bind_some]
  simp only
  rw [l12Placed_eq hb h, Option.bind_some, l03Tiles_eq _ h1 (by omega), Option.bind_some]
  rw [show sortP (tileW (placedW n b p)) = tlP n b p from rfl, takeS_full _ _ hr (by omega), Option.bind_some]

/-! ### The board after the play -/

def setG (idx : Nat → Nat) (s w : Str) : Nat → Str
  | 0 => s
  | k + 1 => (setG idx s w k).set (idx k) (w.getD k 0)

theorem setG_len (idx : Nat → Nat) (s w : Str) : ∀ k, (setG idx s w k).length = s.length
  | 0 => rfl
  | k + 1 => by rw [setG, List.length_set, setG_len idx s w k]

theorem setG_all {idx : Nat → Nat} {s w : Str} (hs : s.all cellC = true) (hw : w.all placedC = true) : ∀ k, k ≤ w.length → (setG idx s w k).all cellC = true
  | 0, _ => hs
  | k + 1, hk => by
    have h := setG_all (idx := idx) hs hw k (by omega)
    rw [List.all_eq_true] at h ⊢
    intro x hx
    rw [setG] at hx
    rcases List.mem_or_eq_of_mem_set hx with hx | e
    · exact h x hx
    · rw [e, getD_of (by omega : k < w.length)]
      have := List.all_eq_true.1 hw _ (List.getElem_mem (by omega : k < w.length))
      unfold placedC at this
      unfold cellC
      rw [Bool.or_assoc, this, Bool.or_true]

theorem setG_congr {f g : Nat → Nat} {s w : Str} : ∀ k, (∀ j, j < k → f j = g j) → setG f s w k = setG g s w k
  | 0, _ => rfl
  | k + 1, h => by rw [setG, setG, setG_congr k (fun j hj => h j (by omega)), h k (by omega)]

theorem setG_turn {n R C : Nat} {s w : Str} (hs : s.length = n * n) (hR : R < n) : ∀ k, C + k ≤ n → turnL n (setG (fun i => R * n + (C + i)) (turnL n s) w k) = setG (fun i => (C + i) * n + R) s w k
  | 0, _ => turnL_turnL hs
  | k + 1, h => by
    rw [setG, setG, turnL_set (by rw [setG_len, turnL_len]) hR (by omega), setG_turn hs hR k (by omega)]

def idxP (n : Nat) (p : Play) (i : Nat) : Nat := bif p.Down then (p.Row.toNat + i) * n + p.Col.toNat else p.Row.toNat * n + (p.Col.toNat + i)

def newB (n : Nat) (b : Board) (p : Play) : Board := ⟨b.Size, b.Premium, setG (idxP n p) b.Cells p.Word p.Word.length⟩

theorem newB_is {n : Nat} {b : Board} (hb : IsB n b) {p : Play} (h : onB n b p = true) : IsB n (newB n b p) := by
  obtain ⟨hm, _⟩ := onB_all h
  obtain ⟨h1, h2, h3, h4, h5, h6, h7⟩ := hb
  exact ⟨h1, h2, h3, h4, by rw [show (newB n b p).Cells = setG (idxP n p) b.Cells p.Word p.Word.length from rfl, setG_len]; exact h5, h6, setG_all h7 (mainB_all hm).1 _ (Nat.le_refl _)⟩

theorem idxP_lt {n : Nat} {b : Board} (hb : IsB n b) {p : Play} (h : onB n b p = true) {i : Nat} (hi : i < p.Word.length) : ∃ r c : Nat, (sqV p (i : Int)).Row = r ∧ (sqV p (i : Int)).Col = c ∧ r < n ∧ c < n ∧ idxP n p i = r * n + c := by
  obtain ⟨hm, hin, hfit⟩ := onB_all h
  obtain ⟨R, C, hR, hC, hR', hC'⟩ := insB_nat hin
  unfold idxP sqV
  unfold flatP at hfit
  cases hd : p.Down
  · rw [hd, cond_false] at hfit
    exact ⟨R, C + i, by rw [cond_false]; exact hR, by rw [cond_false]; show p.Col + (i : Int) = _; omega, hR', by omega, by rw [cond_false, hR, hC]; rfl⟩
  · rw [hd, cond_true] at hfit
    replace hfit : p.Row + (p.Word.length : Int) ≤ n := hfit
    exact ⟨R + i, C, by rw [cond_true]; show p.Row + (i : Int) = _; omega, by rw [cond_true]; exact hC, by omega, hC', by rw [cond_true, hR, hC]; rfl⟩

set_option maxRecDepth 100000 in
theorem made_eq {n : Nat} {b : Board} (hb : IsB n b) {p : Play} (h : onB n b p = true) : m_impl_made b p = some (newB n b p) := by
  obtain ⟨hm, hin, hfit⟩ := onB_all h
  obtain ⟨hall, _⟩ := mainB_all hm
  have hlen := mainB_len hm
  have hi' := insB_iff.1 hin
  have h15 := hb.2.2.1
  have h225 := sq_le h15
  have hrun := loop_run (step := fun s : Nat × Str => m_impl_made_l1 p b s.1 s.2) (fun i => (i, setG (idxP n p) b.Cells p.Word i)) p.Word.length (p.Word.length, setG (idxP n p) b.Cells p.Word p.Word.length) (fun i hi => by
      obtain ⟨r, c, hr, hc, hr', hc', he⟩ := idxP_lt hb h hi
      have hlt := cell_lt hr' hc'
      have hsl := setG_len (idxP n p) b.Cells p.Word i
      have hcl := hb.2.2.2.2.1
      show m_impl_made_l1 p b i (setG (idxP n p) b.Cells p.Word i) = _
      unfold m_impl_made_l1
      rw [decide_eq_true hi, cond_true, square_eq p i (by omega) (by omega) (by omega), Option.bind_some, hr, hc, hb.1, chk_cell h15 hr', Option.bind_some, chk_add (by omega), Option.bind_some, getL_D hi 0, Option.bind_some, getL_at (by omega), Option.bind_some, setL_of (by omega), Option.bind_some, placed_rune hall hi, ← he]
      rfl)
    (by
      show m_impl_made_l1 p b p.Word.length _ = _
      unfold m_impl_made_l1
      rw [decide_eq_false (by omega), cond_false]) 0 (Nat.zero_le _)
  unfold m_impl_made
  rw [show loopM (fun s : Nat × Str => m_impl_made_l1 p b s.1 s.2) (0, b.Cells) = _ from hrun]
  rfl

set_option maxRecDepth 100000 in
theorem l12Make_eq {n : Nat} {b : Board} (hb : IsB n b) {p : Play} (h : onB n b p = true) : m_spec_l12Make b p = some (newB n b p) := by
  obtain ⟨hm, hin, hfit⟩ := onB_all h
  have hlen := mainB_len hm
  have hF := flatB_is hb p
  have h15 := hb.2.2.1
  have h225 := sq_le h15
  obtain ⟨R, C, hR, hC, hR', hC'⟩ := insB_nat (flat_in n p ▸ hin)
  have hrun := loop_run (step := fun s : Str × Int => m_spec_l12Make_l1 (flatB n b p, flatP p) s.1 s.2) (fun i => (setG (fun i => R * n + (C + i)) (flatB n b p).Cells p.Word i, (i : Int))) p.Word.length (setG (fun i => R * n + (C + i)) (flatB n b p).Cells p.Word p.Word.length) (fun i hi => by
      have hlt := cell_lt (c := C + i) hR' (by omega)
      have hsl := setG_len (fun i => R * n + (C + i)) (flatB n b p).Cells p.Word i
      have hcl := hF.2.2.2.2.1
      show m_spec_l12Make_l1 (flatB n b p, flatP p) (setG (fun i => R * n + (C + i)) (flatB n b p).Cells p.Word i) (i : Int) = _
      unfold m_spec_l12Make_l1
      rw [flatP_word, decide_eq_true (by omega : (i : Int) < (p.Word.length : Int)), cond_true, hR, hC, hF.1, chk_cell h15 hR', Option.bind_some, chk_add (by omega), Option.bind_some, chk_add (by omega), Option.bind_some, getL_D hi 0, Option.bind_some, Nat.add_assoc, getL_at (by omega), Option.bind_some, setL_of (by omega), Option.bind_some, chk_succ (by omega), Option.bind_some]
      rfl)
    (by
      show m_spec_l12Make_l1 (flatB n b p, flatP p) _ (p.Word.length : Int) = _
      unfold m_spec_l12Make_l1
      rw [flatP_word, decide_eq_false (by omega), cond_false]) 0 (Nat.zero_le _)
  unfold m_spec_l12Make
  rw [l12Flat_eq hb, Option.bind_some]
  rw [show loopM (fun s : Str × Int => m_spec_l12Make_l1 (flatB n b p, flatP p) s.1 s.2) ((flatB n b p, flatP p).1.Cells, 0) = _ from hrun]
  rw [Option.bind_some, Option.bind_some]
  have hidx : ∀ j, idxP n p j = bif p.Down then (C + j) * n + R else R * n + (C + j) := fun j => by
    unfold idxP
    unfold flatP at hR hC
    cases hd : p.Down
    · rw [hd, cond_false] at hR hC
      rw [cond_false, cond_false, hR, hC]
      rfl
    · rw [hd, cond_true] at hR hC
      replace hR : p.Col = R := hR
      replace hC : p.Row = C := hC
      rw [cond_true, cond_true, hR, hC]
      rfl
  unfold newB
  cases hd : p.Down
  · rw [cond_false, setG_congr (f := idxP n p) (g := fun i => R * n + (C + i)) _ (fun j _ => by rw [hidx, hd]; rfl)]
    unfold flatB
    rw [hd]
    rfl
  · rw [cond_true]
    have e1 : flatB n b p = flipB n b := by unfold flatB; rw [hd]; rfl
    rw [l11Transpose_eq (n := n) (by exact hF.1) h15 (by exact hF.2.2.2.1) (by show (setG _ _ _ _).length = _; rw [setG_len]; exact hF.2.2.2.2.1), Option.bind_some]
    unfold flipB
    have hcol : C + p.Word.length ≤ n := by omega
    rw [e1]
    show some (Board.mk b.Size (turnL n (turnL n b.Premium)) (turnL n (setG (fun i => R * n + (C + i)) (turnL n b.Cells) p.Word p.Word.length))) = _
    rw [turnL_turnL hb.2.2.2.1, setG_turn hb.2.2.2.2.1 hR' _ hcol, setG_congr (f := idxP n p) (g := fun i => (C + i) * n + R) _ (fun j _ => by rw [hidx, hd]; rfl)]

end Go.Proofs.YtbekokenomhgeaaGreatDoor
