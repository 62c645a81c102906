/- EndAfter: the models of the program and of the reference agree. -/
import Derived.Test.YtbekokenomhgeaaGreatDoorPureJe
namespace Go.Proofs.YtbekokenomhgeaaGreatDoor
open Go Go.RowKit
set_option linter.unusedSimpArgs false
set_option linter.unusedVariables false

attribute [local irreducible] sortP pileTo tlP

theorem indexByte_any (c : UInt8) : ∀ s : Str, decide (0 ≤ Lib.indexByte s c) = s.any (· == c)
  | [] => rfl
  | x :: s => by
    have ih := indexByte_any c s
    have hge := Lib.indexByte_ge s c
    rw [Lib.indexByte, List.any_cons, ← ih]
    cases hb : x == c
    · rw [if_neg (by decide), Bool.false_or]
      by_cases h : Lib.indexByte s c = -1
      · rw [h]; rfl
      · rw [if_neg (by simpa using h), decide_eq_true (by omega), decide_eq_true (by omega)]
    · rw [if_pos rfl]; rfl

def unseenB (s : Str) : Bool := pileB s && decide (2 ≤ s.length ∧ s.length ≤ 8)

theorem isUnseen_eq (s : Str) (hl : s.length ≤ 1048576) : m_impl_isUnseen s = some (unseenB s) := by
  unfold m_impl_isUnseen unseenB
  by_cases h1 : 2 ≤ s.length
  · by_cases h2 : s.length ≤ 8
    · rw [decide_eq_true (by omega : (2 : Int) ≤ (s.length : Int)), cond_true, decide_eq_true (by omega : (s.length : Int) ≤ 8), cond_true, ValidPile_eq s (by omega), Option.bind_some, Option.bind_some, decide_eq_true ⟨h1, h2⟩, Bool.and_true]
    · rw [decide_eq_true (by omega : (2 : Int) ≤ (s.length : Int)), cond_true, decide_eq_false (by omega : ¬ (s.length : Int) ≤ 8), cond_false, decide_eq_false (by omega : ¬ (2 ≤ s.length ∧ s.length ≤ 8)), Bool.and_false]
      rfl
  · rw [decide_eq_false (by omega : ¬ (2 : Int) ≤ (s.length : Int)), cond_false, decide_eq_false (by omega : ¬ (2 ≤ s.length ∧ s.length ≤ 8)), Bool.and_false]
    rfl

theorem l23Unseen_eq (s : Str) (hl : s.length ≤ 1048576) : m_spec_l23Unseen s = some (unseenB s) := by
  unfold m_spec_l23Unseen unseenB
  rw [l03Pile_eq s (by omega), Option.bind_some]
  cases pileB s
  · rfl
  · rw [cond_true, l00In_eq, Option.bind_some, Option.bind_some, Bool.true_and]
    congr 1
    rw [Bool.eq_iff_iff, inB_iff, decide_eq_true_eq]
    omega

theorem takeS_wide (a b : Str) (ha : a.length ≤ 1000) (hb : b.length ≤ 8000000) : m_spec_l03Take a b = some (takeO a b, decide (remT a b = [])) := by
  unfold m_spec_l03Take
  have key : ∀ (d i n : Nat), i + d = a.length → n ≤ b.length → remT (a.take i) b = b.drop n → ∃ (k : Nat), loopM (fun q : Str × Int × Int => m_spec_l03Take_l1 a b q.1 q.2.1 q.2.2) (takeO (a.take i) b, (n : Int), (i : Int)) = some (takeO a b, (k : Int)) ∧ k ≤ b.length ∧ remT a b = b.drop k := by
    intro d
    induction d with
    | zero =>
      intro i n hi hn hr
      rw [List.take_of_length_le (by omega)] at hr ⊢
      refine ⟨n, loopM_done ?_, hn, hr⟩
      show m_spec_l03Take_l1 a b _ (n : Int) (i : Int) = _
      unfold m_spec_l03Take_l1
      rw [decide_eq_false (by omega)]
      rfl
    | succ d ih =>
      intro i n hi hn hr
      have hia : i < a.length := by omega
      have ho : (takeO (a.take i) b).length ≤ 1000 := Nat.le_trans (takeO_sub _ _).length_le (by rw [List.length_take]; omega)
      have hsn : remT (a.take (i + 1)) b = stepT a[i] (b.drop n) := by
        rw [List.take_add_one, List.getElem?_eq_getElem hia, Option.toList_some, remT_snoc, hr]
      have hon : takeO (a.take (i + 1)) b = takeO (a.take i) b ++ keepT a[i] (b.drop n) := by
        rw [List.take_add_one, List.getElem?_eq_getElem hia, Option.toList_some, takeO_snoc, hr]
      by_cases hnb : n < b.length
      · rw [List.drop_eq_getElem_cons hnb, stepT_cons] at hsn
        rw [List.drop_eq_getElem_cons hnb] at hon
        by_cases e : b[n] = a[i]
        · rw [if_pos e] at hsn
          rw [show keepT a[i] (b[n] :: b.drop (n + 1)) = [] from if_pos e, List.append_nil] at hon
          obtain ⟨k, k1, k2, k3⟩ := ih (i + 1) (n + 1) (by omega) (by omega) hsn
          refine ⟨k, ?_, k2, k3⟩
          rw [← k1, hon]
          refine loopM_next ?_
          show m_spec_l03Take_l1 a b _ (n : Int) (i : Int) = _
          unfold m_spec_l03Take_l1
          rw [decide_eq_true (by omega : (i : Int) < a.length), cond_true, decide_eq_true (by omega : (n : Int) < b.length), cond_true, getL_at hnb, Option.bind_some, getL_at hia, Option.bind_some, Option.bind_some, beq_iff_eq.2 e, cond_true, chk_succ (by omega), Option.bind_some, Option.bind_some]
          try simp only
          rw [chk_succ (by omega), Option.bind_some]
        · rw [if_neg e, ← List.drop_eq_getElem_cons hnb] at hsn
          rw [show keepT a[i] (b[n] :: b.drop (n + 1)) = [a[i]] from if_neg e] at hon
          obtain ⟨k, k1, k2, k3⟩ := ih (i + 1) n (by omega) hn hsn
          refine ⟨k, ?_, k2, k3⟩
          rw [← k1, hon]
          refine loopM_next ?_
          show m_spec_l03Take_l1 a b _ (n : Int) (i : Int) = _
          unfold m_spec_l03Take_l1
          rw [decide_eq_true (by omega : (i : Int) < a.length), cond_true, decide_eq_true (by omega : (n : Int) < b.length), cond_true, getL_at hnb, Option.bind_some, getL_at hia, Option.bind_some, Option.bind_some, beq_eq_false_iff_ne.2 e, cond_false, Option.bind_some, catL_of (by simp; omega), Option.bind_some, Option.bind_some]
          try simp only
          rw [chk_succ (by omega), Option.bind_some]
      · rw [List.drop_eq_nil_of_le (by omega)] at hsn hr hon
        replace hsn : remT (a.take (i + 1)) b = [] := hsn
        replace hon : takeO (a.take (i + 1)) b = takeO (a.take i) b ++ [a[i]] := hon
        obtain ⟨k, k1, k2, k3⟩ := ih (i + 1) n (by omega) hn (by rw [hsn, List.drop_eq_nil_of_le (by omega)])
        refine ⟨k, ?_, k2, k3⟩
        rw [← k1, hon]
        refine loopM_next ?_
        show m_spec_l03Take_l1 a b _ (n : Int) (i : Int) = _
        unfold m_spec_l03Take_l1
        rw [decide_eq_true (by omega : (i : Int) < a.length), cond_true, decide_eq_false (by omega : ¬ (n : Int) < b.length), cond_false, Option.bind_some, cond_false, getL_at hia, Option.bind_some, catL_of (by simp; omega), Option.bind_some, Option.bind_some]
        try simp only
        rw [chk_succ (by omega), Option.bind_some]
  obtain ⟨k, k1, k2, k3⟩ := key a.length 0 0 (by omega) (by omega) rfl
  rw [show (takeO (a.take 0) b, ((0 : Nat) : Int), ((0 : Nat) : Int)) = (([] : Str), (0 : Int), (0 : Int)) from by rw [List.take_zero]; rfl] at k1
  rw [k1, Option.bind_some, Option.bind_some]
  have e : ((k : Int) == (b.length : Int)) = decide (remT a b = []) := by
    rw [k3, Bool.eq_iff_iff, beq_iff_eq, decide_eq_true_eq, List.drop_eq_nil_iff]
    omega
  exact congrArg (fun t => some (takeO a b, t)) e

def end0 : End := ⟨⟨0, ([] : Str), ([] : Str)⟩, ([] : Str), ([] : Str), false⟩

def endV (n : Nat) (b : Board) (mine unseen : Str) (p : Play) (tile : Str) : End := ⟨newB n b p, takeO unseen tile, sortP (takeO mine (tlP n b p) ++ tile), false⟩

/-- May the play be made, and is the tile one of those unseen? -/
def endOk (n : Nat) (b : Board) (mine unseen : Str) (p : Play) (tile : Str) : Bool := decide (remT mine (tlP n b p) = []) && (decide (tile.length = 1) && decide (remT unseen tile = []))

theorem one_in {s : Str} (hs : SortedB s) (c : UInt8) : decide (0 ≤ Lib.indexByte s c) = decide (remT s [c] = []) := by
  rw [indexByte_any, Bool.eq_iff_iff, decide_eq_true_eq, remT_iff s [c] hs (by simp [SortedB]), List.any_eq_true]
  constructor
  · rintro ⟨x, hx, e⟩ d
    rw [beq_iff_eq] at e
    subst e
    rw [List.count_cons, List.count_nil]
    by_cases h : x = d
    · subst h
      have := List.count_pos_iff.2 hx
      simp
      omega
    · rw [show (x == d) = false from beq_eq_false_iff_ne.2 h]
      simp
  · intro h
    have := h c
    simp at this
    exact ⟨c, this, by simp⟩

theorem rest_tiles {n : Nat} {b : Board} {mine unseen : Str} {p : Play} {tile : Str} (hm : rackB mine = true) (hu : unseenB unseen = true) (h : endOk n b mine unseen p tile = true) : tile.length = 1 ∧ SortedB tile ∧ Tiles tile ∧ remT mine (tlP n b p) = [] ∧ remT unseen tile = [] := by
  unfold endOk at h
  rw [Bool.and_eq_true, Bool.and_eq_true, decide_eq_true_eq, decide_eq_true_eq, decide_eq_true_eq] at h
  unfold unseenB at hu
  rw [Bool.and_eq_true] at hu
  obtain ⟨u1, u2⟩ := pile_sorted hu.1
  match tile, h with
  | [c], h =>
    have hs : SortedB [c] := by simp [SortedB]
    refine ⟨rfl, hs, fun y hy => ?_, h.1, h.2.2⟩
    have hc := (remT_iff unseen [c] u1 hs).1 h.2.2 c
    rw [List.mem_singleton.1 hy]
    refine u2 c (List.count_pos_iff.1 ?_)
    simp at hc
    exact List.count_pos_iff.2 hc
  | [], h => exact absurd h.2.1 (by simp)
  | _ :: _ :: _, h => exact absurd h.2.1 (by simp)

theorem l23End_eq {n : Nat} {b : Board} (hb : IsB n b) {mine unseen : Str} {p : Play} {tile : Str} (hm : rackB mine = true) (hu : unseenB unseen = true) (ho : onB n b p = true) (hl : tile.length ≤ 1048576) : m_spec_l23End b mine unseen p tile = some (bif endOk n b mine unseen p tile then (endV n b mine unseen p tile, true) else (end0, false)) := by
  obtain ⟨m1, m2, m3⟩ := rackB_all hm
  have hu' := hu
  unfold unseenB at hu'
  rw [Bool.and_eq_true, decide_eq_true_eq] at hu'
  unfold m_spec_l23End
  rw [l15Rest_eq hb ho mine (by omega), Option.bind_some, takeS_wide unseen tile (by omega) (by omega), Option.bind_some]
  simp only
  cases he : endOk n b mine unseen p tile
  · have e : ((bif !decide (remT mine (tlP n b p) = []) then some true else bif !decide (remT unseen tile = []) then some true else some ((tile.length : Int) != 1)) : Option Bool) = some true := by
      unfold endOk at he
      cases h1 : decide (remT mine (tlP n b p) = [])
      · rfl
      · cases h2 : decide (remT unseen tile = [])
        · rfl
        · rw [h1, h2, Bool.true_and, Bool.and_true] at he
          have := of_decide_eq_false he
          show some ((tile.length : Int) != 1) = _
          rw [show ((tile.length : Int) != 1) = true from bne_iff_ne.2 (by omega)]
    rw [e]
    rfl
  · obtain ⟨t1, t2, t3, t4, t5⟩ := rest_tiles hm hu he
    have hsub : (takeO mine (tlP n b p)).length ≤ 7 := Nat.le_trans (takeO_sub _ _).length_le m3
    rw [decide_eq_true t4, decide_eq_true t5, show ((tile.length : Int) != 1) = false from by rw [t1]; rfl, Bool.not_true, cond_false, cond_false, Option.bind_some, cond_false, l12Make_eq hb ho, Option.bind_some, catL_of (by omega), Option.bind_some, sortS_eq _ (fun y hy => by
      rcases List.mem_append.1 hy with hy | hy
      · exact m2 y ((takeO_sub _ _).subset hy)
      · exact t3 y hy) (by rw [List.length_append]; omega), Option.bind_some]
    rfl

theorem endAfter_eq {n : Nat} {b : Board} (hb : IsB n b) {mine unseen : Str} {p : Play} {tile : Str} (hm : rackB mine = true) (hu : unseenB unseen = true) (ho : onB n b p = true) (he : endOk n b mine unseen p tile = true) : m_impl_endAfter b mine unseen p tile = some (endV n b mine unseen p tile) := by
  obtain ⟨m1, m2, m3⟩ := rackB_all hm
  obtain ⟨t1, t2, t3, t4, t5⟩ := rest_tiles hm hu he
  obtain ⟨k1, k2, k3⟩ := tlP_ok (n := n) (b := b) (onB_all ho).1
  have hsub : (takeO mine (tlP n b p)).length ≤ 7 := Nat.le_trans (takeO_sub _ _).length_le m3
  unfold unseenB at hu
  rw [Bool.and_eq_true, decide_eq_true_eq] at hu
  obtain ⟨u1, u2⟩ := pile_sorted hu.1
  unfold m_impl_endAfter
  rw [placedTiles_eq hb ho, Option.bind_some, without_rest mine _ m1 k1 m2 k2 (by omega) (by omega) t4, Option.bind_some, without_rest unseen tile u1 t2 u2 t3 (by omega) (by omega) t5, Option.bind_some, made_eq hb ho, Option.bind_some]
  simp only
  rw [catL_of (by omega), Option.bind_some, sorted_eqP _ (fun y hy => by
      rcases List.mem_append.1 hy with hy | hy
      · exact m2 y ((takeO_sub _ _).subset hy)
      · exact t3 y hy) (by rw [List.length_append]; omega), Option.bind_some]
  rfl

def endAll (b : Board) (mine unseen : Str) (p : Play) (tile : Str) : End × Int := bif !(boardB b && (rackB mine && unseenB unseen)) then (end0, 1) else bif !onB b.Size.toNat b p then (end0, 2) else bif !endOk b.Size.toNat b mine unseen p tile then (end0, 3) else (endV b.Size.toNat b mine unseen p tile, 0)

theorem EndAfterS_eq (b : Board) (mine unseen : Str) (p : Play) (tile : Str) (h1 : b.Premium.length ≤ 1048576) (h2 : b.Cells.length ≤ 1048576) (h3 : mine.length ≤ 1048576) (h4 : unseen.length ≤ 1048576) (h5 : p.Word.length ≤ 1048576) (h6 : tile.length ≤ 1048576) : m_spec_EndAfter b mine unseen p tile = some (endAll b mine unseen p tile) := by
  unfold m_spec_EndAfter endAll
  rw [l11Ok_eq b (by omega) (by omega), Option.bind_some]
  cases hb : boardB b
  · rfl
  · obtain ⟨n, hn⟩ := boardB_iff.1 hb
    have en : b.Size.toNat = n := by rw [hn.1]; rfl
    rw [en, Bool.not_true, cond_false, l03Rack_eq mine (by omega), Option.bind_some, Bool.true_and]
    cases hm : rackB mine
    · rfl
    · rw [Bool.not_true, cond_false, l23Unseen_eq unseen h4, Option.bind_some, Option.bind_some, Bool.true_and]
      cases hu : unseenB unseen
      · rfl
      · rw [Bool.not_true, cond_false, cond_false, l12Ok_eq hn p h5 (by omega) (by omega), Option.bind_some]
        cases ho : onB n b p
        · rfl
        · rw [Bool.not_true, cond_false, cond_false, l23End_eq hn hm hu ho h6, Option.bind_some]
          cases endOk n b mine unseen p tile <;> rfl

theorem EndAfter_eq (b : Board) (mine unseen : Str) (p : Play) (tile : Str) (h1 : b.Premium.length ≤ 1048576) (h2 : b.Cells.length ≤ 1048576) (h3 : mine.length ≤ 1048576) (h4 : unseen.length ≤ 1048576) (h5 : p.Word.length ≤ 1048576) (h6 : tile.length ≤ 1048576) : m_impl_EndAfter b mine unseen p tile = some (endAll b mine unseen p tile) := by
  unfold m_impl_EndAfter endAll
  rw [ValidBoard_eq b (by omega) (by omega), Option.bind_some]
  cases hb : boardB b
  · rfl
  · obtain ⟨n, hn⟩ := boardB_iff.1 hb
    have en : b.Size.toNat = n := by rw [hn.1]; rfl
    rw [en, Bool.not_true, cond_false, ValidRack_eq mine (by omega), Option.bind_some, Bool.true_and]
    cases hm : rackB mine
    · rfl
    · obtain ⟨m1, m2, m3⟩ := rackB_all hm
      rw [Bool.not_true, cond_false, isUnseen_eq unseen h4, Option.bind_some, Option.bind_some, Bool.true_and]
      cases hu : unseenB unseen
      · rfl
      · rw [Bool.not_true, cond_false, cond_false, validOn_eq hn p h5, Option.bind_some]
        cases ho : onB n b p
        · rfl
        · obtain ⟨k1, k2, k3⟩ := tlP_ok (n := n) (b := b) (onB_all ho).1
          obtain ⟨q, hq⟩ := without_eq mine (tlP n b p) m1 k1 m2 k2 (by omega) (by omega)
          rw [Bool.not_true, cond_false, cond_false, placedTiles_eq hn ho, Option.bind_some, hq, Option.bind_some]
          simp only
          have hu' := hu
          unfold unseenB at hu'
          rw [Bool.and_eq_true] at hu'
          have e : ((bif !decide (remT mine (tlP n b p) = []) then some true else bif (tile.length : Int) != 1 then some true else (m_strings_Contains unseen tile).bind fun y87 => some (!y87)) : Option Bool) = some (!endOk n b mine unseen p tile) := by
            unfold endOk
            cases decide (remT mine (tlP n b p) = [])
            · rfl
            · match tile with
              | [] => rfl
              | [c] =>
                rw [Bool.not_true, cond_false, show ((([c] : Str).length : Int) != 1) = false from rfl, cond_false, show m_strings_Contains unseen [c] = some (decide (0 ≤ Lib.indexByte unseen c)) from rfl, Option.bind_some, one_in (pile_sorted hu'.1).1 c]
                rfl
              | x :: y :: t =>
                rw [Bool.not_true, cond_false, show (((x :: y :: t).length : Int) != 1) = true from bne_iff_ne.2 (by simp; omega), cond_true, decide_eq_false (by simp : ¬ (x :: y :: t).length = 1)]
                rfl
          rw [e, Option.bind_some]
          cases he : endOk n b mine unseen p tile
          · rfl
          · rw [Bool.not_true, cond_false, cond_false, endAfter_eq hn hm hu ho he, Option.bind_some]

theorem m_laws_FnExactEndAfter_true (b : Board) (mine unseen : Str) (p : Play) (tile : Str) (h : Lies BoardRep b) (h' : Lies strRep mine) (h'' : Lies strRep unseen) (hp : Lies PlayRep p) (ht : Lies strRep tile) : m_laws_FnExactEndAfter b mine unseen p tile = some true := by
  unfold m_laws_FnExactEndAfter
  by_cases c1 : 1048576 < (mine.length : Int)
  · rw [decide_eq_true c1]; rfl
  rw [decide_eq_false c1, cond_false]
  by_cases c2 : 1048576 < (unseen.length : Int)
  · rw [decide_eq_true c2]; rfl
  rw [decide_eq_false c2, cond_false]
  by_cases c3 : 1048576 < (tile.length : Int)
  · rw [decide_eq_true c3]; rfl
  rw [decide_eq_false c3, cond_false]
  rw [sz_sub (bulk_Board b) 1048576 (by omega) (szBoard_eq b h 1048576 (by omega) (by omega))]
  split
  case isFalse => rfl
  rename_i hc
  rw [sz_sub (bulk_Play p) _ (by omega) (szPlay_eq p hp _ (by omega) (by omega))]
  split
  case isFalse => rfl
  rename_i hc'
  have hb : b.Premium.length + b.Cells.length ≤ 1048576 := by unfold bulk_Board at hc; omega
  have hw : p.Word.length ≤ 1048576 := by unfold bulk_Play at hc'; omega
  rw [toBoard_eq, Option.bind_some, toPlay_eq, Option.bind_some, EndAfterS_eq b mine unseen p tile (by omega) (by omega) (by omega) (by omega) hw (by omega), Option.bind_some, Option.bind_some, Option.bind_some, EndAfter_eq b mine unseen p tile (by omega) (by omega) (by omega) (by omega) hw (by omega), Option.bind_some, eqEnd_eq, decide_eq_true rfl, Option.bind_some, Bool.not_true, cond_false, bne_self_eq_false, Option.bind_some, cond_false]

end Go.Proofs.YtbekokenomhgeaaGreatDoor
