/- Actions read back from their texts. -/
import Derived.Test.YtbekokenomhgeaaGreatDoorPureLb
import Derived.Test.YtbekokenomhgeaaGreatDoorPureQ
namespace Go.Proofs.YtbekokenomhgeaaGreatDoor
open Go Go.RowKit
set_option linter.unusedSimpArgs false
set_option linter.unusedVariables false

theorem rackB_no32 {s : Str} (h : rackB s = true) : (32 : UInt8) ∉ s := fun hm => by
  unfold rackB pileB at h
  simp only [Bool.and_eq_true] at h
  have := List.all_eq_true.1 h.1.1.2 _ hm
  revert this
  decide

theorem getL_getS {w : List Str} {z : Int} (i : Nat) (hz : z = i) (h : i < w.length) : getL w z = some (w.getD i []) := by
  rw [getL_of i hz h]
  simp [List.getD, List.getElem?_eq_getElem h]

def wPLAY : Str := [112, 108, 97, 121]

def wEXCH : Str := [101, 120, 99, 104, 97, 110, 103, 101]

def wPASS : Str := [112, 97, 115, 115]

def wCHAL : Str := [99, 104, 97, 108, 108, 101, 110, 103, 101]

/-- The words of an action's text. -/
def wordsA (a : Action) : List Str := bif a.Kind == 1 then [wPLAY, placeT a.Play, a.Play.Word, Lib.itoa a.Seconds] else bif a.Kind == 2 then [wEXCH, a.Tiles, Lib.itoa a.Seconds] else bif a.Kind == 3 then [wPASS, Lib.itoa a.Seconds] else [wCHAL, Lib.itoa a.Seconds]

theorem join4 (a b c d : Str) : Lib.join [a, b, c, d] [32] = a ++ [32] ++ b ++ [32] ++ c ++ [32] ++ d := by rw [Lib.join_cons]; simp [Lib.joinTail]

theorem actT_words (a : Action) : actT a = Lib.join (wordsA a) [32] := by
  unfold actT wordsA
  cases a.Kind == 1
  · cases a.Kind == 2
    · cases a.Kind == 3
      · rw [cond_false, cond_false, cond_false, cond_false, cond_false, cond_false, join2]; rfl
      · rw [cond_false, cond_false, cond_true, cond_false, cond_false, cond_true, join2]; rfl
    · rw [cond_false, cond_true, cond_false, cond_true, join3]; rfl
  · rw [cond_true, cond_true, join4, playT_split]
    simp [wPLAY]

theorem actB_cases {a : Action} (h : actB a = true) : (0 ≤ a.Seconds ∧ a.Seconds ≤ 36000) ∧ ((a.Kind = 1 ∧ plainB a.Play = true ∧ a.Tiles = []) ∨ (a.Kind = 2 ∧ a.Play = zeroP ∧ a.Tiles ≠ [] ∧ rackB a.Tiles = true) ∨ (a.Kind = 3 ∧ a.Play = zeroP ∧ a.Tiles = []) ∨ (a.Kind = 4 ∧ a.Play = zeroP ∧ a.Tiles = [])) := by
  unfold actB at h
  cases hs : inB a.Seconds 0 36000
  · rw [hs] at h; cases h
  rw [hs, Bool.not_true, cond_false] at h
  rw [inB_iff] at hs
  refine ⟨hs, ?_⟩
  cases h1 : a.Kind == 1
  · rw [h1, cond_false] at h
    cases h2 : a.Kind == 2
    · rw [h2, cond_false] at h
      cases h3 : (a.Kind == 3 || a.Kind == 4)
      · rw [h3] at h; cases h
      · rw [h3, cond_true, Bool.and_eq_true, beq_iff_eq, beq_iff_eq] at h
        rcases Bool.or_eq_true_iff.1 h3 with h4 | h4
        · exact .inr (.inr (.inl ⟨beq_iff_eq.1 h4, h.1, h.2⟩))
        · exact .inr (.inr (.inr ⟨beq_iff_eq.1 h4, h.1, h.2⟩))
    · rw [h2, cond_true, Bool.and_eq_true, Bool.and_eq_true, beq_iff_eq, bne_iff_ne] at h
      exact .inr (.inl ⟨beq_iff_eq.1 h2, h.1, h.2.1, h.2.2⟩)
  · rw [h1, cond_true, Bool.and_eq_true, beq_iff_eq] at h
    exact .inl ⟨beq_iff_eq.1 h1, h.1, h.2⟩

theorem wordsA_no32 {a : Action} (h : actB a = true) : ∀ y ∈ wordsA a, (32 : UInt8) ∉ y := by
  obtain ⟨⟨h0, _⟩, hk⟩ := actB_cases h
  have hi := itoa_no32 h0
  unfold wordsA
  intro y hy
  rcases hk with ⟨k1, k2, k3⟩ | ⟨k1, k2, k3, k4⟩ | ⟨k1, k2, k3⟩ | ⟨k1, k2, k3⟩
  · rw [k1] at hy
    simp only [beq_self_eq_true, cond_true, List.mem_cons, List.not_mem_nil, or_false] at hy
    rcases hy with rfl | rfl | rfl | rfl
    · decide
    · exact placeT_no32 k2
    · exact mainB_no32 (plainB_iff.1 k2).2.2
    · exact hi
  · rw [k1] at hy
    rcases (show y ∈ [wEXCH, a.Tiles, Lib.itoa a.Seconds] from hy) with _ | ⟨_, _ | ⟨_, _ | ⟨_, hf⟩⟩⟩
    · decide
    · exact rackB_no32 k4
    · exact hi
    · cases hf
  · rw [k1] at hy
    rcases (show y ∈ [wPASS, Lib.itoa a.Seconds] from hy) with _ | ⟨_, _ | ⟨_, hf⟩⟩
    · decide
    · exact hi
    · cases hf
  · rw [k1] at hy
    rcases (show y ∈ [wCHAL, Lib.itoa a.Seconds] from hy) with _ | ⟨_, _ | ⟨_, hf⟩⟩
    · decide
    · exact hi
    · cases hf

theorem wordsA_ne (a : Action) : wordsA a ≠ [] := by
  unfold wordsA
  cases a.Kind == 1 <;> cases a.Kind == 2 <;> cases a.Kind == 3 <;> simp

theorem split_act {a : Action} (h : actB a = true) : splitC 32 (actT a) = wordsA a := by
  rw [actT_words]
  exact splitC_join 32 _ (wordsA_ne a) (wordsA_no32 h)

/-! ### The program's -/

def zeroA : Action := ⟨0, zeroP, [], 0⟩

def lastW (w : List Str) : Str := w.getD (w.length - 1) []

def playW (w : List Str) : Str := w.getD 1 [] ++ [32] ++ w.getD 2 []

def actP (w : List Str) : Action := bif w.getD 0 [] == wPLAY then ⟨1, bif decide (w.length = 4) then (rdP (playW w)).1 else zeroP, [], (rdD (lastW w)).1⟩ else bif w.getD 0 [] == wEXCH then ⟨2, zeroP, bif decide (w.length = 3) then w.getD 1 [] else [], (rdD (lastW w)).1⟩ else bif w.getD 0 [] == wPASS then ⟨3, zeroP, [], (rdD (lastW w)).1⟩ else bif w.getD 0 [] == wCHAL then ⟨4, zeroP, [], (rdD (lastW w)).1⟩ else ⟨0, zeroP, [], (rdD (lastW w)).1⟩

def rdA (s : Str) : Action × Bool := bif !actB (actP (splitC 32 s)) || (actT (actP (splitC 32 s)) != s) then (zeroA, false) else (actP (splitC 32 s), true)

theorem actP_back {a : Action} (h : actB a = true) : actP (wordsA a) = a := by
  obtain ⟨⟨h0, h1⟩, hk⟩ := actB_cases h
  have hd := rdD_itoa h0 (by omega)
  obtain ⟨k, p, t, n⟩ := a
  simp only at hk hd h0 h1
  rcases hk with ⟨rfl, k2, rfl⟩ | ⟨rfl, rfl, k3, k4⟩ | ⟨rfl, rfl, rfl⟩ | ⟨rfl, rfl, rfl⟩
  · show (⟨1, (rdP (placeT p ++ [32] ++ p.Word)).1, [], (rdD (Lib.itoa n)).1⟩ : Action) = _
    have e : placeT p ++ [32] ++ p.Word = playT p := by rw [playT_split]; simp
    rw [e, rdP_play k2, hd]
  · show (⟨2, zeroP, t, (rdD (Lib.itoa n)).1⟩ : Action) = _
    rw [hd]
  · show (⟨3, zeroP, [], (rdD (Lib.itoa n)).1⟩ : Action) = _
    rw [hd]
  · show (⟨4, zeroP, [], (rdD (Lib.itoa n)).1⟩ : Action) = _
    rw [hd]

theorem rdA_some {a : Action} (h : actB a = true) : rdA (actT a) = (a, true) := by
  unfold rdA
  rw [split_act h, actP_back h, h, bne_self_eq_false]
  rfl

theorem rdA_ok {s : Str} (h : (rdA s).2 = true) : actB (rdA s).1 = true ∧ actT (rdA s).1 = s := by
  unfold rdA at h ⊢
  cases hc : (!actB (actP (splitC 32 s)) || (actT (actP (splitC 32 s)) != s))
  · rw [cond_false]
    rw [Bool.or_eq_false_iff, Bool.not_eq_false', bne_eq_false_iff_eq] at hc
    exact hc
  · rw [hc] at h; cases h

theorem rdA_zero {s : Str} (h : (rdA s).2 = false) : rdA s = (zeroA, false) := by
  unfold rdA at h ⊢
  cases hc : (!actB (actP (splitC 32 s)) || (actT (actP (splitC 32 s)) != s))
  · rw [hc] at h; cases h
  · rfl

theorem words_small {s : Str} (h : s.length ≤ 1048576) : ∀ i, ((splitC 32 s).getD i []).length ≤ 1048576 := fun i => by
  rw [List.getD_eq_getElem?_getD]
  cases hx : (splitC 32 s)[i]? with
  | none => simp
  | some x => exact Nat.le_trans (splitC_mem 32 s (List.mem_of_getElem? hx)) h

theorem playW_small {s : Str} (h : s.length ≤ 1048576) (h4 : (splitC 32 s).length = 4) : (playW (splitC 32 s)).length ≤ s.length := by
  have hj := join_splitC 32 s
  unfold playW
  generalize splitC 32 s = w at hj h4 ⊢
  match w, h4 with
  | [a, b, c, d], _ =>
    rw [join4] at hj
    rw [← hj]
    show (b ++ [32] ++ c).length ≤ _
    simp
    omega

theorem actP_small {s : Str} (h : s.length ≤ 1048576) : (actP (splitC 32 s)).Play.Word.length ≤ 1048576 ∧ (actP (splitC 32 s)).Tiles.length ≤ 1048576 := by
  have hw := words_small h
  unfold actP
  cases (splitC 32 s).getD 0 [] == wPLAY
  · rw [cond_false]
    cases (splitC 32 s).getD 0 [] == wEXCH
    · rw [cond_false]
      cases (splitC 32 s).getD 0 [] == wPASS <;> cases (splitC 32 s).getD 0 [] == wCHAL <;> exact ⟨Nat.zero_le _, Nat.zero_le _⟩
    · refine ⟨Nat.zero_le _, ?_⟩
      show (bif decide ((splitC 32 s).length = 3) then (splitC 32 s).getD 1 [] else []).length ≤ _
      cases decide ((splitC 32 s).length = 3)
      · exact Nat.zero_le _
      · exact hw 1
  · refine ⟨?_, Nat.zero_le _⟩
    show (bif decide ((splitC 32 s).length = 4) then (rdP (playW (splitC 32 s))).1 else zeroP).Word.length ≤ _
    by_cases h4 : (splitC 32 s).length = 4
    · rw [decide_eq_true h4, cond_true]
      exact Nat.le_trans (rdP_word _) (Nat.le_trans (playW_small h h4) h)
    · rw [decide_eq_false h4]
      exact Nat.zero_le _

theorem ReadAction1_eq {s : Str} (h : s.length ≤ 1048576) (n : Int) : m_impl_ReadAction_1 (⟨0, zeroP, [], n⟩ : Action) (splitC 32 s) = some ⟨1, bif decide ((splitC 32 s).length = 4) then (rdP (playW (splitC 32 s))).1 else zeroP, [], n⟩ := by
  unfold m_impl_ReadAction_1
  by_cases h4 : (splitC 32 s).length = 4
  · have hp := playW_small h h4
    have hw := words_small h
    have e4 : (((splitC 32 s).length : Int) == 4) = true := by rw [beq_iff_eq]; omega
    have hj : Lib.join [(splitC 32 s).getD 1 [], (splitC 32 s).getD 2 []] [32] = playW (splitC 32 s) := join2 _ _
    rw [e4, cond_true, getL_getS (z := 1) 1 rfl (by omega), Option.bind_some, getL_getS (z := 2) 2 rfl (by omega), Option.bind_some]
    unfold m_impl_joined m_strings_Join
    rw [hj, decide_eq_true (show [(splitC 32 s).getD 1 [], (splitC 32 s).getD 2 []].length ≤ lim by unfold lim; simp), decide_eq_true (by unfold lim; omega), Bool.and_self, cond_true, Option.bind_some, Option.bind_some, ReadPlay_eq _ (by omega), Option.bind_some, decide_eq_true h4]
    rfl
  · have e4 : (((splitC 32 s).length : Int) == 4) = false := by rw [beq_eq_false_iff_ne]; omega
    rw [e4, cond_false, decide_eq_false h4]
    rfl

theorem ReadAction2_eq {w : List Str} (n : Int) : m_impl_ReadAction_2 (⟨0, zeroP, [], n⟩ : Action) w = some ⟨2, zeroP, bif decide (w.length = 3) then w.getD 1 [] else [], n⟩ := by
  unfold m_impl_ReadAction_2
  by_cases h3 : w.length = 3
  · have e3 : ((w.length : Int) == 3) = true := by rw [beq_iff_eq]; omega
    rw [e3, cond_true, getL_getS (z := 1) 1 rfl (by omega), Option.bind_some, decide_eq_true h3]
    rfl
  · have e3 : ((w.length : Int) == 3) = false := by rw [beq_eq_false_iff_ne]; omega
    rw [e3, cond_false, decide_eq_false h3]
    rfl

theorem ReadAction_eq (s : Str) (h : s.length ≤ 1048576) : m_impl_ReadAction s = some (rdA s) := by
  obtain ⟨p1, p2⟩ := actP_small h
  have hw := words_small h
  have hne := List.length_pos_iff.2 (splitC_ne 32 s)
  have hlen := splitC_len 32 s
  have hfin : ∀ a : Action, actP (splitC 32 s) = a → ((((m_impl_ValidAction (⟨a.Kind, ⟨a.Play.Row, a.Play.Col, a.Play.Down, a.Play.Word⟩, a.Tiles, a.Seconds⟩ : Action)).bind fun y133 => bif !y133 then some true else (m_impl_ActionText (⟨a.Kind, ⟨a.Play.Row, a.Play.Col, a.Play.Down, a.Play.Word⟩, a.Tiles, a.Seconds⟩ : Action)).bind fun y140 => some (y140 != s)) : Option Bool).bind fun t129 => bif t129 then some ((⟨0, ⟨0, 0, false, ([] : Str)⟩, ([] : Str), 0⟩ : Action), false) else some ((⟨a.Kind, ⟨a.Play.Row, a.Play.Col, a.Play.Down, a.Play.Word⟩, a.Tiles, a.Seconds⟩ : Action), true)) = some (rdA s) := by
    intro a ha
    subst ha
    unfold rdA
    show (((m_impl_ValidAction (actP (splitC 32 s))).bind fun y133 => bif !y133 then some true else (m_impl_ActionText (actP (splitC 32 s))).bind fun y140 => some (y140 != s) : Option Bool)).bind (fun t129 => bif t129 then some (zeroA, false) else some (actP (splitC 32 s), true)) = _
    rw [ValidAction_eq _ p1 p2, Option.bind_some, ActionText_eq _ p1 p2]
    cases hb : actB (actP (splitC 32 s))
    · rfl
    · rw [Bool.not_true, cond_false, cond_true, Option.bind_some, Option.bind_some, Bool.false_or]
      cases actT (actP (splitC 32 s)) != s <;> rfl
  unfold m_impl_ReadAction
  rw [Split_eq 32 s h, Option.bind_some, chk_to ((((splitC 32 s).length - 1 : Nat)) : Int) (by omega) (by omega) (by omega), Option.bind_some, getL_getS ((splitC 32 s).length - 1) rfl (by omega), Option.bind_some]
  rw [show (splitC 32 s).getD ((splitC 32 s).length - 1) [] = lastW (splitC 32 s) from rfl, ReadDecimal_eq (lastW (splitC 32 s)) (hw _), Option.bind_some, getL_getS (z := 0) 0 rfl hne, Option.bind_some]
  rw [show ([112, 108, 97, 121] : Str) = wPLAY from rfl, show ([101, 120, 99, 104, 97, 110, 103, 101] : Str) = wEXCH from rfl, show ([112, 97, 115, 115] : Str) = wPASS from rfl, show ([99, 104, 97, 108, 108, 101, 110, 103, 101] : Str) = wCHAL from rfl]
  have e1 := ReadAction1_eq h (rdD (lastW (splitC 32 s))).1
  have e2 := ReadAction2_eq (w := splitC 32 s) (rdD (lastW (splitC 32 s))).1
  unfold zeroP at e1 e2
  rw [e1, e2]
  unfold actP at hfin
  cases hP : (splitC 32 s).getD 0 [] == wPLAY
  · cases hE : (splitC 32 s).getD 0 [] == wEXCH
    · cases hA : (splitC 32 s).getD 0 [] == wPASS
      · cases hC : (splitC 32 s).getD 0 [] == wCHAL
        · rw [hP, hE, hA, hC] at hfin
          exact hfin ⟨0, zeroP, [], (rdD (lastW (splitC 32 s))).1⟩ rfl
        · rw [hP, hE, hA, hC] at hfin
          exact hfin ⟨4, zeroP, [], (rdD (lastW (splitC 32 s))).1⟩ rfl
      · rw [hP, hE, hA] at hfin
        exact hfin ⟨3, zeroP, [], (rdD (lastW (splitC 32 s))).1⟩ rfl
    · rw [hP, hE] at hfin
      exact hfin ⟨2, zeroP, bif decide ((splitC 32 s).length = 3) then (splitC 32 s).getD 1 [] else [], (rdD (lastW (splitC 32 s))).1⟩ rfl
  · rw [hP] at hfin
    exact hfin ⟨1, bif decide ((splitC 32 s).length = 4) then (rdP (playW (splitC 32 s))).1 else zeroP, [], (rdD (lastW (splitC 32 s))).1⟩ rfl

/-! ### The reference's -/

def actS (w : List Str) : Action × Bool := bif (w.getD 0 [] == wPLAY) && decide (w.length = 4) then (⟨1, (rdPs (playW w)).1, [], (rdN (lastW w)).1⟩, (rdPs (playW w)).2) else bif (w.getD 0 [] == wEXCH) && decide (w.length = 3) then (⟨2, zeroP, w.getD 1 [], (rdN (lastW w)).1⟩, true) else bif (w.getD 0 [] == wPASS) && decide (w.length = 2) then (⟨3, zeroP, [], (rdN (lastW w)).1⟩, true) else bif (w.getD 0 [] == wCHAL) && decide (w.length = 2) then (⟨4, zeroP, [], (rdN (lastW w)).1⟩, true) else (⟨0, zeroP, [], (rdN (lastW w)).1⟩, false)

def rdAs (s : Str) : Action × Bool := bif !(actS (splitC 32 s)).2 || !(rdN (lastW (splitC 32 s))).2 || !actB (actS (splitC 32 s)).1 then (zeroA, false) else ((actS (splitC 32 s)).1, true)

theorem actS_back {a : Action} (h : actB a = true) : actS (wordsA a) = (a, true) ∧ (rdN (lastW (wordsA a))).2 = true := by
  obtain ⟨⟨h0, h1⟩, hk⟩ := actB_cases h
  have hd := rdN_itoa h0 (by omega)
  obtain ⟨k, p, t, n⟩ := a
  simp only at hk hd h0 h1
  rcases hk with ⟨rfl, k2, rfl⟩ | ⟨rfl, rfl, k3, k4⟩ | ⟨rfl, rfl, rfl⟩ | ⟨rfl, rfl, rfl⟩
  · show ((⟨1, (rdPs (placeT p ++ [32] ++ p.Word)).1, [], (rdN (Lib.itoa n)).1⟩ : Action), (rdPs (placeT p ++ [32] ++ p.Word)).2) = _ ∧ (rdN (Lib.itoa n)).2 = true
    have e : placeT p ++ [32] ++ p.Word = playT p := by rw [playT_split]; simp
    rw [e, rdPs_play k2, hd]
    exact ⟨rfl, rfl⟩
  · show ((⟨2, zeroP, t, (rdN (Lib.itoa n)).1⟩ : Action), true) = _ ∧ (rdN (Lib.itoa n)).2 = true
    rw [hd]
    exact ⟨rfl, rfl⟩
  · show ((⟨3, zeroP, [], (rdN (Lib.itoa n)).1⟩ : Action), true) = _ ∧ (rdN (Lib.itoa n)).2 = true
    rw [hd]
    exact ⟨rfl, rfl⟩
  · show ((⟨4, zeroP, [], (rdN (Lib.itoa n)).1⟩ : Action), true) = _ ∧ (rdN (Lib.itoa n)).2 = true
    rw [hd]
    exact ⟨rfl, rfl⟩

theorem rdAs_some {a : Action} (h : actB a = true) : rdAs (actT a) = (a, true) := by
  obtain ⟨h1, h2⟩ := actS_back h
  unfold rdAs
  rw [split_act h, h1, h2]
  simp only [h]
  rfl

/-- What the reference reads is what was written. -/
theorem rdAs_ok {s : Str} (h : (rdAs s).2 = true) : actB (rdAs s).1 = true ∧ actT (rdAs s).1 = s := by
  have hj := join_splitC 32 s
  unfold rdAs at h ⊢
  generalize splitC 32 s = w at hj h ⊢
  cases hc : (!(actS w).2 || !(rdN (lastW w)).2 || !actB (actS w).1)
  case true => rw [hc] at h; cases h
  rw [cond_false]
  rw [Bool.or_eq_false_iff, Bool.or_eq_false_iff, Bool.not_eq_false', Bool.not_eq_false', Bool.not_eq_false'] at hc
  obtain ⟨⟨c1, c2⟩, c3⟩ := hc
  refine ⟨c3, ?_⟩
  have hn := (rdN_small (lastW w)).2 c2
  unfold actS at c1 c3 ⊢
  cases hP : (w.getD 0 [] == wPLAY) && decide (w.length = 4)
  · rw [hP, cond_false] at c1 c3
    rw [cond_false]
    cases hE : (w.getD 0 [] == wEXCH) && decide (w.length = 3)
    · rw [hE, cond_false] at c1 c3
      rw [cond_false]
      cases hA : (w.getD 0 [] == wPASS) && decide (w.length = 2)
      · rw [hA, cond_false] at c1 c3
        rw [cond_false]
        cases hC : (w.getD 0 [] == wCHAL) && decide (w.length = 2)
        · rw [hC] at c1; cases c1
        · rw [cond_true]
          obtain ⟨q1, q2⟩ := Bool.and_eq_true_iff.1 hC
          have q2 := of_decide_eq_true q2
          match w, q2 with
          | [a, b], _ =>
            have q1 : a = wCHAL := beq_iff_eq.1 q1
            rw [actT_words, ← hj, q1]
            show Lib.join [wCHAL, Lib.itoa (rdN (lastW [a, b])).1] [32] = _
            rw [hn]
            rfl
      · rw [cond_true]
        obtain ⟨q1, q2⟩ := Bool.and_eq_true_iff.1 hA
        have q2 := of_decide_eq_true q2
        match w, q2 with
        | [a, b], _ =>
          have q1 : a = wPASS := beq_iff_eq.1 q1
          rw [actT_words, ← hj, q1]
          show Lib.join [wPASS, Lib.itoa (rdN (lastW [a, b])).1] [32] = _
          rw [hn]
          rfl
    · rw [cond_true]
      obtain ⟨q1, q2⟩ := Bool.and_eq_true_iff.1 hE
      have q2 := of_decide_eq_true q2
      match w, q2 with
      | [a, b, c], _ =>
        have q1 : a = wEXCH := beq_iff_eq.1 q1
        rw [actT_words, ← hj, q1]
        show Lib.join [wEXCH, b, Lib.itoa (rdN (lastW [a, b, c])).1] [32] = _
        rw [hn]
        rfl
  · rw [hP, cond_true] at c1 c3
    rw [cond_true]
    obtain ⟨q1, q2⟩ := Bool.and_eq_true_iff.1 hP
    have q2 := of_decide_eq_true q2
    match w, q2 with
    | [a, b, c, d], _ =>
      have q1 : a = wPLAY := beq_iff_eq.1 q1
      obtain ⟨_, h3⟩ := rdPs_ok (s := playW [a, b, c, d]) (p := (rdPs (playW [a, b, c, d])).1) (by rw [← c1])
      have h4 : playT (rdPs (playW [a, b, c, d])).1 = b ++ [32] ++ c := h3
      rw [← hj, q1]
      show [112, 108, 97, 121, 32] ++ playT (rdPs (playW [a, b, c, d])).1 ++ [32] ++ Lib.itoa (rdN (lastW [a, b, c, d])).1 = _
      rw [hn, h4, join4]
      simp [wPLAY, lastW]

theorem rdAs_zero {s : Str} (h : (rdAs s).2 = false) : rdAs s = (zeroA, false) := by
  unfold rdAs at h ⊢
  cases hc : (!(actS (splitC 32 s)).2 || !(rdN (lastW (splitC 32 s))).2 || !actB (actS (splitC 32 s)).1)
  · rw [hc] at h; cases h
  · rfl

theorem readAction_same (s : Str) : rdAs s = rdA s := by
  cases h1 : (rdA s).2
  · rw [rdA_zero h1]
    cases h2 : (rdAs s).2
    · exact rdAs_zero h2
    · obtain ⟨q1, q2⟩ := rdAs_ok h2
      have := rdA_some q1
      rw [q2] at this
      rw [this] at h1
      cases h1
  · obtain ⟨q1, q2⟩ := rdA_ok h1
    have h3 := rdAs_some q1
    have h4 := rdA_some q1
    rw [q2] at h3 h4
    rw [h3, h4]

theorem actS_small {s : Str} (h : s.length ≤ 1048576) : (actS (splitC 32 s)).1.Play.Word.length ≤ 1048576 ∧ (actS (splitC 32 s)).1.Tiles.length ≤ 1048576 := by
  have hw := words_small h
  unfold actS
  cases hP : ((splitC 32 s).getD 0 [] == wPLAY) && decide ((splitC 32 s).length = 4)
  · rw [cond_false]
    cases ((splitC 32 s).getD 0 [] == wEXCH) && decide ((splitC 32 s).length = 3)
    · rw [cond_false]
      cases ((splitC 32 s).getD 0 [] == wPASS) && decide ((splitC 32 s).length = 2) <;> cases ((splitC 32 s).getD 0 [] == wCHAL) && decide ((splitC 32 s).length = 2) <;> exact ⟨Nat.zero_le _, Nat.zero_le _⟩
    · exact ⟨Nat.zero_le _, hw 1⟩
  · have q2 := of_decide_eq_true (Bool.and_eq_true_iff.1 hP).2
    exact ⟨Nat.le_trans (rdPs_word _) (Nat.le_trans (playW_small h q2) h), Nat.zero_le _⟩

theorem l20Read_eq (s : Str) (h : s.length ≤ 1048576) : m_spec_l20Read s = some (rdAs s) := by
  obtain ⟨p1, p2⟩ := actS_small h
  have hw := words_small h
  have hne := List.length_pos_iff.2 (splitC_ne 32 s)
  have hlen := splitC_len 32 s
  have hfin : ∀ (a : Action) (ok : Bool), actS (splitC 32 s) = (a, ok) → a.Seconds = (rdN (lastW (splitC 32 s))).1 → (((chk (((splitC 32 s).length : Int) - 1)).bind fun z175 => (getL (splitC 32 s) z175).bind fun e177 => (m_spec_l01Number e177).bind fun y186 => ((bif !ok then some true else bif !y186.2 then some true else (m_spec_l20Action (⟨a.Kind, ⟨a.Play.Row, a.Play.Col, a.Play.Down, a.Play.Word⟩, a.Tiles, y186.1⟩ : Action)).bind fun y203 => some (!y203)) : Option Bool).bind fun t195 => bif t195 then some ((⟨0, ⟨0, 0, false, ([] : Str)⟩, ([] : Str), 0⟩ : Action), false) else some ((⟨a.Kind, ⟨a.Play.Row, a.Play.Col, a.Play.Down, a.Play.Word⟩, a.Tiles, y186.1⟩ : Action), true)) : Option (Action × Bool)) = some (rdAs s) := by
    intro a ok ha hs
    unfold rdAs
    rw [ha] at p1 p2 ⊢
    simp only at p1 p2 ⊢
    rw [chk_to ((((splitC 32 s).length - 1 : Nat)) : Int) (by omega) (by omega) (by omega), Option.bind_some, getL_getS ((splitC 32 s).length - 1) rfl (by omega), Option.bind_some, show (splitC 32 s).getD ((splitC 32 s).length - 1) [] = lastW (splitC 32 s) from rfl, l01Number_eq (lastW (splitC 32 s)) (hw _), Option.bind_some, ← hs]
    show (((bif !ok then some true else bif !(rdN (lastW (splitC 32 s))).2 then some true else (m_spec_l20Action a).bind fun y203 => some (!y203)) : Option Bool).bind fun t195 => bif t195 then some (zeroA, false) else some (a, true)) = _
    rw [l20Action_eq _ p1 p2, Option.bind_some]
    cases ok
    · rfl
    · cases (rdN (lastW (splitC 32 s))).2
      · rfl
      · cases actB a <;> rfl
  unfold m_spec_l20Read
  rw [l01Split_eq 32 s h, Option.bind_some, getL_getS (z := 0) 0 rfl hne]
  rw [show ([112, 108, 97, 121] : Str) = wPLAY from rfl, show ([101, 120, 99, 104, 97, 110, 103, 101] : Str) = wEXCH from rfl, show ([112, 97, 115, 115] : Str) = wPASS from rfl, show ([99, 104, 97, 108, 108, 101, 110, 103, 101] : Str) = wCHAL from rfl]
  have b1 : ∀ (c : Bool) (n : Int) (m : Nat), n = m → (bif c then some (((splitC 32 s).length : Int) == n) else some false : Option Bool) = some (c && decide ((splitC 32 s).length = m)) := fun c n m hnm => by
    have : (((splitC 32 s).length : Int) == n) = decide ((splitC 32 s).length = m) := by rw [Bool.eq_iff_iff, beq_iff_eq, decide_eq_true_iff]; omega
    rw [this]
    cases c <;> rfl
  simp only [Option.bind_some]
  rw [b1 _ 4 4 rfl, b1 _ 3 3 rfl, b1 _ 2 2 rfl, b1 _ 2 2 rfl]
  simp only [Option.bind_some]
  unfold actS at hfin
  cases hP : ((splitC 32 s).getD 0 [] == wPLAY) && decide ((splitC 32 s).length = 4)
  · rw [hP, cond_false] at hfin
    rw [cond_false]
    cases hE : ((splitC 32 s).getD 0 [] == wEXCH) && decide ((splitC 32 s).length = 3)
    · rw [hE, cond_false] at hfin
      rw [cond_false]
      cases hA : ((splitC 32 s).getD 0 [] == wPASS) && decide ((splitC 32 s).length = 2)
      · rw [hA, cond_false] at hfin
        rw [cond_false]
        cases hC : ((splitC 32 s).getD 0 [] == wCHAL) && decide ((splitC 32 s).length = 2)
        · rw [hC, cond_false] at hfin
          rw [cond_false, Option.bind_some]
          exact hfin ⟨0, zeroP, [], (rdN (lastW (splitC 32 s))).1⟩ false rfl rfl
        · rw [hC, cond_true] at hfin
          rw [cond_true, Option.bind_some]
          exact hfin ⟨4, zeroP, [], (rdN (lastW (splitC 32 s))).1⟩ true rfl rfl
      · rw [hA, cond_true] at hfin
        rw [cond_true, Option.bind_some]
        exact hfin ⟨3, zeroP, [], (rdN (lastW (splitC 32 s))).1⟩ true rfl rfl
    · rw [hE, cond_true] at hfin
      have q2 := of_decide_eq_true (Bool.and_eq_true_iff.1 hE).2
      rw [cond_true, getL_getS (z := 1) 1 rfl (by omega), Option.bind_some, Option.bind_some]
      exact hfin ⟨2, zeroP, (splitC 32 s).getD 1 [], (rdN (lastW (splitC 32 s))).1⟩ true rfl rfl
  · rw [hP, cond_true] at hfin
    have q2 := of_decide_eq_true (Bool.and_eq_true_iff.1 hP).2
    have hp := playW_small h q2
    have hpl : ((splitC 32 s).getD 1 []).length + 1 + ((splitC 32 s).getD 2 []).length ≤ 1048576 := by
      unfold playW at hp
      simp only [List.length_append, List.length_cons, List.length_nil] at hp
      omega
    rw [cond_true, getL_getS (z := 1) 1 rfl (by omega), Option.bind_some, catL_of (by simp only [List.length_cons, List.length_nil]; omega), Option.bind_some, getL_getS (z := 2) 2 rfl (by omega), Option.bind_some, catL_of (by simp only [List.length_append, List.length_cons, List.length_nil]; omega), Option.bind_some]
    show ((((m_spec_l12Read (playW (splitC 32 s))).bind _) : Option _).bind _) = _
    rw [l12Read_eq _ (by omega), Option.bind_some, Option.bind_some]
    exact hfin ⟨1, (rdPs (playW (splitC 32 s))).1, [], (rdN (lastW (splitC 32 s))).1⟩ (rdPs (playW (splitC 32 s))).2 rfl rfl

end Go.Proofs.YtbekokenomhgeaaGreatDoor
