/- ReadRecord: the models of the program and of the reference agree. -/
import Derived.Test.YtbekokenomhgeaaGreatDoorPureLd
import Derived.Test.YtbekokenomhgeaaGreatDoorPureR
namespace Go.Proofs.YtbekokenomhgeaaGreatDoor
open Go Go.RowKit
set_option linter.unusedSimpArgs false
set_option linter.unusedVariables false

/-- All lines as actions. -/
def readAll : List Str → Option (List Action)
  | [] => some []
  | l :: t => bif (rdA l).2 then (readAll t).map ((rdA l).1 :: ·) else none

theorem readAll_some : ∀ (xs : List Action), (∀ a ∈ xs, actB a = true) → readAll (xs.map actT) = some xs
  | [], _ => rfl
  | a :: xs, h => by
    have h1 := rdA_some (h a List.mem_cons_self)
    have h2 := readAll_some xs fun b hb => h b (List.mem_cons_of_mem _ hb)
    rw [List.map_cons, readAll, h1, h2]
    rfl

theorem readAll_ok : ∀ (ls : List Str) (xs : List Action), readAll ls = some xs → (∀ a ∈ xs, actB a = true) ∧ xs.map actT = ls
  | [], xs, h => by
    obtain rfl : ([] : List Action) = xs := Option.some.inj h
    exact ⟨fun a ha => (by cases ha), rfl⟩
  | l :: t, xs, h => by
    rw [readAll] at h
    cases hc : (rdA l).2
    · rw [hc] at h; cases h
    · rw [hc, cond_true] at h
      obtain ⟨ys, hy, rfl⟩ := Option.map_eq_some_iff.1 h
      obtain ⟨q1, q2⟩ := readAll_ok t ys hy
      obtain ⟨p1, p2⟩ := rdA_ok hc
      refine ⟨fun a ha => ?_, by rw [List.map_cons, p2, q2]⟩
      rcases List.mem_cons.1 ha with rfl | ha
      · exact p1
      · exact q1 a ha

theorem readAll_len : ∀ (ls : List Str) (xs : List Action), readAll ls = some xs → xs.length = ls.length := fun ls xs h => by
  rw [← (readAll_ok ls xs h).2, List.length_map]

/-! ### Lines -/

def seedT (n : Int) : Str := [115, 101, 101, 100, 32] ++ Lib.itoa n

theorem join_tail (c : UInt8) : ∀ (ws : List Str) (p : Str), Lib.join (p :: ws) [c] = p ++ (ws.map (c :: ·)).flatten
  | [], p => by rw [Lib.join_one]; simp
  | w :: ws, p => by rw [join_cons2 _ _ _ (by simp), join_tail c ws w]; simp

theorem rec_tail : ∀ xs : List Action, [10] ++ linesT xs = ((xs.map actT).map ((10 : UInt8) :: ·)).flatten ++ [10]
  | [] => rfl
  | a :: xs => by
    have ih := rec_tail xs
    unfold linesT at ih ⊢
    rw [List.map_cons, List.flatten_cons, List.map_cons, List.map_cons, List.flatten_cons]
    have e : actT a ++ [10] ++ (xs.map fun a => actT a ++ [10]).flatten = actT a ++ ([10] ++ (xs.map fun a => actT a ++ [10]).flatten) := by simp
    rw [e, ih]
    simp

theorem recT_lines (r : Record) : recT r = Lib.join (seedT r.Seed :: r.Actions.map actT) [10] ++ [10] := by
  have h := rec_tail r.Actions
  unfold recT seedT
  rw [join_tail, List.append_assoc, List.append_assoc, List.append_assoc, List.append_assoc, h]

theorem dg_no10 {c : UInt8} (h : dgB c = true) : c ≠ 10 := fun e => by
  subst e
  revert h
  decide

theorem placed_no10 {c : UInt8} (h : placedC c = true) : c ≠ 10 := fun e => by
  subst e
  revert h
  decide

theorem itoa_no10 {n : Int} (h : 0 ≤ n) : (10 : UInt8) ∉ Lib.itoa n := fun hm => dg_no10 (itoa_dgs h _ hm) rfl

theorem actT_no10 {a : Action} (h : actB a = true) : (10 : UInt8) ∉ actT a := by
  obtain ⟨⟨h0, _⟩, hk⟩ := actB_cases h
  have hi := itoa_no10 h0
  rw [actT_words, show wordsA a = wordsA a from rfl]
  intro hm
  have key : ∀ (p : Str) (ws : List Str), (∀ y ∈ p :: ws, (10 : UInt8) ∉ y) → (10 : UInt8) ∉ Lib.join (p :: ws) [32] := by
    intro p ws hw hm
    rw [join_tail, List.mem_append] at hm
    rcases hm with hm | hm
    · exact hw p List.mem_cons_self hm
    · obtain ⟨l, hl, hc⟩ := List.mem_flatten.1 hm
      obtain ⟨y, hy, rfl⟩ := List.mem_map.1 hl
      rcases List.mem_cons.1 hc with h1 | h1
      · exact absurd h1 (by decide)
      · exact hw y (List.mem_cons_of_mem _ hy) h1
  obtain ⟨p, ws, hpw⟩ := List.exists_cons_of_ne_nil (wordsA_ne a)
  rw [hpw] at hm
  refine key p ws ?_ hm
  rw [← hpw]
  intro y hy
  unfold wordsA at hy
  rcases hk with ⟨k1, k2, k3⟩ | ⟨k1, k2, k3, k4⟩ | ⟨k1, k2, k3⟩ | ⟨k1, k2, k3⟩
  · rw [k1] at hy
    have hcol := (colT_nat k2).1
    obtain ⟨r1, r2, r3⟩ := plainB_iff.1 k2
    rcases (show y ∈ [wPLAY, placeT a.Play, a.Play.Word, Lib.itoa a.Seconds] from hy) with _ | ⟨_, _ | ⟨_, _ | ⟨_, _ | ⟨_, hf⟩⟩⟩⟩
    · decide
    · intro hm
      have h4 : colT a.Play ≠ 10 := fun e => by
        rw [e] at hcol
        have e10 : (10 : UInt8).toNat = 10 := rfl
        omega
      have h5 := itoa_no10 (n := a.Play.Row + 1) (by omega)
      unfold placeT at hm
      cases hd : a.Play.Down
      · rw [hd, cond_false, List.mem_append, List.mem_singleton] at hm
        exact hm.elim h5 fun e => h4 e.symm
      · rw [hd, cond_true, List.mem_cons] at hm
        exact hm.elim (fun e => h4 e.symm) h5
    · intro hm
      unfold mainB placedB at r3
      simp only [Bool.and_eq_true] at r3
      exact placed_no10 (List.all_eq_true.1 r3.2.1 _ hm) rfl
    · exact hi
    · cases hf
  · rw [k1] at hy
    rcases (show y ∈ [wEXCH, a.Tiles, Lib.itoa a.Seconds] from hy) with _ | ⟨_, _ | ⟨_, _ | ⟨_, hf⟩⟩⟩
    · decide
    · intro hm
      unfold rackB pileB at k4
      simp only [Bool.and_eq_true] at k4
      have := List.all_eq_true.1 k4.1.1.2 _ hm
      revert this
      decide
    · exact hi
    · cases hf
  · rw [k1] at hy
    rcases (show y ∈ [wPASS, Lib.itoa a.Seconds] from hy) with _ | ⟨_, _ | ⟨_, hf⟩⟩
    · decide
    · exact hi
    · cases hf
  · rw [k1] at hy
    rcases (show y ∈ [wCHAL, Lib.itoa a.Seconds] from hy) with _ | ⟨_, _ | ⟨_, hf⟩⟩
    · decide
    · exact hi
    · cases hf

theorem seedT_no10 {n : Int} (h : 0 ≤ n) : (10 : UInt8) ∉ seedT n := fun hm => by
  unfold seedT at hm
  rcases List.mem_append.1 hm with hm | hm
  · revert hm; decide
  · exact itoa_no10 h hm

theorem rec_no10 {r : Record} (h : recB r = true) : 0 ≤ r.Seed ∧ r.Seed ≤ 2147483647 ∧ r.Actions.length ≤ 200 ∧ (∀ a ∈ r.Actions, actB a = true) ∧ ∀ y ∈ seedT r.Seed :: r.Actions.map actT, (10 : UInt8) ∉ y := by
  obtain ⟨g1, g2, g3⟩ := recB_all h
  unfold recB at h
  have hs := (inB_iff.1 (Bool.and_eq_true_iff.1 (Bool.and_eq_true_iff.1 h).1).1)
  refine ⟨hs.1, hs.2, g2, g3, fun y hy => ?_⟩
  rcases List.mem_cons.1 hy with rfl | hy
  · exact seedT_no10 hs.1
  · obtain ⟨a, ha, rfl⟩ := List.mem_map.1 hy
    exact actT_no10 (g3 a ha)

/-! ### The program's -/

def zeroR : Record := ⟨0, []⟩

/-- The text without its last line end. -/
def cutE (s : Str) : Str := bif s.drop (s.length - 1) == [10] then s.take (s.length - 1) else s

def endE (s : Str) : Bool := s.drop (s.length - 1) == [10]

theorem linesOf_eq (s : Str) (h : s.length ≤ 1048576) : m_impl_linesOf s = some (bif s == ([] : Str) then ([], true) else (splitC 10 (cutE s), endE s)) := by
  unfold m_impl_linesOf
  cases hs : s == ([] : Str)
  · have hpos : 1 ≤ s.length := by
      cases s with
      | nil => cases hs
      | cons x t => simp
    rw [cond_false, cond_false]
    unfold m_strings_CutSuffix m_internal_stringslite_CutSuffix m_internal_stringslite_HasSuffix cutE endE
    have e1 : ([10] : Str).length = 1 := rfl
    rw [e1, decide_eq_true (by omega : ((1 : Nat) : Int) ≤ (s.length : Int)), cond_true, chk_to ((s.length - 1 : Nat) : Int) (by omega) (by omega) (by omega), Option.bind_some, subL_of (by omega) (by omega) (Int.le_refl _), Option.bind_some, Option.bind_some, Option.bind_some]
    simp only [Int.toNat_natCast]
    rw [List.take_of_length_le (show (s.drop (s.length - 1)).length ≤ s.length - (s.length - 1) by rw [List.length_drop]; exact Nat.le_refl _)]
    cases s.drop (s.length - 1) == ([10] : Str)
    · rw [Bool.not_false, cond_true, Option.bind_some, Option.bind_some, Split_eq 10 s h]
      rfl
    · rw [Bool.not_true, cond_false, Option.bind_some, subL_of (by omega) (by omega) (by omega), Option.bind_some, Option.bind_some]
      simp only [Int.toNat_natCast, Int.toNat_zero, List.drop_zero, Nat.sub_zero]
      rw [Option.bind_some]
      dsimp only
      rw [Split_eq 10 _ (by rw [List.length_take]; omega)]
      rfl
  · rfl

theorem loopP (ls : List Str) (hl : ls.length ≤ 1000000) (hs : ∀ l ∈ ls, l.length ≤ 1048576) : ∀ (t P : List Str) (acc : List Action), ls = P ++ t → acc.length = P.length → loopM (fun s : (List Action) × Int => m_impl_ReadRecord_l1 ls s.1 s.2) (acc, (P.length : Int)) = some (match readAll t with | some xs => .inl (acc ++ xs) | none => .inr (zeroR, false))
  | [], P, acc, he, ha => by
    refine loopM_done ?_
    show m_impl_ReadRecord_l1 ls acc (P.length : Int) = _
    have hp : ls.length = P.length := by rw [he]; simp
    unfold m_impl_ReadRecord_l1
    rw [decide_eq_false (by omega), cond_false]
    simp [readAll]
  | l :: t, P, acc, he, ha => by
    have hp : P.length < ls.length := by rw [he]; simp
    have hg : ls[P.length] = l := by simp [he]
    have hm : l ∈ ls := by rw [he]; simp
    have hq : readAll (l :: t) = bif (rdA l).2 then (readAll t).map ((rdA l).1 :: ·) else none := rfl
    cases hc : (rdA l).2
    · rw [hq, hc]
      refine loopM_done ?_
      show m_impl_ReadRecord_l1 ls acc (P.length : Int) = _
      unfold m_impl_ReadRecord_l1
      rw [decide_eq_true (by omega : (P.length : Int) < (ls.length : Int)), cond_true, getL_at hp, Option.bind_some, hg, ReadAction_eq l (hs l hm), Option.bind_some, hc]
      rfl
    · have hst : m_impl_ReadRecord_l1 ls acc (P.length : Int) = some (.inl (acc ++ [(rdA l).1], ((P ++ [l]).length : Int))) := by
        unfold m_impl_ReadRecord_l1
        rw [decide_eq_true (by omega : (P.length : Int) < (ls.length : Int)), cond_true, getL_at hp, Option.bind_some, hg, ReadAction_eq l (hs l hm), Option.bind_some, hc, Bool.not_true, cond_false, catL_of (by rw [ha, List.length_singleton]; omega), Option.bind_some, chk_succ (by omega), Option.bind_some]
        simp
      rw [loopM_next hst, loopP ls hl hs t (P ++ [l]) (acc ++ [(rdA l).1]) (by rw [he]; simp) (by simp [ha]), hq, hc, cond_true]
      cases readAll t with
      | none => rfl
      | some xs => simp

def seedP (l : Str) : Int := (rdD (bif l.take 5 == [115, 101, 101, 100, 32] then l.drop 5 else l)).1

def rdR (s : Str) : Record × Bool := bif (s == ([] : Str)) || !endE s || decide (201 < (splitC 10 (cutE s)).length) then (zeroR, false) else match readAll ((splitC 10 (cutE s)).drop 1) with
  | none => (zeroR, false)
  | some xs => bif !recB ⟨seedP ((splitC 10 (cutE s)).getD 0 []), xs⟩ || (recT ⟨seedP ((splitC 10 (cutE s)).getD 0 []), xs⟩ != s) then (zeroR, false) else (⟨seedP ((splitC 10 (cutE s)).getD 0 []), xs⟩, true)

theorem cutE_len (s : Str) : (cutE s).length ≤ s.length := by
  unfold cutE
  cases s.drop (s.length - 1) == [10]
  · exact Nat.le_refl _
  · rw [cond_true, List.length_take]; omega

theorem actT_small {a : Action} (h : actB a = true) : a.Play.Word.length ≤ 1048576 ∧ a.Tiles.length ≤ 1048576 := by
  obtain ⟨_, hk⟩ := actB_cases h
  rcases hk with ⟨k1, k2, k3⟩ | ⟨k1, k2, k3, k4⟩ | ⟨k1, k2, k3⟩ | ⟨k1, k2, k3⟩
  · have := mainB_len (plainB_iff.1 k2).2.2
    rw [k3]
    exact ⟨by omega, Nat.zero_le _⟩
  · unfold rackB at k4
    have := of_decide_eq_true (Bool.and_eq_true_iff.1 k4).2
    rw [k2]
    exact ⟨Nat.zero_le _, by omega⟩
  · rw [k2, k3]; exact ⟨Nat.zero_le _, Nat.zero_le _⟩
  · rw [k2, k3]; exact ⟨Nat.zero_le _, Nat.zero_le _⟩

theorem getL_first {w : List Str} (h : w ≠ []) : getL w 0 = some (w.getD 0 []) := getL_getS (z := 0) 0 rfl (List.length_pos_iff.2 h)

theorem ReadRecord_eq (s : Str) (h : s.length ≤ 1048576) : m_impl_ReadRecord s = some (rdR s) := by
  unfold m_impl_ReadRecord
  rw [linesOf_eq s h, Option.bind_some]
  cases hs : s == ([] : Str)
  case true =>
    unfold rdR
    rw [hs]
    rfl
  rw [cond_false]
  have hc := cutE_len s
  have hne := splitC_ne 10 (cutE s)
  have hm : ∀ l ∈ splitC 10 (cutE s), l.length ≤ 1048576 := fun l hl => by have := splitC_mem 10 (cutE s) hl; omega
  have hlen := splitC_len 10 (cutE s)
  unfold rdR
  rw [hs]
  simp only
  generalize splitC 10 (cutE s) = w at hne hm hlen ⊢
  cases endE s
  · rfl
  have h0 : ((w.length : Int) == 0) = false := by
    rw [beq_eq_false_iff_ne]
    have := List.length_pos_iff.2 hne
    omega
  rw [Bool.not_true, cond_false, h0, cond_false, Option.bind_some, show decide (201 < (w.length : Int)) = decide (201 < w.length) from decide_eq_decide.2 (by omega)]
  by_cases h201 : 201 < w.length
  · rw [decide_eq_true h201]; rfl
  rw [decide_eq_false h201]
  simp only [cond_false, Bool.or_false]
  have hd0 : (w.getD 0 []).length ≤ 1048576 := by
    rw [List.getD_eq_getElem?_getD]
    cases hx : w[0]? with
    | none => simp
    | some x => exact hm x (List.mem_of_getElem? hx)
  have htp : (bif (w.getD 0 []).take 5 == ([115, 101, 101, 100, 32] : Str) then (w.getD 0 []).drop 5 else w.getD 0 []).length ≤ 1048576 := by
    cases (w.getD 0 []).take 5 == ([115, 101, 101, 100, 32] : Str)
    · exact hd0
    · rw [cond_true, List.length_drop]; omega
  rw [getL_first hne, Option.bind_some, TrimPrefix_eq _ _ hd0 (by simp), Option.bind_some]
  show ((m_impl_ReadDecimal (bif (w.getD 0 []).take 5 == ([115, 101, 101, 100, 32] : Str) then (w.getD 0 []).drop 5 else w.getD 0 [])).bind _) = _
  rw [ReadDecimal_eq _ htp, Option.bind_some, subL_of (by omega) (by have := List.length_pos_iff.2 hne; omega) (Int.le_refl _), Option.bind_some]
  have hd1 : (w.drop (1 : Int).toNat).take ((w.length : Int).toNat - (1 : Int).toNat) = w.drop 1 := by
    rw [List.take_of_length_le (by rw [List.length_drop]; omega)]
    rfl
  rw [hd1]
  have hrun := loopP (w.drop 1) (by rw [List.length_drop]; omega) (fun l hl => hm l (List.mem_of_mem_drop hl)) (w.drop 1) [] [] rfl rfl
  have hrun' : loopM (fun s : (List Action) × Int => m_impl_ReadRecord_l1 (w.drop 1) s.1 s.2) (([] : List Action), 0) = _ := hrun
  rw [hrun']
  cases hra : readAll (w.drop 1) with
  | none => rfl
  | some xs =>
    obtain ⟨q1, q2⟩ := readAll_ok _ _ hra
    have hxl := readAll_len _ _ hra
    rw [List.length_drop] at hxl
    simp only [Option.bind_some, List.nil_append]
    show (((m_impl_ValidRecord (⟨seedP (w.getD 0 []), xs⟩ : Record)).bind fun y152 => bif !y152 then some true else (m_impl_RecordText (⟨seedP (w.getD 0 []), xs⟩ : Record)).bind fun y159 => some (y159 != s) : Option Bool)).bind (fun t148 => bif t148 then some (zeroR, false) else some ((⟨seedP (w.getD 0 []), xs⟩ : Record), true)) = _
    rw [ValidRecord_of ⟨seedP (w.getD 0 []), xs⟩ (fun a ha => actT_small (q1 a ha)) (by show xs.length ≤ _; omega), Option.bind_some, RecordText_of ⟨seedP (w.getD 0 []), xs⟩ (fun a ha => actT_small (q1 a ha)) (by show xs.length ≤ _; omega)]
    cases hb : recB ⟨seedP (w.getD 0 []), xs⟩
    · rfl
    · rw [Bool.not_true, cond_false, cond_true, Option.bind_some, Option.bind_some, Bool.false_or]
      cases recT ⟨seedP (w.getD 0 []), xs⟩ != s <;> rfl

theorem cutE_rec (J : Str) : cutE (J ++ [10]) = J ∧ endE (J ++ [10]) = true := by
  have hlen : (J ++ [10]).length - 1 = J.length := by simp
  have hd : (J ++ [10]).drop J.length = [10] := List.drop_left' rfl
  have ht : (J ++ [10]).take J.length = J := List.take_left' rfl
  unfold cutE endE
  rw [hlen, hd, ht]
  exact ⟨rfl, rfl⟩

theorem seedP_back {n : Int} (h0 : 0 ≤ n) (h1 : n ≤ 2147483647) : seedP (seedT n) = n := by
  unfold seedP seedT
  have ht : (([115, 101, 101, 100, 32] : Str) ++ Lib.itoa n).take 5 = [115, 101, 101, 100, 32] := List.take_left' rfl
  have hd : (([115, 101, 101, 100, 32] : Str) ++ Lib.itoa n).drop 5 = Lib.itoa n := List.drop_left' rfl
  rw [ht, hd, beq_self_eq_true, cond_true, rdD_itoa h0 (by omega)]

theorem rdR_some {r : Record} (h : recB r = true) : rdR (recT r) = (r, true) := by
  obtain ⟨h0, h1, h2, h3, h4⟩ := rec_no10 h
  have hs : splitC 10 (cutE (recT r)) = seedT r.Seed :: r.Actions.map actT := by
    rw [recT_lines, (cutE_rec _).1]
    exact splitC_join 10 _ (by simp) h4
  have he : endE (recT r) = true := by rw [recT_lines]; exact (cutE_rec _).2
  have hne : (recT r == ([] : Str)) = false := by rw [beq_eq_false_iff_ne, recT_lines]; simp
  unfold rdR
  rw [hs, he, hne]
  have hl : ¬ 201 < (seedT r.Seed :: r.Actions.map actT).length := by simp; omega
  rw [decide_eq_false hl]
  have hd : (seedT r.Seed :: r.Actions.map actT).drop 1 = r.Actions.map actT := rfl
  have hg : (seedT r.Seed :: r.Actions.map actT).getD 0 [] = seedT r.Seed := rfl
  rw [hd, hg, readAll_some _ h3, seedP_back h0 h1]
  show (bif !recB ⟨r.Seed, r.Actions⟩ || (recT ⟨r.Seed, r.Actions⟩ != recT r) then _ else _) = _
  rw [show (⟨r.Seed, r.Actions⟩ : Record) = r from rfl, h, bne_self_eq_false]
  rfl

theorem rdR_none {s : Str} (h : ∀ r, recB r = true → recT r ≠ s) : rdR s = (zeroR, false) := by
  unfold rdR
  cases (s == ([] : Str)) || !endE s || decide (201 < (splitC 10 (cutE s)).length)
  · rw [cond_false]
    cases readAll ((splitC 10 (cutE s)).drop 1) with
    | none => rfl
    | some xs =>
      show (bif _ then _ else _) = _
      cases hb : recB ⟨seedP ((splitC 10 (cutE s)).getD 0 []), xs⟩
      · rfl
      · rw [bne_iff_ne.2 (h _ hb)]
        rfl
  · rfl

/-! ### The reference's -/

theorem loopS (L : List Str) (hl : L.length ≤ 1000000) (hs : ∀ l ∈ L, l.length ≤ 1048576) (x : Str) : ∀ (t P : List Str) (acc : List Action), L = P ++ t ++ [x] → acc.length ≤ P.length → loopM (fun s : (List Action) × Int => m_spec_ReadRecord_l1 L s.1 s.2) (acc, (P.length : Int)) = some (match readAll t with | some xs => .inl (acc ++ xs) | none => .inr (zeroR, false))
  | [], P, acc, he, ha => by
    refine loopM_done ?_
    show m_spec_ReadRecord_l1 L acc (P.length : Int) = _
    have hp : L.length = P.length + 1 := by rw [he]; simp
    unfold m_spec_ReadRecord_l1
    rw [chk_to ((P.length : Nat) : Int) (by omega) (by omega) (by omega), Option.bind_some, decide_eq_false (by omega), cond_false]
    simp [readAll]
  | l :: t, P, acc, he, ha => by
    have hp : P.length + 1 < L.length := by rw [he]; simp
    have hg : L[P.length] = l := by simp [he]
    have hm : l ∈ L := by rw [he]; simp
    have hq : readAll (l :: t) = bif (rdA l).2 then (readAll t).map ((rdA l).1 :: ·) else none := rfl
    have hrd : m_spec_l20Read l = some (rdA l) := by rw [l20Read_eq l (hs l hm), readAction_same]
    have hk : chk ((L.length : Int) - 1) = some (((L.length - 1 : Nat)) : Int) := chk_to _ (by omega) (by omega) (by omega)
    cases hc : (rdA l).2
    · rw [hq, hc]
      refine loopM_done ?_
      show m_spec_ReadRecord_l1 L acc (P.length : Int) = _
      unfold m_spec_ReadRecord_l1
      rw [hk, Option.bind_some, decide_eq_true (by omega : (P.length : Int) < ((L.length - 1 : Nat) : Int)), cond_true, getL_at (show P.length < L.length by omega), Option.bind_some, hg, hrd, Option.bind_some, hc]
      rfl
    · have hst : m_spec_ReadRecord_l1 L acc (P.length : Int) = some (.inl (acc ++ [(rdA l).1], ((P ++ [l]).length : Int))) := by
        unfold m_spec_ReadRecord_l1
        rw [hk, Option.bind_some, decide_eq_true (by omega : (P.length : Int) < ((L.length - 1 : Nat) : Int)), cond_true, getL_at (show P.length < L.length by omega), Option.bind_some, hg, hrd, Option.bind_some, hc, Bool.not_true, cond_false, catL_of (by rw [List.length_singleton]; omega), Option.bind_some, chk_succ (by omega), Option.bind_some]
        simp
      rw [loopM_next hst, loopS L hl hs x t (P ++ [l]) (acc ++ [(rdA l).1]) (by rw [he]; simp) (by simp; omega), hq, hc, cond_true]
      cases readAll t with
      | none => rfl
      | some xs => simp

def wSEED : Str := [115, 101, 101, 100]

def headBad (L : List Str) : Bool := !(rdN (lastW (splitC 32 (L.getD 0 [])))).2 || !decide ((splitC 32 (L.getD 0 [])).length = 2) || ((splitC 32 (L.getD 0 [])).getD 0 [] != wSEED) || decide (L.length < 2) || decide (202 < L.length) || (L.getD (L.length - 1) [] != ([] : Str))

def rdRs (s : Str) : Record × Bool := bif headBad (splitC 10 s) then (zeroR, false) else match readAll (((splitC 10 s).drop 1).take ((splitC 10 s).length - 2)) with
  | none => (zeroR, false)
  | some xs => bif !recB ⟨(rdN (lastW (splitC 32 ((splitC 10 s).getD 0 [])))).1, xs⟩ then (zeroR, false) else (⟨(rdN (lastW (splitC 32 ((splitC 10 s).getD 0 [])))).1, xs⟩, true)

theorem cut_ends {L : List Str} (h : 2 ≤ L.length) : L = [L.getD 0 []] ++ (L.drop 1).take (L.length - 2) ++ [L.getD (L.length - 1) []] := by
  match L, h with
  | a :: t, h =>
    have h1 : 1 ≤ t.length := by simpa using h
    have hlt : t.length - 1 < t.length := by omega
    have e1 : (a :: t).getD ((a :: t).length - 1) [] = t[t.length - 1] := by
      rw [List.length_cons, Nat.add_sub_cancel, List.getD_eq_getElem?_getD, List.getElem?_cons, if_neg (by omega), List.getElem?_eq_getElem hlt]
      rfl
    rw [e1]
    show a :: t = [a] ++ (t.take (t.length + 1 - 2)) ++ [t[t.length - 1]]
    rw [show t.length + 1 - 2 = t.length - 1 by omega, List.append_assoc, List.take_append_getElem hlt, List.take_of_length_le (by omega)]
    rfl

theorem ReadRecordS_eq (s : Str) (h : s.length ≤ 1048576) : m_spec_ReadRecord s = some (rdRs s) := by
  have hne := splitC_ne 10 s
  have hm : ∀ l ∈ splitC 10 s, l.length ≤ 1048576 := fun l hl => by have := splitC_mem 10 s hl; omega
  have hlen := splitC_len 10 s
  unfold m_spec_ReadRecord rdRs
  rw [l01Split_eq 10 s h, Option.bind_some]
  generalize splitC 10 s = L at hne hm hlen ⊢
  have hpos := List.length_pos_iff.2 hne
  have hd0 : (L.getD 0 []).length ≤ 1048576 := by
    rw [List.getD_eq_getElem?_getD]
    cases hx : L[0]? with
    | none => simp
    | some x => exact hm x (List.mem_of_getElem? hx)
  have hw := words_small hd0
  have hwne := splitC_ne 32 (L.getD 0 [])
  have hwpos := List.length_pos_iff.2 hwne
  have hwlen := splitC_len 32 (L.getD 0 [])
  rw [getL_first hne, Option.bind_some, l01Split_eq 32 _ hd0, Option.bind_some]
  generalize hgw : splitC 32 (L.getD 0 []) = w at hw hwne hwpos hwlen
  rw [chk_to (((w.length - 1 : Nat)) : Int) (by omega) (by omega) (by omega), Option.bind_some, getL_getS (w.length - 1) rfl (by omega), Option.bind_some]
  show ((m_spec_l01Number (lastW w)).bind _) = _
  rw [l01Number_eq (lastW w) (hw _), Option.bind_some]
  have hbad : ((bif !(rdN (lastW w)).2 then some true else bif (w.length : Int) != 2 then some true else (getL w 0).bind fun e57 => bif e57 != wSEED then some true else bif decide ((L.length : Int) < 2) then some true else bif decide (202 < (L.length : Int)) then some true else (chk ((L.length : Int) - 1)).bind fun z75 => (getL L z75).bind fun e77 => some (e77 != ([] : Str))) : Option Bool) = some (headBad L) := by
    unfold headBad
    rw [hgw]
    cases (rdN (lastW w)).2
    · rfl
    rw [show ((w.length : Int) != 2) = !decide (w.length = 2) by unfold bne; congr 1; rw [Bool.eq_iff_iff, beq_iff_eq, decide_eq_true_iff]; omega, show decide ((L.length : Int) < 2) = decide (L.length < 2) from decide_eq_decide.2 (by omega), show decide (202 < (L.length : Int)) = decide (202 < L.length) from decide_eq_decide.2 (by omega), getL_first hwne, Option.bind_some, chk_to (((L.length - 1 : Nat)) : Int) (by omega) (by omega) (by omega), Option.bind_some, getL_getS (L.length - 1) rfl (by omega), Option.bind_some]
    cases decide (w.length = 2) <;> cases (w.getD 0 [] != wSEED) <;> cases decide (L.length < 2) <;> cases decide (202 < L.length) <;> simp
  show (((bif !(rdN (lastW w)).2 then some true else bif (w.length : Int) != 2 then some true else (getL w 0).bind fun e57 => bif e57 != wSEED then some true else bif decide ((L.length : Int) < 2) then some true else bif decide (202 < (L.length : Int)) then some true else (chk ((L.length : Int) - 1)).bind fun z75 => (getL L z75).bind fun e77 => some (e77 != ([] : Str))) : Option Bool).bind _) = _
  rw [hbad, Option.bind_some]
  cases hB : headBad L
  case true => rfl
  rw [cond_false, cond_false]
  have hB' := hB
  unfold headBad at hB'
  rw [Bool.or_eq_false_iff, Bool.or_eq_false_iff, Bool.or_eq_false_iff] at hB'
  have hL2 : 2 ≤ L.length := by have := of_decide_eq_false hB'.1.1.2; omega
  have hL202 : L.length ≤ 202 := by have := of_decide_eq_false hB'.1.2; omega
  have hrun := loopS L (by omega) hm (L.getD (L.length - 1) []) ((L.drop 1).take (L.length - 2)) [L.getD 0 []] [] (cut_ends hL2) (by simp)
  have hrun' : loopM (fun s : (List Action) × Int => m_spec_ReadRecord_l1 L s.1 s.2) (([] : List Action), 1) = _ := hrun
  rw [hrun']
  cases hra : readAll ((L.drop 1).take (L.length - 2)) with
  | none => rfl
  | some xs =>
    obtain ⟨q1, q2⟩ := readAll_ok _ _ hra
    have hxl := readAll_len _ _ hra
    rw [List.length_take, List.length_drop] at hxl
    simp only [Option.bind_some, List.nil_append]
    rw [l20Ok_of ⟨(rdN (lastW w)).1, xs⟩ (fun a ha => actT_small (q1 a ha)) (by show xs.length ≤ _; omega), Option.bind_some]
    cases recB ⟨(rdN (lastW w)).1, xs⟩ <;> rfl

theorem rdRs_some {r : Record} (h : recB r = true) : rdRs (recT r) = (r, true) := by
  obtain ⟨h0, h1, h2, h3, h4⟩ := rec_no10 h
  have hj : recT r = Lib.join ((seedT r.Seed :: r.Actions.map actT) ++ [[]]) [10] := by
    rw [recT_lines]
    show _ = Lib.join (seedT r.Seed :: (r.Actions.map actT ++ [[]])) [10]
    rw [join_tail, join_tail]
    simp
  have hs : splitC 10 (recT r) = (seedT r.Seed :: r.Actions.map actT) ++ [[]] := by
    rw [hj]
    refine splitC_join 10 _ (by simp) fun y hy => ?_
    rcases List.mem_append.1 hy with hy | hy
    · exact h4 y hy
    · rw [List.mem_singleton] at hy
      rw [hy]
      simp
  have hsp : splitC 32 (seedT r.Seed) = [wSEED, Lib.itoa r.Seed] := by
    have e : seedT r.Seed = wSEED ++ 32 :: Lib.itoa r.Seed := rfl
    rw [e, splitC_at _ (by decide), splitC_none (itoa_no32 h0)]
  have hg : ((seedT r.Seed :: r.Actions.map actT) ++ [[]]).getD 0 [] = seedT r.Seed := rfl
  have hlast : ((seedT r.Seed :: r.Actions.map actT) ++ [[]]).getD (((seedT r.Seed :: r.Actions.map actT) ++ [[]]).length - 1) [] = [] := by simp [List.getD]
  have hll : ((seedT r.Seed :: r.Actions.map actT) ++ [[]]).length = r.Actions.length + 2 := by simp
  have hdt : ((((seedT r.Seed :: r.Actions.map actT) ++ [[]]).drop 1).take (((seedT r.Seed :: r.Actions.map actT) ++ [[]]).length - 2)) = r.Actions.map actT := by
    rw [hll]
    show ((r.Actions.map actT ++ [[]]).take r.Actions.length) = _
    exact List.take_left' (by simp)
  have hn : rdN (lastW [wSEED, Lib.itoa r.Seed]) = (r.Seed, true) := rdN_itoa h0 (by omega)
  have hbad : headBad ((seedT r.Seed :: r.Actions.map actT) ++ [[]]) = false := by
    unfold headBad
    rw [hg, hsp, hn, hlast, hll, decide_eq_false (by omega : ¬ r.Actions.length + 2 < 2), decide_eq_false (by omega : ¬ 202 < r.Actions.length + 2)]
    rfl
  unfold rdRs
  rw [hs, hbad, cond_false, hdt, readAll_some _ h3, hg, hsp, hn]
  show (bif !recB ⟨r.Seed, r.Actions⟩ then _ else _) = _
  rw [show (⟨r.Seed, r.Actions⟩ : Record) = r from rfl, h]
  rfl

/-- What the reference reads is what was written. -/
theorem rdRs_ok {s : Str} (h : (rdRs s).2 = true) : recB (rdRs s).1 = true ∧ recT (rdRs s).1 = s := by
  have hj := join_splitC 10 s
  unfold rdRs at h ⊢
  generalize splitC 10 s = L at hj h ⊢
  cases hB : headBad L
  case true => rw [hB] at h; cases h
  rw [hB, cond_false] at h
  rw [cond_false]
  have hB' := hB
  unfold headBad at hB'
  rw [Bool.or_eq_false_iff, Bool.or_eq_false_iff, Bool.or_eq_false_iff, Bool.or_eq_false_iff, Bool.or_eq_false_iff, Bool.not_eq_false', Bool.not_eq_false', bne_eq_false_iff_eq, bne_eq_false_iff_eq] at hB'
  obtain ⟨⟨⟨⟨⟨b1, b2⟩, b3⟩, b4⟩, b5⟩, b6⟩ := hB'
  have hL2 : 2 ≤ L.length := by have := of_decide_eq_false b4; omega
  have hw2 := of_decide_eq_true b2
  have hends := cut_ends hL2
  cases hra : readAll ((L.drop 1).take (L.length - 2)) with
  | none => rw [hra] at h; cases h
  | some xs =>
    rw [hra] at h
    obtain ⟨q1, q2⟩ := readAll_ok _ _ hra
    have hn := (rdN_small _).2 b1
    have hj32 := join_splitC 32 (L.getD 0 [])
    generalize splitC 32 (L.getD 0 []) = w at h b1 b2 b3 hw2 hn hj32 ⊢
    simp only at h ⊢
    cases hb : recB ⟨(rdN (lastW w)).1, xs⟩
    case false => rw [hb] at h; cases h
    rw [Bool.not_true, cond_false]
    refine ⟨hb, ?_⟩
    have hsd : seedT (rdN (lastW w)).1 = L.getD 0 [] := by
      match w, hw2 with
      | [a, b], _ =>
        have b3 : a = wSEED := b3
        subst b3
        rw [← hj32, join2]
        unfold seedT
        rw [hn]
        rfl
    rw [recT_lines, ← hj, hends, b6]
    show Lib.join (seedT (rdN (lastW w)).1 :: xs.map actT) [10] ++ [10] = _
    rw [hsd, q2]
    show _ = Lib.join (L.getD 0 [] :: ((L.drop 1).take (L.length - 2) ++ [[]])) [10]
    rw [join_tail, join_tail]
    simp

theorem readRecord_same (s : Str) : rdRs s = rdR s := by
  by_cases h : ∃ r, recB r = true ∧ recT r = s
  · obtain ⟨r, hr, rfl⟩ := h
    rw [rdR_some hr, rdRs_some hr]
  · rw [rdR_none fun r hr e => h ⟨r, hr, e⟩]
    cases hb : (rdRs s).2
    · unfold rdRs at hb ⊢
      cases hB : headBad (splitC 10 s)
      · rw [hB, cond_false] at hb
        rw [cond_false]
        cases hra : readAll (((splitC 10 s).drop 1).take ((splitC 10 s).length - 2)) with
        | none => rfl
        | some xs =>
          rw [hra] at hb
          simp only at hb ⊢
          cases hc : recB ⟨(rdN (lastW (splitC 32 ((splitC 10 s).getD 0 [])))).1, xs⟩
          · rfl
          · rw [hc] at hb; cases hb
      · rfl
    · exact absurd ⟨_, rdRs_ok hb⟩ h

theorem rdR_len (s : Str) : (rdR s).1.Actions.length ≤ 200 := by
  unfold rdR
  cases (s == ([] : Str)) || !endE s || decide (201 < (splitC 10 (cutE s)).length)
  · rw [cond_false]
    cases readAll ((splitC 10 (cutE s)).drop 1) with
    | none => exact Nat.zero_le _
    | some xs =>
      show ((bif _ then (zeroR, false) else _ : Record × Bool)).1.Actions.length ≤ _
      cases hb : recB ⟨seedP ((splitC 10 (cutE s)).getD 0 []), xs⟩
      · exact Nat.zero_le _
      · cases (recT ⟨seedP ((splitC 10 (cutE s)).getD 0 []), xs⟩ != s)
        · exact (recB_all hb).2.1
        · exact Nat.zero_le _
  · exact Nat.zero_le _

theorem m_laws_FnExactReadRecord_true (s : Str) (h : Lies strRep s) : m_laws_FnExactReadRecord s = some true := by
  unfold m_laws_FnExactReadRecord
  by_cases hl : s.length ≤ 1048576
  case neg => rw [decide_eq_true (by omega), cond_true]
  have h2 := ReadRecordS_eq s hl
  rw [readRecord_same] at h2
  have h1 := ReadRecord_eq s hl
  have hlen := rdR_len s
  have he := eqRecord_eq (rdR s).1 (rdR s).1 (show sm_Record (rdR s).1 by unfold sm_Record sm_ActionS; omega)
  rw [decide_eq_true rfl] at he
  obtain ⟨ys, k', m1, m2, m3, m4⟩ := marksActionS (rdR s).1.Actions (by omega) 1 (by omega) (by omega)
  have hm : m_laws_markRecord (rdR s).1 1 = some (k', ys) := by unfold m_laws_markRecord; rw [m1]; rfl
  have hh : m_laws_heldRecord (⟨(rdR s).1.Seed, ys⟩ : Record) 1 = some k' := by
    unfold m_laws_heldRecord
    show ((m_laws_heldActionS ys 1).bind _) = _
    rw [m2, Option.bind_some, decide_eq_false (by omega), cond_false]
  rw [decide_eq_false (by omega), cond_false, h1, h2]
  simp only [Option.bind_some, he, Bool.not_true, cond_false, bne_self_eq_false, hm, hh, decide_eq_false (by omega : ¬ k' < 0)]

end Go.Proofs.YtbekokenomhgeaaGreatDoor
