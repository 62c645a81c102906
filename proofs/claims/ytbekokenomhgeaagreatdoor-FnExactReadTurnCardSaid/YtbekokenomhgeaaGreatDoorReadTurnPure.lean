/- ReadTurn: the models of the program and of the reference agree. -/
import Derived.Test.YtbekokenomhgeaaGreatDoorPureLb
import Derived.Test.YtbekokenomhgeaaGreatDoorPureR
namespace Go.Proofs.YtbekokenomhgeaaGreatDoor
open Go Go.RowKit
set_option linter.unusedSimpArgs false
set_option linter.unusedVariables false

def undashT (s : Str) : Str := bif s == ([45] : Str) then [] else s

theorem undashed_eq (s : Str) : m_impl_undashed s = some (undashT s) := by
  unfold m_impl_undashed undashT
  cases s == ([45] : Str) <;> rfl

theorem rack_tiles {s : Str} (h : rackB s = true) : ∀ c ∈ s, tileB c = true := by
  unfold rackB pileB at h
  simp only [Bool.and_eq_true] at h
  exact List.all_eq_true.1 h.1.1.2

theorem tile_no {c : UInt8} (h : tileB c = true) : c ≠ 32 ∧ c ≠ 45 := by
  constructor
  · intro e; subst e; revert h; decide
  · intro e; subst e; revert h; decide

theorem dashT_no32 {s : Str} (h : rackB s = true) : (32 : UInt8) ∉ dashT s := by
  unfold dashT
  cases s == ([] : Str)
  · exact fun hm => (tile_no (rack_tiles h _ hm)).1 rfl
  · show (32 : UInt8) ∉ ([45] : Str)
    decide

theorem undash_dash {s : Str} (h : rackB s = true) : undashT (dashT s) = s := by
  cases s with
  | nil => rfl
  | cons x t =>
    have hx := (tile_no (rack_tiles h x List.mem_cons_self)).2
    have e : dashT (x :: t) = x :: t := rfl
    rw [e]
    unfold undashT
    have : ((x :: t) == ([45] : Str)) = false := by rw [beq_eq_false_iff_ne]; intro e; exact hx (List.cons.inj e).1
    rw [this]
    rfl

theorem dash_undash {s : Str} (h : s ≠ []) : dashT (undashT s) = s := by
  unfold undashT
  cases hb : s == ([45] : Str)
  · rw [cond_false]
    unfold dashT
    rw [beq_eq_false_iff_ne.2 h]
    rfl
  · rw [beq_iff_eq.1 hb]
    rfl

theorem undashT_len (s : Str) : (undashT s).length ≤ s.length := by
  unfold undashT
  cases s == ([45] : Str)
  · exact Nat.le_refl _
  · exact Nat.zero_le _

def passT : Str := [112, 97, 115, 115]

def zeroT : Turn := ⟨([] : Str), false, zeroP⟩

def playP (rest : Str) : Play := bif rest == passT then zeroP else (rdP rest).1

def turnP (s : Str) : Turn := ⟨undashT (Lib.cut s [32]).1, (Lib.cut s [32]).2.1 == passT, playP (Lib.cut s [32]).2.1⟩

def rdT (s : Str) : Turn × Bool := bif (s == ([] : Str)) || ((bif turnB (turnP s) then turnT (turnP s) else []) != s) then (zeroT, false) else (turnP s, true)

theorem ReadTurn_eq (s : Str) (h : s.length ≤ 1048576) : m_impl_ReadTurn s = some (rdT s) := by
  obtain ⟨l1, l2⟩ := cut_le s [32]
  unfold m_impl_ReadTurn m_strings_Cut rdT turnP
  rw [decide_eq_true (by unfold lim; omega), cond_true, Option.bind_some]
  generalize Lib.cut s [32] = q at l1 l2 ⊢
  obtain ⟨rack, rest, b⟩ := q
  simp only at l1 l2 ⊢
  have hu := undashT_len rack
  have hw := rdP_word rest
  rw [undashed_eq, Option.bind_some]
  have hp : (bif !(rest == ([112, 97, 115, 115] : Str)) then (m_impl_ReadPlay rest).bind fun y38 => some (y38.1.Row, y38.1.Col, y38.1.Down, y38.1.Word) else some (0, 0, false, ([] : Str)) : Option (Int × Int × Bool × Str)) = some ((playP rest).Row, (playP rest).Col, (playP rest).Down, (playP rest).Word) := by
    unfold playP passT
    cases rest == ([112, 97, 115, 115] : Str)
    · rw [Bool.not_false, cond_true, ReadPlay_eq _ (by omega)]; rfl
    · rfl
  have hpl : (playP rest).Word.length ≤ 1048576 := by
    unfold playP
    cases rest == passT
    · rw [cond_false]; omega
    · exact Nat.zero_le _
  rw [hp, Option.bind_some]
  show ((bif s == ([] : Str) then some true else (m_impl_TurnText ⟨undashT rack, rest == passT, playP rest⟩).bind fun y58 => some (y58 != s) : Option Bool).bind fun t52 => bif t52 then some (zeroT, false) else some ((⟨undashT rack, rest == passT, playP rest⟩ : Turn), true)) = _
  rw [TurnText_eq _ (by show (undashT rack).length ≤ _; omega) hpl, Option.bind_some]
  cases s == ([] : Str)
  · simp only [cond_false, Option.bind_some, Bool.false_or]
    cases (bif turnB ⟨undashT rack, rest == passT, playP rest⟩ then turnT ⟨undashT rack, rest == passT, playP rest⟩ else []) != s <;> rfl
  · rfl

theorem turn_parts {x : Turn} (h : turnB x = true) : rackB x.Rack = true ∧ ((x.Pass = true ∧ x.Play = zeroP) ∨ (x.Pass = false ∧ plainB x.Play = true)) := by
  unfold turnB at h
  obtain ⟨h1, h2⟩ := Bool.and_eq_true_iff.1 h
  refine ⟨h1, ?_⟩
  cases hp : x.Pass
  · rw [hp] at h2; exact .inr ⟨rfl, h2⟩
  · rw [hp] at h2; exact .inl ⟨rfl, beq_iff_eq.1 h2⟩

theorem turnT_pass {r : Str} : turnT ⟨r, true, zeroP⟩ = dashT r ++ 32 :: passT := rfl

theorem turnT_play {r : Str} {p : Play} : turnT ⟨r, false, p⟩ = dashT r ++ 32 :: playT p := rfl

theorem playT_nopass {p : Play} (h : plainB p = true) : (playT p == passT) = false := by
  rw [beq_eq_false_iff_ne]
  intro e
  have hm : (32 : UInt8) ∈ playT p := by rw [playT_split]; simp
  rw [e] at hm
  revert hm
  decide

/-- What the program wrote it reads back. -/
theorem turnP_back {x : Turn} (h : turnB x = true) : turnP (turnT x) = x := by
  obtain ⟨hr, hx⟩ := turn_parts h
  obtain ⟨r, p, y⟩ := x
  simp only at hr hx
  rcases hx with ⟨rfl, rfl⟩ | ⟨rfl, hp⟩
  · unfold turnP
    rw [turnT_pass, cut_at _ (dashT_no32 hr)]
    simp only
    rw [undash_dash hr]
    rfl
  · unfold turnP playP
    rw [turnT_play, cut_at _ (dashT_no32 hr)]
    simp only
    rw [undash_dash hr, playT_nopass hp, cond_false, rdP_play hp]

theorem turnT_ne (x : Turn) : turnT x ≠ [] := by
  intro e
  unfold turnT at e
  have := congrArg List.length e
  cases hp : x.Pass <;> rw [hp] at this <;> simp at this

theorem rdT_some {x : Turn} (h : turnB x = true) : rdT (turnT x) = (x, true) := by
  unfold rdT
  rw [turnP_back h, h, cond_true, bne_self_eq_false, beq_eq_false_iff_ne.2 (turnT_ne x)]
  rfl

theorem rdT_none {s : Str} (h : ∀ x, turnB x = true → turnT x ≠ s) : rdT s = (zeroT, false) := by
  unfold rdT
  cases hs : s == ([] : Str)
  · cases hb : turnB (turnP s)
    · rw [cond_false, bne_iff_ne.2 (Ne.symm (beq_eq_false_iff_ne.1 hs))]
      rfl
    · rw [cond_true, bne_iff_ne.2 (h _ hb)]
      rfl
  · rfl

/-! ### The reference's -/

def rdTs (s : Str) : Turn × Bool := bif (splitC 32 s).getD 0 [] == ([] : Str) then (zeroT, false) else bif decide ((splitC 32 s).length = 2) && ((splitC 32 s).getD 1 [] == passT) then (⟨undashT ((splitC 32 s).getD 0 []), true, zeroP⟩, turnB ⟨undashT ((splitC 32 s).getD 0 []), true, zeroP⟩) else bif !decide ((splitC 32 s).length = 3) then (zeroT, false) else (⟨undashT ((splitC 32 s).getD 0 []), false, (rdPs ((splitC 32 s).getD 1 [] ++ [32] ++ (splitC 32 s).getD 2 [])).1⟩, (rdPs ((splitC 32 s).getD 1 [] ++ [32] ++ (splitC 32 s).getD 2 [])).2 && turnB ⟨undashT ((splitC 32 s).getD 0 []), false, (rdPs ((splitC 32 s).getD 1 [] ++ [32] ++ (splitC 32 s).getD 2 [])).1⟩)

theorem l24Read_eq (s : Str) (h : s.length ≤ 1048576) : m_spec_l24Read s = some (rdTs s) := by
  have hj := join_splitC 32 s
  have hm : ∀ x ∈ splitC 32 s, x.length ≤ 1048576 := fun x hx => Nat.le_trans (splitC_mem 32 s hx) h
  have hne := splitC_ne 32 s
  unfold m_spec_l24Read rdTs
  rw [l01Split_eq 32 s h, Option.bind_some]
  generalize splitC 32 s = w at hj hm hne ⊢
  obtain ⟨a, t, rfl⟩ := List.exists_cons_of_ne_nil hne
  have ha := hm a (by simp)
  have hu := undashT_len a
  have g0 : getL (a :: t) 0 = some a := rfl
  have gd : (a :: t).getD 0 [] = a := rfl
  rw [g0, gd, Option.bind_some, Option.bind_some, show (bif a == ([45] : Str) then some ([] : Str) else some a) = some (undashT a) by unfold undashT; cases a == ([45] : Str) <;> rfl, Option.bind_some, Option.bind_some]
  cases a == ([] : Str)
  case true => rfl
  rw [cond_false, cond_false]
  match t with
  | [] => rfl
  | [b] =>
    have g1 : getL [a, b] 1 = some b := rfl
    rw [g1]
    show ((some (b == passT) : Option Bool).bind _) = (some (bif b == passT then (⟨undashT a, true, zeroP⟩, turnB ⟨undashT a, true, zeroP⟩) else (zeroT, false)) : Option (Turn × Bool))
    rw [Option.bind_some]
    cases b == passT
    · rfl
    · rw [cond_true, cond_true, l24Plain_eq _ (by show (undashT a).length ≤ _; omega) (Nat.zero_le _)]
      rfl
  | [b, c] =>
    have g1 : getL [a, b, c] 1 = some b := rfl
    have g2 : getL [a, b, c] 2 = some c := rfl
    have hs : a.length + 1 + b.length + 1 + c.length = s.length := by rw [← hj, join_cons2 _ _ _ (by simp), join_cons2 _ _ _ (by simp), Lib.join_one]; simp; omega
    have hw := rdPs_word (b ++ [32] ++ c)
    have hbc : (b ++ [32] ++ c).length ≤ 1048576 := by simp; omega
    rw [g1, g2]
    show ((some b : Option Str).bind fun e103 => (catL e103 ([32] : Str)).bind fun s112 => (some c : Option Str).bind fun e114 => (catL s112 e114).bind fun s123 => (m_spec_l12Read s123).bind _) = (some (⟨undashT a, false, (rdPs (b ++ [32] ++ c)).1⟩, (rdPs (b ++ [32] ++ c)).2 && turnB ⟨undashT a, false, (rdPs (b ++ [32] ++ c)).1⟩) : Option (Turn × Bool))
    rw [Option.bind_some, catL_of (by simp; omega), Option.bind_some, Option.bind_some, catL_of (by simp; omega), Option.bind_some, l12Read_eq _ hbc, Option.bind_some]
    generalize rdPs (b ++ [32] ++ c) = q at hw ⊢
    obtain ⟨p, ok⟩ := q
    simp only at hw ⊢
    have hp := l24Plain_eq ⟨undashT a, false, p⟩ (by show (undashT a).length ≤ _; omega) (by show p.Word.length ≤ _; omega)
    show ((bif ok then (m_spec_l24Plain ⟨undashT a, false, p⟩).bind fun y169 => some (undashT a, p.Row, p.Col, p.Down, p.Word, y169) else some (undashT a, p.Row, p.Col, p.Down, p.Word, false) : Option (Str × Int × Int × Bool × Str × Bool)).bind _) = _
    rw [hp]
    cases ok <;> rfl
  | b :: c :: d :: r =>
    have e2 : (((a :: b :: c :: d :: r).length : Int) == 2) = false := by rw [beq_eq_false_iff_ne]; simp only [List.length_cons]; omega
    have e3 : (((a :: b :: c :: d :: r).length : Int) != 3) = true := by rw [bne_iff_ne]; simp only [List.length_cons]; omega
    have d2 : decide ((a :: b :: c :: d :: r).length = 2) = false := decide_eq_false (by simp only [List.length_cons]; omega)
    have d3 : decide ((a :: b :: c :: d :: r).length = 3) = false := decide_eq_false (by simp only [List.length_cons]; omega)
    rw [e2, e3, d2, d3]
    rfl

theorem rdTs_some {x : Turn} (h : turnB x = true) : rdTs (turnT x) = (x, true) := by
  obtain ⟨hr, hx⟩ := turn_parts h
  obtain ⟨r, p, y⟩ := x
  simp only at hr hx
  have hne : (dashT r == ([] : Str)) = false := by
    unfold dashT
    cases hb : r == ([] : Str)
    · exact hb
    · rfl
  have hn := dashT_no32 hr
  unfold rdTs
  rcases hx with ⟨rfl, rfl⟩ | ⟨rfl, hp⟩
  · have hs : splitC 32 (turnT ⟨r, true, zeroP⟩) = [dashT r, passT] := by rw [turnT_pass, splitC_at _ hn, splitC_none (by decide)]
    rw [hs]
    show (bif dashT r == ([] : Str) then _ else ((⟨undashT (dashT r), true, zeroP⟩, turnB ⟨undashT (dashT r), true, zeroP⟩) : Turn × Bool)) = _
    rw [hne, cond_false, undash_dash hr, h]
  · have hs : splitC 32 (turnT ⟨r, false, y⟩) = [dashT r, placeT y, y.Word] := by rw [turnT_play, splitC_at _ hn, playT_split, splitC_at _ (placeT_no32 hp), splitC_none (mainB_no32 (plainB_iff.1 hp).2.2)]
    rw [hs]
    show (bif dashT r == ([] : Str) then _ else ((⟨undashT (dashT r), false, (rdPs (placeT y ++ [32] ++ y.Word)).1⟩, (rdPs (placeT y ++ [32] ++ y.Word)).2 && turnB ⟨undashT (dashT r), false, (rdPs (placeT y ++ [32] ++ y.Word)).1⟩) : Turn × Bool)) = _
    have e : placeT y ++ [32] ++ y.Word = playT y := by rw [playT_split]; simp
    rw [hne, cond_false, undash_dash hr, e, rdPs_play hp, h]
    rfl

/-- What the reference reads is what was written. -/
theorem rdTs_ok {s : Str} (h : (rdTs s).2 = true) : turnB (rdTs s).1 = true ∧ turnT (rdTs s).1 = s := by
  have hj := join_splitC 32 s
  have hne := splitC_ne 32 s
  unfold rdTs at h ⊢
  generalize splitC 32 s = w at hj hne h ⊢
  obtain ⟨a, t, rfl⟩ := List.exists_cons_of_ne_nil hne
  have gd : (a :: t).getD 0 [] = a := rfl
  rw [gd] at h ⊢
  cases ha : a == ([] : Str)
  case true => rw [ha] at h; cases h
  rw [ha, cond_false] at h
  rw [cond_false]
  have hda := dash_undash (beq_eq_false_iff_ne.1 ha)
  match t, hj, h with
  | [], hj, h => cases h
  | [b], hj, h =>
    have e : ∀ z : Turn × Bool, (bif decide ([a, b].length = 2) && ([a, b].getD 1 [] == passT) then z else bif !decide ([a, b].length = 3) then (zeroT, false) else (⟨undashT a, false, (rdPs ([a, b].getD 1 [] ++ [32] ++ [a, b].getD 2 [])).1⟩, (rdPs ([a, b].getD 1 [] ++ [32] ++ [a, b].getD 2 [])).2 && turnB ⟨undashT a, false, (rdPs ([a, b].getD 1 [] ++ [32] ++ [a, b].getD 2 [])).1⟩)) = bif b == passT then z else (zeroT, false) := fun z => rfl
    rw [e] at h ⊢
    cases hb : b == passT
    · rw [hb] at h; cases h
    · rw [hb, cond_true] at h
      rw [cond_true]
      refine ⟨h, ?_⟩
      show dashT (undashT a) ++ 32 :: passT = s
      rw [hda, ← hj, join_cons2 _ _ _ (by simp), Lib.join_one, beq_iff_eq.1 hb]
      simp
  | [b, c], hj, h =>
    have e : (bif decide ([a, b, c].length = 2) && ([a, b, c].getD 1 [] == passT) then (⟨undashT a, true, zeroP⟩, turnB ⟨undashT a, true, zeroP⟩) else bif !decide ([a, b, c].length = 3) then (zeroT, false) else (⟨undashT a, false, (rdPs ([a, b, c].getD 1 [] ++ [32] ++ [a, b, c].getD 2 [])).1⟩, (rdPs ([a, b, c].getD 1 [] ++ [32] ++ [a, b, c].getD 2 [])).2 && turnB ⟨undashT a, false, (rdPs ([a, b, c].getD 1 [] ++ [32] ++ [a, b, c].getD 2 [])).1⟩) : Turn × Bool) = (⟨undashT a, false, (rdPs (b ++ [32] ++ c)).1⟩, (rdPs (b ++ [32] ++ c)).2 && turnB ⟨undashT a, false, (rdPs (b ++ [32] ++ c)).1⟩) := rfl
    rw [e] at h ⊢
    obtain ⟨h1, h2⟩ := Bool.and_eq_true_iff.1 h
    refine ⟨h2, ?_⟩
    obtain ⟨_, h3⟩ := rdPs_ok (s := b ++ [32] ++ c) (p := (rdPs (b ++ [32] ++ c)).1) (by rw [← h1])
    show dashT (undashT a) ++ 32 :: playT (rdPs (b ++ [32] ++ c)).1 = s
    rw [hda, h3, ← hj, join_cons2 _ _ _ (by simp), join_cons2 _ _ _ (by simp), Lib.join_one]
    simp
  | b :: c :: d :: r, hj, h =>
    have d2 : decide ((a :: b :: c :: d :: r).length = 2) = false := decide_eq_false (by simp only [List.length_cons]; omega)
    have d3 : decide ((a :: b :: c :: d :: r).length = 3) = false := decide_eq_false (by simp only [List.length_cons]; omega)
    rw [d2, d3] at h
    cases h

theorem ReadTurnS_eq (s : Str) (h : s.length ≤ 1048576) : m_spec_ReadTurn s = some (bif (rdTs s).2 then ((rdTs s).1, true) else (zeroT, false)) := by
  unfold m_spec_ReadTurn
  rw [l24Read_eq s h, Option.bind_some]
  cases (rdTs s).2 <;> rfl

theorem readTurn_same (s : Str) : rdT s = bif (rdTs s).2 then ((rdTs s).1, true) else (zeroT, false) := by
  by_cases h : ∃ x, turnB x = true ∧ turnT x = s
  · obtain ⟨x, hx, rfl⟩ := h
    rw [rdT_some hx, rdTs_some hx]
    rfl
  · rw [rdT_none fun x hx e => h ⟨x, hx, e⟩]
    cases hb : (rdTs s).2
    · rfl
    · exact absurd ⟨_, rdTs_ok hb⟩ h

theorem eqPlay_self (p : Play) : m_laws_eqPlay p p = some true := by
  unfold m_laws_eqPlay
  simp only [bne_self_eq_false, cond_false]

theorem eqTurn_self (x : Turn) : m_laws_eqTurn x x = some true := by
  unfold m_laws_eqTurn
  simp only [bne_self_eq_false, cond_false, eqPlay_self, Option.bind_some, Bool.not_true]

theorem m_laws_FnExactReadTurn_true (s : Str) (h : Lies strRep s) : m_laws_FnExactReadTurn s = some true := by
  unfold m_laws_FnExactReadTurn
  by_cases hl : s.length ≤ 1048576
  · rw [decide_eq_false (by omega), cond_false, ReadTurnS_eq s hl, Option.bind_some, ReadTurn_eq s hl, Option.bind_some, readTurn_same, eqTurn_self]
    simp only [Option.bind_some, Bool.not_true, cond_false, bne_self_eq_false]
  · rw [decide_eq_true (by omega), cond_true]

end Go.Proofs.YtbekokenomhgeaaGreatDoor
