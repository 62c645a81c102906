/- FnSlots: the law's model is true for all bytes. -/
import Derived.Test.YtgmikhdealhlfaaGreatDoorPureV
import Derived.Test.YtgmikhdealhlfaaGreatDoorPureW
namespace Go.Proofs.YtgmikhdealhlfaaGreatDoor
open Go Go.RowKit
set_option linter.unusedSimpArgs false
set_option linter.unusedVariables false

theorem cand_good {g : Grid} {l : Lexicon} {k : Int} {v : List Str × Int} (hl : g.Cells.length ≤ 1000) (hx : LexOk 300 l.Words) (h : m_impl_CandidatesOf g l k = some v) (h0 : v.2 = 0) : ∀ w ∈ v.1, ∃ R C s, Good g k w R C s := by
  obtain ⟨x1, x2⟩ := hx
  have hno : ∀ {x : List Str} {c : Int}, c ≠ 0 → some (x, c) = some v → False := fun {x c} hc e => by
    cases Option.some.inj e
    exact hc h0
  unfold m_impl_CandidatesOf at h
  rw [ValidGrid_eq g (by omega), Option.bind_some] at h
  cases hg : gridB g
  · rw [hg] at h
    exact (hno (by decide) h).elim
  obtain ⟨R, C, e1, e2, h1, h2, h3, h4, h5, h6⟩ := gridB_iff.1 hg
  rw [hg, Bool.not_true, cond_false, ValidLexicon_eq l (by omega) (fun w hw => by have := x2 w hw; omega), Option.bind_some, Option.bind_some] at h
  cases hlex : lexB l
  · rw [hlex] at h
    exact (hno (by decide) h).elim
  obtain ⟨y1, y2, y3⟩ := lexB_all hlex
  rw [hlex, Bool.not_true, cond_false] at h
  rcases slotAt_cases g k e1 e2 h2 h4 h5 with hs | ⟨s, hk, hs⟩
  · rw [hs, Option.bind_some] at h
    exact (hno (by decide) h).elim
  rw [slotAt_good e1 e2 h2 h4 h5 hk hs, Option.bind_some] at h
  simp only [Bool.not_true, cond_false] at h
  obtain ⟨hi, he⟩ := List.getElem?_eq_some_iff.1 hs
  have hin : SlotIn R C s := by rw [← he]; exact slotsT_in (List.getElem_mem hi)
  rw [candidates_eq e2 h2 h4 h5 hin l hlex, Option.bind_some] at h
  cases Option.some.inj h
  intro w hw
  obtain ⟨hw1, hw2⟩ := List.mem_filter.1 hw
  obtain ⟨z1, z2, z3⟩ := y3 w hw1
  exact ⟨R, C, s, hg, e1, e2, h2, h4, h5, hk, hs, wordB_iff.2 ⟨z1, by omega, z3⟩, hw2⟩
theorem f6slots_self (a : List Slot) (h : a.length ≤ 1000000) : m_laws_f6slots a a = some true := by
  unfold m_laws_f6slots
  have hrun := loop_run (step := fun s : Int => m_laws_f6slots_l1 a a s) (fun i => (i : Int)) a.length (.inl () : Unit ⊕ Bool) (fun i hi => by
      unfold m_laws_f6slots_l1
      rw [decide_eq_true (by omega : (i : Int) < a.length), cond_true, getL_at hi, Option.bind_some, Option.bind_some, bne_self_eq_false, cond_false, chk_succ (by omega), Option.bind_some])
    (by unfold m_laws_f6slots_l1; rw [decide_eq_false (by omega)]; rfl) 0 (by omega)
  rw [show ((0 : Nat) : Int) = 0 from rfl] at hrun
  rw [bne_self_eq_false, cond_false, hrun]
  rfl
theorem f6same_self (a : List Str) (h : a.length ≤ 1000000) : m_laws_f6same a a = some true := by
  unfold m_laws_f6same
  have hrun := loop_run (step := fun s : Int => m_laws_f6same_l1 a a s) (fun i => (i : Int)) a.length (.inl () : Unit ⊕ Bool) (fun i hi => by
      unfold m_laws_f6same_l1
      rw [decide_eq_true (by omega : (i : Int) < a.length), cond_true, getL_at hi, Option.bind_some, Option.bind_some, bne_self_eq_false, cond_false, chk_succ (by omega), Option.bind_some])
    (by unfold m_laws_f6same_l1; rw [decide_eq_false (by omega)]; rfl) 0 (by omega)
  rw [show ((0 : Nat) : Int) = 0 from rfl] at hrun
  rw [bne_self_eq_false, cond_false, hrun]
  rfl
theorem wordsLoop (c : List Str × Int) (y : Grid × Lexicon × Int) (hc : c.1.length ≤ 1000) (hl : y.1.Cells.length ≤ 1000) (hgood : c.2 = 0 → ∀ w ∈ c.1, ∃ R C s, Good y.1 y.2.2 w R C s) : loopM (fun s : Int => m_laws_FnSlots_l1 c y s) 0 = some (.inl ()) := by
  by_cases h0 : c.2 = 0
  · have hrun := loop_run (step := fun s : Int => m_laws_FnSlots_l1 c y s) (fun i => (i : Int)) c.1.length (.inl () : Unit ⊕ Bool) (fun i hi => by
        obtain ⟨R, C, s, hg⟩ := hgood h0 _ (List.getElem_mem hi)
        unfold m_laws_FnSlots_l1
        rw [beq_iff_eq.2 h0, cond_true, Option.bind_some, decide_eq_true (by omega : (i : Int) < c.1.length), cond_true, getL_at hi, Option.bind_some, put_of_good hg, Option.bind_some]
        simp only
        rw [pattern_of_good hg, Option.bind_some]
        simp only [bne_self_eq_false, cond_false]
        rw [Option.bind_some, Option.bind_some, bne_self_eq_false, cond_false, chk_succ (by omega), Option.bind_some])
      (by unfold m_laws_FnSlots_l1; rw [beq_iff_eq.2 h0, cond_true, Option.bind_some, decide_eq_false (by omega)]; rfl) 0 (by omega)
    exact hrun
  · refine loopM_done ?_
    unfold m_laws_FnSlots_l1
    rw [beq_eq_false_iff_ne.2 h0]
    rfl
theorem m_laws_FnSlots_true (code : Str) (h : Lies (sliceRep byteRep) code) : m_laws_FnSlots code = some true := by
  unfold m_laws_FnSlots m_laws_f6big
  rw [Option.bind_some]
  cases decide (4096 < (code.length : Int))
  case true => rfl
  rw [cond_false]
  obtain ⟨⟨g, k, w⟩, d1, d2, d3⟩ := DrawPutWord_ok code
  simp only at d2 d3
  obtain ⟨p, p1, p2⟩ := PutWord_eq g k w (by omega) (by omega)
  obtain ⟨s1, s2, s3⟩ := SlotsOf_eq g (by omega)
  obtain ⟨q, q1, q2⟩ := PatternOf_eq g k (by omega)
  obtain ⟨t, t1, t2⟩ := DrawReadGrid_ok code
  obtain ⟨r, r1, r2⟩ := ReadGrid_both t (by omega)
  obtain ⟨⟨hh, l, at_⟩, c1, c2, c3⟩ := DrawCandidatesOf_ok code
  simp only at c2 c3
  obtain ⟨c, k1, k2, k3⟩ := CandidatesOf_eq hh l at_ (by omega) (by have := c3.1; omega) (fun w hw => by have := c3.2 w hw; omega)
  have hloop := wordsLoop c (hh, l, at_) k3 (by show hh.Cells.length ≤ 1000; omega) (fun h0 => cand_good (g := hh) (by omega) c3 k1 h0)
  rw [d1, Option.bind_some]
  simp only
  rw [p1, Option.bind_some, p2, Option.bind_some, s1, Option.bind_some, s2, Option.bind_some, q1, Option.bind_some, q2, Option.bind_some, GridText_eq g (by omega), Option.bind_some]
  -- the grid read back from its text
  have hback : ∃ b : Grid × Bool, m_impl_ReadGrid (gridT g) = some b ∧ (b.2 != (gridT g != ([] : Str))) = false ∧ (b.2 = true → b.1 = g) := by
    cases hg : gridB g
    · have e : gridT g = [] := by unfold gridT; rw [hg]; rfl
      rw [e]
      exact ⟨_, readNothing, rfl, fun h => by cases h⟩
    · obtain ⟨b1, b2⟩ := readBack g hg
      exact ⟨_, b1, by rw [b2]; rfl, fun _ => rfl⟩
  obtain ⟨b, b1, b2, b3⟩ := hback
  rw [b1, Option.bind_some, t1, Option.bind_some, r1, Option.bind_some, r2, Option.bind_some, c1, Option.bind_some]
  simp only
  rw [k1, Option.bind_some, k2, Option.bind_some]
  rw [f6slots_self _ (by omega), GridTextS_eq g (by omega), f6same_self _ (by omega), hloop]
  simp only [bne_self_eq_false, cond_false, Option.bind_some, Bool.not_true, b2]
  have hlast : (bif p.2 != 0 then some true else (m_impl_PatternOf p.1 k).bind fun y386 => (bif y386.2 == 0 then some (y386.1 == w) else some false : Option Bool).bind fun g393 => some g393) = some true := by
    by_cases h0 : p.2 = 0
    · obtain ⟨R, C, s, hgood, rfl⟩ := good_of_put (by omega) (by omega) p1 h0
      simp only [bne_self_eq_false, cond_false]
      rw [pattern_of_good hgood, Option.bind_some]
      simp
    · rw [bne_iff_ne.2 h0]
      rfl
  cases hb : b.2
  · simp only [cond_false, Option.bind_some]
    exact hlast
  · rw [b3 hb]
    simp only [cond_true, bne_self_eq_false, cond_false, Option.bind_some]
    exact hlast

end Go.Proofs.YtgmikhdealhlfaaGreatDoor
