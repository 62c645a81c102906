/- FnFillings: the law's model is true for all bytes. -/
import Derived.Test.YtgmikhdealhlfaaPureFg
import Derived.Test.YtgmikhdealhlfaaPureWl
import Derived.Test.YtgmikhdealhlfaaIsFilledPure
namespace Go.Proofs.Ytgmikhdealhlfaa
open Go Go.RowKit
set_option linter.unusedSimpArgs false
set_option linter.unusedVariables false

theorem DrawFillGrid_ok (code : Str) : ∃ v : Grid × Lexicon, m_spec_DrawFillGrid code = some v ∧ v.1.Cells.length ≤ 100 ∧ LexOk 300 v.2.Words := by
  obtain ⟨e0, h0⟩ := from_ok code
  obtain ⟨g, s1, e1, hg, h1⟩ := l25Bent_ok h0 (by omega)
  obtain ⟨l, s2, e2, hl, h2⟩ := l25Lexicon_ok h1 (by omega)
  unfold m_spec_DrawFillGrid m_spec_l25Both
  rw [e0, Option.bind_some, e1, Option.bind_some]
  simp only
  rw [e2, Option.bind_some, Option.bind_some]
  exact ⟨_, rfl, hg, hl⟩

section
variable {g : Grid} {l : Lexicon} (hl : g.Cells.length ≤ 8000000000000000000) (hn : l.Words.length ≤ 1048576) (hw : ∀ w ∈ l.Words, w.length ≤ 1048576)
include hl hn hw

theorem fill_bad (h : (gridB g && lexB l) = false) : m_impl_FillGrid g l = some ((⟨0, 0, ([] : Str)⟩ : Grid), 1) ∧ m_impl_CountFillings g l = some (0, 1) := by
  have hw' : ∀ w ∈ l.Words, w.length ≤ 8000000000000000000 := fun w h => by have := hw w h; omega
  unfold m_impl_FillGrid m_impl_CountFillings
  rw [ValidGrid_eq g hl, ValidLexicon_eq l (by omega) hw']
  cases hg : gridB g
  · exact ⟨rfl, rfl⟩
  · rw [hg, Bool.true_and] at h
    rw [h]
    exact ⟨rfl, rfl⟩

theorem FillGrid_val {R C : Nat} (hg : gridB g = true) (e1 : g.Rows = R) (e2 : g.Cols = C) (hR : R ≤ 5) (hC : C ≤ 5) (h5 : g.Cells.length = R * C) (hlex : lexB l = true) : m_impl_FillGrid g l = some (match allFill R C g l with | [] => ((⟨0, 0, []⟩ : Grid), 3) | x :: _ => (x, 0)) := by
  have hw' : ∀ w ∈ l.Words, w.length ≤ 8000000000000000000 := fun w h => by have := hw w h; omega
  unfold m_impl_FillGrid
  rw [ValidGrid_eq g hl, hg, Option.bind_some, Bool.not_true, cond_false, ValidLexicon_eq l (by omega) hw', hlex, Option.bind_some, Option.bind_some, Bool.not_true, cond_false, first_eq hg e1 e2 hR hC h5 hlex, Option.bind_some]
  cases allFill R C g l <;> rfl

theorem Count_val {R C : Nat} (hg : gridB g = true) (e1 : g.Rows = R) (e2 : g.Cols = C) (hR : R ≤ 5) (hC : C ≤ 5) (h5 : g.Cells.length = R * C) (hlex : lexB l = true) : m_impl_CountFillings g l = some (bif decide ((allFill R C g l).length ≤ 500) then (((allFill R C g l).length : Int), 0) else (0, 5)) := by
  have hw' : ∀ w ∈ l.Words, w.length ≤ 8000000000000000000 := fun w h => by have := hw w h; omega
  have hv := visit_count (allFill R C g l) 0 (by omega)
  rw [show ((0 : Nat) : Int) = 0 from rfl] at hv
  have hI := fillI_eq hg e1 e2 hR hC h5 hlex yvCount _ _ hv
  unfold m_impl_CountFillings
  rw [ValidGrid_eq g hl, hg, Option.bind_some, Bool.not_true, cond_false, ValidLexicon_eq l (by omega) hw', hlex, Option.bind_some, Bool.not_true, cond_false, slotsI_eq e1 e2 hR hC h5, Option.bind_some, hI, Option.bind_some, Nat.zero_add]
  by_cases hc : (allFill R C g l).length ≤ 500
  · rw [decide_eq_true hc, cond_true, cond_true]
    simp only [cond_false]
    rw [chk_nat (by omega)]
    rfl
  · rw [decide_eq_false hc]
    rfl

theorem TurnGrid_val {R C : Nat} (hg : gridB g = true) (e1 : g.Rows = R) (e2 : g.Cols = C) (hR : R ≤ 5) (hC : C ≤ 5) (h5 : g.Cells.length = R * C) : m_impl_TurnGrid g = some (turnGr R C g, 0) := by
  have _ := hn
  have _ := hw
  unfold m_impl_TurnGrid
  rw [ValidGrid_eq g hl, hg, Option.bind_some, Bool.not_true, cond_false, turnedI_eq e1 e2 hR hC h5, Option.bind_some]
  rfl

theorem has_mem (hlex : lexB l = true) {t : Str} (ht : t ∈ l.Words) : m_impl_Lexicon_has l t = some true := by
  have _ := hl
  have _ := hw
  obtain ⟨x1, x2, x3⟩ := lexB_all hlex
  obtain ⟨n, hN, hb⟩ := binary_eq l.Words t (by omega) x2
  obtain ⟨j, hj, e⟩ := List.getElem_of_mem ht
  have hgj : l.Words.getD j [] = t := by rw [List.getD_eq_getElem?_getD, List.getElem?_eq_getElem hj, e]; rfl
  have h1 : n ≤ j := by
    rcases Nat.lt_or_ge j n with h | h
    · have := hN.2.1 j h
      rw [hgj, ltS_irrefl] at this
      cases this
    · exact h
  have h2 : n = j := by
    rcases Nat.lt_or_ge n j with h | h
    · have h3 := riseB_lt x2 j n h hj
      rw [hgj, hN.2.2 (by omega)] at h3
      cases h3
    · omega
  subst h2
  unfold m_impl_Lexicon_has
  rw [hb, hgj, decide_eq_true hj]
  simp

theorem IsFilled_val {R C : Nat} (hg : gridB g = true) (e1 : g.Rows = R) (e2 : g.Cols = C) (hR : R ≤ 5) (hC : C ≤ 5) (h5 : g.Cells.length = R * C) (hlex : lexB l = true) (hall : ∀ s ∈ slotsT g.Cells R C, patT g.Cells C s ∈ l.Words) : m_impl_IsFilled g l = some true := by
  have hw' : ∀ w ∈ l.Words, w.length ≤ 8000000000000000000 := fun w h => by have := hw w h; omega
  have hlen := slotsT_len hR hC g.Cells
  have hrun := loop_run (step := fun i : Int => m_impl_IsFilled_l1 (slotsT g.Cells R C) g l i) (fun i => (i : Int)) (slotsT g.Cells R C).length (Sum.inl () : Unit ⊕ Bool) (fun i hi => by
      show m_impl_IsFilled_l1 (slotsT g.Cells R C) g l (i : Int) = _
      unfold m_impl_IsFilled_l1
      rw [decide_eq_true (by omega : (i : Int) < (slotsT g.Cells R C).length), cond_true, getL_at hi, Option.bind_some, pattern_eq e2 hR hC h5 (slotsT_in (List.getElem_mem hi)), Option.bind_some, has_mem hl hn hw hlex (hall _ (List.getElem_mem hi)), Option.bind_some, Bool.not_true, cond_false, chk_succ (by omega)]
      rfl)
    (by
      show m_impl_IsFilled_l1 (slotsT g.Cells R C) g l ((slotsT g.Cells R C).length : Int) = _
      unfold m_impl_IsFilled_l1
      rw [decide_eq_false (by omega)]
      rfl) 0 (Nat.zero_le _)
  rw [show ((0 : Nat) : Int) = 0 from rfl] at hrun
  unfold m_impl_IsFilled
  rw [ValidGrid_eq g hl, hg, Option.bind_some, Bool.not_true, cond_false, ValidLexicon_eq l (by omega) hw', hlex, Option.bind_some, Option.bind_some, Bool.not_true, cond_false, slotsI_eq e1 e2 hR hC h5, Option.bind_some, hrun]
  rfl
end

theorem kept_loop {g x : Grid} {l : Lexicon} (hlen : x.Cells.length = g.Cells.length) (hsm : g.Cells.length ≤ 1000) (h : RefT g.Cells x.Cells) : loopM (fun s : Int => m_laws_FnFillings_l1 (g, l) (x, 0) s) 0 = some (Sum.inl () : Unit ⊕ Bool) := by
  have hrun := loop_run (step := fun s : Int => m_laws_FnFillings_l1 (g, l) (x, 0) s) (fun i => (i : Int)) g.Cells.length (Sum.inl () : Unit ⊕ Bool) (fun i hi => by
      show m_laws_FnFillings_l1 (g, l) (x, 0) (i : Int) = _
      unfold m_laws_FnFillings_l1
      rw [decide_eq_true (show (i : Int) < (g.Cells.length : Int) by omega), cond_true, show getL (g, l).1.Cells (i : Int) = some g.Cells[i] from getL_at hi, Option.bind_some, show getL (x, (0 : Int)).1.Cells (i : Int) = some x.Cells[i] from getL_at (xs := x.Cells) (by omega)]
      by_cases hd : g.Cells[i] = 46
      · rw [hd, bne_self_eq_false, cond_false, Option.bind_some, cond_false, chk_succ (by omega)]
        rfl
      · have := h i (by rw [List.getD_eq_getElem?_getD, List.getElem?_eq_getElem hi]; exact hd)
        rw [List.getD_eq_getElem?_getD, List.getD_eq_getElem?_getD, List.getElem?_eq_getElem hi, List.getElem?_eq_getElem (by omega)] at this
        replace this : x.Cells[i] = g.Cells[i] := this
        rw [show (g.Cells[i] != 46) = true from bne_iff_ne.2 hd, cond_true, Option.bind_some, Option.bind_some, this, bne_self_eq_false, Option.bind_some, cond_false, chk_succ (by omega)]
        rfl)
    (by
      show m_laws_FnFillings_l1 (g, l) (x, 0) (g.Cells.length : Int) = _
      unfold m_laws_FnFillings_l1
      rw [decide_eq_false (show ¬ (g.Cells.length : Int) < (g.Cells.length : Int) by omega)]
      rfl) 0 (Nat.zero_le _)
  exact hrun

theorem m_laws_FnFillings_true (code : Str) (h : Lies (sliceRep byteRep) code) : m_laws_FnFillings code = some true := by
  unfold m_laws_FnFillings m_laws_f6big
  rw [Option.bind_some]
  cases decide (4096 < (code.length : Int))
  · obtain ⟨⟨g, l⟩, e, hg, hl⟩ := DrawFillGrid_ok code
    replace hg : g.Cells.length ≤ 100 := hg
    replace hl : LexOk 300 l.Words := hl
    have hn : l.Words.length ≤ 1048576 := by have := hl.1; omega
    have hw : ∀ w ∈ l.Words, w.length ≤ 1048576 := fun w h => by have := hl.2 w h; omega
    rw [cond_false, e, Option.bind_some]
    simp only
    obtain ⟨v, v1, v2⟩ := FillGrid_eq g l (by omega) hn hw
    obtain ⟨u, u1, u2⟩ := CountFillings_eq g l (by omega) hn hw
    obtain ⟨b, b1, b2⟩ := IsFilled_eq g l (by omega) hn hw
    rw [v1, Option.bind_some, v2, Option.bind_some, u1, Option.bind_some, u2, Option.bind_some, bne_self_eq_false, cond_false, bne_self_eq_false, cond_false, bne_self_eq_false, cond_false, bne_self_eq_false, cond_false, ValidGrid_eq g (by omega), Option.bind_some, show m_spec_ValidGrid g = some (gridB g) from by unfold m_spec_ValidGrid; rw [l25Ok_eq g (by omega)]; rfl, Option.bind_some, bne_self_eq_false, cond_false, b1, Option.bind_some, b2, Option.bind_some, bne_self_eq_false, Option.bind_some, cond_false]
    cases hv : gridB g && lexB l
    · obtain ⟨f1, f2⟩ := fill_bad (g := g) (l := l) (by omega) hn hw hv
      obtain rfl := Option.some.inj (v1.symm.trans f1)
      obtain rfl := Option.some.inj (u1.symm.trans f2)
      rfl
    · rw [Bool.and_eq_true] at hv
      obtain ⟨hgb, hlex⟩ := hv
      obtain ⟨R, C, e1, e2, h1, h2, h3, h4, h5, h6⟩ := gridB_iff.1 hgb
      have hS : ShapeT R C (slotsT g.Cells R C) g := ⟨hgb, e1, e2, h5, rfl⟩
      have f1 := FillGrid_val (g := g) (l := l) (by omega) hn hw hgb e1 e2 h2 h4 h5 hlex
      have f2 := Count_val (g := g) (l := l) (by omega) hn hw hgb e1 e2 h2 h4 h5 hlex
      have hT := TurnGrid_val (g := g) (l := l) (by omega) hn hw hgb e1 e2 h2 h4 h5
      have f3 := Count_val (g := turnGr R C g) (l := l) (by show (turnT g.Cells R C C).length ≤ _; rw [turnT_len, Nat.mul_comm, ← h5]; omega) hn hw (turn_grid hgb e1 e2 h5) rfl rfl h4 h2 (turnT_len _ _ _ _) hlex
      rw [fill_len h2 h4 hlex hS] at f3
      obtain rfl := Option.some.inj (v1.symm.trans f1)
      obtain rfl := Option.some.inj (u1.symm.trans f2)
      cases hA : allFill R C g l with
      | nil => rfl
      | cons x xs =>
        have hx : x ∈ allFill R C g l := by rw [hA]; exact List.mem_cons_self
        obtain ⟨q1, q2, q3, q4, q5⟩ := (allFill_mem h2 h4 hlex hS).1 hx
        obtain ⟨ys, hys⟩ := fill_self h2 h4 hlex hS hx
        have hxl : x.Cells.length = g.Cells.length := by rw [q1.2.2.2.1, h5]
        have f4 := FillGrid_val (g := x) (l := l) (by omega) hn hw q1.1 q1.2.1 q1.2.2.1 h2 h4 q1.2.2.2.1 hlex
        rw [hys] at f4
        have f5 := IsFilled_val (g := x) (l := l) (by omega) hn hw q1.1 q1.2.1 q1.2.2.1 h2 h4 q1.2.2.2.1 hlex (fun s hs => q4 s (q1.2.2.2.2 ▸ hs))
        have hk := kept_loop (l := l) hxl (by omega) q3
        rw [hA] at f3
        simp only
        rw [hk, hT]
        simp only [Option.bind_some]
        rw [f3, f4, f5]
        by_cases hc : (x :: xs).length ≤ 500
        · rw [decide_eq_true hc]
          have hpos : decide ((0 : Int) < ((x :: xs).length : Int)) = true := decide_eq_true (by rw [List.length_cons]; omega)
          simp [hpos]
        · rw [decide_eq_false hc]
          simp
  · rfl

end Go.Proofs.Ytgmikhdealhlfaa
