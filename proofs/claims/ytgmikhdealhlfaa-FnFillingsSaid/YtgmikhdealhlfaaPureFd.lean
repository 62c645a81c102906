/- Fillings of grids: the reference's search; both sides agree. -/
import Derived.Test.YtgmikhdealhlfaaPureFc
namespace Go.Proofs.Ytgmikhdealhlfaa
open Go Go.RowKit
set_option linter.unusedSimpArgs false
set_option linter.unusedVariables false

theorem freeS_eq (p : Str) (hl : p.length ≤ 1000) : m_spec_l25Free p = some (p.any (· == 46)) := by
  unfold m_spec_l25Free
  rw [loop_find (· == (46 : UInt8)) p (fun _ => (.inr true : Unit ⊕ Bool)) (.inl ()) (fun i hi => by
      unfold m_spec_l25Free_l1
      rw [decide_eq_true (by omega : (i : Int) < p.length), cond_true, getL_at hi, Option.bind_some, chk_succ (i := i) (by omega)]
      cases p[i] == 46 <;> rfl)
    (by unfold m_spec_l25Free_l1; rw [decide_eq_false (by omega)]; rfl), Option.bind_some]
  have hc := idxI_cases (· == (46 : UInt8)) p
  unfold idxI at hc
  cases hf : p.findIdx? (· == (46 : UInt8)) with
  | none =>
    rw [hf] at hc
    rcases hc with ⟨_, _, e⟩ | ⟨i', e, _⟩
    · rw [e]; rfl
    · simp only at e; omega
  | some j =>
    rw [hf] at hc
    rcases hc with ⟨e, _⟩ | ⟨i', _, _, _, _, e⟩
    · simp only at e; omega
    · rw [e]; rfl
section
variable {R C : Nat} (hR : R ≤ 5) (hC : C ≤ 5) {sl : List Slot} {l : Lexicon} (hlex : lexB l = true)
include hR hC hlex
theorem progF_shape : ∀ (rest : List Slot) (g : Grid), ShapeT R C sl g → (∀ s ∈ rest, s ∈ sl) → ∀ x ∈ progF sl (candT l.Words C) putT rest g, ShapeT R C sl x
  | [], g, hg, _, x, hx => by
    rw [progF, List.mem_singleton] at hx
    rw [hx]; exact hg
  | s :: rest, g, hg, hs, x, hx => by
    rw [progF, List.mem_flatMap] at hx
    obtain ⟨w, hw, hx⟩ := hx
    split at hx
    · cases hx
    · exact progF_shape rest _ (put_shape hR hC (lex_ok hlex) hg (hs s List.mem_cons_self) hw).1 (fun y hy => hs y (List.mem_cons_of_mem _ hy)) x hx
theorem dead_eq {g : Grid} (hg : ShapeT R C sl g) (hsl : sl.length ≤ 50) (most : Int) (out : List Grid) : m_spec_l25Search_dead ⟨l.Words, sl, most, out⟩ g = some (idxI (deadT l C g) sl) := by
  obtain ⟨h1, h2, h3⟩ := lexB_all hlex
  unfold m_spec_l25Search_dead idxI
  rw [loop_find (deadT l C g) sl (fun i => (.inr (i : Int) : Unit ⊕ Int)) (.inl ()) (fun i hi => by
      have hin := shape_slot hg (List.getElem_mem hi)
      have hwd : m_spec_l25Words g l.Words sl[i] = some (candT l.Words C g sl[i]) := wordsS_eq hg.2.2.1 hR hC hg.2.2.2.1 hin l.Words (by omega) (fun w hw => by have := h3 w hw; omega)
      unfold m_spec_l25Search_dead_l1
      rw [decide_eq_true (by omega : (i : Int) < sl.length), cond_true, getL_at hi, Option.bind_some]
      show Option.bind (m_spec_l25Words g l.Words sl[i]) _ = _
      rw [hwd, Option.bind_some, chk_succ (i := i) (by omega)]
      unfold deadT
      cases candT l.Words C g sl[i] with
      | nil => rfl
      | cons a b =>
        rw [beq_eq_false_iff_ne.2 (by simp; omega)]
        rfl)
    (by unfold m_spec_l25Search_dead_l1; rw [decide_eq_false (by simp)]; rfl), Option.bind_some]
  cases sl.findIdx? (deadT l C g) <;> rfl
theorem open_eq {g : Grid} (hg : ShapeT R C sl g) (hsl : sl.length ≤ 50) (most : Int) (out : List Grid) : m_spec_l25Search_open ⟨l.Words, sl, most, out⟩ g = some (idxI (freeT C g) sl) := by
  have _ := hlex
  unfold m_spec_l25Search_open idxI
  rw [loop_find (freeT C g) sl (fun i => (.inr (i : Int) : Unit ⊕ Int)) (.inl ()) (fun i hi => by
      have hin := shape_slot hg (List.getElem_mem hi)
      have hpl := patT_len g.Cells hin hR hC
      have hpat : m_spec_l25Pattern g sl[i] = some (patT g.Cells C sl[i]) := by rw [patternS_rfl]; exact pattern_eq hg.2.2.1 hR hC hg.2.2.2.1 hin
      unfold m_spec_l25Search_open_l1
      rw [decide_eq_true (by omega : (i : Int) < sl.length), cond_true, getL_at hi, Option.bind_some, hpat, Option.bind_some, freeS_eq _ (by omega), Option.bind_some, chk_succ (i := i) (by omega)]
      unfold freeT
      cases (patT g.Cells C sl[i]).any (· == 46) <;> rfl)
    (by unfold m_spec_l25Search_open_l1; rw [decide_eq_false (by simp)]; rfl), Option.bind_some]
  cases sl.findIdx? (freeT C g) <;> rfl
def freeN (C : Nat) (sl : List Slot) (g : Grid) : Nat := sl.countP (freeT C g)
theorem freeN_less {g : Grid} (hg : ShapeT R C sl g) {s : Slot} (hs : s ∈ sl) (hf : freeT C g s = true) {w : Str} (hw : w ∈ candT l.Words C g s) : freeN C sl (putT g s w) < freeN C sl g := by
  have H := search_grid (sl := sl) hR hC (lex_ok hlex)
  refine countP_lt (fun x hx hq => ?_) ⟨s, hs, hf, H.filled g s w hg hs hw⟩
  cases hfx : freeT C g x
  · rw [H.stay g s w x hg hs hx hw hfx] at hq
    cases hq
  · rfl
theorem run_eq (hsl : sl.length ≤ 50) (most : Nat) (hmost : most ≤ 1000) : ∀ (n : Nat) (g : Grid) (out : List Grid), freeN C sl g < n → ShapeT R C sl g → out.length < most → m_spec_l25Search_run_n n ⟨l.Words, sl, (most : Int), out⟩ g = some ⟨l.Words, sl, (most : Int), (out ++ specF sl (candT l.Words C) putT (freeT C) n g).take most⟩ := by
  intro n
  induction n with
  | zero => intro g out h; omega
  | succ n ih =>
    intro g out hn hg ho
    obtain ⟨l1, l2, l3⟩ := lexB_all hlex
    have hws := lex_ok hlex
    show m_spec_l25Search_run_b (m_spec_l25Search_run_n n) ⟨l.Words, sl, (most : Int), out⟩ g = _
    unfold m_spec_l25Search_run_b
    rw [dead_eq hR hC hlex hg hsl, Option.bind_some]
    have hdead : deadF sl (candT l.Words C) g = sl.any (deadT l C g) := rfl
    rcases idxI_cases (deadT l C g) sl with ⟨e, _, hd⟩ | ⟨i, e, hi, _, _, hd⟩
    case inr =>
      rw [e, decide_eq_true (by omega), cond_true, specF_dead _ _ _ _ (by rw [hdead, hd]), List.append_nil, List.take_of_length_le (by omega)]
    rw [e, decide_eq_false (by omega), cond_false, open_eq hR hC hlex hg hsl, Option.bind_some, specF, hdead, hd, if_neg (by decide)]
    rcases idxI_cases (freeT C g) sl with ⟨e, hf, _⟩ | ⟨i, e, hi, hfr, hf, _⟩
    · rw [e, decide_eq_true (by omega), cond_true, hf]
      show Option.bind (catL out [g]) _ = _
      rw [catL_of (by simp; omega), Option.bind_some, List.take_of_length_le (by simp; omega)]
    · rw [e, decide_eq_false (by omega), cond_false, hf]
      have hin := shape_slot hg (List.getElem_mem hi)
      have hlen := cand_le (C := C) (l := l) g sl[i]
      have hwd : m_spec_l25Words g l.Words sl[i] = some (candT l.Words C g sl[i]) := wordsS_eq hg.2.2.1 hR hC hg.2.2.2.1 hin l.Words (by omega) (fun w hw => by have := l3 w hw; omega)
      show Option.bind (getL sl (i : Int)) _ = _
      rw [getL_at hi, Option.bind_some]
      show Option.bind (m_spec_l25Words g l.Words sl[i]) _ = _
      rw [hwd, Option.bind_some]
      have key : ∀ (d j : Nat) (out : List Grid), j + d = (candT l.Words C g sl[i]).length → out.length ≤ most →
          loopM (fun s : (List Str) × (List Slot) × Int × (List Grid) × Int => m_spec_l25Search_run_l1 (candT l.Words C g sl[i]) (i : Int) g (m_spec_l25Search_run_n n) s.1 s.2.1 s.2.2.1 s.2.2.2.1 s.2.2.2.2) (l.Words, sl, (most : Int), out, (j : Int)) =
            some (l.Words, sl, (most : Int), (out ++ ((candT l.Words C g sl[i]).drop j).flatMap fun w => specF sl (candT l.Words C) putT (freeT C) n (putT g sl[i] w)).take most) := by
        intro d
        induction d with
        | zero =>
          intro j out hj ho
          rw [List.drop_eq_nil_of_le (by omega), List.flatMap_nil, List.append_nil, List.take_of_length_le ho]
          refine loopM_done ?_
          show m_spec_l25Search_run_l1 (candT l.Words C g sl[i]) (i : Int) g (m_spec_l25Search_run_n n) l.Words sl (most : Int) out (j : Int) = _
          unfold m_spec_l25Search_run_l1
          rw [decide_eq_false (by omega)]
          rfl
        | succ d ihd =>
          intro j out hj ho
          have hj' : j < (candT l.Words C g sl[i]).length := by omega
          by_cases hfull : out.length < most
          · have hw := List.getElem_mem hj'
            obtain ⟨hm, hfit⟩ := List.mem_filter.1 hw
            obtain ⟨hshape, _⟩ := put_shape hR hC hws hg (List.getElem_mem hi) hw
            obtain ⟨_, nn, hn1, hn2⟩ := put_ref hR hC hws hg (List.getElem_mem hi) hw
            have hput : m_spec_l25Put g sl[i] (candT l.Words C g sl[i])[j] = some (putT g sl[i] (candT l.Words C g sl[i])[j]) := putS_eq hg.2.2.1 hR hC hg.2.2.2.1 hin (by rw [hn1, hn2])
            have hless := freeN_less hR hC hlex hg (List.getElem_mem hi) hfr hw
            have hrec := ih _ out (by omega) hshape hfull
            rw [List.drop_eq_getElem_cons hj', List.flatMap_cons, ← List.append_assoc, ← take_take_append]
            rw [← ihd (j + 1) _ (by omega) (by rw [List.length_take]; omega)]
            refine loopM_next ?_
            show m_spec_l25Search_run_l1 (candT l.Words C g sl[i]) (i : Int) g (m_spec_l25Search_run_n n) l.Words sl (most : Int) out (j : Int) = _
            unfold m_spec_l25Search_run_l1
            rw [decide_eq_true (by omega), cond_true, decide_eq_true (by omega), Option.bind_some, cond_true, getL_at hi, Option.bind_some, getL_at hj', Option.bind_some, hput, Option.bind_some, hrec, Option.bind_some, chk_succ (i := j) (by omega), Option.bind_some]
          · have hle : most ≤ out.length := by omega
            rw [List.take_append_of_le_length hle, List.take_of_length_le ho]
            refine loopM_done ?_
            show m_spec_l25Search_run_l1 (candT l.Words C g sl[i]) (i : Int) g (m_spec_l25Search_run_n n) l.Words sl (most : Int) out (j : Int) = _
            unfold m_spec_l25Search_run_l1
            rw [decide_eq_true (by omega), cond_true, decide_eq_false (by omega), Option.bind_some, cond_false]
      have hk := key (candT l.Words C g sl[i]).length 0 out (by omega) (by omega)
      rw [show ((0 : Nat) : Int) = 0 from rfl, List.drop_zero] at hk
      show Option.bind (loopM (fun s : (List Str) × (List Slot) × Int × (List Grid) × Int => m_spec_l25Search_run_l1 (candT l.Words C g sl[i]) (i : Int) g (m_spec_l25Search_run_n n) s.1 s.2.1 s.2.2.1 s.2.2.2.1 s.2.2.2.2) (l.Words, sl, (most : Int), out, 0)) _ = _
      rw [hk, Option.bind_some]
end

/-! ### Both sides -/
/-- All fillings, in order. -/
def allFill (R C : Nat) (g : Grid) (l : Lexicon) : List Grid := progF (slotsT g.Cells R C) (candT l.Words C) putT (slotsT g.Cells R C) g
section
variable {g : Grid} {R C : Nat} (hg : gridB g = true) (e1 : g.Rows = R) (e2 : g.Cols = C) (hR : R ≤ 5) (hC : C ≤ 5) (h5 : g.Cells.length = R * C) {l : Lexicon} (hlex : lexB l = true)
include hg e1 e2 hR hC h5 hlex
theorem fillS_eq (most : Nat) (h0 : 1 ≤ most) (hmost : most ≤ 1000) : m_spec_l25Fill g l.Words (most : Int) = some ((allFill R C g l).take most) := by
  have hsl := slotsT_len hR hC g.Cells
  have hshape : ShapeT R C (slotsT g.Cells R C) g := ⟨hg, e1, e2, h5, rfl⟩
  have hroot := root_eq (search_grid (sl := slotsT g.Cells R C) hR hC (lex_ok hlex)) g fuelN hshape (by unfold fuelN; omega)
  have hcp : freeN C (slotsT g.Cells R C) g ≤ (slotsT g.Cells R C).length := List.countP_le_length
  unfold m_spec_l25Fill m_spec_l25Search_run
  rw [slotsS_eq e1 e2 hR hC h5, Option.bind_some, run_eq hR hC hlex hsl most hmost fuelN g [] (by unfold fuelN; omega) hshape (by simp; omega), Option.bind_some, List.nil_append, hroot]
  rfl
theorem fillI_eq {σ : Type} (yv : Grid → σ → Option (Bool × σ)) (s : σ) (r : Bool × σ) (h : visitL yv (allFill R C g l) s = some r) : m_impl_Grid_fillings_1 (slotsT g.Cells R C) l g yv s = some r.2 := by
  have hsl := slotsT_len hR hC g.Cells
  have hshape : ShapeT R C (slotsT g.Cells R C) g := ⟨hg, e1, e2, h5, rfl⟩
  have := fill_eq hR hC hlex yv hsl (slotsT g.Cells R C) [] g fuelN s r rfl hshape (by unfold fuelN; omega) h
  unfold m_impl_Grid_fillings_1 m_impl_Grid_fillings_1_1
  rw [List.length_nil, show ((0 : Nat) : Int) = 0 from rfl] at this
  rw [this, Option.bind_some]
theorem allFill_shape : ∀ x ∈ allFill R C g l, ShapeT R C (slotsT g.Cells R C) x := progF_shape hR hC hlex _ g ⟨hg, e1, e2, h5, rfl⟩ (fun _ h => h)
end
theorem visit_first (xs : List Grid) : visitL yvFirst xs none = some (match xs with | [] => (true, none) | x :: _ => (false, some x)) := by
  cases xs <;> rfl
theorem visit_count : ∀ (xs : List Grid) (n : Nat), n ≤ 500 → visitL yvCount xs ((n : Int), false) = some (bif decide (n + xs.length ≤ 500) then (true, ((n + xs.length : Nat) : Int), false) else (false, 501, true))
  | [], n, h => by
    rw [List.length_nil, Nat.add_zero, decide_eq_true h]
    rfl
  | x :: xs, n, h => by
    rw [visitL]
    unfold yvCount
    rw [cond_false]
    simp only
    rw [chk_succ (i := n) (by omega), Option.bind_some, Option.bind_some]
    by_cases h5 : n + 1 ≤ 500
    · rw [decide_eq_false (by omega), cond_false]
      have ih := visit_count xs (n + 1) h5
      rw [List.length_cons, show n + (xs.length + 1) = n + 1 + xs.length by omega, ← ih]
      rfl
    · obtain rfl : n = 500 := by omega
      rw [decide_eq_true (by decide), cond_true, List.length_cons, decide_eq_false (by omega)]
      rfl

theorem first_eq {g : Grid} {R C : Nat} (hg : gridB g = true) (e1 : g.Rows = R) (e2 : g.Cols = C) (hR : R ≤ 5) (hC : C ≤ 5) (h5 : g.Cells.length = R * C) {l : Lexicon} (hlex : lexB l = true) : m_impl_Grid_first g l = some (match allFill R C g l with | [] => ((⟨0, 0, []⟩ : Grid), false) | x :: _ => (x, true)) := by
  have hf := fillI_eq hg e1 e2 hR hC h5 hlex yvFirst none _ (visit_first _)
  have hsh := allFill_shape hg e1 e2 hR hC h5 hlex
  unfold m_impl_Grid_first
  rw [slotsI_eq e1 e2 hR hC h5, Option.bind_some, hf, Option.bind_some]
  cases hx : allFill R C g l with
  | nil => rfl
  | cons x xs =>
    obtain ⟨x1, x2, x3, x4, x5⟩ := hsh x (by rw [hx]; exact List.mem_cons_self)
    have hm : R * C ≤ 25 := Nat.mul_le_mul hR hC
    have k1 : r64 x.Rows = true := r64_iff.2 ⟨by omega, by omega⟩
    have k2 : r64 x.Cols = true := r64_iff.2 ⟨by omega, by omega⟩
    have k3 : decide (x.Cells.length ≤ lim) = true := decide_eq_true (by unfold lim; omega)
    simp only [k1, k2, k3]
    rfl

theorem FillGrid_eq (g : Grid) (l : Lexicon) (hl : g.Cells.length ≤ 8000000000000000000) (hn : l.Words.length ≤ 1048576) (hw : ∀ w ∈ l.Words, w.length ≤ 1048576) : ∃ v : Grid × Int, m_impl_FillGrid g l = some v ∧ m_spec_FillGrid g l = some v := by
  unfold m_impl_FillGrid m_spec_FillGrid
  have hw' : ∀ w ∈ l.Words, w.length ≤ 8000000000000000000 := fun w h => by have := hw w h; omega
  rw [ValidGrid_eq g hl, l25Ok_eq g hl, ValidLexicon_eq l (by omega) hw', l05Ok_eq l (by omega) hw']
  cases hg : gridB g
  · cases lexB l <;> exact ⟨_, rfl, rfl⟩
  cases hx : lexB l
  · exact ⟨_, rfl, rfl⟩
  obtain ⟨R, C, e1, e2, h1, h2, h3, h4, h5, h6⟩ := gridB_iff.1 hg
  have hS := fillS_eq hg e1 e2 h2 h4 h5 hx 1 (by omega) (by omega)
  rw [show ((1 : Nat) : Int) = 1 from rfl] at hS
  rw [first_eq hg e1 e2 h2 h4 h5 hx, hS]
  cases allFill R C g l with
  | nil => exact ⟨_, rfl, rfl⟩
  | cons x xs => exact ⟨_, rfl, rfl⟩

theorem CountFillings_eq (g : Grid) (l : Lexicon) (hl : g.Cells.length ≤ 8000000000000000000) (hn : l.Words.length ≤ 1048576) (hw : ∀ w ∈ l.Words, w.length ≤ 1048576) : ∃ v : Int × Int, m_impl_CountFillings g l = some v ∧ m_spec_CountFillings g l = some v := by
  unfold m_impl_CountFillings m_spec_CountFillings
  have hw' : ∀ w ∈ l.Words, w.length ≤ 8000000000000000000 := fun w h => by have := hw w h; omega
  rw [ValidGrid_eq g hl, l25Ok_eq g hl, ValidLexicon_eq l (by omega) hw', l05Ok_eq l (by omega) hw']
  cases hg : gridB g
  · cases lexB l <;> exact ⟨_, rfl, rfl⟩
  cases hx : lexB l
  · exact ⟨_, rfl, rfl⟩
  obtain ⟨R, C, e1, e2, h1, h2, h3, h4, h5, h6⟩ := gridB_iff.1 hg
  have hS := fillS_eq hg e1 e2 h2 h4 h5 hx 501 (by omega) (by omega)
  rw [show ((501 : Nat) : Int) = 501 from rfl] at hS
  have hv := visit_count (allFill R C g l) 0 (by omega)
  rw [show ((0 : Nat) : Int) = 0 from rfl] at hv
  have hI := fillI_eq hg e1 e2 h2 h4 h5 hx yvCount _ _ hv
  rw [hS, slotsI_eq e1 e2 h2 h4 h5]
  simp only [Bool.not_true, cond_false, Option.bind_some]
  rw [hI, Option.bind_some, Nat.zero_add]
  by_cases hc : (allFill R C g l).length ≤ 500
  · rw [decide_eq_true hc, List.take_of_length_le (by omega), decide_eq_false (by omega), cond_true, cond_false]
    simp only [cond_false]
    rw [chk_nat (by omega)]
    exact ⟨_, rfl, rfl⟩
  · have hle : (List.take 501 (allFill R C g l)).length = 501 := by rw [List.length_take]; omega
    rw [decide_eq_false hc, hle, decide_eq_true (by decide)]
    exact ⟨_, rfl, rfl⟩

end Go.Proofs.Ytgmikhdealhlfaa
