/- All fillings of a grid: each once, and as many for the grid turned. -/
import Derived.Test.YtgmikhdealhlfaaPureFd
namespace Go.Proofs.Ytgmikhdealhlfaa
open Go Go.RowKit
set_option linter.unusedSimpArgs false
set_option linter.unusedVariables false

theorem RefT.trans {a b c : Str} (h : RefT a b) (h' : RefT b c) : RefT a c := fun p hp => by
  have e := h p hp
  rw [h' p (by rw [e]; exact hp), e]

theorem cells_ext {a b : Str} (h : a.length = b.length) (e : ∀ p, a.getD p 0 = b.getD p 0) : a = b := by
  refine List.ext_getElem h fun i h1 h2 => ?_
  have := e i
  rw [List.getD_eq_getElem?_getD, List.getD_eq_getElem?_getD, List.getElem?_eq_getElem h1, List.getElem?_eq_getElem h2] at this
  exact this

theorem grid_eqT {x g : Grid} (h1 : x.Rows = g.Rows) (h2 : x.Cols = g.Cols) (h3 : x.Cells = g.Cells) : x = g := by
  cases x
  cases g
  simp only at h1 h2 h3
  subst h1 h2 h3
  rfl

/-- x fills the slots of rest, and keeps what g says. -/
def FillOf (R C : Nat) (sl : List Slot) (ws : List Str) (rest : List Slot) (g x : Grid) : Prop := ShapeT R C sl x ∧ openL x.Cells = openL g.Cells ∧ RefT g.Cells x.Cells ∧ (∀ s ∈ rest, patT x.Cells C s ∈ ws) ∧ (∀ p, (∀ s ∈ rest, ∀ i : Nat, (i : Int) < s.Length → sqT C s i ≠ p) → x.Cells.getD p 0 = g.Cells.getD p 0)

section
variable {R C : Nat} (hR : R ≤ 5) (hC : C ≤ 5) {sl : List Slot} {ws : List Str} (hws : WordsOk ws)

theorem put_cells {g : Grid} (hg : ShapeT R C sl g) (s : Slot) (w : Str) : (putT g s w).Cells = putN C s w w.length g.Cells := by
  unfold putT
  rw [hg.2.2.1]
  rfl

include hR hC hws

theorem put_pat {g : Grid} (hg : ShapeT R C sl g) {s : Slot} (hs : s ∈ sl) {w : Str} (hw : w ∈ candT ws C g s) {b : Str} (h : RefT (putT g s w).Cells b) : patT b C s = w := by
  obtain ⟨p1, p2⟩ := put_shape hR hC hws hg hs hw
  obtain ⟨hm, hf⟩ := List.mem_filter.1 hw
  have hdot : (patT (putT g s w).Cells C s).any (· == 46) = false := by rw [p2]; exact small_no_dot hR hC hws (wordB_iff.1 (hws.2 w hm)).1
  rw [ref_full hR hC h (shape_slot hg hs) hdot, p2]

theorem fill_mem : ∀ (rest : List Slot) (g : Grid), ShapeT R C sl g → (∀ s ∈ rest, s ∈ sl) → ∀ x ∈ progF sl (candT ws C) putT rest g, FillOf R C sl ws rest g x
  | [], g, hg, _, x, hx => by
    rw [progF, List.mem_singleton] at hx
    subst hx
    exact ⟨hg, rfl, fun p _ => rfl, fun s hs => absurd hs List.not_mem_nil, fun p _ => rfl⟩
  | s :: r, g, hg, hs, x, hx => by
    rw [progF, List.mem_flatMap] at hx
    obtain ⟨w, hw, hx⟩ := hx
    have hsl := hs s List.mem_cons_self
    split at hx
    · cases hx
    · obtain ⟨p1, p2⟩ := put_shape hR hC hws hg hsl hw
      obtain ⟨r1, n, hn, hwn⟩ := put_ref hR hC hws hg hsl hw
      obtain ⟨k, hgood⟩ := cand_word hR hC hws hg hsl hw
      obtain ⟨c1, c2, c3, c4⟩ := good_cells hgood
      obtain ⟨f1, f2, f3, f4, f5⟩ := fill_mem r _ p1 (fun y hy => hs y (List.mem_cons_of_mem _ hy)) x hx
      obtain ⟨hm, hf⟩ := List.mem_filter.1 hw
      refine ⟨f1, f2.trans c3, r1.trans f3, fun y hy => ?_, fun p hp => ?_⟩
      · rcases List.mem_cons.1 hy with rfl | hy
        · rw [put_pat hR hC hws hg hsl hw f3]; exact hm
        · exact f4 y hy
      · rw [f5 p (fun y hy => hp y (List.mem_cons_of_mem _ hy)), put_cells hg, putN_other C s w g.Cells p _ (fun i hi => hp s List.mem_cons_self i (by omega))]

theorem mem_fill {x : Grid} (hx : ShapeT R C sl x) (hall : ∀ s ∈ sl, patT x.Cells C s ∈ ws) : ∀ (rest : List Slot) (g : Grid), ShapeT R C sl g → (∀ s ∈ rest, s ∈ sl) → FillOf R C sl ws rest g x → x ∈ progF sl (candT ws C) putT rest g
  | [], g, hg, _, ⟨_, _, _, _, f5⟩ => by
    rw [progF, List.mem_singleton]
    refine grid_eqT (by rw [hx.2.1, hg.2.1]) (by rw [hx.2.2.1, hg.2.2.1]) (cells_ext (by rw [hx.2.2.2.1, hg.2.2.2.1]) fun p => f5 p fun s hs => absurd hs List.not_mem_nil)
  | s :: r, g, hg, hs, ⟨f1, f2, f3, f4, f5⟩ => by
    have hsl := hs s List.mem_cons_self
    have hin := shape_slot hg hsl
    have hm := hall s hsl
    have hfit : fitB (patT g.Cells C s) (patT x.Cells C s) = true := ref_fit hR hC f3 hin (fit_self _)
    have hw : patT x.Cells C s ∈ candT ws C g s := List.mem_filter.2 ⟨hm, hfit⟩
    obtain ⟨p1, p2⟩ := put_shape hR hC hws hg hsl hw
    obtain ⟨r1, n, hn, hwn⟩ := put_ref hR hC hws hg hsl hw
    obtain ⟨k, hgood⟩ := cand_word hR hC hws hg hsl hw
    obtain ⟨c1, c2, c3, c4⟩ := good_cells hgood
    have hcov : ∀ p, (putT g s (patT x.Cells C s)).Cells.getD p 0 = x.Cells.getD p 0 ∨ ((∀ i : Nat, (i : Int) < s.Length → sqT C s i ≠ p) ∧ (putT g s (patT x.Cells C s)).Cells.getD p 0 = g.Cells.getD p 0) := fun p => by
      by_cases hq : ∃ i, i < (patT x.Cells C s).length ∧ sqT C s i = p
      · left
        obtain ⟨i, hi, rfl⟩ := hq
        have hsq := (index_eq hg.2.2.1 hR hC hin (k := i) (by omega)).2
        have hgl := hg.2.2.2.1
        rw [put_cells hg, putN_at C s _ g.Cells i (by omega) _ hi fun j _ hj => sq_inj hin hj, List.getD_eq_getElem?_getD, pat_get x.Cells C s hn (by omega)]
        rfl
      · right
        refine ⟨fun i hi e => hq ⟨i, by omega, e⟩, ?_⟩
        rw [put_cells hg, putN_other C s _ g.Cells p _ (fun i hi e => hq ⟨i, hi, e⟩)]
    have hrt : RefT (putT g s (patT x.Cells C s)).Cells x.Cells := fun p hp => by
      rcases hcov p with e | ⟨_, e⟩
      · exact e.symm
      · rw [e] at hp ⊢
        exact f3 p hp
    have hnd : ¬ deadF sl (candT ws C) (putT g s (patT x.Cells C s)) = true := by
      unfold deadF
      rw [List.any_eq_true]
      rintro ⟨y, hy, he⟩
      have hy' : patT x.Cells C y ∈ candT ws C (putT g s (patT x.Cells C s)) y := List.mem_filter.2 ⟨hall y hy, ref_fit hR hC hrt (shape_slot hg hy) (fit_self _)⟩
      rw [List.isEmpty_iff.1 he] at hy'
      cases hy'
    rw [progF, List.mem_flatMap]
    refine ⟨_, hw, ?_⟩
    rw [if_neg hnd]
    refine mem_fill hx hall r _ p1 (fun y hy => hs y (List.mem_cons_of_mem _ hy)) ⟨f1, f2.trans c3.symm, hrt, fun y hy => f4 y (List.mem_cons_of_mem _ hy), fun p hp => ?_⟩
    rcases hcov p with e | ⟨h1, e⟩
    · exact e.symm
    · rw [e]
      refine f5 p fun y hy => ?_
      rcases List.mem_cons.1 hy with rfl | hy
      · exact h1
      · exact hp y hy

theorem fill_nodup : ∀ (rest : List Slot) (g : Grid), ShapeT R C sl g → (∀ s ∈ rest, s ∈ sl) → (progF sl (candT ws C) putT rest g).Nodup
  | [], g, hg, _ => by rw [progF]; simp
  | s :: r, g, hg, hs => by
    have hsl := hs s List.mem_cons_self
    have hr : ∀ y ∈ r, y ∈ sl := fun y hy => hs y (List.mem_cons_of_mem _ hy)
    rw [progF, List.nodup_iff_pairwise_ne, List.pairwise_flatMap]
    constructor
    · intro w hw
      split
      · exact List.Pairwise.nil
      · exact List.nodup_iff_pairwise_ne.1 (fill_nodup r _ (put_shape hR hC hws hg hsl hw).1 hr)
    · have hnd : (candT ws C g s).Nodup := List.Nodup.sublist List.filter_sublist hws.1
      refine List.Pairwise.imp_of_mem ?_ (List.nodup_iff_pairwise_ne.1 hnd)
      intro a b ha hb hab x hx y hy e
      subst e
      split at hx
      · cases hx
      split at hy
      · cases hy
      have h1 := put_pat hR hC hws hg hsl ha (fill_mem hR hC hws r _ (put_shape hR hC hws hg hsl ha).1 hr x hx).2.2.1
      have h2 := put_pat hR hC hws hg hsl hb (fill_mem hR hC hws r _ (put_shape hR hC hws hg hsl hb).1 hr x hy).2.2.1
      exact hab (h1.symm.trans h2)
end

end Go.Proofs.Ytgmikhdealhlfaa
