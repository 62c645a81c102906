/- Fillings of grids: what the searches for them rest on. -/
import Derived.Test.YtgmikhdealhlfaaPureFa
import Derived.Test.YtgmikhdealhlfaaPureV0
import Derived.Test.YtgmikhdealhlfaaPureE
namespace Go.Proofs.Ytgmikhdealhlfaa
open Go Go.RowKit
set_option linter.unusedSimpArgs false
set_option linter.unusedVariables false

def candT (ws : List Str) (C : Nat) (g : Grid) (s : Slot) : List Str := ws.filter (fitB (patT g.Cells C s))
def freeT (C : Nat) (g : Grid) (s : Slot) : Bool := (patT g.Cells C s).any (· == 46)
/-- A grid of the same shape. -/
def ShapeT (R C : Nat) (sl : List Slot) (g : Grid) : Prop := gridB g = true ∧ g.Rows = R ∧ g.Cols = C ∧ g.Cells.length = R * C ∧ slotsT g.Cells R C = sl
/-- Words: small letters, each once. -/
def WordsOk (ws : List Str) : Prop := ws.Nodup ∧ ∀ w ∈ ws, wordB w = true
theorem pat_get (cs : Str) (C : Nat) (s : Slot) {n : Nat} (hn : s.Length = n) {i : Nat} (hi : i < n) : (patT cs C s)[i]? = some (cs.getD (sqT C s i) 0) := by
  unfold patT patN
  rw [List.getElem?_map, List.getElem?_range (by rw [hn]; omega)]
  rfl
theorem fitB_iff {p w : Str} : fitB p w = true ↔ p.length = w.length ∧ ∀ i (hp : i < p.length) (hw : i < w.length), p[i] = 46 ∨ p[i] = w[i] := by
  unfold fitB
  rw [Bool.and_eq_true, decide_eq_true_eq, allI_iff]
  constructor
  · rintro ⟨h1, h2⟩
    refine ⟨h1, fun i hp hw => ?_⟩
    have := h2 i (by omega) (by omega)
    unfold fitC at this
    rw [List.getElem?_eq_getElem hp, List.getElem?_eq_getElem hw] at this
    simpa using this
  · rintro ⟨h1, h2⟩
    refine ⟨h1, fun i _ hw => ?_⟩
    have hw : i < w.length := by omega
    have := h2 i (by omega) hw
    unfold fitC
    rw [List.getElem?_eq_getElem (by omega : i < p.length), List.getElem?_eq_getElem hw]
    simpa using this
theorem fit_full {p w : Str} (hp : p.any (· == 46) = false) (h : fitB p w = true) : w = p := by
  obtain ⟨h1, h2⟩ := fitB_iff.1 h
  refine (List.ext_getElem h1 fun i hi hw => ?_).symm
  rcases h2 i hi hw with e | e
  · rw [List.any_eq_false] at hp
    exact absurd (by rw [e]; rfl) (hp _ (List.getElem_mem hi))
  · exact e
theorem fit_self (p : Str) : fitB p p = true := fitB_iff.2 ⟨rfl, fun i _ _ => .inr rfl⟩
theorem filter_one {α : Type} [DecidableEq α] {p : α → Bool} {w : α} : ∀ {l : List α}, l.Nodup → w ∈ l → p w = true → (∀ x ∈ l, p x = true → x = w) → l.filter p = [w]
  | [], _, h, _, _ => by cases h
  | x :: l, hn, h, hp, hu => by
    rw [List.nodup_cons] at hn
    by_cases e : x = w
    · subst e
      rw [List.filter_cons_of_pos hp]
      congr 1
      rw [List.filter_eq_nil_iff]
      intro y hy hpy
      have := hu y (List.mem_cons_of_mem _ hy) hpy
      exact hn.1 (this ▸ hy)
    · rw [List.filter_cons_of_neg (fun h' => e (hu x List.mem_cons_self h'))]
      rcases List.mem_cons.1 h with h' | h'
      · exact absurd h'.symm e
      · exact filter_one hn.2 h' hp fun y hy => hu y (List.mem_cons_of_mem _ hy)
/-- What stands in a cell stays there. -/
def RefT (a b : Str) : Prop := ∀ p, a.getD p 0 ≠ 46 → b.getD p 0 = a.getD p 0
section
variable {R C : Nat} (hR : R ≤ 5) (hC : C ≤ 5) {sl : List Slot} {ws : List Str} (hws : WordsOk ws)
theorem shape_slot {g : Grid} (hg : ShapeT R C sl g) {s : Slot} (hs : s ∈ sl) : SlotIn R C s := by
  obtain ⟨_, _, _, _, e⟩ := hg
  rw [← e] at hs
  exact slotsT_in hs
include hR hC hws
theorem cand_word {g : Grid} {s : Slot} (hg : ShapeT R C sl g) (hs : s ∈ sl) {w : Str} (hw : w ∈ candT ws C g s) : ∃ k, Good g k w R C s := by
  obtain ⟨g1, g2, g3, g4, g5⟩ := hg
  obtain ⟨hm, hf⟩ := List.mem_filter.1 hw
  rw [← g5] at hs
  obtain ⟨k, hk, e⟩ := List.getElem_of_mem hs
  exact ⟨(k : Int), g1, g2, g3, hR, hC, g4, by omega, by rw [Int.toNat_natCast, List.getElem?_eq_getElem hk, e], hws.2 w hm, hf⟩
theorem put_ref {g : Grid} {s : Slot} (hg : ShapeT R C sl g) (hs : s ∈ sl) {w : Str} (hw : w ∈ candT ws C g s) : RefT g.Cells (putT g s w).Cells ∧ ∃ n : Nat, s.Length = n ∧ w.length = n := by
  have _ := hws
  obtain ⟨hm, hf⟩ := List.mem_filter.1 hw
  have hin := shape_slot hg hs
  obtain ⟨g1, g2, g3, g4, g5⟩ := hg
  obtain ⟨n, hn, _, _⟩ := hin.len hR hC
  have hpl := patT_len g.Cells hin hR hC
  obtain ⟨f1, f2⟩ := fitB_iff.1 hf
  have hwn : w.length = n := by omega
  refine ⟨fun p hp => ?_, n, hn, hwn⟩
  have hcell : (putT g s w).Cells = putN C s w w.length g.Cells := by unfold putT; rw [g3]; rfl
  rw [hcell]
  by_cases hq : ∃ i, i < w.length ∧ sqT C s i = p
  · obtain ⟨i, hi, rfl⟩ := hq
    have hsq := (index_eq g3 hR hC hin (k := i) (by omega)).2
    rw [putN_at C s w g.Cells i (by omega) _ hi fun j _ hj => sq_inj hin hj]
    have hpi := pat_get g.Cells C s hn (by omega : i < n)
    have hlt : i < (patT g.Cells C s).length := by omega
    rw [List.getElem?_eq_getElem hlt] at hpi
    have hpi := Option.some.inj hpi
    rw [List.getD_eq_getElem?_getD, List.getElem?_eq_getElem hi]
    rcases f2 i hlt hi with e | e
    · rw [hpi] at e; exact absurd e hp
    · rw [hpi] at e
      rw [e]
      rfl
  · exact putN_other C s w g.Cells p _ fun i hi e => hq ⟨i, hi, e⟩
theorem put_shape {g : Grid} {s : Slot} (hg : ShapeT R C sl g) (hs : s ∈ sl) {w : Str} (hw : w ∈ candT ws C g s) : ShapeT R C sl (putT g s w) ∧ patT (putT g s w).Cells C s = w := by
  obtain ⟨k, hgood⟩ := cand_word hR hC hws hg hs hw
  obtain ⟨c1, c2, c3, c4⟩ := good_cells hgood
  obtain ⟨g1, g2, g3, g4, g5⟩ := hg
  obtain ⟨R', C', q1, q2, q3, q4, q5, q6, q7, q8⟩ := gridB_iff.1 g1
  have eR : R' = R := by omega
  have eC : C' = C := by omega
  subst eR eC
  refine ⟨⟨gridB_iff.2 ⟨R', C', g2, g3, q3, q4, q5, q6, c1, c2⟩, g2, g3, c1, ?_⟩, c4⟩
  rw [slots_eq c3, g5]
omit hws in
theorem ref_full {a b : Str} (h : RefT a b) {s : Slot} (hin : SlotIn R C s) (hf : (patT a C s).any (· == 46) = false) : patT b C s = patT a C s := by
  obtain ⟨n, hn, _, _⟩ := hin.len hR hC
  have ha := patT_len a hin hR hC
  have hb := patT_len b hin hR hC
  refine List.ext_getElem (by omega) fun i h1 h2 => ?_
  have e1 := pat_get b C s hn (by omega : i < n)
  have e2 := pat_get a C s hn (by omega : i < n)
  rw [List.getElem?_eq_getElem h1] at e1
  rw [List.getElem?_eq_getElem h2] at e2
  have e1 := Option.some.inj e1
  have e2 := Option.some.inj e2
  rw [e1, e2]
  refine h _ fun e => ?_
  rw [List.any_eq_false] at hf
  exact hf _ (List.getElem_mem h2) (by rw [e2, e]; rfl)
omit hws in
theorem ref_fit {a b : Str} (h : RefT a b) {s : Slot} (hin : SlotIn R C s) {w : Str} (hf : fitB (patT b C s) w = true) : fitB (patT a C s) w = true := by
  obtain ⟨n, hn, _, _⟩ := hin.len hR hC
  have ha := patT_len a hin hR hC
  have hb := patT_len b hin hR hC
  obtain ⟨f1, f2⟩ := fitB_iff.1 hf
  refine fitB_iff.2 ⟨by omega, fun i hp hw => ?_⟩
  have e1 := pat_get b C s hn (by omega : i < n)
  have e2 := pat_get a C s hn (by omega : i < n)
  rw [List.getElem?_eq_getElem (by omega)] at e1
  rw [List.getElem?_eq_getElem hp] at e2
  have e1 := Option.some.inj e1
  have e2 := Option.some.inj e2
  by_cases hd : a.getD (sqT C s i) 0 = 46
  · exact .inl (by rw [e2, hd])
  · have hr := h _ hd
    rcases f2 i (by omega) hw with e | e
    · rw [e1, hr] at e; exact absurd e hd
    · rw [e1, hr] at e
      exact .inr (by rw [e2, e])
theorem put_same {g : Grid} {s : Slot} (hg : ShapeT R C sl g) (hs : s ∈ sl) : putT g s (patT g.Cells C s) = g := by
  have _ := hws
  have hin := shape_slot hg hs
  obtain ⟨g1, g2, g3, g4, g5⟩ := hg
  obtain ⟨n, hn, _, _⟩ := hin.len hR hC
  have ha := patT_len g.Cells hin hR hC
  have key : ∀ m, m ≤ n → putN C s (patT g.Cells C s) m g.Cells = g.Cells := by
    intro m
    induction m with
    | zero => intro _; rfl
    | succ m ih =>
      intro hm
      have hsq := (index_eq g3 hR hC hin (k := m) (by omega)).2
      rw [putN, ih (by omega), List.getD_eq_getElem?_getD, pat_get g.Cells C s hn (by omega : m < n), Option.getD_some, List.getD_eq_getElem?_getD, List.getElem?_eq_getElem (by omega), Option.getD_some, List.set_getElem_self]
  unfold putT
  rw [g3, Int.toNat_natCast, show (patT g.Cells C s).length = n by omega, key n (Nat.le_refl _), ← g3]
theorem small_no_dot {w : Str} (h : w.all smB = true) : w.any (· == 46) = false := by
  have _ := hR
  have _ := hC
  have _ := hws
  rw [List.any_eq_false]
  intro c hc e
  have := List.all_eq_true.1 h c hc
  rw [beq_iff_eq.1 e] at this
  exact absurd this (by decide)
theorem search_grid : Search sl (candT ws C) putT (freeT C) (ShapeT R C sl) where
  keep g s w hg hs hw := (put_shape hR hC hws hg hs hw).1
  full g s hg hs hf hne := by
    obtain ⟨w, hw⟩ := List.exists_mem_of_ne_nil _ hne
    obtain ⟨hm, hfit⟩ := List.mem_filter.1 hw
    have e := fit_full hf hfit
    refine ⟨w, filter_one hws.1 hm hfit fun x _ hx => ?_, ?_⟩
    · rw [fit_full hf hx, e]
    · rw [e]
      exact put_same hR hC hws hg hs
  filled g s w hg hs hw := by
    unfold freeT
    rw [(put_shape hR hC hws hg hs hw).2]
    obtain ⟨hm, _⟩ := List.mem_filter.1 hw
    exact small_no_dot hR hC hws (wordB_iff.1 (hws.2 w hm)).1
  stay g s w s' hg hs hs' hw hf := by
    unfold freeT at hf ⊢
    rw [ref_full hR hC (put_ref hR hC hws hg hs hw).1 (shape_slot hg hs') hf, hf]
  less g s w s' hg hs hs' hw he := by
    unfold candT at he ⊢
    rw [List.filter_eq_nil_iff] at he ⊢
    intro x hx hfx
    exact he x hx (ref_fit hR hC (put_ref hR hC hws hg hs hw).1 (shape_slot hg hs') hfx)
end

end Go.Proofs.Ytgmikhdealhlfaa
