/- The grid turned: its slots, what fills it, how many ways. -/
import Derived.Test.YtgmikhdealhlfaaPureFf
namespace Go.Proofs.Ytgmikhdealhlfaa
open Go Go.RowKit
set_option linter.unusedSimpArgs false
set_option linter.unusedVariables false

theorem getD_none {s : Str} {p : Nat} (h : s.length ≤ p) : s.getD p 0 = 0 := by
  rw [List.getD_eq_getElem?_getD, List.getElem?_eq_none h]
  rfl

theorem turnT_getD (s : Str) {R C r c : Nat} (hr : r < R) : ∀ n, c < n → (turnT s R C n).getD (c * R + r) 0 = s.getD (r * C + c) 0
  | 0, h => by omega
  | n + 1, h => by
    have hl := turnT_len s R C n
    rw [turnT, List.getD_eq_getElem?_getD]
    by_cases hc : c < n
    · have h1 : (c + 1) * R ≤ n * R := Nat.mul_le_mul_right R hc
      rw [Nat.succ_mul] at h1
      rw [List.getElem?_append_left (by omega), ← List.getD_eq_getElem?_getD]
      exact turnT_getD s hr n hc
    · obtain rfl : c = n := by omega
      rw [List.getElem?_append_right (by omega), hl, Nat.add_sub_cancel_left]
      unfold colT
      rw [List.getElem?_map, List.getElem?_range hr]
      rfl

theorem place_split {R C p : Nat} (h : p < R * C) : ∃ r c, r < R ∧ c < C ∧ p = r * C + c := by
  have hC : 0 < C := by
    rcases Nat.eq_zero_or_pos C with e | e
    · subst e; simp at h
    · exact e
  exact ⟨p / C, p % C, by rw [Nat.mul_comm] at h; exact Nat.div_lt_of_lt_mul h, Nat.mod_lt _ hC, by rw [Nat.mul_comm]; exact (Nat.div_add_mod p C).symm⟩

theorem turnT_turnT {s : Str} {R C : Nat} (hs : s.length = R * C) : turnT (turnT s R C C) C R R = s := by
  refine cells_ext (by rw [turnT_len, hs]) fun p => ?_
  by_cases h : p < R * C
  · obtain ⟨r, c, hr, hc, rfl⟩ := place_split h
    rw [turnT_getD _ hc R hr, turnT_getD _ hr C hc]
  · rw [getD_none (by rw [turnT_len]; omega), getD_none (by omega)]

theorem turnT_mem {s : Str} {R C : Nat} (hs : s.length = R * C) : ∀ n, n ≤ C → ∀ y ∈ turnT s R C n, y ∈ s
  | 0, _, y, hy => absurd hy List.not_mem_nil
  | n + 1, hn, y, hy => by
    rw [turnT] at hy
    rcases List.mem_append.1 hy with hy | hy
    · exact turnT_mem hs n (by omega) y hy
    · unfold colT at hy
      obtain ⟨r, hr, rfl⟩ := List.mem_map.1 hy
      have hr := List.mem_range.1 hr
      have h1 : (r + 1) * C ≤ R * C := Nat.mul_le_mul_right C hr
      rw [Nat.succ_mul] at h1
      rw [List.getD_eq_getElem?_getD, List.getElem?_eq_getElem (by omega : r * C + n < s.length)]
      exact List.getElem_mem _

def tS (s : Slot) : Slot := ⟨s.Col, s.Row, !s.Down, s.Length⟩

theorem tS_tS (s : Slot) : tS (tS s) = s := by
  cases s
  simp [tS]

theorem sq_turn {R C : Nat} {s : Slot} (hin : SlotIn R C s) {i : Nat} (hi : (i : Int) < s.Length) : ∃ r c, r < R ∧ c < C ∧ sqT C s i = r * C + c ∧ sqT R (tS s) i = c * R + r := by
  obtain ⟨r, c, n, hn, h | h⟩ := hin
  · obtain ⟨rfl, h1, h2⟩ := h
    simp only at hi
    exact ⟨r, c + i, h1, by omega, Nat.add_assoc _ _ _, rfl⟩
  · obtain ⟨rfl, h1, h2⟩ := h
    simp only at hi
    exact ⟨r + i, c, by omega, h2, rfl, Nat.add_assoc _ _ _⟩

theorem pat_turn (x : Str) {R C : Nat} {s : Slot} (hin : SlotIn R C s) : patT (turnT x R C C) R (tS s) = patT x C s := by
  unfold patT patN
  refine List.map_congr_left fun k hk => ?_
  have hk := List.mem_range.1 hk
  have hk : k < s.Length.toNat := hk
  obtain ⟨r, c, hr, hc, e1, e2⟩ := sq_turn hin (i := k) (by omega)
  rw [e1, e2, turnT_getD _ hr C hc]

theorem tS_mem {x : Str} {R C : Nat} (hx : x.length = R * C) {s : Slot} (h : s ∈ slotsT x R C) : tS s ∈ slotsT (turnT x R C C) C R := by
  unfold slotsT at h ⊢
  rcases List.mem_append.1 h with h | h
  · obtain ⟨r, c, k, rfl, _, _, _⟩ := acrossT_ok _ _ _ s h
    refine List.mem_append_right _ (List.mem_map.2 ⟨_, ?_, rfl⟩)
    rw [turnT_turnT hx]
    exact h
  · obtain ⟨u, hu, rfl⟩ := List.mem_map.1 h
    obtain ⟨r, c, k, rfl, _, _, _⟩ := acrossT_ok _ _ _ u hu
    exact List.mem_append_left _ hu

def turnGr (R C : Nat) (g : Grid) : Grid := ⟨C, R, turnT g.Cells R C C⟩

theorem turn_back {R C : Nat} {g : Grid} (e1 : g.Rows = R) (e2 : g.Cols = C) (h5 : g.Cells.length = R * C) : turnGr C R (turnGr R C g) = g := grid_eqT e1.symm e2.symm (turnT_turnT h5)

theorem turn_grid {R C : Nat} {g : Grid} (hg : gridB g = true) (e1 : g.Rows = R) (e2 : g.Cols = C) (h5 : g.Cells.length = R * C) : gridB (turnGr R C g) = true := by
  obtain ⟨R', C', q1, q2, q3, q4, q5, q6, q7, q8⟩ := gridB_iff.1 hg
  obtain rfl : R' = R := by omega
  obtain rfl : C' = C := by omega
  refine gridB_iff.2 ⟨C', R', rfl, rfl, q5, q6, q3, q4, turnT_len _ _ _ _, List.all_eq_true.2 fun y hy => ?_⟩
  exact List.all_eq_true.1 q8 y (turnT_mem h5 C' (Nat.le_refl _) y hy)

theorem turn_shape {R C : Nat} {sl : List Slot} {g : Grid} (h : ShapeT R C sl g) : ShapeT C R (slotsT (turnT g.Cells R C C) C R) (turnGr R C g) := by
  obtain ⟨h1, h2, h3, h4, h5⟩ := h
  exact ⟨turn_grid h1 h2 h3 h4, rfl, rfl, turnT_len _ _ _ _, rfl⟩

theorem turn_fill {R C : Nat} {ws : List Str} {g x : Grid} (hg : ShapeT R C (slotsT g.Cells R C) g) (h : FillOf R C (slotsT g.Cells R C) ws (slotsT g.Cells R C) g x) : FillOf C R (slotsT (turnT g.Cells R C C) C R) ws (slotsT (turnT g.Cells R C C) C R) (turnGr R C g) (turnGr R C x) := by
  obtain ⟨f1, f2, f3, f4, f5⟩ := h
  have hgl := hg.2.2.2.1
  have hxl := f1.2.2.2.1
  have hop : openL (turnT x.Cells R C C) = openL (turnT g.Cells R C C) := turn_open f2 R C C
  obtain ⟨t1, t2, t3, t4, _⟩ := turn_shape f1
  have hback : ∀ y ∈ slotsT (turnT g.Cells R C C) C R, tS y ∈ slotsT g.Cells R C := fun y hy => by
    have := tS_mem (turnT_len g.Cells R C C) hy
    rwa [turnT_turnT hgl] at this
  refine ⟨⟨t1, t2, t3, t4, slots_eq hop C R⟩, hop, fun p hp => ?_, fun y hy => ?_, fun p hp => ?_⟩
  · show (turnT x.Cells R C C).getD p 0 = (turnT g.Cells R C C).getD p 0
    replace hp : (turnT g.Cells R C C).getD p 0 ≠ 46 := hp
    by_cases h : p < C * R
    · obtain ⟨c, r, hc, hr, rfl⟩ := place_split h
      rw [turnT_getD _ hr C hc] at hp ⊢
      rw [turnT_getD _ hr C hc]
      exact f3 _ hp
    · rw [getD_none (by rw [turnT_len]; omega), getD_none (by rw [turnT_len]; omega)]
  · show patT (turnT x.Cells R C C) R y ∈ ws
    have hy' := hback y hy
    have := pat_turn x.Cells (slotsT_in hy')
    rw [tS_tS] at this
    rw [this]
    exact f4 _ hy'
  · show (turnT x.Cells R C C).getD p 0 = (turnT g.Cells R C C).getD p 0
    by_cases h : p < C * R
    · obtain ⟨c, r, hc, hr, rfl⟩ := place_split h
      rw [turnT_getD _ hr C hc, turnT_getD _ hr C hc]
      refine f5 _ fun s hs i hi e => ?_
      obtain ⟨r', c', hr', hc', q1, q2⟩ := sq_turn (slotsT_in hs) hi
      have hm := tS_mem hgl hs
      have e2 : r' * C + c' = r * C + c := by rw [← q1, e]
      have hmod := congrArg (· % C) e2
      have hdiv := congrArg (· / C) e2
      simp only [Nat.mul_comm _ C, Nat.mul_add_mod, Nat.mod_eq_of_lt hc, Nat.mod_eq_of_lt hc', Nat.mul_add_div (by omega : 0 < C), Nat.div_eq_of_lt hc, Nat.div_eq_of_lt hc', Nat.add_zero] at hmod hdiv
      subst hmod hdiv
      exact hp _ hm i hi q2
    · rw [getD_none (by rw [turnT_len]; omega), getD_none (by rw [turnT_len]; omega)]

theorem nodup_sub_le {α : Type} [DecidableEq α] : ∀ {a b : List α}, a.Nodup → (∀ x ∈ a, x ∈ b) → a.length ≤ b.length
  | [], b, _, _ => Nat.zero_le _
  | x :: a, b, hn, hs => by
    rw [List.nodup_cons] at hn
    have hx := hs x List.mem_cons_self
    have h := nodup_sub_le (a := a) (b := b.erase x) hn.2 fun y hy => (List.mem_erase_of_ne (fun e : y = x => hn.1 (by rw [← e]; exact hy))).2 (hs y (List.mem_cons_of_mem _ hy))
    rw [List.length_erase_of_mem hx] at h
    have := List.length_pos_of_mem hx
    rw [List.length_cons]
    omega

section
variable {R C : Nat} (hR : R ≤ 5) (hC : C ≤ 5) {l : Lexicon} (hlex : lexB l = true)
include hR hC hlex

theorem allFill_mem {g x : Grid} (hg : ShapeT R C (slotsT g.Cells R C) g) : x ∈ allFill R C g l ↔ FillOf R C (slotsT g.Cells R C) l.Words (slotsT g.Cells R C) g x := by
  constructor
  · exact fun h => fill_mem hR hC (lex_ok hlex) _ g hg (fun _ h => h) x h
  · exact fun h => mem_fill hR hC (lex_ok hlex) h.1 h.2.2.2.1 _ g hg (fun _ h => h) h

theorem fill_le {g : Grid} (hg : ShapeT R C (slotsT g.Cells R C) g) : (allFill R C g l).length ≤ (allFill C R (turnGr R C g) l).length := by
  have hT : ShapeT C R (slotsT (turnGr R C g).Cells C R) (turnGr R C g) := turn_shape hg
  rw [← List.length_map (f := turnGr R C)]
  refine nodup_sub_le ?_ fun y hy => ?_
  · rw [List.nodup_iff_pairwise_ne, List.pairwise_map]
    refine List.Pairwise.imp_of_mem ?_ (List.nodup_iff_pairwise_ne.1 (fill_nodup hR hC (lex_ok hlex) _ g hg (fun _ h => h)))
    intro a b ha hb hab e
    obtain ⟨a1, a2, a3, a4, _⟩ := ((allFill_mem hR hC hlex hg).1 ha).1
    obtain ⟨b1, b2, b3, b4, _⟩ := ((allFill_mem hR hC hlex hg).1 hb).1
    refine hab ?_
    rw [← turn_back a2 a3 a4, ← turn_back b2 b3 b4, e]
  · obtain ⟨x, hx, rfl⟩ := List.mem_map.1 hy
    exact (allFill_mem hC hR hlex hT).2 (turn_fill hg ((allFill_mem hR hC hlex hg).1 hx))

theorem fill_len {g : Grid} (hg : ShapeT R C (slotsT g.Cells R C) g) : (allFill C R (turnGr R C g) l).length = (allFill R C g l).length := by
  refine Nat.le_antisymm ?_ (fill_le hR hC hlex hg)
  have := fill_le hC hR hlex (turn_shape hg : ShapeT C R (slotsT (turnGr R C g).Cells C R) (turnGr R C g))
  rwa [turn_back hg.2.1 hg.2.2.1 hg.2.2.2.1] at this

theorem fill_self {g x : Grid} (hg : ShapeT R C (slotsT g.Cells R C) g) (hx : x ∈ allFill R C g l) : ∃ xs, allFill R C x l = x :: xs := by
  obtain ⟨f1, f2, f3, f4, f5⟩ := (allFill_mem hR hC hlex hg).1 hx
  have hws := lex_ok hlex
  have hs : slotsT x.Cells R C = slotsT g.Cells R C := f1.2.2.2.2
  have hX : ShapeT R C (slotsT x.Cells R C) x := ⟨f1.1, f1.2.1, f1.2.2.1, f1.2.2.2.1, rfl⟩
  have hmem : x ∈ allFill R C x l := (allFill_mem hR hC hlex hX).2 ⟨hX, rfl, fun p _ => rfl, fun s h => f4 s (hs ▸ h), fun p _ => rfl⟩
  cases he : allFill R C x l with
  | nil => rw [he] at hmem; cases hmem
  | cons y ys =>
    obtain ⟨y1, y2, y3, y4, y5⟩ := (allFill_mem hR hC hlex hX).1 (show y ∈ allFill R C x l from by rw [he]; exact List.mem_cons_self)
    have : y = x := by
      refine grid_eqT (by rw [y1.2.1, hX.2.1]) (by rw [y1.2.2.1, hX.2.2.1]) (cells_ext (by rw [y1.2.2.2.1, hX.2.2.2.1]) fun p => ?_)
      by_cases hd : x.Cells.getD p 0 = 46
      · refine y5 p fun s hs' i hi e => ?_
        have hm := f4 s (hs ▸ hs')
        have hin := slotsT_in hs'
        obtain ⟨n, hn, _, _⟩ := hin.len hR hC
        have hp := pat_get x.Cells C s hn (by omega : i < n)
        rw [e, hd] at hp
        have hnd := small_no_dot hR hC hws (wordB_iff.1 (hws.2 _ hm)).1
        rw [List.any_eq_false] at hnd
        exact hnd 46 (List.mem_of_getElem? hp) rfl
      · exact y3 p hd
    rw [this]
    exact ⟨ys, rfl⟩
end

end Go.Proofs.Ytgmikhdealhlfaa
