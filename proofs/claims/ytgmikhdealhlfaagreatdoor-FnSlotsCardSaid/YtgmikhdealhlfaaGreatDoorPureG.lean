/- The text of a grid. -/
import Derived.Test.YtgmikhdealhlfaaGreatDoorPureB
namespace Go.Proofs.YtgmikhdealhlfaaGreatDoor
open Go Go.RowKit
set_option linter.unusedSimpArgs false
set_option linter.unusedVariables false

theorem subL_nat {α : Type} {xs : List α} {a b : Nat} (h1 : a ≤ b) (h2 : b ≤ xs.length) : subL xs (a : Int) (b : Int) = some ((xs.drop a).take (b - a)) := by
  rw [subL_of (by omega) (by omega) (by omega)]
  simp
theorem join_snoc (xs : List Str) (y sep : Str) : Lib.join (xs ++ [y]) sep = if xs = [] then y else Lib.join xs sep ++ sep ++ y := by
  cases xs with
  | nil => simp [Lib.join_one]
  | cons x r =>
    rw [if_neg (by simp), List.cons_append, Lib.join_cons, Lib.join_cons]
    simp [Lib.joinTail]
/-- The rows of a grid, as texts. -/
def rowT (s : Str) (C i : Nat) : Str := (s.drop (i * C)).take C
def rowsT (s : Str) (C n : Nat) : List Str := (List.range n).map (rowT s C)
theorem rowsT_succ (s : Str) (C n : Nat) : rowsT s C (n + 1) = rowsT s C n ++ [rowT s C n] := by unfold rowsT; rw [List.range_succ, List.map_append]; rfl
theorem rowT_len (s : Str) (C i : Nat) : (rowT s C i).length ≤ C := by unfold rowT; simp; omega
theorem rowsT_len (s : Str) (C n : Nat) : (rowsT s C n).length = n := by unfold rowsT; simp
theorem joinT_len (s : Str) (C n : Nat) (hC : C ≤ 5) : (Lib.join (rowsT s C n) [47]).length ≤ 6 * n := by
  induction n with
  | zero => simp [rowsT, Lib.join_nil]
  | succ n ih =>
    have := rowT_len s C n
    rw [rowsT_succ, join_snoc]
    split
    · omega
    · simp only [List.length_append, List.length_cons, List.length_nil]; omega
theorem sub_row {s : Str} {C R i : Nat} (h : s.length = R * C) (hi : i < R) : subL s ((i : Int) * (C : Int)) (((i + 1 : Nat) : Int) * (C : Int)) = some (rowT s C i) := by
  have hle : (i + 1) * C ≤ R * C := Nat.mul_le_mul_right C hi
  have e : (i + 1) * C = i * C + C := Nat.succ_mul i C
  have := subL_nat (xs := s) (a := i * C) (b := (i + 1) * C) (by omega) (by omega)
  rw [show (i + 1) * C - i * C = C by omega] at this
  push_cast at this ⊢
  exact this
theorem small_prod {i C : Nat} (hi : i ≤ 5) (hC : C ≤ 5) : chk ((i : Int) * (C : Int)) = some ((i : Int) * (C : Int)) := by
  have h : i * C ≤ 25 := Nat.mul_le_mul hi hC
  have h' : ((i * C : Nat) : Int) = (i : Int) * (C : Int) := by push_cast; rfl
  exact chk_in (by omega) (by omega)

section
variable {g : Grid} {R C : Nat} (e1 : g.Rows = R) (e2 : g.Cols = C) (hR : R ≤ 5) (hC : C ≤ 5) (hl : g.Cells.length = R * C)
include e1 e2 hR hC hl
theorem textLoop : loopM (fun s : (List Str) × Int => m_impl_GridText_l1 g s.1 s.2) (([] : List Str), 0) = some (rowsT g.Cells C R) := by
  have := loop_run (step := fun s : (List Str) × Int => m_impl_GridText_l1 g s.1 s.2) (fun i => (rowsT g.Cells C i, (i : Int))) R (rowsT g.Cells C R) (fun i hi => by
      show m_impl_GridText_l1 g (rowsT g.Cells C i) (i : Int) = _
      unfold m_impl_GridText_l1
      simp only [e1, e2, decide_eq_true (by omega : (i : Int) < (R : Int)), cond_true, small_prod (by omega : i ≤ 5) hC, Option.bind_some, chk_succ (by omega : i ≤ 8000000000000000000), small_prod (by omega : i + 1 ≤ 5) hC, sub_row hl hi]
      rw [catL_of (by rw [rowsT_len]; simp; omega), Option.bind_some, rowsT_succ])
    (by show m_impl_GridText_l1 g _ _ = _; unfold m_impl_GridText_l1; rw [e1, decide_eq_false (by omega)]; rfl) 0 (by omega)
  exact this
end
def gridT (g : Grid) : Str := bif gridB g then Lib.join (rowsT g.Cells g.Cols.toNat g.Rows.toNat) [47] else []
theorem GridText_eq (g : Grid) (hl : g.Cells.length ≤ 8000000000000000000) : m_impl_GridText g = some (gridT g) := by
  unfold m_impl_GridText gridT
  rw [ValidGrid_eq g hl, Option.bind_some]
  cases hg : gridB g
  · rfl
  · obtain ⟨R, C, e1, e2, h1, h2, h3, h4, h5, h6⟩ := gridB_iff.1 hg
    have hj := joinT_len g.Cells C R h4
    simp only [Bool.not_true, cond_false, cond_true, textLoop e1 e2 h2 h4 h5, Option.bind_some, e1, e2, Int.toNat_natCast]
    unfold m_strings_Join lim
    rw [decide_eq_true (by rw [rowsT_len]; omega), decide_eq_true (by omega)]
    rfl

end Go.Proofs.YtgmikhdealhlfaaGreatDoor
