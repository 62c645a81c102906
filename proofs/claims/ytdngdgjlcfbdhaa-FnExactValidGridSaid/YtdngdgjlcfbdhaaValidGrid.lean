/- ValidGrid: the program and the reference give the same for all grids. -/
import Derived.Test.YtdngdgjlcfbdhaaGrid
import Derived.Test.YtdngdgjlcfbdhaaArgs
namespace Go.Proofs.Ytdngdgjlcfbdhaa.fnExactValidGrid
open Go.ChangeShapes Go.WideShapes Go.ChangeAt Go.RowKit
set_option linter.unusedSimpArgs false
set_option linter.unusedVariables false

set_option maxHeartbeats 1000000 in
theorem walk (g : Grid) (hg : g.ok) (w : World) :
    Calls Try.prog 4 #[.agg g.cells.toArray] w fun e w' => e = .returned (.bool true) ∧ Below w.heap.size w w' := by
  obtain ⟨r, c, s⟩ := g
  obtain ⟨_, _, hl⟩ := hg
  simp only [Grid.cells]
  go_enter Try.func4, Try.ntmps4
  go_wp2_with fail
  obtain ⟨W, hW⟩ : ∃ W : World, (w.alloc (.cells #[.int .i64 r, .int .i64 c, .string s] 26)) = W := ⟨_, rfl⟩
  have hs : w.heap.size + 1 ≤ W.heap.size := by rw [← hW]; simp
  have hB : Below w.heap.size w W := by rw [← hW]; (repeat' (first | (with_reducible exact Below.refl _ _) | (with_reducible assumption) | (with_reducible refine Below.alloc ?_ ?_ _) | (with_reducible refine Below.drew ?_) | (with_reducible refine bdrewN ?_ _) | (with_reducible refine Below.setCell ?_ ?_ _) | (first | (with_reducible exact Nat.le_refl _) | (with_reducible assumption) | omega | (simp only [World.size_alloc, World.size_setCell, World.size_drew]; omega) | (simp; omega) | (simp; done))))
  have c0_0 : W.cell? ⟨w.heap.size, 0, none⟩ = some (.int .i64 r) := by rw [← hW]; simp [go_sem]
  have c0_1 : W.cell? ⟨w.heap.size, 1, none⟩ = some (.int .i64 c) := by rw [← hW]; simp [go_sem]
  have c0_2 : W.cell? ⟨w.heap.size, 2, none⟩ = some (.string s) := by rw [← hW]; simp [go_sem]
  rw [hW]
  clear hW
  have hn : w.heap.size ≤ w.heap.size + 1 := by omega
  have hn0 : w.heap.size < w.heap.size + 1 := by omega
  have t1 := trivial
  go_wp2_with (first | (go_at_call 17; refine (szGrid_any _ _ _ _ _ hl (by omega) (by omega)).mono ?_; rintro e w1 ⟨⟨q, rfl, _, _⟩, hbw1⟩; have c0_0 := (hbw1.cell (p := ⟨w.heap.size, 0, none⟩) (Nat.lt_of_lt_of_le hn0 hs)).trans c0_0; have c0_1 := (hbw1.cell (p := ⟨w.heap.size, 1, none⟩) (Nat.lt_of_lt_of_le hn0 hs)).trans c0_1; have c0_2 := (hbw1.cell (p := ⟨w.heap.size, 2, none⟩) (Nat.lt_of_lt_of_le hn0 hs)).trans c0_2; have hB := below_go hB hbw1 ⟨rfl, rfl, rfl, rfl⟩ (Nat.le_trans hn hs); have hs := Nat.le_trans hs hbw1.size) | (go_at_call 19; clear t1; refine (toGrid_any _ _ _ _).mono ?_; rintro e w2 ⟨rfl, hbw2⟩; have c0_0 := (hbw2.cell (p := ⟨w.heap.size, 0, none⟩) (Nat.lt_of_lt_of_le hn0 hs)).trans c0_0; have c0_1 := (hbw2.cell (p := ⟨w.heap.size, 1, none⟩) (Nat.lt_of_lt_of_le hn0 hs)).trans c0_1; have c0_2 := (hbw2.cell (p := ⟨w.heap.size, 2, none⟩) (Nat.lt_of_lt_of_le hn0 hs)).trans c0_2; have hB := below_go hB hbw2 ⟨rfl, rfl, rfl, rfl⟩ (Nat.le_trans hn hs); have hs := Nat.le_trans hs hbw2.size) | (go_at_call 18; refine (specValidGrid_any _ _ _ _ hl).mono ?_; rintro e w3 ⟨rfl, hbw3⟩; have c0_0 := (hbw3.cell (p := ⟨w.heap.size, 0, none⟩) (Nat.lt_of_lt_of_le hn0 hs)).trans c0_0; have c0_1 := (hbw3.cell (p := ⟨w.heap.size, 1, none⟩) (Nat.lt_of_lt_of_le hn0 hs)).trans c0_1; have c0_2 := (hbw3.cell (p := ⟨w.heap.size, 2, none⟩) (Nat.lt_of_lt_of_le hn0 hs)).trans c0_2; have hB := below_go hB hbw3 ⟨rfl, rfl, rfl, rfl⟩ (Nat.le_trans hn hs); have hs := Nat.le_trans hs hbw3.size) | (go_at_call 19; refine (toGrid_any _ _ _ _).mono ?_; rintro e w4 ⟨rfl, hbw4⟩; have c0_0 := (hbw4.cell (p := ⟨w.heap.size, 0, none⟩) (Nat.lt_of_lt_of_le hn0 hs)).trans c0_0; have c0_1 := (hbw4.cell (p := ⟨w.heap.size, 1, none⟩) (Nat.lt_of_lt_of_le hn0 hs)).trans c0_1; have c0_2 := (hbw4.cell (p := ⟨w.heap.size, 2, none⟩) (Nat.lt_of_lt_of_le hn0 hs)).trans c0_2; have hB := below_go hB hbw4 ⟨rfl, rfl, rfl, rfl⟩ (Nat.le_trans hn hs); have hs := Nat.le_trans hs hbw4.size) | (go_at_call 20; refine (ValidGrid_any _ _ _ _ hl).mono ?_; rintro e w5 ⟨rfl, hbw5⟩; have c0_0 := (hbw5.cell (p := ⟨w.heap.size, 0, none⟩) (Nat.lt_of_lt_of_le hn0 hs)).trans c0_0; have c0_1 := (hbw5.cell (p := ⟨w.heap.size, 1, none⟩) (Nat.lt_of_lt_of_le hn0 hs)).trans c0_1; have c0_2 := (hbw5.cell (p := ⟨w.heap.size, 2, none⟩) (Nat.lt_of_lt_of_le hn0 hs)).trans c0_2; have hB := below_go hB hbw5 ⟨rfl, rfl, rfl, rfl⟩ (Nat.le_trans hn hs); have hs := Nat.le_trans hs hbw5.size))
  all_goals (go_ret; exact ⟨ret_bool (by first | rfl | simp), hB⟩)

theorem given_walk {H : Type} {enc : TypeId × Value → H} (W : World) (args : Array Value) (h : Given enc Try.prog W Try.f4.params.toList args.toList) :
    Calls Try.prog 4 args W fun e W' => e = .returned (.bool true) ∧ Below W.heap.size W W' := by
  rw [Try.params4] at h
  obtain ⟨v0, vs0, hargs, a0, h⟩ := given_cons h
  obtain rfl := given_nil h
  obtain rfl : args = #[v0] := by cases args; simp_all
  obtain ⟨x0, rfl, h0⟩ := arg_Grid a0
  exact walk x0 h0 W

set_option maxRecDepth 100000 in
theorem lifted (os : Os) (started : os.Started) (H : Type) (enc : TypeId × Value → H) :
    ReturnsInHanded {} Try.checked os 4 .any (Rows.fnExactValidGridSpec.pre6 enc Try.prog Try.f4 Rows.fnExactValidGridRow.domain false) (Rows.fnExactValidGridSpec.post enc Try.prog Try.f4 false true false false) :=
  law_lift started Try.func4 (by kernel_rfl) (by kernel_rfl) rfl rfl (fun ds h => by match ds, h with | [d0], _ => exact ⟨rfl, rfl, rfl⟩)
    (ChangeSpec.witness6 (enc := enc) (C := Try.checked) false ⟨#[], #[.agg #[.int .i64 0, .int .i64 0, .string ByteArray.empty]], []⟩ 8 (by kernel_rfl) (by kernel_rfl) (by kernel_rfl) (by kernel_rfl))
    (fun W args h => given_walk W args h)

theorem over : Rows.fnExactValidGridRow.holds Try.pinned (OpenSpec.ofChange Rows.fnExactValidGridSpec) :=
  OpenClaim.holds_of_wide 4 Try.f4 rfl rfl rfl rfl rfl rfl rfl ⟨rfl, rfl, rfl, rfl, rfl⟩ rfl rfl rfl rfl rfl (by kernel_rfl) Try.func4 (by kernel_rfl)
    (of_decide_eq_true (by kernel_rfl)) (by unfold Func.isWrapper; first | (rw [if_pos (by decide +kernel)]; kernel_rfl) | (rw [if_neg (by decide +kernel)]; exact ⟨rfl, rfl⟩))
    (fun os started H enc _ => lifted os started H enc)

theorem proved : Rows.FnExactValidGridSaid :=
  over
#print axioms proved

end Go.Proofs.Ytdngdgjlcfbdhaa.fnExactValidGrid
