/- TurnGrid: the program and the reference give the same for all grids. -/
import Derived.Test.YtdngdgjlcfbdhaaTurnS
import Derived.Test.YtdngdgjlcfbdhaaArgs
import Derived.Deep.Cut
namespace Go.Proofs.Ytdngdgjlcfbdhaa.fnExactTurnGrid
open Go.ChangeShapes Go.WideShapes Go.ChangeAt Go.RowKit
set_option linter.unusedSimpArgs false
set_option linter.unusedVariables false
attribute [local go_sem ↓] Go.wp_at_zero Go.wp_at_succ

theorem turnV_form (r c : Int) (s : ByteArray) : ∃ (r' c' : Int) (s' : ByteArray) (k : Int), turnV r c s = (.agg #[.int .i64 r', .int .i64 c', .string s'], k) := by
  unfold turnV
  split
  · exact ⟨_, _, _, _, rfl⟩
  · exact ⟨_, _, _, _, rfl⟩

set_option maxHeartbeats 1000000 in
theorem walk (g : Grid) (hg : g.ok) (w : World) :
    Calls Try.prog 7 #[.agg g.cells.toArray] w fun e w' => e = .returned (.bool true) ∧ Below w.heap.size w w' := by
  obtain ⟨r, c, s⟩ := g
  obtain ⟨_, _, hl⟩ := hg
  simp only [Grid.cells]
  have cs : ∀ W, Calls Try.prog 29 _ W _ := fun W => specTurnGrid_any r c s W hl
  have ci : ∀ W, Calls Try.prog 30 _ W _ := fun W => TurnGrid_any r c s W hl
  obtain ⟨r', c', s', k, hv⟩ := turnV_form r c s
  rw [hv] at cs ci
  have CS := Lib.hid cs
  have CI := Lib.hid ci
  have he : Grid.eqB ⟨r', c', s'⟩ ⟨r', c', s'⟩ = true := by simp [Grid.eqB]
  clear cs ci hv
  go_enter Try.func7, Try.ntmps7
  go_wp2_with fail
  obtain ⟨W, hW⟩ : ∃ W : World, (w.alloc (.cells #[.int .i64 r, .int .i64 c, .string s] 26)) = W := ⟨_, rfl⟩
  have hs : w.heap.size + 1 ≤ W.heap.size := by rw [← hW]; simp
  have hB : Below w.heap.size w W := by rw [← hW]; (repeat' (first | (with_reducible exact Below.refl _ _) | (with_reducible assumption) | (with_reducible refine Below.alloc ?_ ?_ _) | (with_reducible refine Below.drew ?_) | (with_reducible refine bdrewN ?_ _) | (with_reducible refine Below.setCell ?_ ?_ _) | (first | (with_reducible exact Nat.le_refl _) | (with_reducible assumption) | omega | (simp only [World.size_alloc, World.size_setCell, World.size_drew]; omega) | (simp; omega) | (simp; done))))
  have c0_0 : W.cell? ⟨w.heap.size, 0, none⟩ = some (.int .i64 r) := by rw [← hW]; simp [go_sem]
  have c0_1 : W.cell? ⟨w.heap.size, 1, none⟩ = some (.int .i64 c) := by rw [← hW]; simp [go_sem]
  have c0_2 : W.cell? ⟨w.heap.size, 2, none⟩ = some (.string s) := by rw [← hW]; simp [go_sem]
  rw [hW]
  clear hW
  have hn : w.heap.size ≤ w.heap.size + 1 := by omega
  have hn0 : w.heap.size < w.heap.size + 1 := by omega
  go_upto_region 6 with (first | (go_at_call 17; refine (szGrid_any _ _ _ _ _ hl (by omega) (by omega)).mono ?_; rintro e w1 ⟨⟨q, rfl, _, _⟩, hbw1⟩; have c0_0 := (hbw1.cell (p := ⟨w.heap.size, 0, none⟩) (Nat.lt_of_lt_of_le hn0 hs)).trans c0_0; have c0_1 := (hbw1.cell (p := ⟨w.heap.size, 1, none⟩) (Nat.lt_of_lt_of_le hn0 hs)).trans c0_1; have c0_2 := (hbw1.cell (p := ⟨w.heap.size, 2, none⟩) (Nat.lt_of_lt_of_le hn0 hs)).trans c0_2; have hB := below_go hB hbw1 ⟨rfl, rfl, rfl, rfl⟩ (Nat.le_trans hn hs); have hs := Nat.le_trans hs hbw1.size) | (go_at_call 19; refine (toGrid_any _ _ _ _).mono ?_; rintro e w2 ⟨rfl, hbw2⟩; have c0_0 := (hbw2.cell (p := ⟨w.heap.size, 0, none⟩) (Nat.lt_of_lt_of_le hn0 hs)).trans c0_0; have c0_1 := (hbw2.cell (p := ⟨w.heap.size, 1, none⟩) (Nat.lt_of_lt_of_le hn0 hs)).trans c0_1; have c0_2 := (hbw2.cell (p := ⟨w.heap.size, 2, none⟩) (Nat.lt_of_lt_of_le hn0 hs)).trans c0_2; have hB := below_go hB hbw2 ⟨rfl, rfl, rfl, rfl⟩ (Nat.le_trans hn hs); have hs := Nat.le_trans hs hbw2.size) | (go_at_call 29; refine (CS.out _).mono ?_; rintro e w3 ⟨rfl, hbw3⟩; have c0_0 := (hbw3.cell (p := ⟨w.heap.size, 0, none⟩) (Nat.lt_of_lt_of_le hn0 hs)).trans c0_0; have c0_1 := (hbw3.cell (p := ⟨w.heap.size, 1, none⟩) (Nat.lt_of_lt_of_le hn0 hs)).trans c0_1; have c0_2 := (hbw3.cell (p := ⟨w.heap.size, 2, none⟩) (Nat.lt_of_lt_of_le hn0 hs)).trans c0_2; have hB := below_go hB hbw3 ⟨rfl, rfl, rfl, rfl⟩ (Nat.le_trans hn hs); have hs := Nat.le_trans hs hbw3.size))
  · go_ret
    exact ⟨rfl, hB⟩
  obtain ⟨W, hW⟩ : ∃ W : World, w3.alloc (.cells #[.int .i64 r', .int .i64 c', .string s'] 29) = W := ⟨_, rfl⟩
  rw [hW]
  have c0_0 := (World.cell?_alloc_lt w3 (.cells #[.int .i64 r', .int .i64 c', .string s'] 29) ⟨w.heap.size, 0, none⟩ (Nat.lt_of_lt_of_le hn0 hs)).trans c0_0
  have c0_1 := (World.cell?_alloc_lt w3 (.cells #[.int .i64 r', .int .i64 c', .string s'] 29) ⟨w.heap.size, 1, none⟩ (Nat.lt_of_lt_of_le hn0 hs)).trans c0_1
  have c0_2 := (World.cell?_alloc_lt w3 (.cells #[.int .i64 r', .int .i64 c', .string s'] 29) ⟨w.heap.size, 2, none⟩ (Nat.lt_of_lt_of_le hn0 hs)).trans c0_2
  obtain ⟨b1, eb1⟩ : ∃ b : Nat, w3.heap.size = b := ⟨_, rfl⟩
  have c1_0 : (w3.alloc (.cells #[.int .i64 r', .int .i64 c', .string s'] 29)).cell? ⟨b1, 0, none⟩ = some (.int .i64 r') := by rw [← eb1]; simp [go_sem]
  have c1_1 : (w3.alloc (.cells #[.int .i64 r', .int .i64 c', .string s'] 29)).cell? ⟨b1, 1, none⟩ = some (.int .i64 c') := by rw [← eb1]; simp [go_sem]
  have c1_2 : (w3.alloc (.cells #[.int .i64 r', .int .i64 c', .string s'] 29)).cell? ⟨b1, 2, none⟩ = some (.string s') := by rw [← eb1]; simp [go_sem]
  have hb1 : b1 < (w3.alloc (.cells #[.int .i64 r', .int .i64 c', .string s'] 29)).heap.size := by rw [← eb1]; simp
  have hB := hB.alloc (Nat.le_trans hn hs) (.cells #[.int .i64 r', .int .i64 c', .string s'] 29)
  have hs : w.heap.size + 1 ≤ (w3.alloc (.cells #[.int .i64 r', .int .i64 c', .string s'] 29)).heap.size := Nat.le_trans hs (by simp)
  rw [hW] at c0_0 c0_1 c0_2 c1_0 c1_1 c1_2 hB hs hb1
  simp only [eb1]
  clear hW eb1
  go_upto_region 7 with (first | (go_at_call 19; refine (toGrid_any _ _ _ _).mono ?_; rintro e w4 ⟨rfl, hbw4⟩; have c0_0 := (hbw4.cell (p := ⟨w.heap.size, 0, none⟩) (Nat.lt_of_lt_of_le hn0 hs)).trans c0_0; have c0_1 := (hbw4.cell (p := ⟨w.heap.size, 1, none⟩) (Nat.lt_of_lt_of_le hn0 hs)).trans c0_1; have c0_2 := (hbw4.cell (p := ⟨w.heap.size, 2, none⟩) (Nat.lt_of_lt_of_le hn0 hs)).trans c0_2; have c1_0 := (hbw4.cell (p := ⟨b1, 0, none⟩) hb1).trans c1_0; have c1_1 := (hbw4.cell (p := ⟨b1, 1, none⟩) hb1).trans c1_1; have c1_2 := (hbw4.cell (p := ⟨b1, 2, none⟩) hb1).trans c1_2; have hB := below_go hB hbw4 ⟨rfl, rfl, rfl, rfl⟩ (Nat.le_trans hn hs); have hb1 := Nat.lt_of_lt_of_le hb1 hbw4.size; have hs := Nat.le_trans hs hbw4.size) | (go_at_call 30; refine (CI.out _).mono ?_; rintro e w5 ⟨rfl, hbw5⟩; have c0_0 := (hbw5.cell (p := ⟨w.heap.size, 0, none⟩) (Nat.lt_of_lt_of_le hn0 hs)).trans c0_0; have c0_1 := (hbw5.cell (p := ⟨w.heap.size, 1, none⟩) (Nat.lt_of_lt_of_le hn0 hs)).trans c0_1; have c0_2 := (hbw5.cell (p := ⟨w.heap.size, 2, none⟩) (Nat.lt_of_lt_of_le hn0 hs)).trans c0_2; have c1_0 := (hbw5.cell (p := ⟨b1, 0, none⟩) hb1).trans c1_0; have c1_1 := (hbw5.cell (p := ⟨b1, 1, none⟩) hb1).trans c1_1; have c1_2 := (hbw5.cell (p := ⟨b1, 2, none⟩) hb1).trans c1_2; have hB := below_go hB hbw5 ⟨rfl, rfl, rfl, rfl⟩ (Nat.le_trans hn hs); have hb1 := Nat.lt_of_lt_of_le hb1 hbw5.size; have hs := Nat.le_trans hs hbw5.size))
  obtain ⟨W, hW⟩ : ∃ W : World, w5.alloc (.cells #[.int .i64 r', .int .i64 c', .string s'] 29) = W := ⟨_, rfl⟩
  rw [hW]
  have c0_0 := (World.cell?_alloc_lt w5 (.cells #[.int .i64 r', .int .i64 c', .string s'] 29) ⟨w.heap.size, 0, none⟩ (Nat.lt_of_lt_of_le hn0 hs)).trans c0_0
  have c0_1 := (World.cell?_alloc_lt w5 (.cells #[.int .i64 r', .int .i64 c', .string s'] 29) ⟨w.heap.size, 1, none⟩ (Nat.lt_of_lt_of_le hn0 hs)).trans c0_1
  have c0_2 := (World.cell?_alloc_lt w5 (.cells #[.int .i64 r', .int .i64 c', .string s'] 29) ⟨w.heap.size, 2, none⟩ (Nat.lt_of_lt_of_le hn0 hs)).trans c0_2
  have c1_0 := (World.cell?_alloc_lt w5 (.cells #[.int .i64 r', .int .i64 c', .string s'] 29) ⟨b1, 0, none⟩ hb1).trans c1_0
  have c1_1 := (World.cell?_alloc_lt w5 (.cells #[.int .i64 r', .int .i64 c', .string s'] 29) ⟨b1, 1, none⟩ hb1).trans c1_1
  have c1_2 := (World.cell?_alloc_lt w5 (.cells #[.int .i64 r', .int .i64 c', .string s'] 29) ⟨b1, 2, none⟩ hb1).trans c1_2
  obtain ⟨b2, eb2⟩ : ∃ b : Nat, w5.heap.size = b := ⟨_, rfl⟩
  have c2_0 : (w5.alloc (.cells #[.int .i64 r', .int .i64 c', .string s'] 29)).cell? ⟨b2, 0, none⟩ = some (.int .i64 r') := by rw [← eb2]; simp [go_sem]
  have c2_1 : (w5.alloc (.cells #[.int .i64 r', .int .i64 c', .string s'] 29)).cell? ⟨b2, 1, none⟩ = some (.int .i64 c') := by rw [← eb2]; simp [go_sem]
  have c2_2 : (w5.alloc (.cells #[.int .i64 r', .int .i64 c', .string s'] 29)).cell? ⟨b2, 2, none⟩ = some (.string s') := by rw [← eb2]; simp [go_sem]
  have hb2 : b2 < (w5.alloc (.cells #[.int .i64 r', .int .i64 c', .string s'] 29)).heap.size := by rw [← eb2]; simp
  have hb1 : b1 < (w5.alloc (.cells #[.int .i64 r', .int .i64 c', .string s'] 29)).heap.size := Nat.lt_of_lt_of_le hb1 (by simp)
  have hB := hB.alloc (Nat.le_trans hn hs) (.cells #[.int .i64 r', .int .i64 c', .string s'] 29)
  have hs : w.heap.size + 1 ≤ (w5.alloc (.cells #[.int .i64 r', .int .i64 c', .string s'] 29)).heap.size := Nat.le_trans hs (by simp)
  rw [hW] at c0_0 c0_1 c0_2 c1_0 c1_1 c1_2 c2_0 c2_1 c2_2 hB hs hb2 hb1
  simp only [eb2]
  clear hW eb2
  go_wp2_with (first | (go_at_call 31; refine (eqGrid_any _ _ _ _ _ _ _).mono ?_; rintro e w6 ⟨rfl, hbw6⟩; have c0_0 := (hbw6.cell (p := ⟨w.heap.size, 0, none⟩) (Nat.lt_of_lt_of_le hn0 hs)).trans c0_0; have c0_1 := (hbw6.cell (p := ⟨w.heap.size, 1, none⟩) (Nat.lt_of_lt_of_le hn0 hs)).trans c0_1; have c0_2 := (hbw6.cell (p := ⟨w.heap.size, 2, none⟩) (Nat.lt_of_lt_of_le hn0 hs)).trans c0_2; have c1_0 := (hbw6.cell (p := ⟨b1, 0, none⟩) hb1).trans c1_0; have c1_1 := (hbw6.cell (p := ⟨b1, 1, none⟩) hb1).trans c1_1; have c1_2 := (hbw6.cell (p := ⟨b1, 2, none⟩) hb1).trans c1_2; have c2_0 := (hbw6.cell (p := ⟨b2, 0, none⟩) hb2).trans c2_0; have c2_1 := (hbw6.cell (p := ⟨b2, 1, none⟩) hb2).trans c2_1; have c2_2 := (hbw6.cell (p := ⟨b2, 2, none⟩) hb2).trans c2_2; have hB := below_go hB hbw6 ⟨rfl, rfl, rfl, rfl⟩ (Nat.le_trans hn hs); have hb1 := Nat.lt_of_lt_of_le hb1 hbw6.size; have hb2 := Nat.lt_of_lt_of_le hb2 hbw6.size; have hs := Nat.le_trans hs hbw6.size))
  go_ret
  exact ⟨rfl, hB⟩

theorem given_walk {H : Type} {enc : TypeId × Value → H} (W : World) (args : Array Value) (h : Given enc Try.prog W Try.f7.params.toList args.toList) :
    Calls Try.prog 7 args W fun e W' => e = .returned (.bool true) ∧ Below W.heap.size W W' := by
  rw [Try.params7] at h
  obtain ⟨v0, vs0, hargs, a0, h⟩ := given_cons h
  obtain rfl := given_nil h
  obtain rfl : args = #[v0] := by cases args; simp_all
  obtain ⟨x0, rfl, h0⟩ := arg_Grid a0
  exact walk x0 h0 W

set_option maxRecDepth 100000 in
theorem lifted (os : Os) (started : os.Started) (H : Type) (enc : TypeId × Value → H) :
    ReturnsInHanded {} Try.checked os 7 .any (Rows.fnExactTurnGridSpec.pre6 enc Try.prog Try.f7 Rows.fnExactTurnGridRow.domain false) (Rows.fnExactTurnGridSpec.post enc Try.prog Try.f7 false true false false) :=
  law_lift started Try.func7 (by kernel_rfl) (by kernel_rfl) rfl rfl (fun ds h => by match ds, h with | [d0], _ => exact ⟨rfl, rfl, rfl⟩)
    (ChangeSpec.witness6 (enc := enc) (C := Try.checked) false ⟨#[], #[.agg #[.int .i64 0, .int .i64 0, .string ByteArray.empty]], []⟩ 8 (by kernel_rfl) (by kernel_rfl) (by kernel_rfl) (by kernel_rfl))
    (fun W args h => given_walk W args h)

theorem over : Rows.fnExactTurnGridRow.holds Try.pinned (OpenSpec.ofChange Rows.fnExactTurnGridSpec) :=
  OpenClaim.holds_of_wide 7 Try.f7 rfl rfl rfl rfl rfl rfl rfl ⟨rfl, rfl, rfl, rfl, rfl⟩ rfl rfl rfl rfl rfl (by kernel_rfl) Try.func7 (by kernel_rfl)
    (of_decide_eq_true (by kernel_rfl)) (by unfold Func.isWrapper; first | (rw [if_pos (by decide +kernel)]; kernel_rfl) | (rw [if_neg (by decide +kernel)]; exact ⟨rfl, rfl⟩))
    (fun os started H enc _ => lifted os started H enc)

theorem proved : Rows.FnExactTurnGridSaid :=
  over
#print axioms proved

end Go.Proofs.Ytdngdgjlcfbdhaa.fnExactTurnGrid
