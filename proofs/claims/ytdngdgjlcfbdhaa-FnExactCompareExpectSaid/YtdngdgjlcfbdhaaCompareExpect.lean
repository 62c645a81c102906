/- CompareExpect: the program and the reference give the same for all expectations. -/
import Derived.Test.YtdngdgjlcfbdhaaInts
import Derived.Test.YtdngdgjlcfbdhaaArgs
namespace Go.Proofs.Ytdngdgjlcfbdhaa.fnExactCompareExpect
open Go.ChangeShapes Go.WideShapes Go.ChangeAt Go.RowKit
set_option linter.unusedSimpArgs false
set_option linter.unusedVariables false
attribute [local go_sem ↓] Go.wp_at_zero Go.wp_at_succ

def sgn (x y : Int) : Int := if x < y then -1 else if y < x then 1 else 0
def validE (s n : Int) : Bool := inR n 1 1000000 && inR s (-1000000000) 1000000000
def cmpE (s n s' n' : Int) : Int := if validE s n && validE s' n' then sgn (wrap64 (s * n')) (wrap64 (s' * n)) else 0

theorem isNaN_any (x : Int) (w : World) :
    Calls Try.prog 102 #[.int .i64 x] w fun e w' => e = .returned (.bool false) ∧ w = w' := by
  go_enter Try.func102, Try.ntmps102
  go_wp2
  go_ret
  exact ⟨by simp, rfl⟩

theorem compare_any (x y : Int) (w : World) :
    Calls Try.prog 64 #[.int .i64 x, .int .i64 y] w fun e w' => e = .returned (.int .i64 (sgn x y)) ∧ w = w' := by
  go_enter Try.func64, Try.ntmps64
  go_wp2_with (first | (go_at_call 102; refine (isNaN_any _ _).mono ?_; rintro e w' ⟨rfl, rfl⟩))
  all_goals (go_ret; refine ⟨ret_int ?_, rfl⟩; unfold sgn; first | (rw [if_pos (by assumption)]; done) | (rw [if_neg (by omega), if_pos (by omega)]; done) | (rw [if_neg (by omega), if_neg (by omega)]; done))

theorem sign_any (x y : Int) (w : World) :
    Calls Try.prog 101 #[.int .i64 x, .int .i64 y] w fun e w' => e = .returned (.int .i64 (sgn x y)) ∧ w = w' := by
  go_enter Try.func101, Try.ntmps101
  go_wp2
  all_goals (go_ret; refine ⟨ret_int ?_, rfl⟩; unfold sgn; first | (rw [if_pos (by assumption)]; done) | (rw [if_neg (by omega), if_pos (by omega)]; done) | (rw [if_neg (by omega), if_neg (by omega)]; done))

theorem l21Ok_any (s n : Int) (w : World) :
    Calls Try.prog 61 #[.agg #[.int .i64 s, .int .i64 n]] w fun e w' => e = .returned (.bool (validE s n)) ∧ Below w.heap.size w w' := by
  unfold validE
  cases h1 : inR n 1 1000000
  all_goals
    go_enter Try.func61, Try.ntmps61
    go_wp2_with (first | (go_at_call 95; refine (l00In_any _ _ _ _).mono ?_; rintro e w' ⟨rfl, rfl⟩))
    go_ret
    exact ⟨rfl, by (repeat' (first | (with_reducible exact Below.refl _ _) | (with_reducible assumption) | (with_reducible refine Below.alloc ?_ ?_ _) | (with_reducible refine Below.drew ?_) | (with_reducible refine Below.setCell ?_ ?_ _) | (first | (with_reducible exact Nat.le_refl _) | (with_reducible assumption) | omega | (simp only [World.size_alloc, World.size_setCell, World.size_drew]; omega) | (simp; omega) | (simp; done))))⟩

theorem validExpect_any (s n : Int) (w : World) :
    Calls Try.prog 63 #[.agg #[.int .i64 s, .int .i64 n]] w fun e w' => e = .returned (.bool (validE s n)) ∧ Below w.heap.size w w' := by
  unfold validE
  cases h1 : inR n 1 1000000
  all_goals
    go_enter Try.func63, Try.ntmps63
    go_wp2_with (first | (go_at_call 56; refine (within_any _ _ _ _).mono ?_; rintro e w' ⟨rfl, rfl⟩))
    go_ret
    exact ⟨rfl, by (repeat' (first | (with_reducible exact Below.refl _ _) | (with_reducible assumption) | (with_reducible refine Below.alloc ?_ ?_ _) | (with_reducible refine Below.drew ?_) | (with_reducible refine Below.setCell ?_ ?_ _) | (first | (with_reducible exact Nat.le_refl _) | (with_reducible assumption) | omega | (simp only [World.size_alloc, World.size_setCell, World.size_drew]; omega) | (simp; omega) | (simp; done))))⟩

theorem l21Compare_any (s n s' n' : Int) (w : World) :
    Calls Try.prog 62 #[.agg #[.int .i64 s, .int .i64 n], .agg #[.int .i64 s', .int .i64 n']] w fun e w' => e = .returned (.int .i64 (sgn (wrap64 (s * n')) (wrap64 (s' * n)))) ∧ Below w.heap.size w w' := by
  go_enter Try.func62, Try.ntmps62
  go_wp2_with (first | (go_at_call 101; refine (sign_any _ _ _).mono ?_; rintro e w' ⟨rfl, rfl⟩))
  go_ret
  exact ⟨rfl, by (repeat' (first | (with_reducible exact Below.refl _ _) | (with_reducible assumption) | (with_reducible refine Below.alloc ?_ ?_ _) | (with_reducible refine Below.drew ?_) | (with_reducible refine Below.setCell ?_ ?_ _) | (first | (with_reducible exact Nat.le_refl _) | (with_reducible assumption) | omega | (simp only [World.size_alloc, World.size_setCell, World.size_drew]; omega) | (simp; omega) | (simp; done))))⟩

theorem spec_any (s n s' n' : Int) (w : World) :
    Calls Try.prog 21 #[.agg #[.int .i64 s, .int .i64 n], .agg #[.int .i64 s', .int .i64 n']] w fun e w' => e = .returned (.int .i64 (cmpE s n s' n')) ∧ Below w.heap.size w w' := by
  have hfin : ∀ a b : Bool, validE s n = a → validE s' n' = b → cmpE s n s' n' = if a && b then sgn (wrap64 (s * n')) (wrap64 (s' * n)) else 0 := fun a b h h' => by simp [cmpE, h, h']
  cases h1 : validE s n <;> cases h2 : validE s' n'
  all_goals
    have HF := Lib.hid (hfin _ _ h1 h2)
    clear hfin
    go_enter Try.func21, Try.ntmps21
    go_wp2_with (first | (go_at_call 61; refine (l21Ok_any _ _ _).mono ?_; rintro e w1 ⟨rfl, hbw1⟩; obtain ⟨hcw1, hfw1⟩ := bcell hbw1; have hBw1 : Below w.heap.size w w1 := Below.trans (by (repeat' (first | (with_reducible exact Below.refl _ _) | (with_reducible assumption) | (with_reducible refine Below.alloc ?_ ?_ _) | (with_reducible refine Below.drew ?_) | (with_reducible refine Below.setCell ?_ ?_ _) | (first | (with_reducible exact Nat.le_refl _) | (with_reducible assumption) | omega | (simp only [World.size_alloc, World.size_setCell, World.size_drew]; omega) | (simp; omega) | (simp; done))))) (hbw1.mono (by (first | (with_reducible exact Nat.le_refl _) | (with_reducible assumption) | omega | (simp only [World.size_alloc, World.size_setCell, World.size_drew]; omega) | (simp; omega) | (simp; done)))); have hzw1 := hbw1.size; (try simp at hzw1); (try have hl0w1 : w.heap.size < w1.heap.size := by omega); (try have hl1w1 : w.heap.size + 1 < w1.heap.size := by omega); (try have hl2w1 : w.heap.size + 1 + 1 < w1.heap.size := by omega); (try have hl3w1 : w.heap.size + 1 + 1 + 1 < w1.heap.size := by omega); (try have hl4w1 : w.heap.size + 1 + 1 + 1 + 1 < w1.heap.size := by omega)) | (go_at_call 62; refine (l21Compare_any _ _ _ _ _).mono ?_; rintro e w2 ⟨rfl, hbw2⟩; obtain ⟨hcw2, hfw2⟩ := bcell hbw2; have hBw2 : Below w.heap.size w w2 := Below.trans (by (repeat' (first | (with_reducible exact Below.refl _ _) | (with_reducible assumption) | (with_reducible refine Below.alloc ?_ ?_ _) | (with_reducible refine Below.drew ?_) | (with_reducible refine Below.setCell ?_ ?_ _) | (first | (with_reducible exact Nat.le_refl _) | (with_reducible assumption) | omega | (simp only [World.size_alloc, World.size_setCell, World.size_drew]; omega) | (simp; omega) | (simp; done))))) (hbw2.mono (by (first | (with_reducible exact Nat.le_refl _) | (with_reducible assumption) | omega | (simp only [World.size_alloc, World.size_setCell, World.size_drew]; omega) | (simp; omega) | (simp; done)))); have hzw2 := hbw2.size; (try simp at hzw2); (try have hl0w2 : w.heap.size < w2.heap.size := by omega); (try have hl1w2 : w.heap.size + 1 < w2.heap.size := by omega); (try have hl2w2 : w.heap.size + 1 + 1 < w2.heap.size := by omega); (try have hl3w2 : w.heap.size + 1 + 1 + 1 < w2.heap.size := by omega); (try have hl4w2 : w.heap.size + 1 + 1 + 1 + 1 < w2.heap.size := by omega)))
    go_ret
    exact ⟨by rw [HF.out]; rfl, by (repeat' (first | (with_reducible exact Below.refl _ _) | (with_reducible assumption) | (with_reducible refine Below.alloc ?_ ?_ _) | (with_reducible refine Below.drew ?_) | (with_reducible refine Below.setCell ?_ ?_ _) | (first | (with_reducible exact Nat.le_refl _) | (with_reducible assumption) | omega | (simp only [World.size_alloc, World.size_setCell, World.size_drew]; omega) | (simp; omega) | (simp; done))))⟩

theorem impl_any (s n s' n' : Int) (w : World) :
    Calls Try.prog 23 #[.agg #[.int .i64 s, .int .i64 n], .agg #[.int .i64 s', .int .i64 n']] w fun e w' => e = .returned (.int .i64 (cmpE s n s' n')) ∧ Below w.heap.size w w' := by
  have hfin : ∀ a b : Bool, validE s n = a → validE s' n' = b → cmpE s n s' n' = if a && b then sgn (wrap64 (s * n')) (wrap64 (s' * n)) else 0 := fun a b h h' => by simp [cmpE, h, h']
  cases h1 : validE s n <;> cases h2 : validE s' n'
  all_goals
    have HF := Lib.hid (hfin _ _ h1 h2)
    clear hfin
    go_enter Try.func23, Try.ntmps23
    go_wp2_with (first | (go_at_call 63; refine (validExpect_any _ _ _).mono ?_; rintro e w1 ⟨rfl, hbw1⟩; obtain ⟨hcw1, hfw1⟩ := bcell hbw1; have hBw1 : Below w.heap.size w w1 := Below.trans (by (repeat' (first | (with_reducible exact Below.refl _ _) | (with_reducible assumption) | (with_reducible refine Below.alloc ?_ ?_ _) | (with_reducible refine Below.drew ?_) | (with_reducible refine Below.setCell ?_ ?_ _) | (first | (with_reducible exact Nat.le_refl _) | (with_reducible assumption) | omega | (simp only [World.size_alloc, World.size_setCell, World.size_drew]; omega) | (simp; omega) | (simp; done))))) (hbw1.mono (by (first | (with_reducible exact Nat.le_refl _) | (with_reducible assumption) | omega | (simp only [World.size_alloc, World.size_setCell, World.size_drew]; omega) | (simp; omega) | (simp; done)))); have hzw1 := hbw1.size; (try simp at hzw1); (try have hl0w1 : w.heap.size < w1.heap.size := by omega); (try have hl1w1 : w.heap.size + 1 < w1.heap.size := by omega); (try have hl2w1 : w.heap.size + 1 + 1 < w1.heap.size := by omega); (try have hl3w1 : w.heap.size + 1 + 1 + 1 < w1.heap.size := by omega); (try have hl4w1 : w.heap.size + 1 + 1 + 1 + 1 < w1.heap.size := by omega)) | (go_at_call 64; refine (compare_any _ _ _).mono ?_; rintro e w' ⟨rfl, rfl⟩))
    go_ret
    exact ⟨by rw [HF.out]; rfl, by (repeat' (first | (with_reducible exact Below.refl _ _) | (with_reducible assumption) | (with_reducible refine Below.alloc ?_ ?_ _) | (with_reducible refine Below.drew ?_) | (with_reducible refine Below.setCell ?_ ?_ _) | (first | (with_reducible exact Nat.le_refl _) | (with_reducible assumption) | omega | (simp only [World.size_alloc, World.size_setCell, World.size_drew]; omega) | (simp; omega) | (simp; done))))⟩

set_option maxHeartbeats 1000000 in
theorem walk (a b : Expect) (w : World) :
    Calls Try.prog 5 #[.agg a.cells.toArray, .agg b.cells.toArray] w fun e w' => e = .returned (.bool true) ∧ Below w.heap.size w w' := by
  obtain ⟨s, n⟩ := a
  obtain ⟨s', n'⟩ := b
  simp only [Expect.cells]
  go_enter Try.func5, Try.ntmps5
  go_wp2_with fail
  obtain ⟨W, hW⟩ : ∃ W : World, ((w.alloc (.cells #[.int .i64 s, .int .i64 n] 33)).alloc (.cells #[.int .i64 s', .int .i64 n'] 33)) = W := ⟨_, rfl⟩
  have hs : w.heap.size + 2 ≤ W.heap.size := by rw [← hW]; simp
  have hB : Below w.heap.size w W := by rw [← hW]; (repeat' (first | (with_reducible exact Below.refl _ _) | (with_reducible assumption) | (with_reducible refine Below.alloc ?_ ?_ _) | (with_reducible refine Below.drew ?_) | (with_reducible refine Below.setCell ?_ ?_ _) | (first | (with_reducible exact Nat.le_refl _) | (with_reducible assumption) | omega | (simp only [World.size_alloc, World.size_setCell, World.size_drew]; omega) | (simp; omega) | (simp; done))))
  have c0_0 : W.cell? ⟨w.heap.size, 0, none⟩ = some (.int .i64 s) := by rw [← hW]; simp [go_sem]
  have c0_1 : W.cell? ⟨w.heap.size, 1, none⟩ = some (.int .i64 n) := by rw [← hW]; simp [go_sem]
  have c1_0 : W.cell? ⟨w.heap.size + 1, 0, none⟩ = some (.int .i64 s') := by rw [← hW]; simp [go_sem]
  have c1_1 : W.cell? ⟨w.heap.size + 1, 1, none⟩ = some (.int .i64 n') := by rw [← hW]; simp [go_sem]
  rw [hW]
  clear hW
  have hn : w.heap.size ≤ w.heap.size + 2 := by omega
  have hn0 : w.heap.size < w.heap.size + 2 := by omega
  have hn1 : w.heap.size + 1 < w.heap.size + 2 := by omega
  have t1 := trivial
  have t2 := trivial
  have t3 := trivial
  have t4 := trivial
  go_region_held3 (fun w' => w'.cell? ⟨w.heap.size, 0, none⟩ = some (.int .i64 s) ∧ w'.cell? ⟨w.heap.size, 1, none⟩ = some (.int .i64 n) ∧ w'.cell? ⟨w.heap.size + 1, 0, none⟩ = some (.int .i64 s') ∧ w'.cell? ⟨w.heap.size + 1, 1, none⟩ = some (.int .i64 n')) (exact ⟨c0_0, c0_1, c1_0, c1_1⟩)
    (first | (go_at_call 22; clear t1; refine (toExpect_any _ _ _).mono ?_; rintro e w1 ⟨rfl, hbw1⟩; have c0_0 := (hbw1.cell (p := ⟨w.heap.size, 0, none⟩) (Nat.lt_of_lt_of_le hn0 hs)).trans c0_0; have c0_1 := (hbw1.cell (p := ⟨w.heap.size, 1, none⟩) (Nat.lt_of_lt_of_le hn0 hs)).trans c0_1; have c1_0 := (hbw1.cell (p := ⟨w.heap.size + 1, 0, none⟩) (Nat.lt_of_lt_of_le hn1 hs)).trans c1_0; have c1_1 := (hbw1.cell (p := ⟨w.heap.size + 1, 1, none⟩) (Nat.lt_of_lt_of_le hn1 hs)).trans c1_1; have hB := below_go hB hbw1 ⟨rfl, rfl, rfl, rfl⟩ (Nat.le_trans hn hs); have hs := Nat.le_trans hs hbw1.size) | (go_at_call 22; clear t2; refine (toExpect_any _ _ _).mono ?_; rintro e w2 ⟨rfl, hbw2⟩; have c0_0 := (hbw2.cell (p := ⟨w.heap.size, 0, none⟩) (Nat.lt_of_lt_of_le hn0 hs)).trans c0_0; have c0_1 := (hbw2.cell (p := ⟨w.heap.size, 1, none⟩) (Nat.lt_of_lt_of_le hn0 hs)).trans c0_1; have c1_0 := (hbw2.cell (p := ⟨w.heap.size + 1, 0, none⟩) (Nat.lt_of_lt_of_le hn1 hs)).trans c1_0; have c1_1 := (hbw2.cell (p := ⟨w.heap.size + 1, 1, none⟩) (Nat.lt_of_lt_of_le hn1 hs)).trans c1_1; have hB := below_go hB hbw2 ⟨rfl, rfl, rfl, rfl⟩ (Nat.le_trans hn hs); have hs := Nat.le_trans hs hbw2.size) | (go_at_call 21; refine (spec_any _ _ _ _ _).mono ?_; rintro e w3 ⟨rfl, hbw3⟩; have c0_0 := (hbw3.cell (p := ⟨w.heap.size, 0, none⟩) (Nat.lt_of_lt_of_le hn0 hs)).trans c0_0; have c0_1 := (hbw3.cell (p := ⟨w.heap.size, 1, none⟩) (Nat.lt_of_lt_of_le hn0 hs)).trans c0_1; have c1_0 := (hbw3.cell (p := ⟨w.heap.size + 1, 0, none⟩) (Nat.lt_of_lt_of_le hn1 hs)).trans c1_0; have c1_1 := (hbw3.cell (p := ⟨w.heap.size + 1, 1, none⟩) (Nat.lt_of_lt_of_le hn1 hs)).trans c1_1; have hB := below_go hB hbw3 ⟨rfl, rfl, rfl, rfl⟩ (Nat.le_trans hn hs); have hs := Nat.le_trans hs hbw3.size))
  go_wp2
  go_region_held3 (fun w' => w'.cell? ⟨w.heap.size, 0, none⟩ = some (.int .i64 s) ∧ w'.cell? ⟨w.heap.size, 1, none⟩ = some (.int .i64 n) ∧ w'.cell? ⟨w.heap.size + 1, 0, none⟩ = some (.int .i64 s') ∧ w'.cell? ⟨w.heap.size + 1, 1, none⟩ = some (.int .i64 n')) (exact ⟨c0_0, c0_1, c1_0, c1_1⟩)
    (first | (go_at_call 22; clear t3; refine (toExpect_any _ _ _).mono ?_; rintro e w4 ⟨rfl, hbw4⟩; have c0_0 := (hbw4.cell (p := ⟨w.heap.size, 0, none⟩) (Nat.lt_of_lt_of_le hn0 hs)).trans c0_0; have c0_1 := (hbw4.cell (p := ⟨w.heap.size, 1, none⟩) (Nat.lt_of_lt_of_le hn0 hs)).trans c0_1; have c1_0 := (hbw4.cell (p := ⟨w.heap.size + 1, 0, none⟩) (Nat.lt_of_lt_of_le hn1 hs)).trans c1_0; have c1_1 := (hbw4.cell (p := ⟨w.heap.size + 1, 1, none⟩) (Nat.lt_of_lt_of_le hn1 hs)).trans c1_1; have hB := below_go hB hbw4 ⟨rfl, rfl, rfl, rfl⟩ (Nat.le_trans hn hs); have hs := Nat.le_trans hs hbw4.size) | (go_at_call 22; clear t4; refine (toExpect_any _ _ _).mono ?_; rintro e w5 ⟨rfl, hbw5⟩; have c0_0 := (hbw5.cell (p := ⟨w.heap.size, 0, none⟩) (Nat.lt_of_lt_of_le hn0 hs)).trans c0_0; have c0_1 := (hbw5.cell (p := ⟨w.heap.size, 1, none⟩) (Nat.lt_of_lt_of_le hn0 hs)).trans c0_1; have c1_0 := (hbw5.cell (p := ⟨w.heap.size + 1, 0, none⟩) (Nat.lt_of_lt_of_le hn1 hs)).trans c1_0; have c1_1 := (hbw5.cell (p := ⟨w.heap.size + 1, 1, none⟩) (Nat.lt_of_lt_of_le hn1 hs)).trans c1_1; have hB := below_go hB hbw5 ⟨rfl, rfl, rfl, rfl⟩ (Nat.le_trans hn hs); have hs := Nat.le_trans hs hbw5.size) | (go_at_call 23; refine (impl_any _ _ _ _ _).mono ?_; rintro e w6 ⟨rfl, hbw6⟩; have c0_0 := (hbw6.cell (p := ⟨w.heap.size, 0, none⟩) (Nat.lt_of_lt_of_le hn0 hs)).trans c0_0; have c0_1 := (hbw6.cell (p := ⟨w.heap.size, 1, none⟩) (Nat.lt_of_lt_of_le hn0 hs)).trans c0_1; have c1_0 := (hbw6.cell (p := ⟨w.heap.size + 1, 0, none⟩) (Nat.lt_of_lt_of_le hn1 hs)).trans c1_0; have c1_1 := (hbw6.cell (p := ⟨w.heap.size + 1, 1, none⟩) (Nat.lt_of_lt_of_le hn1 hs)).trans c1_1; have hB := below_go hB hbw6 ⟨rfl, rfl, rfl, rfl⟩ (Nat.le_trans hn hs); have hs := Nat.le_trans hs hbw6.size))
  go_wp2
  go_ret
  exact ⟨rfl, hB⟩

theorem given_walk {H : Type} {enc : TypeId × Value → H} (W : World) (args : Array Value) (h : Given enc Try.prog W Try.f5.params.toList args.toList) :
    Calls Try.prog 5 args W fun e W' => e = .returned (.bool true) ∧ Below W.heap.size W W' := by
  rw [Try.params5] at h
  obtain ⟨v0, vs0, hargs, a0, h⟩ := given_cons h
  obtain ⟨v1, vs1, rfl, a1, h⟩ := given_cons h
  obtain rfl := given_nil h
  obtain rfl : args = #[v0, v1] := by cases args; simp_all
  obtain ⟨x0, rfl, _⟩ := arg_Expect a0
  obtain ⟨x1, rfl, _⟩ := arg_Expect a1
  exact walk x0 x1 W

set_option maxRecDepth 100000 in
theorem lifted (os : Os) (started : os.Started) (H : Type) (enc : TypeId × Value → H) :
    ReturnsInHanded {} Try.checked os 5 .any (Rows.fnExactCompareExpectSpec.pre6 enc Try.prog Try.f5 Rows.fnExactCompareExpectRow.domain false) (Rows.fnExactCompareExpectSpec.post enc Try.prog Try.f5 false true false false) :=
  law_lift started Try.func5 (by kernel_rfl) (by kernel_rfl) rfl rfl (fun ds h => by match ds, h with | [d0, d1], _ => exact ⟨rfl, rfl, rfl⟩)
    (ChangeSpec.witness6 (enc := enc) (C := Try.checked) false ⟨#[], #[.agg #[.int .i64 0, .int .i64 0], .agg #[.int .i64 0, .int .i64 0]], []⟩ 8 (by kernel_rfl) (by kernel_rfl) (by kernel_rfl) (by kernel_rfl))
    (fun W args h => given_walk W args h)

theorem over : Rows.fnExactCompareExpectRow.holds Try.pinned (OpenSpec.ofChange Rows.fnExactCompareExpectSpec) :=
  OpenClaim.holds_of_wide 5 Try.f5 rfl rfl rfl rfl rfl rfl rfl ⟨rfl, rfl, rfl, rfl, rfl⟩ rfl rfl rfl rfl rfl (by kernel_rfl) Try.func5 (by kernel_rfl)
    (of_decide_eq_true (by kernel_rfl)) (by unfold Func.isWrapper; first | (rw [if_pos (by decide +kernel)]; kernel_rfl) | (rw [if_neg (by decide +kernel)]; exact ⟨rfl, rfl⟩))
    (fun os started H enc _ => lifted os started H enc)

theorem proved : Rows.FnExactCompareExpectSaid :=
  over
#print axioms proved

end Go.Proofs.Ytdngdgjlcfbdhaa.fnExactCompareExpect
