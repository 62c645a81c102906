/- Grids: what is valid. -/
import Derived.Test.YtdngdgjlcfbdhaaBytes
import Derived.Test.YtdngdgjlcfbdhaaData
namespace Go.Proofs.Ytdngdgjlcfbdhaa
open Go.RowKit
set_option linter.unusedSimpArgs false
set_option linter.unusedVariables false
attribute [local go_sem ↓] Go.wp_at_zero Go.wp_at_succ

def gridOk (g : Grid) : Bool := inR g.rows 1 5 && (inR g.cols 1 5 && (decide ((g.cells_.size : Int) = g.rows * g.cols) && allB gridI g.cells_))

theorem mul_25 {r c : Int} (h1 : 1 ≤ r) (h2 : r ≤ 5) (h3 : 1 ≤ c) (h4 : c ≤ 5) : 1 ≤ r * c ∧ r * c ≤ 25 := by
  have : r = 1 ∨ r = 2 ∨ r = 3 ∨ r = 4 ∨ r = 5 := by omega
  rcases this with rfl | rfl | rfl | rfl | rfl <;> omega

theorem ent_gridByte : Ent Try.prog 60 := ent_of Try.func60 (by kernel_rfl) rfl

set_option maxHeartbeats 1000000 in
theorem ValidGrid_any (r c : Int) (s : ByteArray) (w : World) (hs : s.size ≤ maxLen) :
    Calls Try.prog 20 #[.agg #[.int .i64 r, .int .i64 c, .string s]] w fun e w' => e = .returned (.bool (gridOk ⟨r, c, s⟩)) ∧ Below w.heap.size w w' := by
  have hs' := hs
  unfold maxLen at hs'
  cases h1 : inR r 1 5
  · have HF := Lib.hid (show gridOk ⟨r, c, s⟩ = false by simp [gridOk, h1])
    go_enter Try.func20, Try.ntmps20
    go_wp2_with (first | (go_at_call 56; refine (within_any _ _ _ _).mono ?_; rintro e w' ⟨rfl, rfl⟩))
    go_ret
    exact ⟨ret_bool HF.out.symm, by (repeat' (first | (with_reducible exact Below.refl _ _) | (with_reducible assumption) | (with_reducible refine Below.alloc ?_ ?_ _) | (with_reducible refine Below.drew ?_) | (with_reducible refine bdrewN ?_ _) | (with_reducible refine Below.setCell ?_ ?_ _) | (first | (with_reducible exact Nat.le_refl _) | (with_reducible assumption) | omega | (simp only [World.size_alloc, World.size_setCell, World.size_drew]; omega) | (simp; omega) | (simp; done))))⟩
  cases h2 : inR c 1 5
  · have HF := Lib.hid (show gridOk ⟨r, c, s⟩ = false by simp [gridOk, h1, h2])
    go_enter Try.func20, Try.ntmps20
    go_wp2_with (first | (go_at_call 56; refine (within_any _ _ _ _).mono ?_; rintro e w' ⟨rfl, rfl⟩))
    go_ret
    exact ⟨ret_bool HF.out.symm, by (repeat' (first | (with_reducible exact Below.refl _ _) | (with_reducible assumption) | (with_reducible refine Below.alloc ?_ ?_ _) | (with_reducible refine Below.drew ?_) | (with_reducible refine bdrewN ?_ _) | (with_reducible refine Below.setCell ?_ ?_ _) | (first | (with_reducible exact Nat.le_refl _) | (with_reducible assumption) | omega | (simp only [World.size_alloc, World.size_setCell, World.size_drew]; omega) | (simp; omega) | (simp; done))))⟩
  have b1 := inR_true h1
  have b2 := inR_true h2
  obtain ⟨m1, m2⟩ := mul_25 b1.1 b1.2 b2.1 b2.2
  by_cases h3 : (s.size : Int) = r * c
  · have HF := Lib.hid (show gridOk ⟨r, c, s⟩ = allB gridI s by simp [gridOk, h1, h2, h3])
    have h3' : ((s.size : Int) == r * c) = true := by simp [h3]
    clear h3
    go_enter Try.func20, Try.ntmps20
    go_wp2_with (first | (go_at_call 56; refine (within_any _ _ _ _).mono ?_; rintro e w' ⟨rfl, rfl⟩) | (go_at_call 59; refine (allBytes_any _ ent_gridByte _ (fun c w => gridByte_any c w) _ _ hs).mono ?_; rintro e w' ⟨rfl, rfl⟩))
    go_ret
    exact ⟨ret_bool HF.out.symm, by (repeat' (first | (with_reducible exact Below.refl _ _) | (with_reducible assumption) | (with_reducible refine Below.alloc ?_ ?_ _) | (with_reducible refine Below.drew ?_) | (with_reducible refine bdrewN ?_ _) | (with_reducible refine Below.setCell ?_ ?_ _) | (first | (with_reducible exact Nat.le_refl _) | (with_reducible assumption) | omega | (simp only [World.size_alloc, World.size_setCell, World.size_drew]; omega) | (simp; omega) | (simp; done))))⟩
  · have HF := Lib.hid (show gridOk ⟨r, c, s⟩ = false by simp [gridOk, h1, h2, h3])
    have h3' : ((s.size : Int) == r * c) = false := by simp [h3]
    go_enter Try.func20, Try.ntmps20
    go_wp2_with (first | (go_at_call 56; refine (within_any _ _ _ _).mono ?_; rintro e w' ⟨rfl, rfl⟩) | (go_at_call 59; refine (allBytes_any _ ent_gridByte _ (fun c w => gridByte_any c w) _ _ hs).mono ?_; rintro e w' ⟨rfl, rfl⟩))
    go_ret
    exact ⟨ret_bool HF.out.symm, by (repeat' (first | (with_reducible exact Below.refl _ _) | (with_reducible assumption) | (with_reducible refine Below.alloc ?_ ?_ _) | (with_reducible refine Below.drew ?_) | (with_reducible refine bdrewN ?_ _) | (with_reducible refine Below.setCell ?_ ?_ _) | (first | (with_reducible exact Nat.le_refl _) | (with_reducible assumption) | omega | (simp only [World.size_alloc, World.size_setCell, World.size_drew]; omega) | (simp; omega) | (simp; done))))⟩

set_option maxHeartbeats 1000000 in
theorem l25Ok_any (b : Nat) (r c : Int) (s : ByteArray) (w : World) (hs : s.size ≤ maxLen) (c0 : w.cell? ⟨b, 0, none⟩ = some (.int .i64 r)) (c1 : w.cell? ⟨b, 1, none⟩ = some (.int .i64 c)) (c2 : w.cell? ⟨b, 2, none⟩ = some (.string s)) :
    Calls Try.prog 58 #[.pointer (some ⟨b, 0, none⟩)] w fun e w' => e = .returned (.bool (gridOk ⟨r, c, s⟩)) ∧ Below w.heap.size w w' := by
  have hs' := hs
  unfold maxLen at hs'
  cases h1 : inR r 1 5
  · have HF := Lib.hid (show gridOk ⟨r, c, s⟩ = false by simp [gridOk, h1])
    go_enter Try.func58, Try.ntmps58
    go_wp2
    go_quiet ((go_at_call 95; exact Calls.quiet_of_same ((l00In_any _ _ _ _).mono fun e w' h => ⟨h.1, h.2.symm⟩)))
    go_wp2
    go_ret
    exact ⟨ret_bool HF.out.symm, by (repeat' (first | (with_reducible exact Below.refl _ _) | (with_reducible assumption) | (with_reducible refine Below.alloc ?_ ?_ _) | (with_reducible refine Below.drew ?_) | (with_reducible refine bdrewN ?_ _) | (with_reducible refine Below.setCell ?_ ?_ _) | (first | (with_reducible exact Nat.le_refl _) | (with_reducible assumption) | omega | (simp only [World.size_alloc, World.size_setCell, World.size_drew]; omega) | (simp; omega) | (simp; done))))⟩
  cases h2 : inR c 1 5
  · have HF := Lib.hid (show gridOk ⟨r, c, s⟩ = false by simp [gridOk, h1, h2])
    go_enter Try.func58, Try.ntmps58
    go_wp2
    go_quiet ((go_at_call 95; exact Calls.quiet_of_same ((l00In_any _ _ _ _).mono fun e w' h => ⟨h.1, h.2.symm⟩)))
    go_wp2
    go_ret
    exact ⟨ret_bool HF.out.symm, by (repeat' (first | (with_reducible exact Below.refl _ _) | (with_reducible assumption) | (with_reducible refine Below.alloc ?_ ?_ _) | (with_reducible refine Below.drew ?_) | (with_reducible refine bdrewN ?_ _) | (with_reducible refine Below.setCell ?_ ?_ _) | (first | (with_reducible exact Nat.le_refl _) | (with_reducible assumption) | omega | (simp only [World.size_alloc, World.size_setCell, World.size_drew]; omega) | (simp; omega) | (simp; done))))⟩
  have b1 := inR_true h1
  have b2 := inR_true h2
  obtain ⟨m1, m2⟩ := mul_25 b1.1 b1.2 b2.1 b2.2
  by_cases h3 : (s.size : Int) = r * c
  · have HF := Lib.hid (show gridOk ⟨r, c, s⟩ = allB gridI s by simp [gridOk, h1, h2, h3])
    have h3' : ((s.size : Int) != r * c) = false := by simp [h3]
    clear h3
    go_enter Try.func58, Try.ntmps58
    go_wp2
    go_quiet ((go_at_call 95; exact Calls.quiet_of_same ((l00In_any _ _ _ _).mono fun e w' h => ⟨h.1, h.2.symm⟩)))
    go_wp2
    clear h1 h2 h3'
    go_loop [3] (fun i => ∃ k : Nat, k ≤ s.size ∧ i = .int .i64 k ∧ allTo gridI s k = true) (fun i => s.size - (intOf i).toNat)
    case atStart => exact ⟨0, Nat.zero_le _, rfl, allTo_zero _ _⟩
    case round =>
      obtain ⟨k, hk, rfl, hall⟩ := hrel
      have HA := Lib.hid hall
      clear hall
      by_cases hlt : k < s.size
      · have HS := Lib.hid (allTo_succ gridI s k hlt)
        have HN := Lib.hid (allTo_no gridI s k hlt)
        go_wp2_with (first | (go_at_call 99; refine (l01Small_any _ _).mono ?_; rintro e w' ⟨rfl, rfl⟩))
        all_goals first
          | exact ⟨⟨k + 1, by omega, by go_num, by rw [HS.out, HA.out]; go_light; simp_all [gridI]⟩, by simp [intOf]; omega⟩
          | (go_ret; exact ⟨ret_bool (by rw [HF.out]; exact (HN.out (by go_light; simp_all [gridI])).symm), by (repeat' (first | (with_reducible exact Below.refl _ _) | (with_reducible assumption) | (with_reducible refine Below.alloc ?_ ?_ _) | (with_reducible refine Below.drew ?_) | (with_reducible refine bdrewN ?_ _) | (with_reducible refine Below.setCell ?_ ?_ _) | (first | (with_reducible exact Nat.le_refl _) | (with_reducible assumption) | omega | (simp only [World.size_alloc, World.size_setCell, World.size_drew]; omega) | (simp; omega) | (simp; done))))⟩)
      · have hk' : k = s.size := by omega
        go_wp2
        go_ret
        subst hk'
        exact ⟨ret_bool (by rw [HF.out, ← allTo_full, HA.out]), by (repeat' (first | (with_reducible exact Below.refl _ _) | (with_reducible assumption) | (with_reducible refine Below.alloc ?_ ?_ _) | (with_reducible refine Below.drew ?_) | (with_reducible refine bdrewN ?_ _) | (with_reducible refine Below.setCell ?_ ?_ _) | (first | (with_reducible exact Nat.le_refl _) | (with_reducible assumption) | omega | (simp only [World.size_alloc, World.size_setCell, World.size_drew]; omega) | (simp; omega) | (simp; done))))⟩
  · have HF := Lib.hid (show gridOk ⟨r, c, s⟩ = false by simp [gridOk, h1, h2, h3])
    have h3' : ((s.size : Int) != r * c) = true := by simp [h3]
    clear h3
    go_enter Try.func58, Try.ntmps58
    go_wp2
    go_quiet ((go_at_call 95; exact Calls.quiet_of_same ((l00In_any _ _ _ _).mono fun e w' h => ⟨h.1, h.2.symm⟩)))
    go_wp2
    go_ret
    exact ⟨ret_bool HF.out.symm, by (repeat' (first | (with_reducible exact Below.refl _ _) | (with_reducible assumption) | (with_reducible refine Below.alloc ?_ ?_ _) | (with_reducible refine Below.drew ?_) | (with_reducible refine bdrewN ?_ _) | (with_reducible refine Below.setCell ?_ ?_ _) | (first | (with_reducible exact Nat.le_refl _) | (with_reducible assumption) | omega | (simp only [World.size_alloc, World.size_setCell, World.size_drew]; omega) | (simp; omega) | (simp; done))))⟩

theorem specValidGrid_any (r c : Int) (s : ByteArray) (w : World) (hs : s.size ≤ maxLen) :
    Calls Try.prog 18 #[.agg #[.int .i64 r, .int .i64 c, .string s]] w fun e w' => e = .returned (.bool (gridOk ⟨r, c, s⟩)) ∧ Below w.heap.size w w' := by
  go_enter Try.func18, Try.ntmps18
  go_wp2_with (first | (go_at_call 58; refine (l25Ok_any _ r c s _ hs (by simp [go_sem]) (by simp [go_sem]) (by simp [go_sem])).mono ?_; rintro e w1 ⟨rfl, hbw1⟩; obtain ⟨hcw1, hfw1⟩ := bcell hbw1; have hBw1 : Below w.heap.size w w1 := Below.trans (by (repeat' (first | (with_reducible exact Below.refl _ _) | (with_reducible assumption) | (with_reducible refine Below.alloc ?_ ?_ _) | (with_reducible refine Below.drew ?_) | (with_reducible refine bdrewN ?_ _) | (with_reducible refine Below.setCell ?_ ?_ _) | (first | (with_reducible exact Nat.le_refl _) | (with_reducible assumption) | omega | (simp only [World.size_alloc, World.size_setCell, World.size_drew]; omega) | (simp; omega) | (simp; done))))) (hbw1.mono (by (first | (with_reducible exact Nat.le_refl _) | (with_reducible assumption) | omega | (simp only [World.size_alloc, World.size_setCell, World.size_drew]; omega) | (simp; omega) | (simp; done)))); have hzw1 := hbw1.size; (try simp at hzw1); (try have hl0w1 : w.heap.size < w1.heap.size := by omega); (try have hl1w1 : w.heap.size + 1 < w1.heap.size := by omega); (try have hl2w1 : w.heap.size + 1 + 1 < w1.heap.size := by omega); (try have hl3w1 : w.heap.size + 1 + 1 + 1 < w1.heap.size := by omega); (try have hl4w1 : w.heap.size + 1 + 1 + 1 + 1 < w1.heap.size := by omega)))
  go_ret
  exact ⟨rfl, hBw1⟩

end Go.Proofs.Ytdngdgjlcfbdhaa
