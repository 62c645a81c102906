/- Grids turned, the reference. -/
import Derived.Test.YtdngdgjlcfbdhaaTurn
import Derived.StillTailTactics
import Derived.IntWalk
import Derived.PlainAid
namespace Go.Proofs.Ytdngdgjlcfbdhaa
open Go.RowKit
set_option linter.unusedSimpArgs false
set_option linter.unusedVariables false
attribute [local go_sem ↓] Go.wp_at_zero Go.wp_at_succ

set_option maxHeartbeats 1000000 in
theorem l25At_in (b : Nat) (rn cn i k : Nat) (s : ByteArray) (w : World) (hr : rn ≤ 5) (hc : cn ≤ 5) (hs : s.size = rn * cn) (hi : i < rn) (hk : k < cn)
    (c0 : w.cell? ⟨b, 0, none⟩ = some (.int .i64 rn)) (c1 : w.cell? ⟨b, 1, none⟩ = some (.int .i64 cn)) (c2 : w.cell? ⟨b, 2, none⟩ = some (.string s)) :
    Calls Try.prog 104 #[.pointer (some ⟨b, 0, none⟩), .int .i64 i, .int .i64 k] w fun e w' => e = .returned (.int .u8 (byteD s (i * cn + k)).toNat) ∧ Below w.heap.size w w' := by
  have hidx : i * cn + k < s.size := by
    rw [hs]
    have : (i + 1) * cn ≤ rn * cn := Nat.mul_le_mul_right _ hi
    rw [Nat.succ_mul] at this
    omega
  have p0 : (0 : Int) ≤ (i : Int) * (cn : Int) := by rw [← Int.natCast_mul]; omega
  have p1 : (i : Int) * (cn : Int) + (k : Int) < (s.size : Int) := by rw [← Int.natCast_mul]; omega
  have hs25 : s.size ≤ 25 := by rw [hs]; exact Nat.mul_le_mul hr hc
  have g1 : inR (i : Int) 0 ((rn : Int) - 1) = true := by simp [inR]; omega
  have g2 : inR (k : Int) 0 ((cn : Int) - 1) = true := by simp [inR]; omega
  have HX := Lib.hid hidx
  clear hs
  have p2 : ((i : Int) * (cn : Int) + (k : Int)).toNat = i * cn + k := PlainAid.toNat_lin i k cn
  have p3 : IntKind.i64.wrap ((i : Int) * (cn : Int)) = (i : Int) * (cn : Int) := IntWalk.i64_in _ ⟨by omega, by omega⟩
  have p4 : IntKind.i64.wrap ((i : Int) * (cn : Int) + (k : Int)) = (i : Int) * (cn : Int) + (k : Int) := IntWalk.i64_in _ ⟨by omega, by omega⟩
  have p5 : (0 : Int) ≤ (i : Int) * (cn : Int) + (k : Int) := by omega
  clear hs25
  go_enter Try.func104, Try.ntmps104
  go_wp2_with (first | (go_at_call 95; refine (l00In_any _ _ _ _).mono ?_; rintro e w' ⟨rfl, rfl⟩))
  go_quiet (fail)
  go_wp2
  go_ret
  exact ⟨ret_int (by rw [byteD_at _ _ HX.out]), by (repeat' (first | (with_reducible exact Below.refl _ _) | (with_reducible assumption) | (with_reducible refine Below.alloc ?_ ?_ _) | (with_reducible refine Below.drew ?_) | (with_reducible refine bdrewN ?_ _) | (with_reducible refine Below.setCell ?_ ?_ _) | (first | (with_reducible exact Nat.le_refl _) | (with_reducible assumption) | omega | (simp only [World.size_alloc, World.size_setCell, World.size_drew]; omega) | (simp; omega) | (simp; done))))⟩

set_option maxRecDepth 100000 in
set_option maxHeartbeats 2000000 in
theorem l25Turn_any (b : Nat) (rn cn : Nat) (s : ByteArray) (w : World) (hr1 : 1 ≤ rn) (hr : rn ≤ 5) (hc1 : 1 ≤ cn) (hc : cn ≤ 5) (hs : s.size = rn * cn) (hbb : b < w.heap.size)
    (c0 : w.cell? ⟨b, 0, none⟩ = some (.int .i64 rn)) (c1 : w.cell? ⟨b, 1, none⟩ = some (.int .i64 cn)) (c2 : w.cell? ⟨b, 2, none⟩ = some (.string s)) :
    Calls Try.prog 71 #[.pointer (some ⟨b, 0, none⟩)] w fun e w' => e = .returned (.agg #[.int .i64 cn, .int .i64 rn, .string (turnG rn cn s)]) ∧ Below w.heap.size w w' := by
  have HS := Lib.hid hs
  have hs25 : s.size ≤ 25 := by rw [hs]; exact Nat.mul_le_mul hr hc
  clear hs
  go_enter Try.func71, Try.ntmps71
  go_wp2
  obtain ⟨W2, hW2⟩ : ∃ W2 : World, w.alloc (.cells #[.int .i64 0, .int .i64 0, .string { data := #[] }] 29) = W2 := ⟨_, rfl⟩
  have hz : W2.heap.size = w.heap.size + 1 := by rw [← hW2]; simp
  have hB2 : Below w.heap.size w W2 := by rw [← hW2]; (repeat' (first | (with_reducible exact Below.refl _ _) | (with_reducible assumption) | (with_reducible refine Below.alloc ?_ ?_ _) | (with_reducible refine Below.drew ?_) | (with_reducible refine bdrewN ?_ _) | (with_reducible refine Below.setCell ?_ ?_ _) | (first | (with_reducible exact Nat.le_refl _) | (with_reducible assumption) | omega | (simp only [World.size_alloc, World.size_setCell, World.size_drew]; omega) | (simp; omega) | (simp; done))))
  have k0 := (hB2.cell (p := ⟨b, 0, none⟩) hbb).trans c0
  have k1 := (hB2.cell (p := ⟨b, 1, none⟩) hbb).trans c1
  have k2 := (hB2.cell (p := ⟨b, 2, none⟩) hbb).trans c2
  have q0 : W2.cell? ⟨w.heap.size, 0, none⟩ = some (.int .i64 0) := by rw [← hW2]; simp [go_sem]
  have q1 : W2.cell? ⟨w.heap.size, 1, none⟩ = some (.int .i64 0) := by rw [← hW2]; simp [go_sem]
  have q2 : W2.cell? ⟨w.heap.size, 2, none⟩ = some (.string { data := #[] }) := by rw [← hW2]; simp [go_sem]
  have qf : ∀ j, W2.frozen? ⟨w.heap.size, j, none⟩ = false := by intro j; rw [← hW2]; simp [go_sem]
  rw [hW2]
  have hE : OwnL byteCells 1 (W2.alloc (.cells #[] 5)) (w.heap.size + 1) 5 (.slice (some ⟨w.heap.size + 1, 0, none⟩) 0 0) (tpre s rn cn 0) := by
    have := OwnL.empty_ byteCells 1 W2 (w.heap.size + 1) 5 (by omega)
    rw [hz] at this
    exact this
  have hBE : Below (w.heap.size + 1) W2 (W2.alloc (.cells #[] 5)) := (Below.refl _ _).alloc (by omega) _
  clear hW2
  have hz1 : w.heap.size + 1 ≤ W2.heap.size := by omega
  clear hz c0 c1 c2
  go_loopw [3, 4] (fun v c wr => ∃ k : Nat, k ≤ cn ∧ c = .int .i64 k ∧ OwnL byteCells 1 wr (w.heap.size + 1) 5 v (tpre s rn cn k) ∧ Below (w.heap.size + 1) W2 wr) (fun _ c _ => cn - (intOf c).toNat)
  case atStart => exact ⟨0, Nat.zero_le _, rfl, hE, hBE⟩
  case round =>
    obtain ⟨k, hk, rfl, hown, hb⟩ := hrel
    have kk0 := (hb.cell (p := ⟨b, 0, none⟩) (by show b < _; omega)).trans k0
    have kk1 := (hb.cell (p := ⟨b, 1, none⟩) (by show b < _; omega)).trans k1
    by_cases hlt : k < cn
    · go_wp2
      clear kk0 kk1
      obtain ⟨wo, rfl⟩ : ∃ wo : World, wo = wr := ⟨_, rfl⟩
      go_loopw [3, 5] (fun v i wr => ∃ j : Nat, j ≤ rn ∧ i = .int .i64 j ∧ OwnL byteCells 1 wr (w.heap.size + 1) 5 v (tpre s rn cn k ++ tcol s cn k j) ∧ Below (w.heap.size + 1) W2 wr) (fun _ i _ => rn - (intOf i).toNat)
      case atStart => exact ⟨0, Nat.zero_le _, rfl, by rw [tcol_zero, List.append_nil]; exact hown, hb⟩
      case round =>
        obtain ⟨j, hj, rfl, hownj, hbj⟩ := hrel
        have kk0 := (hbj.cell (p := ⟨b, 0, none⟩) (by show b < _; omega)).trans k0
        have kk1 := (hbj.cell (p := ⟨b, 1, none⟩) (by show b < _; omega)).trans k1
        have kk2 := (hbj.cell (p := ⟨b, 2, none⟩) (by show b < _; omega)).trans k2
        clear hown hb
        by_cases hltj : j < rn
        · have hlen : (tpre s rn cn k ++ tcol s cn k j).length ≤ 100000000 := by
            rw [List.length_append, tpre_len, tcol_len]
            have : k * rn ≤ 5 * 5 := Nat.mul_le_mul (by omega) hr
            omega
          have hwb : w.heap.size + 1 ≤ wr.heap.size := Nat.le_trans hz1 hbj.size
          have HL := Lib.hid hlen
          clear hlen
          go_wp2_with (first | (go_at_call 104; refine (l25At_in b rn cn j k s _ hr hc HS.out hltj hlt kk0 kk1 kk2).mono ?_; rintro e w1 ⟨rfl, hb1⟩; have hown1 := hownj.kept hb1; have hw1b := Nat.le_trans hwb hb1.size; have hB1 := hbj.trans (hb1.mono hwb)) | (at_builtin; refine wpList_append_elem rfl (.tmp 23) (.tmp 28) _ rfl 5 Try.underlying137 byteInfo (by decide) byteCells_len byteCells_one w1 (w.heap.size + 1) u3 _ rfl hown1 (byteD s (j * cn + k)) 5 _ ?hn rfl HL.out hw1b ?_; rotate_left; intro v' w2 hown2 hb2))
          case hn => rfl
          exact ⟨⟨j + 1, by omega, by go_num, by rw [tcol_succ, ← List.append_assoc]; exact hown2, hB1.trans hb2⟩, by simp [intOf]; omega⟩
        · have hj' : j = rn := by omega
          subst hj'
          go_wp2
          exact ⟨⟨k + 1, by omega, by go_num, by rw [tpre_succ]; exact hownj, hbj⟩, by simp [intOf]; omega⟩
    · have hk' : k = cn := by omega
      subst hk'
      have hcv := run_own_string hown.drew 137 9 5 Try.underlying137 Try.underlying5 Try.underlying9 (hown.ne_nil (by rw [tpre_len]; exact Nat.mul_pos (by omega) (by omega)))
      have r0 := (hb.cell (p := ⟨w.heap.size, 0, none⟩) (by show w.heap.size < _; omega)).trans q0
      have r1 := (hb.cell (p := ⟨w.heap.size, 1, none⟩) (by show w.heap.size < _; omega)).trans q1
      have r2 := (hb.cell (p := ⟨w.heap.size, 2, none⟩) (by show w.heap.size < _; omega)).trans q2
      have f0 := (hb.frozen (p := ⟨w.heap.size, 0, none⟩) (by show w.heap.size < _; omega)).trans (qf 0)
      have f1 := (hb.frozen (p := ⟨w.heap.size, 1, none⟩) (by show w.heap.size < _; omega)).trans (qf 1)
      have f2 := (hb.frozen (p := ⟨w.heap.size, 2, none⟩) (by show w.heap.size < _; omega)).trans (qf 2)
      have hBf := hB2.trans (hb.mono (by omega))
      clear qf
      go_wp2
      go_still_tail 11, (by kernel_rfl)
      go_wp2
      refine bodyPost_ret (v := .agg #[.int .i64 k, .int .i64 rn, .string (turnG rn k s)]) (by simp [results, Try.results71, go_sem, r0, r1, r2, turnG]) rfl ⟨rfl, ?_⟩
      (repeat' (first | (with_reducible exact Below.refl _ _) | (with_reducible assumption) | (with_reducible refine Below.alloc ?_ ?_ _) | (with_reducible refine Below.drew ?_) | (with_reducible refine bdrewN ?_ _) | (with_reducible refine Below.setCell ?_ ?_ _) | (first | (with_reducible exact Nat.le_refl _) | (with_reducible assumption) | omega | (simp only [World.size_alloc, World.size_setCell, World.size_drew]; omega) | (simp; omega) | (simp; done))))

/-- The turned grid and a code. -/
def turnV (r c : Int) (s : ByteArray) : Value × Int := if gridOk ⟨r, c, s⟩ then (.agg #[.int .i64 c, .int .i64 r, .string (turnG r.toNat c.toNat s)], 0) else (.agg #[.int .i64 0, .int .i64 0, .string ⟨#[]⟩], 1)

theorem grid_facts {r c : Int} {s : ByteArray} (h : gridOk ⟨r, c, s⟩ = true) : ∃ rn cn : Nat, r = rn ∧ c = cn ∧ 1 ≤ rn ∧ rn ≤ 5 ∧ 1 ≤ cn ∧ cn ≤ 5 ∧ s.size = rn * cn := by
  simp only [gridOk, Bool.and_eq_true, decide_eq_true_eq] at h
  obtain ⟨h1, h2, h3, _⟩ := h
  obtain ⟨a1, a2⟩ := inR_true h1
  obtain ⟨b1, b2⟩ := inR_true h2
  obtain ⟨rn, rfl⟩ := Int.eq_ofNat_of_zero_le (by omega : 0 ≤ r)
  obtain ⟨cn, rfl⟩ := Int.eq_ofNat_of_zero_le (by omega : 0 ≤ c)
  exact ⟨rn, cn, rfl, rfl, by omega, by omega, by omega, by omega, by rw [← Int.natCast_mul] at h3; omega⟩

set_option maxHeartbeats 1000000 in
theorem specTurnGrid_any (r c : Int) (s : ByteArray) (w : World) (hl : s.size ≤ maxLen) :
    Calls Try.prog 29 #[.agg #[.int .i64 r, .int .i64 c, .string s]] w fun e w' => e = .returned (.tuple #[(turnV r c s).1, .int .i64 (turnV r c s).2]) ∧ Below w.heap.size w w' := by
  cases hg : gridOk ⟨r, c, s⟩
  · have HF := Lib.hid (show turnV r c s = (.agg #[.int .i64 0, .int .i64 0, .string ⟨#[]⟩], 1) by simp [turnV, hg])
    go_enter Try.func29, Try.ntmps29
    go_wp2_with (first | (go_at_call 58; refine (l25Ok_any _ r c s _ hl (by simp [go_sem]) (by simp [go_sem]) (by simp [go_sem])).mono ?_; rintro e w1 ⟨rfl, hbw1⟩; obtain ⟨hcw1, hfw1⟩ := bcell hbw1; have hBw1 : Below w.heap.size w w1 := Below.trans (by (repeat' (first | (with_reducible exact Below.refl _ _) | (with_reducible assumption) | (with_reducible refine Below.alloc ?_ ?_ _) | (with_reducible refine Below.drew ?_) | (with_reducible refine bdrewN ?_ _) | (with_reducible refine Below.setCell ?_ ?_ _) | (first | (with_reducible exact Nat.le_refl _) | (with_reducible assumption) | omega | (simp only [World.size_alloc, World.size_setCell, World.size_drew]; omega) | (simp; omega) | (simp; done))))) (hbw1.mono (by (first | (with_reducible exact Nat.le_refl _) | (with_reducible assumption) | omega | (simp only [World.size_alloc, World.size_setCell, World.size_drew]; omega) | (simp; omega) | (simp; done)))); have hzw1 := hbw1.size; (try simp at hzw1); (try have hl0w1 : w.heap.size < w1.heap.size := by omega); (try have hl1w1 : w.heap.size + 1 < w1.heap.size := by omega); (try have hl2w1 : w.heap.size + 1 + 1 < w1.heap.size := by omega); (try have hl3w1 : w.heap.size + 1 + 1 + 1 < w1.heap.size := by omega); (try have hl4w1 : w.heap.size + 1 + 1 + 1 + 1 < w1.heap.size := by omega)))
    refine bodyPost_ret (v := .tuple #[.agg #[.int .i64 0, .int .i64 0, .string ⟨#[]⟩], .int .i64 1]) (by simp [results, Try.results29, go_sem, hcw1]) rfl ⟨by rw [HF.out], ?_⟩
    (repeat' (first | (with_reducible exact Below.refl _ _) | (with_reducible assumption) | (with_reducible refine Below.alloc ?_ ?_ _) | (with_reducible refine Below.drew ?_) | (with_reducible refine bdrewN ?_ _) | (with_reducible refine Below.setCell ?_ ?_ _) | (first | (with_reducible exact Nat.le_refl _) | (with_reducible assumption) | omega | (simp only [World.size_alloc, World.size_setCell, World.size_drew]; omega) | (simp; omega) | (simp; done))))
  · obtain ⟨rn, cn, rfl, rfl, h1, h2, h3, h4, h5⟩ := grid_facts hg
    have HF := Lib.hid (show turnV rn cn s = (.agg #[.int .i64 cn, .int .i64 rn, .string (turnG rn cn s)], 0) by simp [turnV, hg])
    have H5 := Lib.hid h5
    clear h5
    go_enter Try.func29, Try.ntmps29
    go_wp2_with (first | (go_at_call 58; refine (l25Ok_any _ rn cn s _ hl (by simp [go_sem]) (by simp [go_sem]) (by simp [go_sem])).mono ?_; rintro e w1 ⟨rfl, hbw1⟩; obtain ⟨hcw1, hfw1⟩ := bcell hbw1; have hBw1 : Below w.heap.size w w1 := Below.trans (by (repeat' (first | (with_reducible exact Below.refl _ _) | (with_reducible assumption) | (with_reducible refine Below.alloc ?_ ?_ _) | (with_reducible refine Below.drew ?_) | (with_reducible refine bdrewN ?_ _) | (with_reducible refine Below.setCell ?_ ?_ _) | (first | (with_reducible exact Nat.le_refl _) | (with_reducible assumption) | omega | (simp only [World.size_alloc, World.size_setCell, World.size_drew]; omega) | (simp; omega) | (simp; done))))) (hbw1.mono (by (first | (with_reducible exact Nat.le_refl _) | (with_reducible assumption) | omega | (simp only [World.size_alloc, World.size_setCell, World.size_drew]; omega) | (simp; omega) | (simp; done)))); have hzw1 := hbw1.size; (try simp at hzw1); (try have hl0w1 : w.heap.size < w1.heap.size := by omega); (try have hl1w1 : w.heap.size + 1 < w1.heap.size := by omega); (try have hl2w1 : w.heap.size + 1 + 1 < w1.heap.size := by omega); (try have hl3w1 : w.heap.size + 1 + 1 + 1 < w1.heap.size := by omega); (try have hl4w1 : w.heap.size + 1 + 1 + 1 + 1 < w1.heap.size := by omega)) | (go_at_call 71; refine (l25Turn_any _ rn cn s _ h1 h2 h3 h4 H5.out hl0w1 (by rw [hcw1 _ _ (by simp; omega)]; simp [go_sem]) (by rw [hcw1 _ _ (by simp; omega)]; simp [go_sem]) (by rw [hcw1 _ _ (by simp; omega)]; simp [go_sem])).mono ?_; rintro e w2 ⟨rfl, hbw2⟩; obtain ⟨hcw2, hfw2⟩ := bcell hbw2; have hBw2 : Below w.heap.size w w2 := Below.trans (by (repeat' (first | (with_reducible exact Below.refl _ _) | (with_reducible assumption) | (with_reducible refine Below.alloc ?_ ?_ _) | (with_reducible refine Below.drew ?_) | (with_reducible refine bdrewN ?_ _) | (with_reducible refine Below.setCell ?_ ?_ _) | (first | (with_reducible exact Nat.le_refl _) | (with_reducible assumption) | omega | (simp only [World.size_alloc, World.size_setCell, World.size_drew]; omega) | (simp; omega) | (simp; done))))) (hbw2.mono (by (first | (with_reducible exact Nat.le_refl _) | (with_reducible assumption) | omega | (simp only [World.size_alloc, World.size_setCell, World.size_drew]; omega) | (simp; omega) | (simp; done)))); have hzw2 := hbw2.size; (try simp at hzw2); (try have hl0w2 : w.heap.size < w2.heap.size := by omega); (try have hl1w2 : w.heap.size + 1 < w2.heap.size := by omega); (try have hl2w2 : w.heap.size + 1 + 1 < w2.heap.size := by omega); (try have hl3w2 : w.heap.size + 1 + 1 + 1 < w2.heap.size := by omega); (try have hl4w2 : w.heap.size + 1 + 1 + 1 + 1 < w2.heap.size := by omega)))
    refine bodyPost_ret (v := .tuple #[.agg #[.int .i64 cn, .int .i64 rn, .string (turnG rn cn s)], .int .i64 0]) (by simp [results, Try.results29, go_sem, hcw1, hcw2, hl0w1, hl1w1, hl0w2, hl1w2]) rfl ⟨by rw [HF.out], ?_⟩
    (repeat' (first | (with_reducible exact Below.refl _ _) | (with_reducible assumption) | (with_reducible refine Below.alloc ?_ ?_ _) | (with_reducible refine Below.drew ?_) | (with_reducible refine bdrewN ?_ _) | (with_reducible refine Below.setCell ?_ ?_ _) | (first | (with_reducible exact Nat.le_refl _) | (with_reducible assumption) | omega | (simp only [World.size_alloc, World.size_setCell, World.size_drew]; omega) | (simp; omega) | (simp; done))))

set_option maxHeartbeats 1000000 in
theorem TurnGrid_any (r c : Int) (s : ByteArray) (w : World) (hl : s.size ≤ maxLen) :
    Calls Try.prog 30 #[.agg #[.int .i64 r, .int .i64 c, .string s]] w fun e w' => e = .returned (.tuple #[(turnV r c s).1, .int .i64 (turnV r c s).2]) ∧ Below w.heap.size w w' := by
  cases hg : gridOk ⟨r, c, s⟩
  · have HF := Lib.hid (show turnV r c s = (.agg #[.int .i64 0, .int .i64 0, .string ⟨#[]⟩], 1) by simp [turnV, hg])
    go_enter Try.func30, Try.ntmps30
    go_wp2_with (first | (go_at_call 20; refine (ValidGrid_any _ _ _ _ hl).mono ?_; rintro e w1 ⟨rfl, hbw1⟩; obtain ⟨hcw1, hfw1⟩ := bcell hbw1; have hBw1 : Below w.heap.size w w1 := Below.trans (by (repeat' (first | (with_reducible exact Below.refl _ _) | (with_reducible assumption) | (with_reducible refine Below.alloc ?_ ?_ _) | (with_reducible refine Below.drew ?_) | (with_reducible refine bdrewN ?_ _) | (with_reducible refine Below.setCell ?_ ?_ _) | (first | (with_reducible exact Nat.le_refl _) | (with_reducible assumption) | omega | (simp only [World.size_alloc, World.size_setCell, World.size_drew]; omega) | (simp; omega) | (simp; done))))) (hbw1.mono (by (first | (with_reducible exact Nat.le_refl _) | (with_reducible assumption) | omega | (simp only [World.size_alloc, World.size_setCell, World.size_drew]; omega) | (simp; omega) | (simp; done)))); have hzw1 := hbw1.size; (try simp at hzw1); (try have hl0w1 : w.heap.size < w1.heap.size := by omega); (try have hl1w1 : w.heap.size + 1 < w1.heap.size := by omega); (try have hl2w1 : w.heap.size + 1 + 1 < w1.heap.size := by omega); (try have hl3w1 : w.heap.size + 1 + 1 + 1 < w1.heap.size := by omega); (try have hl4w1 : w.heap.size + 1 + 1 + 1 + 1 < w1.heap.size := by omega)))
    refine bodyPost_ret (v := .tuple #[.agg #[.int .i64 0, .int .i64 0, .string ⟨#[]⟩], .int .i64 1]) (by simp [results, Try.results30, go_sem, hcw1]) rfl ⟨by rw [HF.out], ?_⟩
    (repeat' (first | (with_reducible exact Below.refl _ _) | (with_reducible assumption) | (with_reducible refine Below.alloc ?_ ?_ _) | (with_reducible refine Below.drew ?_) | (with_reducible refine bdrewN ?_ _) | (with_reducible refine Below.setCell ?_ ?_ _) | (first | (with_reducible exact Nat.le_refl _) | (with_reducible assumption) | omega | (simp only [World.size_alloc, World.size_setCell, World.size_drew]; omega) | (simp; omega) | (simp; done))))
  · obtain ⟨rn, cn, rfl, rfl, h1, h2, h3, h4, h5⟩ := grid_facts hg
    have HF := Lib.hid (show turnV rn cn s = (.agg #[.int .i64 cn, .int .i64 rn, .string (turnG rn cn s)], 0) by simp [turnV, hg])
    have H5 := Lib.hid h5
    clear h5
    go_enter Try.func30, Try.ntmps30
    go_wp2_with (first | (go_at_call 20; refine (ValidGrid_any _ _ _ _ hl).mono ?_; rintro e w1 ⟨rfl, hbw1⟩; obtain ⟨hcw1, hfw1⟩ := bcell hbw1; have hBw1 : Below w.heap.size w w1 := Below.trans (by (repeat' (first | (with_reducible exact Below.refl _ _) | (with_reducible assumption) | (with_reducible refine Below.alloc ?_ ?_ _) | (with_reducible refine Below.drew ?_) | (with_reducible refine bdrewN ?_ _) | (with_reducible refine Below.setCell ?_ ?_ _) | (first | (with_reducible exact Nat.le_refl _) | (with_reducible assumption) | omega | (simp only [World.size_alloc, World.size_setCell, World.size_drew]; omega) | (simp; omega) | (simp; done))))) (hbw1.mono (by (first | (with_reducible exact Nat.le_refl _) | (with_reducible assumption) | omega | (simp only [World.size_alloc, World.size_setCell, World.size_drew]; omega) | (simp; omega) | (simp; done)))); have hzw1 := hbw1.size; (try simp at hzw1); (try have hl0w1 : w.heap.size < w1.heap.size := by omega); (try have hl1w1 : w.heap.size + 1 < w1.heap.size := by omega); (try have hl2w1 : w.heap.size + 1 + 1 < w1.heap.size := by omega); (try have hl3w1 : w.heap.size + 1 + 1 + 1 < w1.heap.size := by omega); (try have hl4w1 : w.heap.size + 1 + 1 + 1 + 1 < w1.heap.size := by omega)) | (go_at_call 72; refine (turned_any rn cn s _ h1 h2 h3 h4 H5.out).mono ?_; rintro e w2 ⟨rfl, hbw2⟩; obtain ⟨hcw2, hfw2⟩ := bcell hbw2; have hBw2 : Below w.heap.size w w2 := Below.trans (by (repeat' (first | (with_reducible exact Below.refl _ _) | (with_reducible assumption) | (with_reducible refine Below.alloc ?_ ?_ _) | (with_reducible refine Below.drew ?_) | (with_reducible refine bdrewN ?_ _) | (with_reducible refine Below.setCell ?_ ?_ _) | (first | (with_reducible exact Nat.le_refl _) | (with_reducible assumption) | omega | (simp only [World.size_alloc, World.size_setCell, World.size_drew]; omega) | (simp; omega) | (simp; done))))) (hbw2.mono (by (first | (with_reducible exact Nat.le_refl _) | (with_reducible assumption) | omega | (simp only [World.size_alloc, World.size_setCell, World.size_drew]; omega) | (simp; omega) | (simp; done)))); have hzw2 := hbw2.size; (try simp at hzw2); (try have hl0w2 : w.heap.size < w2.heap.size := by omega); (try have hl1w2 : w.heap.size + 1 < w2.heap.size := by omega); (try have hl2w2 : w.heap.size + 1 + 1 < w2.heap.size := by omega); (try have hl3w2 : w.heap.size + 1 + 1 + 1 < w2.heap.size := by omega); (try have hl4w2 : w.heap.size + 1 + 1 + 1 + 1 < w2.heap.size := by omega)))
    refine bodyPost_ret (v := .tuple #[.agg #[.int .i64 cn, .int .i64 rn, .string (turnG rn cn s)], .int .i64 0]) (by simp [results, Try.results30, go_sem, hcw1, hcw2, hl0w1, hl1w1, hl0w2, hl1w2]) rfl ⟨by rw [HF.out], ?_⟩
    (repeat' (first | (with_reducible exact Below.refl _ _) | (with_reducible assumption) | (with_reducible refine Below.alloc ?_ ?_ _) | (with_reducible refine Below.drew ?_) | (with_reducible refine bdrewN ?_ _) | (with_reducible refine Below.setCell ?_ ?_ _) | (first | (with_reducible exact Nat.le_refl _) | (with_reducible assumption) | omega | (simp only [World.size_alloc, World.size_setCell, World.size_drew]; omega) | (simp; omega) | (simp; done))))

end Go.Proofs.Ytdngdgjlcfbdhaa
