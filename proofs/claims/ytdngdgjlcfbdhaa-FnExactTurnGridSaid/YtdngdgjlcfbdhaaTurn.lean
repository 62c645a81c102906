/- Grids turned. -/
import Derived.Test.YtdngdgjlcfbdhaaGrid
import Derived.Test.YtdngdgjlcfbdhaaOwn
namespace Go.Proofs.Ytdngdgjlcfbdhaa
open Go.RowKit
set_option linter.unusedSimpArgs false
set_option linter.unusedVariables false
attribute [local go_sem ↓] Go.wp_at_zero Go.wp_at_succ

def byteD (s : ByteArray) (k : Nat) : UInt8 := s.data.toList.getD k 0
/-- The first r squares of column c. -/
def tcol (s : ByteArray) (cn c r : Nat) : List UInt8 := (List.range r).map fun i => byteD s (i * cn + c)
/-- The first c columns, whole. -/
def tpre (s : ByteArray) (rn cn c : Nat) : List UInt8 := (List.range c).flatMap fun k => tcol s cn k rn
theorem tcol_zero (s : ByteArray) (cn c : Nat) : tcol s cn c 0 = [] := rfl
theorem tcol_succ (s : ByteArray) (cn c r : Nat) : tcol s cn c (r + 1) = tcol s cn c r ++ [byteD s (r * cn + c)] := by simp [tcol, List.range_succ]
theorem tpre_zero (s : ByteArray) (rn cn : Nat) : tpre s rn cn 0 = [] := rfl
theorem tpre_succ (s : ByteArray) (rn cn c : Nat) : tpre s rn cn (c + 1) = tpre s rn cn c ++ tcol s cn c rn := by simp [tpre, List.range_succ]
theorem tcol_len (s : ByteArray) (cn c r : Nat) : (tcol s cn c r).length = r := by simp [tcol]
theorem tpre_len (s : ByteArray) (rn cn c : Nat) : (tpre s rn cn c).length = c * rn := by
  induction c with
  | zero => simp [tpre_zero]
  | succ c ih => rw [tpre_succ, List.length_append, ih, tcol_len, Nat.succ_mul]
def turnG (rn cn : Nat) (s : ByteArray) : ByteArray := ⟨(tpre s rn cn cn).toArray⟩

theorem byteD_at (s : ByteArray) (k : Nat) (h : k < s.size) : byteD s k = s[k] := by
  unfold byteD
  rw [List.getD_eq_getElem?_getD, byte_at s k h]; rfl

set_option maxRecDepth 100000 in
set_option maxHeartbeats 2000000 in
theorem turned_any (rn cn : Nat) (s : ByteArray) (w : World) (hr1 : 1 ≤ rn) (hr : rn ≤ 5) (hc1 : 1 ≤ cn) (hc : cn ≤ 5) (hs : s.size = rn * cn) :
    Calls Try.prog 72 #[.agg #[.int .i64 rn, .int .i64 cn, .string s]] w fun e w' => e = .returned (.agg #[.int .i64 cn, .int .i64 rn, .string (turnG rn cn s)]) ∧ Below w.heap.size w w' := by
  have HS := Lib.hid hs
  have hs25 : s.size ≤ 25 := by rw [hs]; exact Nat.mul_le_mul hr hc
  clear hs
  go_enter Try.func72, Try.ntmps72
  go_wp2
  obtain ⟨W2, hW2⟩ : ∃ W2 : World, (w.alloc (.cells #[.int .i64 rn, .int .i64 cn, .string s] 29)).alloc (.cells #[.int .i64 0, .int .i64 0, .string { data := #[] }] 29) = W2 := ⟨_, rfl⟩
  have hz : W2.heap.size = w.heap.size + 2 := by rw [← hW2]; simp
  have hB2 : Below w.heap.size w W2 := by rw [← hW2]; (repeat' (first | (with_reducible exact Below.refl _ _) | (with_reducible assumption) | (with_reducible refine Below.alloc ?_ ?_ _) | (with_reducible refine Below.drew ?_) | (with_reducible refine bdrewN ?_ _) | (with_reducible refine Below.setCell ?_ ?_ _) | (first | (with_reducible exact Nat.le_refl _) | (with_reducible assumption) | omega | (simp only [World.size_alloc, World.size_setCell, World.size_drew]; omega) | (simp; omega) | (simp; done))))
  have k0 : W2.cell? ⟨w.heap.size, 0, none⟩ = some (.int .i64 rn) := by rw [← hW2]; simp [go_sem]
  have k1 : W2.cell? ⟨w.heap.size, 1, none⟩ = some (.int .i64 cn) := by rw [← hW2]; simp [go_sem]
  have k2 : W2.cell? ⟨w.heap.size, 2, none⟩ = some (.string s) := by rw [← hW2]; simp [go_sem]
  have q0 : W2.cell? ⟨w.heap.size + 1, 0, none⟩ = some (.int .i64 0) := by rw [← hW2]; simp [go_sem]
  have q1 : W2.cell? ⟨w.heap.size + 1, 1, none⟩ = some (.int .i64 0) := by rw [← hW2]; simp [go_sem]
  have q2 : W2.cell? ⟨w.heap.size + 1, 2, none⟩ = some (.string { data := #[] }) := by rw [← hW2]; simp [go_sem]
  have qf : ∀ j, W2.frozen? ⟨w.heap.size + 1, j, none⟩ = false := by intro j; rw [← hW2]; simp [go_sem]
  rw [hW2]
  have hE : OwnL byteCells 1 (W2.alloc (.cells #[] 5)) (w.heap.size + 2) 5 (.slice (some ⟨w.heap.size + 1 + 1, 0, none⟩) 0 0) (tpre s rn cn 0) := by
    have := OwnL.empty_ byteCells 1 W2 (w.heap.size + 2) 5 (by omega)
    rw [hz] at this
    exact this
  have hBE : Below (w.heap.size + 2) W2 (W2.alloc (.cells #[] 5)) := (Below.refl _ _).alloc (by omega) _
  clear hW2
  have HZ := Lib.hid hz
  have hz1 : w.heap.size + 2 ≤ W2.heap.size := by omega
  clear hz
  go_loopw [3, 4] (fun v c wr => ∃ k : Nat, k ≤ cn ∧ c = .int .i64 k ∧ OwnL byteCells 1 wr (w.heap.size + 2) 5 v (tpre s rn cn k) ∧ Below (w.heap.size + 2) W2 wr) (fun _ c _ => cn - (intOf c).toNat)
  case atStart => exact ⟨0, Nat.zero_le _, rfl, hE, hBE⟩
  case round =>
    obtain ⟨k, hk, rfl, hown, hb⟩ := hrel
    have kk0 := (hb.cell (p := ⟨w.heap.size, 0, none⟩) (by show w.heap.size < _; omega)).trans k0
    have kk1 := (hb.cell (p := ⟨w.heap.size, 1, none⟩) (by show w.heap.size < _; omega)).trans k1
    by_cases hlt : k < cn
    · go_wp2
      clear kk0 kk1
      obtain ⟨wo, rfl⟩ : ∃ wo : World, wo = wr := ⟨_, rfl⟩
      go_loopw [3, 5] (fun v i wr => ∃ j : Nat, j ≤ rn ∧ i = .int .i64 j ∧ OwnL byteCells 1 wr (w.heap.size + 2) 5 v (tpre s rn cn k ++ tcol s cn k j) ∧ Below (w.heap.size + 2) W2 wr) (fun _ i _ => rn - (intOf i).toNat)
      case atStart => exact ⟨0, Nat.zero_le _, rfl, by rw [tcol_zero, List.append_nil]; exact hown, hb⟩
      case round =>
        obtain ⟨j, hj, rfl, hownj, hbj⟩ := hrel
        have kk0 := (hbj.cell (p := ⟨w.heap.size, 0, none⟩) (by show w.heap.size < _; omega)).trans k0
        have kk1 := (hbj.cell (p := ⟨w.heap.size, 1, none⟩) (by show w.heap.size < _; omega)).trans k1
        have kk2 := (hbj.cell (p := ⟨w.heap.size, 2, none⟩) (by show w.heap.size < _; omega)).trans k2
        clear hown hb
        by_cases hltj : j < rn
        · have hidx : j * cn + k < s.size := by
            rw [HS.out]
            have : (j + 1) * cn ≤ rn * cn := Nat.mul_le_mul_right _ hltj
            rw [Nat.succ_mul] at this
            omega
          have p0 : (0 : Int) ≤ (j : Int) * (cn : Int) := by rw [← Int.natCast_mul]; omega
          have p1 : (j : Int) * (cn : Int) + (k : Int) < (s.size : Int) := by rw [← Int.natCast_mul]; omega
          have HX := Lib.hid hidx
          clear hidx
          have hlen : (tpre s rn cn k ++ tcol s cn k j).length ≤ 100000000 := by
            rw [List.length_append, tpre_len, tcol_len]
            have : k * rn ≤ 5 * 5 := Nat.mul_le_mul (by omega) hr
            omega
          have hwb : w.heap.size + 2 ≤ wr.heap.size := Nat.le_trans hz1 hbj.size
          have HL := Lib.hid hlen
          clear hlen
          go_wp2_with (at_builtin; go_loud (refine wpList_append_elem rfl (.tmp 19) (.tmp 29) _ rfl 5 Try.underlying137 byteInfo (by decide) byteCells_len byteCells_one wr (w.heap.size + 2) u3 _ rfl hownj (byteD s (j * cn + k)) 5 _ ?hn rfl HL.out hwb ?_); rotate_left; intro v' w1 hown1 hb1)
          case hn =>
            rw [byteD_at _ _ HX.out]; rfl
          exact ⟨⟨j + 1, by omega, by go_num, by rw [tcol_succ, ← List.append_assoc]; exact hown1, hbj.trans hb1⟩, by simp [intOf]; omega⟩
        · have hj' : j = rn := by omega
          subst hj'
          go_wp2
          exact ⟨⟨k + 1, by omega, by go_num, by rw [tpre_succ]; exact hownj, hbj⟩, by simp [intOf]; omega⟩
    · have hk' : k = cn := by omega
      subst hk'
      have hcv := run_own_string hown 137 9 5 Try.underlying137 Try.underlying5 Try.underlying9 (hown.ne_nil (by rw [tpre_len]; exact Nat.mul_pos (by omega) (by omega)))
      have r0 := (hb.cell (p := ⟨w.heap.size + 1, 0, none⟩) (by show w.heap.size + 1 < _; omega)).trans q0
      have r1 := (hb.cell (p := ⟨w.heap.size + 1, 1, none⟩) (by show w.heap.size + 1 < _; omega)).trans q1
      have r2 := (hb.cell (p := ⟨w.heap.size + 1, 2, none⟩) (by show w.heap.size + 1 < _; omega)).trans q2
      have f0 := (hb.frozen (p := ⟨w.heap.size + 1, 0, none⟩) (by show w.heap.size + 1 < _; omega)).trans (qf 0)
      have f1 := (hb.frozen (p := ⟨w.heap.size + 1, 1, none⟩) (by show w.heap.size + 1 < _; omega)).trans (qf 1)
      have f2 := (hb.frozen (p := ⟨w.heap.size + 1, 2, none⟩) (by show w.heap.size + 1 < _; omega)).trans (qf 2)
      have hBf := hB2.trans (hb.mono (by omega))
      clear qf
      go_wp2
      refine bodyPost_ret (v := .agg #[.int .i64 k, .int .i64 rn, .string (turnG rn k s)]) (by simp [results, Try.results72, go_sem, r0, r1, r2, turnG]) rfl ⟨rfl, ?_⟩
      (repeat' (first | (with_reducible exact Below.refl _ _) | (with_reducible assumption) | (with_reducible refine Below.alloc ?_ ?_ _) | (with_reducible refine Below.drew ?_) | (with_reducible refine bdrewN ?_ _) | (with_reducible refine Below.setCell ?_ ?_ _) | (first | (with_reducible exact Nat.le_refl _) | (with_reducible assumption) | omega | (simp only [World.size_alloc, World.size_setCell, World.size_drew]; omega) | (simp; omega) | (simp; done))))

end Go.Proofs.Ytdngdgjlcfbdhaa
