/- The contracts of the laws' helpers over slices of flat structs. Printed by gen_lists.py. -/
import Derived.Test.YtdngdgjlcfbdhaaData
namespace Go.Proofs.Ytdngdgjlcfbdhaa
open Go.RowKit
set_option linter.unusedSimpArgs false
set_option linter.unusedVariables false
attribute [local go_sem ↓] Go.wp_at_zero Go.wp_at_succ

theorem Member.info : (Try.prog.info? 103).map (fun i => (i.zero.map (fun z => z.cells.size), i.size, decide (i.bytes ≤ 1000))) = some (some 2, 2, true) := by kernel_rfl

set_option maxRecDepth 100000 in
set_option maxHeartbeats 2000000 in
theorem toMemberS_any (A : Option Addr) (c : Nat) (xs : List Member) (w : World) (hx : SR memberRep w (· < w.heap.size) A xs) (hn : xs.length ≤ 1048576) :
    Calls Try.prog 74 #[.slice A xs.length c] w fun e w' => (∃ g, e = .returned (.slice (some ⟨g, 0, none⟩) xs.length xs.length) ∧ w.heap.size ≤ g ∧ SR memberRep w' (· < w'.heap.size) (some ⟨g, 0, none⟩) xs) ∧ Below w.heap.size w w' := by
  obtain ⟨i0, z0, hi, hz0, hz1, hz2, hz3⟩ := info_parts2 Member.info
  have hmk := run_make_rowN (P := Try.prog) 53 103 i0 _ Try.underlying53 hi hz0 .i64 .i64 xs.length xs.length (Nat.le_refl _) (make_bytes hz3 hn) (by omega)
  rw [hz2] at hmk
  have hsz : (madeCells z0.cells (xs.length * 2)).size = xs.length * 2 := size_madeCells _ _
  generalize madeCells z0.cells (xs.length * 2) = cs at hmk hsz
  have Hsz := Lib.hid hsz
  clear hsz hz0 hz1 hz2 hz3 hi
  go_enter Try.func74, Try.ntmps74
  go_wp2
  clear hmk
  go_loopw [4] (fun i wr => ∃ k : Nat, k ≤ xs.length ∧ i = .int .i64 k ∧ Filled memberRep wr (fun b => b < wr.heap.size ∧ b ≠ w.heap.size) w.heap.size 103 xs k ∧ Below w.heap.size w wr) (fun i _ => xs.length - (intOf i).toNat)
  case atStart => exact ⟨0, Nat.zero_le _, rfl, Filled.made memberRep w _ _ xs cs Hsz.out, (Below.refl _ _).alloc (Nat.le_refl _) _⟩
  case round =>
    obtain ⟨k, hk, rfl, hf, hb⟩ := hrel
    by_cases hlt : k < xs.length
    · obtain ⟨b, off, row, hA, hbb, hr, hc⟩ := (hx.below hb).at_ hlt
      subst hA
      have hrow : row = Member.cells xs[k] := hr
      generalize hm : xs[k] = m at hrow hr
      obtain ⟨x0, x1⟩ := m
      subst hrow
      have c0 : wr.cell? ⟨b, off + k * 2, none⟩ = some (.string x0) := hc 0 _ rfl
      have c1 : wr.cell? ⟨b, off + k * 2 + 1, none⟩ = some (.int .i64 x1) := hc 1 _ rfl
      have HM := Lib.hid hm
      have hbs := hb.size
      have hfl := hf.lt
      obtain ⟨⟨u0, o0⟩, f0⟩ := hf.slot hlt (j := 0) (show 0 < 2 by decide)
      obtain ⟨⟨u1, o1⟩, f1⟩ := hf.slot hlt (j := 1) (show 1 < 2 by decide)
      simp only [show memberRep.size = 2 from rfl, Nat.add_zero] at o0 f0 o1 f1
      clear hc hr hm
      go_wp2_with (go_at_call 106; refine (toMember_any _ _ _).mono ?_; rintro e w1 ⟨rfl, hb1⟩; obtain ⟨hc1, hf1⟩ := bcell hb1)
      have hN := hf.next hb1 hlt (row := [.string x0, .int .i64 x1]) (show _ = Member.cells _ by rw [HM.out]; rfl) hb (Nat.le_refl _)
      exact ⟨⟨k + 1, by omega, by go_num, hN.1, hN.2⟩, by simp [intOf]; omega⟩
    · have hk' : k = xs.length := by omega
      go_wp2
      go_ret
      subst hk'
      exact ⟨⟨_, rfl, Nat.le_refl _, hf.done fun b hb => hb.1⟩, hb⟩

set_option maxRecDepth 100000 in
set_option maxHeartbeats 2000000 in
theorem szMemberS_any (A : Option Addr) (c : Nat) (xs : List Member) (l : Int) (w : World) (hx : SR memberRep w (· < w.heap.size) A xs) (hok : ∀ x ∈ xs, x.ok) (hlen : xs.length ≤ maxLen) (h0 : 0 ≤ l) (h1 : l ≤ 1048576) :
    Calls Try.prog 73 #[.slice A xs.length c, .int .i64 l] w fun e w' => (∃ q : Int, e = .returned (.int .i64 q) ∧ -1 ≤ q ∧ (0 ≤ q → (xs.length : Int) + (sumB Member.bulk xs : Nat) + q = l)) ∧ Below w.heap.size w w' := by
  unfold maxLen at hlen
  have Hok := Lib.hid hok
  clear hok
  go_enter Try.func73, Try.ntmps73
  go_wp2
  · go_ret
    exact ⟨⟨_, rfl, by omega, by omega⟩, Below.refl _ _⟩
  go_loopw [1, 5] (fun q i wr => ∃ (k : Nat) (r : Int), k ≤ xs.length ∧ i = .int .i64 k ∧ q = .int .i64 r ∧ 0 ≤ r ∧ r ≤ 1048576 ∧ (xs.length : Int) + (sumB Member.bulk (xs.take k) : Nat) + r = l ∧ Below w.heap.size w wr) (fun _ i _ => xs.length - (intOf i).toNat)
  case atStart => exact ⟨0, _, Nat.zero_le _, rfl, rfl, by omega, by omega, by simp [sumB_nil]; omega, Below.refl _ _⟩
  case round =>
    obtain ⟨k, r, hk, rfl, rfl, hr0, hr1, hsum, hb⟩ := hrel
    by_cases hlt : k < xs.length
    · obtain ⟨b, off, row, hA, hbb, hr, hc⟩ := (hx.below hb).at_ hlt
      subst hA
      have hrow : row = Member.cells xs[k] := hr
      have hko := Hok.out _ (List.getElem_mem hlt)
      have hts := sumB_take Member.bulk xs k hlt
      generalize hm : xs[k] = m at hrow hr hko hts
      obtain ⟨x0, x1⟩ := m
      subst hrow
      have c0 : wr.cell? ⟨b, off + k * 2, none⟩ = some (.string x0) := hc 0 _ rfl
      have c1 : wr.cell? ⟨b, off + k * 2 + 1, none⟩ = some (.int .i64 x1) := hc 1 _ rfl
      have HT := Lib.hid hts
      have HS := Lib.hid hsum
      have hbs := hb.size
      simp only [Member.ok, maxLen] at hko
      clear hc hr hm hts hsum
      go_wp2_with ((go_at_call 105; refine (szMember_any _ _ _ _ (by unfold maxLen; omega) (by omega) (by omega)).mono ?_; rintro e w1 ⟨⟨q, rfl, hq0, hq1⟩, hbw1⟩; obtain ⟨hcw1, hfw1⟩ := bcell hbw1; have hBw1 : Below w.heap.size w w1 := Below.trans (by (repeat' (first | (with_reducible exact Below.refl _ _) | (with_reducible assumption) | (with_reducible refine Below.alloc ?_ ?_ _) | (with_reducible refine Below.drew ?_) | (with_reducible refine Below.setCell ?_ ?_ _) | (first | (with_reducible exact Nat.le_refl _) | (with_reducible assumption) | omega | (simp only [World.size_alloc, World.size_setCell, World.size_drew]; omega) | (simp; omega) | (simp; done))))) (hbw1.mono (by (first | (with_reducible exact Nat.le_refl _) | (with_reducible assumption) | omega | (simp only [World.size_alloc, World.size_setCell, World.size_drew]; omega) | (simp; omega) | (simp; done)))); have hzw1 := hbw1.size; (try simp at hzw1); (try have hl0w1 : w.heap.size < w1.heap.size := by omega); (try have hl1w1 : w.heap.size + 1 < w1.heap.size := by omega); (try have hl2w1 : w.heap.size + 1 + 1 < w1.heap.size := by omega); (try have hl3w1 : w.heap.size + 1 + 1 + 1 < w1.heap.size := by omega); (try have hl4w1 : w.heap.size + 1 + 1 + 1 + 1 < w1.heap.size := by omega)))
      · have hsum := HS.out
        go_ret
        exact ⟨⟨_, rfl, by omega, by omega⟩, hb.trans (hbw1.mono hbs)⟩
      · have hts := HT.out
        have hsum := HS.out
        have hq : 0 ≤ q := by assumption
        simp only [Member.bulk] at hts
        exact ⟨⟨k + 1, q, by omega, by go_num, rfl, hq, by have := hq1 hq; omega, by rw [hts]; have := hq1 hq; omega, hb.trans (hbw1.mono hbs)⟩, by simp [intOf]; omega⟩
    · have hk' : k = xs.length := by omega
      go_wp2
      go_ret
      subst hk'
      rw [List.take_length] at hsum
      exact ⟨⟨_, rfl, by omega, fun _ => hsum⟩, hb⟩

set_option maxRecDepth 100000 in
set_option maxHeartbeats 4000000 in
theorem eqMemberS_any (A A' : Option Addr) (c c' : Nat) (xs ys : List Member) (w : World) (hx : SR memberRep w (· < w.heap.size) A xs) (hy : SR memberRep w (· < w.heap.size) A' ys) (hlx : xs.length ≤ maxLen) (hly : ys.length ≤ maxLen) :
    Calls Try.prog 76 #[.slice A xs.length c, .slice A' ys.length c'] w fun e w' => e = .returned (.bool (decide (xs = ys))) ∧ Below w.heap.size w w' := by
  unfold maxLen at hlx hly
  by_cases hl : xs.length = ys.length
  · have hb : ((xs.length : Int) != (ys.length : Int)) = false := by simp [hl]
    have HL := Lib.hid hl
    clear hl
    go_enter Try.func76, Try.ntmps76
    go_wp2
    go_loopw [5] (fun i wr => ∃ k : Nat, k ≤ xs.length ∧ i = .int .i64 k ∧ xs.take k = ys.take k ∧ Below w.heap.size w wr) (fun i _ => xs.length - (intOf i).toNat)
    case atStart => exact ⟨0, Nat.zero_le _, rfl, rfl, Below.refl _ _⟩
    case round =>
      obtain ⟨k, hk, rfl, htake, hbr⟩ := hrel
      have HT := Lib.hid htake
      clear htake
      by_cases hlt : k < xs.length
      · have hlt' : k < ys.length := by have := HL.out; omega
        obtain ⟨b, off, row, hA, hbb, hr, hc⟩ := (hx.below hbr).at_ hlt
        obtain ⟨b', off', row', hA', hbb', hr', hc'⟩ := (hy.below hbr).at_ hlt'
        subst hA hA'
        have hrow : row = Member.cells xs[k] := hr
        have hrow' : row' = Member.cells ys[k] := hr'
        generalize hm : xs[k] = m at hrow hr
        generalize hm' : ys[k] = m' at hrow' hr'
        obtain ⟨x0, x1⟩ := m
        obtain ⟨y0, y1⟩ := m'
        subst hrow hrow'
        have c0 : wr.cell? ⟨b, off + k * 2, none⟩ = some (.string x0) := hc 0 _ rfl
        have c1 : wr.cell? ⟨b, off + k * 2 + 1, none⟩ = some (.int .i64 x1) := hc 1 _ rfl
        have d0 : wr.cell? ⟨b', off' + k * 2, none⟩ = some (.string y0) := hc' 0 _ rfl
        have d1 : wr.cell? ⟨b', off' + k * 2 + 1, none⟩ = some (.int .i64 y1) := hc' 1 _ rfl
        have HM := Lib.hid hm
        have HM' := Lib.hid hm'
        have hbs := hbr.size
        have i0 : (0 : Int) ≤ (k : Int) := by omega
        have i1 : (k : Int) < (xs.length : Int) := by omega
        have i2 : (k : Int) < (ys.length : Int) := by omega
        clear hc hc' hr hr' hm hm' hx hy
        go_wp2
        go_region_held3 (fun w' => w'.cell? ⟨b, off + k * 2, none⟩ = some (.string x0) ∧ w'.cell? ⟨b, off + k * 2 + 1, none⟩ = some (.int .i64 x1) ∧ w'.cell? ⟨b', off' + k * 2, none⟩ = some (.string y0) ∧ w'.cell? ⟨b', off' + k * 2 + 1, none⟩ = some (.int .i64 y1))
          (first | exact ⟨c0, c1, d0, d1⟩ | exact ⟨(hb1.cell (p := ⟨b, _, none⟩) (Nat.lt_of_lt_of_le hbb hbs)).trans c0, (hb1.cell (p := ⟨b, _, none⟩) (Nat.lt_of_lt_of_le hbb hbs)).trans c1, (hb1.cell (p := ⟨b', _, none⟩) (Nat.lt_of_lt_of_le hbb' hbs)).trans d0, (hb1.cell (p := ⟨b', _, none⟩) (Nat.lt_of_lt_of_le hbb' hbs)).trans d1⟩)
          (first | (go_at_call 107; refine (eqMember_any _ _ _ _ _).mono ?_; rintro e w1 ⟨rfl, hb1⟩))
        have hBw1 : Below w.heap.size w w1 := hbr.trans (Below.trans (Below.drew (Below.refl _ _)) (hb1.mono hbs))
        clear hb1
        cases he : Member.eqB ⟨x0, x1⟩ ⟨y0, y1⟩
        · have HE : Hid (xs[k] ≠ ys[k]) := Lib.hid (by rw [HM.out, HM'.out]; simpa [Member.eqB] using he)
          go_wp2
          all_goals (go_ret; exact ⟨ret_bool (decide_eq_false (list_ne_at hlt hlt' HE.out)).symm, hBw1⟩)
        · have HE : Hid (xs[k] = ys[k]) := Lib.hid (by rw [HM.out, HM'.out]; simpa [Member.eqB] using he)
          go_wp2
          exact ⟨⟨k + 1, by omega, by go_num, take_more HT.out hlt hlt' HE.out, hBw1⟩, by simp [intOf]; omega⟩
      · have hk' : k = xs.length := by omega
        go_wp2
        go_ret
        subst hk'
        exact ⟨ret_bool (decide_eq_true (list_eq_of_take HL.out HT.out)).symm, hbr⟩
  · have hb : ((xs.length : Int) != (ys.length : Int)) = true := by rw [bne_iff_ne]; omega
    go_enter Try.func76, Try.ntmps76
    go_wp2
    go_ret
    exact ⟨ret_bool (decide_eq_false (fun h => hl (by rw [h]))).symm, Below.refl _ _⟩

theorem Result.info : (Try.prog.info? 94).map (fun i => (i.zero.map (fun z => z.cells.size), i.size, decide (i.bytes ≤ 1000))) = some (some 4, 4, true) := by kernel_rfl

set_option maxRecDepth 100000 in
set_option maxHeartbeats 2000000 in
theorem toResultS_any (A : Option Addr) (c : Nat) (xs : List Result) (w : World) (hx : SR resultRep w (· < w.heap.size) A xs) (hn : xs.length ≤ 1048576) :
    Calls Try.prog 26 #[.slice A xs.length c] w fun e w' => (∃ g, e = .returned (.slice (some ⟨g, 0, none⟩) xs.length xs.length) ∧ w.heap.size ≤ g ∧ SR resultRep w' (· < w'.heap.size) (some ⟨g, 0, none⟩) xs) ∧ Below w.heap.size w w' := by
  obtain ⟨i0, z0, hi, hz0, hz1, hz2, hz3⟩ := info_parts2 Result.info
  have hmk := run_make_rowN (P := Try.prog) 41 94 i0 _ Try.underlying41 hi hz0 .i64 .i64 xs.length xs.length (Nat.le_refl _) (make_bytes hz3 hn) (by omega)
  rw [hz2] at hmk
  have hsz : (madeCells z0.cells (xs.length * 4)).size = xs.length * 4 := size_madeCells _ _
  generalize madeCells z0.cells (xs.length * 4) = cs at hmk hsz
  have Hsz := Lib.hid hsz
  clear hsz hz0 hz1 hz2 hz3 hi
  go_enter Try.func26, Try.ntmps26
  go_wp2
  clear hmk
  go_loopw [4] (fun i wr => ∃ k : Nat, k ≤ xs.length ∧ i = .int .i64 k ∧ Filled resultRep wr (fun b => b < wr.heap.size ∧ b ≠ w.heap.size) w.heap.size 94 xs k ∧ Below w.heap.size w wr) (fun i _ => xs.length - (intOf i).toNat)
  case atStart => exact ⟨0, Nat.zero_le _, rfl, Filled.made resultRep w _ _ xs cs Hsz.out, (Below.refl _ _).alloc (Nat.le_refl _) _⟩
  case round =>
    obtain ⟨k, hk, rfl, hf, hb⟩ := hrel
    by_cases hlt : k < xs.length
    · obtain ⟨b, off, row, hA, hbb, hr, hc⟩ := (hx.below hb).at_ hlt
      subst hA
      have hrow : row = Result.cells xs[k] := hr
      generalize hm : xs[k] = m at hrow hr
      obtain ⟨x0, x1, x2, x3⟩ := m
      subst hrow
      have c0 : wr.cell? ⟨b, off + k * 4, none⟩ = some (.string x0) := hc 0 _ rfl
      have c1 : wr.cell? ⟨b, off + k * 4 + 1, none⟩ = some (.string x1) := hc 1 _ rfl
      have c2 : wr.cell? ⟨b, off + k * 4 + 2, none⟩ = some (.int .i64 x2) := hc 2 _ rfl
      have c3 : wr.cell? ⟨b, off + k * 4 + 3, none⟩ = some (.int .i64 x3) := hc 3 _ rfl
      have HM := Lib.hid hm
      have hbs := hb.size
      have hfl := hf.lt
      obtain ⟨⟨u0, o0⟩, f0⟩ := hf.slot hlt (j := 0) (show 0 < 4 by decide)
      obtain ⟨⟨u1, o1⟩, f1⟩ := hf.slot hlt (j := 1) (show 1 < 4 by decide)
      obtain ⟨⟨u2, o2⟩, f2⟩ := hf.slot hlt (j := 2) (show 2 < 4 by decide)
      obtain ⟨⟨u3, o3⟩, f3⟩ := hf.slot hlt (j := 3) (show 3 < 4 by decide)
      simp only [show resultRep.size = 4 from rfl, Nat.add_zero] at o0 f0 o1 f1 o2 f2 o3 f3
      clear hc hr hm
      go_wp2_with (go_at_call 67; refine (toResult_any _ _ _ _ _).mono ?_; rintro e w1 ⟨rfl, hb1⟩; obtain ⟨hc1, hf1⟩ := bcell hb1)
      have hN := hf.next hb1 hlt (row := [.string x0, .string x1, .int .i64 x2, .int .i64 x3]) (show _ = Result.cells _ by rw [HM.out]; rfl) hb (Nat.le_refl _)
      exact ⟨⟨k + 1, by omega, by go_num, hN.1, hN.2⟩, by simp [intOf]; omega⟩
    · have hk' : k = xs.length := by omega
      go_wp2
      go_ret
      subst hk'
      exact ⟨⟨_, rfl, Nat.le_refl _, hf.done fun b hb => hb.1⟩, hb⟩

set_option maxRecDepth 100000 in
set_option maxHeartbeats 2000000 in
theorem szResultS_any (A : Option Addr) (c : Nat) (xs : List Result) (l : Int) (w : World) (hx : SR resultRep w (· < w.heap.size) A xs) (hok : ∀ x ∈ xs, x.ok) (hlen : xs.length ≤ maxLen) (h0 : 0 ≤ l) (h1 : l ≤ 1048576) :
    Calls Try.prog 24 #[.slice A xs.length c, .int .i64 l] w fun e w' => (∃ q : Int, e = .returned (.int .i64 q) ∧ -1 ≤ q ∧ (0 ≤ q → (xs.length : Int) + (sumB Result.bulk xs : Nat) + q = l)) ∧ Below w.heap.size w w' := by
  unfold maxLen at hlen
  have Hok := Lib.hid hok
  clear hok
  go_enter Try.func24, Try.ntmps24
  go_wp2
  · go_ret
    exact ⟨⟨_, rfl, by omega, by omega⟩, Below.refl _ _⟩
  go_loopw [1, 5] (fun q i wr => ∃ (k : Nat) (r : Int), k ≤ xs.length ∧ i = .int .i64 k ∧ q = .int .i64 r ∧ 0 ≤ r ∧ r ≤ 1048576 ∧ (xs.length : Int) + (sumB Result.bulk (xs.take k) : Nat) + r = l ∧ Below w.heap.size w wr) (fun _ i _ => xs.length - (intOf i).toNat)
  case atStart => exact ⟨0, _, Nat.zero_le _, rfl, rfl, by omega, by omega, by simp [sumB_nil]; omega, Below.refl _ _⟩
  case round =>
    obtain ⟨k, r, hk, rfl, rfl, hr0, hr1, hsum, hb⟩ := hrel
    by_cases hlt : k < xs.length
    · obtain ⟨b, off, row, hA, hbb, hr, hc⟩ := (hx.below hb).at_ hlt
      subst hA
      have hrow : row = Result.cells xs[k] := hr
      have hko := Hok.out _ (List.getElem_mem hlt)
      have hts := sumB_take Result.bulk xs k hlt
      generalize hm : xs[k] = m at hrow hr hko hts
      obtain ⟨x0, x1, x2, x3⟩ := m
      subst hrow
      have c0 : wr.cell? ⟨b, off + k * 4, none⟩ = some (.string x0) := hc 0 _ rfl
      have c1 : wr.cell? ⟨b, off + k * 4 + 1, none⟩ = some (.string x1) := hc 1 _ rfl
      have c2 : wr.cell? ⟨b, off + k * 4 + 2, none⟩ = some (.int .i64 x2) := hc 2 _ rfl
      have c3 : wr.cell? ⟨b, off + k * 4 + 3, none⟩ = some (.int .i64 x3) := hc 3 _ rfl
      have HT := Lib.hid hts
      have HS := Lib.hid hsum
      have hbs := hb.size
      simp only [Result.ok, maxLen] at hko
      clear hc hr hm hts hsum
      go_wp2_with ((go_at_call 65; refine (szResult_any _ _ _ _ _ _ (by unfold maxLen; omega) (by unfold maxLen; omega) (by omega) (by omega)).mono ?_; rintro e w1 ⟨⟨q, rfl, hq0, hq1⟩, hbw1⟩; obtain ⟨hcw1, hfw1⟩ := bcell hbw1; have hBw1 : Below w.heap.size w w1 := Below.trans (by (repeat' (first | (with_reducible exact Below.refl _ _) | (with_reducible assumption) | (with_reducible refine Below.alloc ?_ ?_ _) | (with_reducible refine Below.drew ?_) | (with_reducible refine Below.setCell ?_ ?_ _) | (first | (with_reducible exact Nat.le_refl _) | (with_reducible assumption) | omega | (simp only [World.size_alloc, World.size_setCell, World.size_drew]; omega) | (simp; omega) | (simp; done))))) (hbw1.mono (by (first | (with_reducible exact Nat.le_refl _) | (with_reducible assumption) | omega | (simp only [World.size_alloc, World.size_setCell, World.size_drew]; omega) | (simp; omega) | (simp; done)))); have hzw1 := hbw1.size; (try simp at hzw1); (try have hl0w1 : w.heap.size < w1.heap.size := by omega); (try have hl1w1 : w.heap.size + 1 < w1.heap.size := by omega); (try have hl2w1 : w.heap.size + 1 + 1 < w1.heap.size := by omega); (try have hl3w1 : w.heap.size + 1 + 1 + 1 < w1.heap.size := by omega); (try have hl4w1 : w.heap.size + 1 + 1 + 1 + 1 < w1.heap.size := by omega)))
      · have hsum := HS.out
        go_ret
        exact ⟨⟨_, rfl, by omega, by omega⟩, hb.trans (hbw1.mono hbs)⟩
      · have hts := HT.out
        have hsum := HS.out
        have hq : 0 ≤ q := by assumption
        simp only [Result.bulk] at hts
        exact ⟨⟨k + 1, q, by omega, by go_num, rfl, hq, by have := hq1 hq; omega, by rw [hts]; have := hq1 hq; omega, hb.trans (hbw1.mono hbs)⟩, by simp [intOf]; omega⟩
    · have hk' : k = xs.length := by omega
      go_wp2
      go_ret
      subst hk'
      rw [List.take_length] at hsum
      exact ⟨⟨_, rfl, by omega, fun _ => hsum⟩, hb⟩

set_option maxRecDepth 100000 in
set_option maxHeartbeats 4000000 in
theorem eqResultS_any (A A' : Option Addr) (c c' : Nat) (xs ys : List Result) (w : World) (hx : SR resultRep w (· < w.heap.size) A xs) (hy : SR resultRep w (· < w.heap.size) A' ys) (hlx : xs.length ≤ maxLen) (hly : ys.length ≤ maxLen) :
    Calls Try.prog 28 #[.slice A xs.length c, .slice A' ys.length c'] w fun e w' => e = .returned (.bool (decide (xs = ys))) ∧ Below w.heap.size w w' := by
  unfold maxLen at hlx hly
  by_cases hl : xs.length = ys.length
  · have hb : ((xs.length : Int) != (ys.length : Int)) = false := by simp [hl]
    have HL := Lib.hid hl
    clear hl
    go_enter Try.func28, Try.ntmps28
    go_wp2
    go_loopw [5] (fun i wr => ∃ k : Nat, k ≤ xs.length ∧ i = .int .i64 k ∧ xs.take k = ys.take k ∧ Below w.heap.size w wr) (fun i _ => xs.length - (intOf i).toNat)
    case atStart => exact ⟨0, Nat.zero_le _, rfl, rfl, Below.refl _ _⟩
    case round =>
      obtain ⟨k, hk, rfl, htake, hbr⟩ := hrel
      have HT := Lib.hid htake
      clear htake
      by_cases hlt : k < xs.length
      · have hlt' : k < ys.length := by have := HL.out; omega
        obtain ⟨b, off, row, hA, hbb, hr, hc⟩ := (hx.below hbr).at_ hlt
        obtain ⟨b', off', row', hA', hbb', hr', hc'⟩ := (hy.below hbr).at_ hlt'
        subst hA hA'
        have hrow : row = Result.cells xs[k] := hr
        have hrow' : row' = Result.cells ys[k] := hr'
        generalize hm : xs[k] = m at hrow hr
        generalize hm' : ys[k] = m' at hrow' hr'
        obtain ⟨x0, x1, x2, x3⟩ := m
        obtain ⟨y0, y1, y2, y3⟩ := m'
        subst hrow hrow'
        have c0 : wr.cell? ⟨b, off + k * 4, none⟩ = some (.string x0) := hc 0 _ rfl
        have c1 : wr.cell? ⟨b, off + k * 4 + 1, none⟩ = some (.string x1) := hc 1 _ rfl
        have c2 : wr.cell? ⟨b, off + k * 4 + 2, none⟩ = some (.int .i64 x2) := hc 2 _ rfl
        have c3 : wr.cell? ⟨b, off + k * 4 + 3, none⟩ = some (.int .i64 x3) := hc 3 _ rfl
        have d0 : wr.cell? ⟨b', off' + k * 4, none⟩ = some (.string y0) := hc' 0 _ rfl
        have d1 : wr.cell? ⟨b', off' + k * 4 + 1, none⟩ = some (.string y1) := hc' 1 _ rfl
        have d2 : wr.cell? ⟨b', off' + k * 4 + 2, none⟩ = some (.int .i64 y2) := hc' 2 _ rfl
        have d3 : wr.cell? ⟨b', off' + k * 4 + 3, none⟩ = some (.int .i64 y3) := hc' 3 _ rfl
        have HM := Lib.hid hm
        have HM' := Lib.hid hm'
        have hbs := hbr.size
        have i0 : (0 : Int) ≤ (k : Int) := by omega
        have i1 : (k : Int) < (xs.length : Int) := by omega
        have i2 : (k : Int) < (ys.length : Int) := by omega
        clear hc hc' hr hr' hm hm' hx hy
        go_wp2
        go_region_held3 (fun w' => w'.cell? ⟨b, off + k * 4, none⟩ = some (.string x0) ∧ w'.cell? ⟨b, off + k * 4 + 1, none⟩ = some (.string x1) ∧ w'.cell? ⟨b, off + k * 4 + 2, none⟩ = some (.int .i64 x2) ∧ w'.cell? ⟨b, off + k * 4 + 3, none⟩ = some (.int .i64 x3) ∧ w'.cell? ⟨b', off' + k * 4, none⟩ = some (.string y0) ∧ w'.cell? ⟨b', off' + k * 4 + 1, none⟩ = some (.string y1) ∧ w'.cell? ⟨b', off' + k * 4 + 2, none⟩ = some (.int .i64 y2) ∧ w'.cell? ⟨b', off' + k * 4 + 3, none⟩ = some (.int .i64 y3))
          (first | exact ⟨c0, c1, c2, c3, d0, d1, d2, d3⟩ | exact ⟨(hb1.cell (p := ⟨b, _, none⟩) (Nat.lt_of_lt_of_le hbb hbs)).trans c0, (hb1.cell (p := ⟨b, _, none⟩) (Nat.lt_of_lt_of_le hbb hbs)).trans c1, (hb1.cell (p := ⟨b, _, none⟩) (Nat.lt_of_lt_of_le hbb hbs)).trans c2, (hb1.cell (p := ⟨b, _, none⟩) (Nat.lt_of_lt_of_le hbb hbs)).trans c3, (hb1.cell (p := ⟨b', _, none⟩) (Nat.lt_of_lt_of_le hbb' hbs)).trans d0, (hb1.cell (p := ⟨b', _, none⟩) (Nat.lt_of_lt_of_le hbb' hbs)).trans d1, (hb1.cell (p := ⟨b', _, none⟩) (Nat.lt_of_lt_of_le hbb' hbs)).trans d2, (hb1.cell (p := ⟨b', _, none⟩) (Nat.lt_of_lt_of_le hbb' hbs)).trans d3⟩)
          (first | (go_at_call 70; refine (eqResult_any _ _ _ _ _ _ _ _ _).mono ?_; rintro e w1 ⟨rfl, hb1⟩))
        have hBw1 : Below w.heap.size w w1 := hbr.trans (Below.trans (Below.drew (Below.refl _ _)) (hb1.mono hbs))
        clear hb1
        cases he : Result.eqB ⟨x0, x1, x2, x3⟩ ⟨y0, y1, y2, y3⟩
        · have HE : Hid (xs[k] ≠ ys[k]) := Lib.hid (by rw [HM.out, HM'.out]; simpa [Result.eqB] using he)
          go_wp2
          all_goals (go_ret; exact ⟨ret_bool (decide_eq_false (list_ne_at hlt hlt' HE.out)).symm, hBw1⟩)
        · have HE : Hid (xs[k] = ys[k]) := Lib.hid (by rw [HM.out, HM'.out]; simpa [Result.eqB] using he)
          go_wp2
          exact ⟨⟨k + 1, by omega, by go_num, take_more HT.out hlt hlt' HE.out, hBw1⟩, by simp [intOf]; omega⟩
      · have hk' : k = xs.length := by omega
        go_wp2
        go_ret
        subst hk'
        exact ⟨ret_bool (decide_eq_true (list_eq_of_take HL.out HT.out)).symm, hbr⟩
  · have hb : ((xs.length : Int) != (ys.length : Int)) = true := by rw [bne_iff_ne]; omega
    go_enter Try.func28, Try.ntmps28
    go_wp2
    go_ret
    exact ⟨ret_bool (decide_eq_false (fun h => hl (by rw [h]))).symm, Below.refl _ _⟩

theorem Note.info : (Try.prog.info? 121).map (fun i => (i.zero.map (fun z => z.cells.size), i.size, decide (i.bytes ≤ 1000))) = some (some 8, 8, true) := by kernel_rfl

set_option maxRecDepth 100000 in
set_option maxHeartbeats 2000000 in
theorem toNoteS_any (A : Option Addr) (c : Nat) (xs : List Note) (w : World) (hx : SR noteRep w (· < w.heap.size) A xs) (hn : xs.length ≤ 1048576) :
    Calls Try.prog 43 #[.slice A xs.length c] w fun e w' => (∃ g, e = .returned (.slice (some ⟨g, 0, none⟩) xs.length xs.length) ∧ w.heap.size ≤ g ∧ SR noteRep w' (· < w'.heap.size) (some ⟨g, 0, none⟩) xs) ∧ Below w.heap.size w w' := by
  obtain ⟨i0, z0, hi, hz0, hz1, hz2, hz3⟩ := info_parts2 Note.info
  have hmk := run_make_rowN (P := Try.prog) 65 121 i0 _ Try.underlying65 hi hz0 .i64 .i64 xs.length xs.length (Nat.le_refl _) (make_bytes hz3 hn) (by omega)
  rw [hz2] at hmk
  have hsz : (madeCells z0.cells (xs.length * 8)).size = xs.length * 8 := size_madeCells _ _
  generalize madeCells z0.cells (xs.length * 8) = cs at hmk hsz
  have Hsz := Lib.hid hsz
  clear hsz hz0 hz1 hz2 hz3 hi
  go_enter Try.func43, Try.ntmps43
  go_wp2
  clear hmk
  go_loopw [4] (fun i wr => ∃ k : Nat, k ≤ xs.length ∧ i = .int .i64 k ∧ Filled noteRep wr (fun b => b < wr.heap.size ∧ b ≠ w.heap.size) w.heap.size 121 xs k ∧ Below w.heap.size w wr) (fun i _ => xs.length - (intOf i).toNat)
  case atStart => exact ⟨0, Nat.zero_le _, rfl, Filled.made noteRep w _ _ xs cs Hsz.out, (Below.refl _ _).alloc (Nat.le_refl _) _⟩
  case round =>
    obtain ⟨k, hk, rfl, hf, hb⟩ := hrel
    by_cases hlt : k < xs.length
    · obtain ⟨b, off, row, hA, hbb, hr, hc⟩ := (hx.below hb).at_ hlt
      subst hA
      have hrow : row = Note.cells xs[k] := hr
      generalize hm : xs[k] = m at hrow hr
      obtain ⟨x0, ⟨⟨x1, x2, x3, x4⟩, x5⟩, x6, x7⟩ := m
      subst hrow
      have c0 : wr.cell? ⟨b, off + k * 8, none⟩ = some (.int .i64 x0) := hc 0 _ rfl
      have c1 : wr.cell? ⟨b, off + k * 8 + 1, none⟩ = some (.int .i64 x1) := hc 1 _ rfl
      have c2 : wr.cell? ⟨b, off + k * 8 + 2, none⟩ = some (.int .i64 x2) := hc 2 _ rfl
      have c3 : wr.cell? ⟨b, off + k * 8 + 3, none⟩ = some (.bool x3) := hc 3 _ rfl
      have c4 : wr.cell? ⟨b, off + k * 8 + 4, none⟩ = some (.string x4) := hc 4 _ rfl
      have c5 : wr.cell? ⟨b, off + k * 8 + 5, none⟩ = some (.int .i64 x5) := hc 5 _ rfl
      have c6 : wr.cell? ⟨b, off + k * 8 + 6, none⟩ = some (.int .i64 x6) := hc 6 _ rfl
      have c7 : wr.cell? ⟨b, off + k * 8 + 7, none⟩ = some (.int .i64 x7) := hc 7 _ rfl
      have HM := Lib.hid hm
      have hbs := hb.size
      have hfl := hf.lt
      obtain ⟨⟨u0, o0⟩, f0⟩ := hf.slot hlt (j := 0) (show 0 < 8 by decide)
      obtain ⟨⟨u1, o1⟩, f1⟩ := hf.slot hlt (j := 1) (show 1 < 8 by decide)
      obtain ⟨⟨u2, o2⟩, f2⟩ := hf.slot hlt (j := 2) (show 2 < 8 by decide)
      obtain ⟨⟨u3, o3⟩, f3⟩ := hf.slot hlt (j := 3) (show 3 < 8 by decide)
      obtain ⟨⟨u4, o4⟩, f4⟩ := hf.slot hlt (j := 4) (show 4 < 8 by decide)
      obtain ⟨⟨u5, o5⟩, f5⟩ := hf.slot hlt (j := 5) (show 5 < 8 by decide)
      obtain ⟨⟨u6, o6⟩, f6⟩ := hf.slot hlt (j := 6) (show 6 < 8 by decide)
      obtain ⟨⟨u7, o7⟩, f7⟩ := hf.slot hlt (j := 7) (show 7 < 8 by decide)
      simp only [show noteRep.size = 8 from rfl, Nat.add_zero] at o0 f0 o1 f1 o2 f2 o3 f3 o4 f4 o5 f5 o6 f6 o7 f7
      clear hc hr hm
      go_wp2_with (go_at_call 84; refine (toNote_any _ _ _ _ _ _ _ _ _).mono ?_; rintro e w1 ⟨rfl, hb1⟩; obtain ⟨hc1, hf1⟩ := bcell hb1)
      have hN := hf.next hb1 hlt (row := [.int .i64 x0, .int .i64 x1, .int .i64 x2, .bool x3, .string x4, .int .i64 x5, .int .i64 x6, .int .i64 x7]) (show _ = Note.cells _ by rw [HM.out]; rfl) hb (Nat.le_refl _)
      exact ⟨⟨k + 1, by omega, by go_num, hN.1, hN.2⟩, by simp [intOf]; omega⟩
    · have hk' : k = xs.length := by omega
      go_wp2
      go_ret
      subst hk'
      exact ⟨⟨_, rfl, Nat.le_refl _, hf.done fun b hb => hb.1⟩, hb⟩

set_option maxRecDepth 100000 in
set_option maxHeartbeats 2000000 in
theorem szNoteS_any (A : Option Addr) (c : Nat) (xs : List Note) (l : Int) (w : World) (hx : SR noteRep w (· < w.heap.size) A xs) (hok : ∀ x ∈ xs, x.ok) (hlen : xs.length ≤ maxLen) (h0 : 0 ≤ l) (h1 : l ≤ 1048576) :
    Calls Try.prog 41 #[.slice A xs.length c, .int .i64 l] w fun e w' => (∃ q : Int, e = .returned (.int .i64 q) ∧ -1 ≤ q ∧ (0 ≤ q → (xs.length : Int) + (sumB Note.bulk xs : Nat) + q = l)) ∧ Below w.heap.size w w' := by
  unfold maxLen at hlen
  have Hok := Lib.hid hok
  clear hok
  go_enter Try.func41, Try.ntmps41
  go_wp2
  · go_ret
    exact ⟨⟨_, rfl, by omega, by omega⟩, Below.refl _ _⟩
  go_loopw [1, 5] (fun q i wr => ∃ (k : Nat) (r : Int), k ≤ xs.length ∧ i = .int .i64 k ∧ q = .int .i64 r ∧ 0 ≤ r ∧ r ≤ 1048576 ∧ (xs.length : Int) + (sumB Note.bulk (xs.take k) : Nat) + r = l ∧ Below w.heap.size w wr) (fun _ i _ => xs.length - (intOf i).toNat)
  case atStart => exact ⟨0, _, Nat.zero_le _, rfl, rfl, by omega, by omega, by simp [sumB_nil]; omega, Below.refl _ _⟩
  case round =>
    obtain ⟨k, r, hk, rfl, rfl, hr0, hr1, hsum, hb⟩ := hrel
    by_cases hlt : k < xs.length
    · obtain ⟨b, off, row, hA, hbb, hr, hc⟩ := (hx.below hb).at_ hlt
      subst hA
      have hrow : row = Note.cells xs[k] := hr
      have hko := Hok.out _ (List.getElem_mem hlt)
      have hts := sumB_take Note.bulk xs k hlt
      generalize hm : xs[k] = m at hrow hr hko hts
      obtain ⟨x0, ⟨⟨x1, x2, x3, x4⟩, x5⟩, x6, x7⟩ := m
      subst hrow
      have c0 : wr.cell? ⟨b, off + k * 8, none⟩ = some (.int .i64 x0) := hc 0 _ rfl
      have c1 : wr.cell? ⟨b, off + k * 8 + 1, none⟩ = some (.int .i64 x1) := hc 1 _ rfl
      have c2 : wr.cell? ⟨b, off + k * 8 + 2, none⟩ = some (.int .i64 x2) := hc 2 _ rfl
      have c3 : wr.cell? ⟨b, off + k * 8 + 3, none⟩ = some (.bool x3) := hc 3 _ rfl
      have c4 : wr.cell? ⟨b, off + k * 8 + 4, none⟩ = some (.string x4) := hc 4 _ rfl
      have c5 : wr.cell? ⟨b, off + k * 8 + 5, none⟩ = some (.int .i64 x5) := hc 5 _ rfl
      have c6 : wr.cell? ⟨b, off + k * 8 + 6, none⟩ = some (.int .i64 x6) := hc 6 _ rfl
      have c7 : wr.cell? ⟨b, off + k * 8 + 7, none⟩ = some (.int .i64 x7) := hc 7 _ rfl
      have HT := Lib.hid hts
      have HS := Lib.hid hsum
      have hbs := hb.size
      simp only [Note.ok, maxLen] at hko
      clear hc hr hm hts hsum
      go_wp2_with ((go_at_call 83; refine (szNote_any _ _ _ _ _ _ _ _ _ _ (by unfold maxLen; omega) (by omega) (by omega)).mono ?_; rintro e w1 ⟨⟨q, rfl, hq0, hq1⟩, hbw1⟩; obtain ⟨hcw1, hfw1⟩ := bcell hbw1; have hBw1 : Below w.heap.size w w1 := Below.trans (by (repeat' (first | (with_reducible exact Below.refl _ _) | (with_reducible assumption) | (with_reducible refine Below.alloc ?_ ?_ _) | (with_reducible refine Below.drew ?_) | (with_reducible refine Below.setCell ?_ ?_ _) | (first | (with_reducible exact Nat.le_refl _) | (with_reducible assumption) | omega | (simp only [World.size_alloc, World.size_setCell, World.size_drew]; omega) | (simp; omega) | (simp; done))))) (hbw1.mono (by (first | (with_reducible exact Nat.le_refl _) | (with_reducible assumption) | omega | (simp only [World.size_alloc, World.size_setCell, World.size_drew]; omega) | (simp; omega) | (simp; done)))); have hzw1 := hbw1.size; (try simp at hzw1); (try have hl0w1 : w.heap.size < w1.heap.size := by omega); (try have hl1w1 : w.heap.size + 1 < w1.heap.size := by omega); (try have hl2w1 : w.heap.size + 1 + 1 < w1.heap.size := by omega); (try have hl3w1 : w.heap.size + 1 + 1 + 1 < w1.heap.size := by omega); (try have hl4w1 : w.heap.size + 1 + 1 + 1 + 1 < w1.heap.size := by omega)))
      · have hsum := HS.out
        go_ret
        exact ⟨⟨_, rfl, by omega, by omega⟩, hb.trans (hbw1.mono hbs)⟩
      · have hts := HT.out
        have hsum := HS.out
        have hq : 0 ≤ q := by assumption
        simp only [Note.bulk] at hts
        exact ⟨⟨k + 1, q, by omega, by go_num, rfl, hq, by have := hq1 hq; omega, by rw [hts]; have := hq1 hq; omega, hb.trans (hbw1.mono hbs)⟩, by simp [intOf]; omega⟩
    · have hk' : k = xs.length := by omega
      go_wp2
      go_ret
      subst hk'
      rw [List.take_length] at hsum
      exact ⟨⟨_, rfl, by omega, fun _ => hsum⟩, hb⟩

set_option maxRecDepth 100000 in
set_option maxHeartbeats 4000000 in
theorem eqNoteS_any (A A' : Option Addr) (c c' : Nat) (xs ys : List Note) (w : World) (hx : SR noteRep w (· < w.heap.size) A xs) (hy : SR noteRep w (· < w.heap.size) A' ys) (hlx : xs.length ≤ maxLen) (hly : ys.length ≤ maxLen) :
    Calls Try.prog 45 #[.slice A xs.length c, .slice A' ys.length c'] w fun e w' => e = .returned (.bool (decide (xs = ys))) ∧ Below w.heap.size w w' := by
  unfold maxLen at hlx hly
  by_cases hl : xs.length = ys.length
  · have hb : ((xs.length : Int) != (ys.length : Int)) = false := by simp [hl]
    have HL := Lib.hid hl
    clear hl
    go_enter Try.func45, Try.ntmps45
    go_wp2
    go_loopw [5] (fun i wr => ∃ k : Nat, k ≤ xs.length ∧ i = .int .i64 k ∧ xs.take k = ys.take k ∧ Below w.heap.size w wr) (fun i _ => xs.length - (intOf i).toNat)
    case atStart => exact ⟨0, Nat.zero_le _, rfl, rfl, Below.refl _ _⟩
    case round =>
      obtain ⟨k, hk, rfl, htake, hbr⟩ := hrel
      have HT := Lib.hid htake
      clear htake
      by_cases hlt : k < xs.length
      · have hlt' : k < ys.length := by have := HL.out; omega
        obtain ⟨b, off, row, hA, hbb, hr, hc⟩ := (hx.below hbr).at_ hlt
        obtain ⟨b', off', row', hA', hbb', hr', hc'⟩ := (hy.below hbr).at_ hlt'
        subst hA hA'
        have hrow : row = Note.cells xs[k] := hr
        have hrow' : row' = Note.cells ys[k] := hr'
        generalize hm : xs[k] = m at hrow hr
        generalize hm' : ys[k] = m' at hrow' hr'
        obtain ⟨x0, ⟨⟨x1, x2, x3, x4⟩, x5⟩, x6, x7⟩ := m
        obtain ⟨y0, ⟨⟨y1, y2, y3, y4⟩, y5⟩, y6, y7⟩ := m'
        subst hrow hrow'
        have c0 : wr.cell? ⟨b, off + k * 8, none⟩ = some (.int .i64 x0) := hc 0 _ rfl
        have c1 : wr.cell? ⟨b, off + k * 8 + 1, none⟩ = some (.int .i64 x1) := hc 1 _ rfl
        have c2 : wr.cell? ⟨b, off + k * 8 + 2, none⟩ = some (.int .i64 x2) := hc 2 _ rfl
        have c3 : wr.cell? ⟨b, off + k * 8 + 3, none⟩ = some (.bool x3) := hc 3 _ rfl
        have c4 : wr.cell? ⟨b, off + k * 8 + 4, none⟩ = some (.string x4) := hc 4 _ rfl
        have c5 : wr.cell? ⟨b, off + k * 8 + 5, none⟩ = some (.int .i64 x5) := hc 5 _ rfl
        have c6 : wr.cell? ⟨b, off + k * 8 + 6, none⟩ = some (.int .i64 x6) := hc 6 _ rfl
        have c7 : wr.cell? ⟨b, off + k * 8 + 7, none⟩ = some (.int .i64 x7) := hc 7 _ rfl
        have d0 : wr.cell? ⟨b', off' + k * 8, none⟩ = some (.int .i64 y0) := hc' 0 _ rfl
        have d1 : wr.cell? ⟨b', off' + k * 8 + 1, none⟩ = some (.int .i64 y1) := hc' 1 _ rfl
        have d2 : wr.cell? ⟨b', off' + k * 8 + 2, none⟩ = some (.int .i64 y2) := hc' 2 _ rfl
        have d3 : wr.cell? ⟨b', off' + k * 8 + 3, none⟩ = some (.bool y3) := hc' 3 _ rfl
        have d4 : wr.cell? ⟨b', off' + k * 8 + 4, none⟩ = some (.string y4) := hc' 4 _ rfl
        have d5 : wr.cell? ⟨b', off' + k * 8 + 5, none⟩ = some (.int .i64 y5) := hc' 5 _ rfl
        have d6 : wr.cell? ⟨b', off' + k * 8 + 6, none⟩ = some (.int .i64 y6) := hc' 6 _ rfl
        have d7 : wr.cell? ⟨b', off' + k * 8 + 7, none⟩ = some (.int .i64 y7) := hc' 7 _ rfl
        have HM := Lib.hid hm
        have HM' := Lib.hid hm'
        have hbs := hbr.size
        have i0 : (0 : Int) ≤ (k : Int) := by omega
        have i1 : (k : Int) < (xs.length : Int) := by omega
        have i2 : (k : Int) < (ys.length : Int) := by omega
        clear hc hc' hr hr' hm hm' hx hy
        go_wp2
        go_region_held3 (fun w' => w'.cell? ⟨b, off + k * 8, none⟩ = some (.int .i64 x0) ∧ w'.cell? ⟨b, off + k * 8 + 1, none⟩ = some (.int .i64 x1) ∧ w'.cell? ⟨b, off + k * 8 + 2, none⟩ = some (.int .i64 x2) ∧ w'.cell? ⟨b, off + k * 8 + 3, none⟩ = some (.bool x3) ∧ w'.cell? ⟨b, off + k * 8 + 4, none⟩ = some (.string x4) ∧ w'.cell? ⟨b, off + k * 8 + 5, none⟩ = some (.int .i64 x5) ∧ w'.cell? ⟨b, off + k * 8 + 6, none⟩ = some (.int .i64 x6) ∧ w'.cell? ⟨b, off + k * 8 + 7, none⟩ = some (.int .i64 x7) ∧ w'.cell? ⟨b', off' + k * 8, none⟩ = some (.int .i64 y0) ∧ w'.cell? ⟨b', off' + k * 8 + 1, none⟩ = some (.int .i64 y1) ∧ w'.cell? ⟨b', off' + k * 8 + 2, none⟩ = some (.int .i64 y2) ∧ w'.cell? ⟨b', off' + k * 8 + 3, none⟩ = some (.bool y3) ∧ w'.cell? ⟨b', off' + k * 8 + 4, none⟩ = some (.string y4) ∧ w'.cell? ⟨b', off' + k * 8 + 5, none⟩ = some (.int .i64 y5) ∧ w'.cell? ⟨b', off' + k * 8 + 6, none⟩ = some (.int .i64 y6) ∧ w'.cell? ⟨b', off' + k * 8 + 7, none⟩ = some (.int .i64 y7))
          (first | exact ⟨c0, c1, c2, c3, c4, c5, c6, c7, d0, d1, d2, d3, d4, d5, d6, d7⟩ | exact ⟨(hb1.cell (p := ⟨b, _, none⟩) (Nat.lt_of_lt_of_le hbb hbs)).trans c0, (hb1.cell (p := ⟨b, _, none⟩) (Nat.lt_of_lt_of_le hbb hbs)).trans c1, (hb1.cell (p := ⟨b, _, none⟩) (Nat.lt_of_lt_of_le hbb hbs)).trans c2, (hb1.cell (p := ⟨b, _, none⟩) (Nat.lt_of_lt_of_le hbb hbs)).trans c3, (hb1.cell (p := ⟨b, _, none⟩) (Nat.lt_of_lt_of_le hbb hbs)).trans c4, (hb1.cell (p := ⟨b, _, none⟩) (Nat.lt_of_lt_of_le hbb hbs)).trans c5, (hb1.cell (p := ⟨b, _, none⟩) (Nat.lt_of_lt_of_le hbb hbs)).trans c6, (hb1.cell (p := ⟨b, _, none⟩) (Nat.lt_of_lt_of_le hbb hbs)).trans c7, (hb1.cell (p := ⟨b', _, none⟩) (Nat.lt_of_lt_of_le hbb' hbs)).trans d0, (hb1.cell (p := ⟨b', _, none⟩) (Nat.lt_of_lt_of_le hbb' hbs)).trans d1, (hb1.cell (p := ⟨b', _, none⟩) (Nat.lt_of_lt_of_le hbb' hbs)).trans d2, (hb1.cell (p := ⟨b', _, none⟩) (Nat.lt_of_lt_of_le hbb' hbs)).trans d3, (hb1.cell (p := ⟨b', _, none⟩) (Nat.lt_of_lt_of_le hbb' hbs)).trans d4, (hb1.cell (p := ⟨b', _, none⟩) (Nat.lt_of_lt_of_le hbb' hbs)).trans d5, (hb1.cell (p := ⟨b', _, none⟩) (Nat.lt_of_lt_of_le hbb' hbs)).trans d6, (hb1.cell (p := ⟨b', _, none⟩) (Nat.lt_of_lt_of_le hbb' hbs)).trans d7⟩)
          (first | (go_at_call 87; refine (eqNote_any _ _ _ _ _ _ _ _ _ _ _ _ _ _ _ _ _).mono ?_; rintro e w1 ⟨rfl, hb1⟩))
        have hBw1 : Below w.heap.size w w1 := hbr.trans (Below.trans (Below.drew (Below.refl _ _)) (hb1.mono hbs))
        clear hb1
        cases he : Note.eqB ⟨x0, ⟨⟨x1, x2, x3, x4⟩, x5⟩, x6, x7⟩ ⟨y0, ⟨⟨y1, y2, y3, y4⟩, y5⟩, y6, y7⟩
        · have HE : Hid (xs[k] ≠ ys[k]) := Lib.hid (by rw [HM.out, HM'.out]; simpa [Note.eqB] using he)
          go_wp2
          all_goals (go_ret; exact ⟨ret_bool (decide_eq_false (list_ne_at hlt hlt' HE.out)).symm, hBw1⟩)
        · have HE : Hid (xs[k] = ys[k]) := Lib.hid (by rw [HM.out, HM'.out]; simpa [Note.eqB] using he)
          go_wp2
          exact ⟨⟨k + 1, by omega, by go_num, take_more HT.out hlt hlt' HE.out, hBw1⟩, by simp [intOf]; omega⟩
      · have hk' : k = xs.length := by omega
        go_wp2
        go_ret
        subst hk'
        exact ⟨ret_bool (decide_eq_true (list_eq_of_take HL.out HT.out)).symm, hbr⟩
  · have hb : ((xs.length : Int) != (ys.length : Int)) = true := by rw [bne_iff_ne]; omega
    go_enter Try.func45, Try.ntmps45
    go_wp2
    go_ret
    exact ⟨ret_bool (decide_eq_false (fun h => hl (by rw [h]))).symm, Below.refl _ _⟩

theorem Slot.info : (Try.prog.info? 190).map (fun i => (i.zero.map (fun z => z.cells.size), i.size, decide (i.bytes ≤ 1000))) = some (some 4, 4, true) := by kernel_rfl

end Go.Proofs.Ytdngdgjlcfbdhaa
