/- SameClub: the program and the reference give the same for all clubs. -/
import Derived.Test.YtdngdgjlcfbdhaaClub
import Derived.Test.YtdngdgjlcfbdhaaArgs
namespace Go.Proofs.Ytdngdgjlcfbdhaa.fnExactSameClub
open Go.ChangeShapes Go.WideShapes Go.ChangeAt Go.RowKit
set_option linter.unusedSimpArgs false
set_option linter.unusedVariables false
attribute [local go_sem ↓] Go.wp_at_zero Go.wp_at_succ

theorem member_neq (x0 y0 : ByteArray) (x1 y1 : Int) (w : World) : (binOp .neq 103 (.agg #[.string x0, .int .i64 x1]) (.agg #[.string y0, .int .i64 y1])).run Try.prog w = .ok (.bool (!Member.eqB ⟨x0, x1⟩ ⟨y0, y1⟩)) w := by
  have hS : Try.prog.underlying 103 = some (.struct (Try.prog.fieldsOf 103)) := by kernel_rfl
  have hp : Try.prog.stoodInHeld 103 = false := by kernel_rfl
  have u9 := Try.underlying9
  have u2 := Try.underlying2
  rw [run_neq_struct, show (10000 : Nat) = 9999 + 1 from rfl, run_equalIn_agg w 9999 103 _ _ hS hp]
  simp only [Program.fieldsOf, Try.underlying103]
  go_simp
  by_cases h1 : x0 = y0 <;> by_cases h2 : x1 = y1 <;> simp [h1, h2, Member.eqB, bytes_beq]
  all_goals (rw [ByteArray.toList_eq, ByteArray.toList_eq]; exact fun h => h1 (Go.WideShapes.bytes_inj h))

set_option maxRecDepth 100000 in
set_option maxHeartbeats 2000000 in
theorem equal_any (A A' : Option Addr) (c c' : Nat) (xs ys : List Member) (w : World) (hx : SR memberRep w (· < w.heap.size) A xs) (hy : SR memberRep w (· < w.heap.size) A' ys) (hlx : xs.length ≤ maxLen) (hly : ys.length ≤ maxLen) :
    Calls Try.prog 75 #[.slice A xs.length c, .slice A' ys.length c'] w fun e w' => e = .returned (.bool (decide (xs = ys))) ∧ Below w.heap.size w w' := by
  unfold maxLen at hlx hly
  by_cases hl : xs.length = ys.length
  · have hb : ((xs.length : Int) != (ys.length : Int)) = false := by simp [hl]
    have HL := Lib.hid hl
    clear hl
    go_enter Try.func75, Try.ntmps75
    go_wp2
    go_loopw [13] (fun i wr => ∃ k : Nat, k ≤ xs.length ∧ i = .int .i64 k ∧ xs.take k = ys.take k ∧ Below w.heap.size w wr) (fun i _ => xs.length - (intOf i).toNat)
    case atStart => exact ⟨0, Nat.zero_le _, rfl, rfl, Below.refl _ _⟩
    case round =>
      obtain ⟨k, hk, rfl, htake, hbr⟩ := hrel
      have HT := Lib.hid htake
      clear htake
      by_cases hlt : k < xs.length
      · have hlt' : k < ys.length := by have := HL.out; omega
        obtain ⟨b, off, row, hA, hbb, hr, hc⟩ := (hx.below hbr).at_ hlt
        obtain ⟨b', off', row', hA', hbb', hr', hc'⟩ := (hy.below hbr).at_ hlt'
        subst hA hA'
        have hrow : row = Member.cells xs[k] := hr
        have hrow' : row' = Member.cells ys[k] := hr'
        generalize hm : xs[k] = m at hrow hr
        generalize hm' : ys[k] = m' at hrow' hr'
        obtain ⟨x0, x1⟩ := m
        obtain ⟨y0, y1⟩ := m'
        subst hrow hrow'
        have c0 : wr.cell? ⟨b, off + k * 2, none⟩ = some (.string x0) := hc 0 _ rfl
        have c1 : wr.cell? ⟨b, off + k * 2 + 1, none⟩ = some (.int .i64 x1) := hc 1 _ rfl
        have d0 : wr.cell? ⟨b', off' + k * 2, none⟩ = some (.string y0) := hc' 0 _ rfl
        have d1 : wr.cell? ⟨b', off' + k * 2 + 1, none⟩ = some (.int .i64 y1) := hc' 1 _ rfl
        have hG : Try.prog.eqGuardType Try.prog.depth 103 = false := by kernel_rfl
        have hne := member_neq x0 y0 x1 y1
        have HM := Lib.hid hm
        have HM' := Lib.hid hm'
        have hbs := hbr.size
        have i0 : (0 : Int) ≤ (k : Int) := by omega
        have i1 : (k : Int) < (xs.length : Int) := by omega
        have i2 : (k : Int) < (ys.length : Int) := by omega
        clear hc hc' hr hr' hm hm' hx hy
        cases he : Member.eqB ⟨x0, x1⟩ ⟨y0, y1⟩
        · have HE : Hid (xs[k] ≠ ys[k]) := Lib.hid (by rw [HM.out, HM'.out]; simpa [Member.eqB] using he)
          rw [he] at hne
          clear he
          go_wp2
          go_quiet (fail)
          go_wp2
          all_goals (go_ret; exact ⟨ret_bool (decide_eq_false (list_ne_at hlt hlt' HE.out)).symm, by first | exact hbr | (repeat' (first | (with_reducible exact Below.refl _ _) | (with_reducible assumption) | (with_reducible refine Below.alloc ?_ ?_ _) | (with_reducible refine Below.drew ?_) | (with_reducible refine bdrewN ?_ _) | (with_reducible refine Below.setCell ?_ ?_ _) | (first | (with_reducible exact Nat.le_refl _) | (with_reducible assumption) | omega | (simp only [World.size_alloc, World.size_setCell, World.size_drew]; omega) | (simp; omega) | (simp; done))))⟩)
        · have HE : Hid (xs[k] = ys[k]) := Lib.hid (by rw [HM.out, HM'.out]; simpa [Member.eqB] using he)
          rw [he] at hne
          clear he
          go_wp2
          go_quiet (fail)
          go_wp2
          exact ⟨⟨k + 1, by omega, by go_num, take_more HT.out hlt hlt' HE.out, by first | exact hbr | (repeat' (first | (with_reducible exact Below.refl _ _) | (with_reducible assumption) | (with_reducible refine Below.alloc ?_ ?_ _) | (with_reducible refine Below.drew ?_) | (with_reducible refine bdrewN ?_ _) | (with_reducible refine Below.setCell ?_ ?_ _) | (first | (with_reducible exact Nat.le_refl _) | (with_reducible assumption) | omega | (simp only [World.size_alloc, World.size_setCell, World.size_drew]; omega) | (simp; omega) | (simp; done))))⟩, by simp [intOf]; omega⟩
      · have hk' : k = xs.length := by omega
        go_wp2
        go_ret
        subst hk'
        exact ⟨ret_bool (decide_eq_true (list_eq_of_take HL.out HT.out)).symm, hbr⟩
  · have hb : ((xs.length : Int) != (ys.length : Int)) = true := by rw [bne_iff_ne]; omega
    go_enter Try.func75, Try.ntmps75
    go_wp2
    go_ret
    exact ⟨ret_bool (decide_eq_false (fun h => hl (by rw [h]))).symm, Below.refl _ _⟩

set_option maxRecDepth 100000 in
set_option maxHeartbeats 2000000 in
theorem spec_ne (A A' : Option Addr) (c c' : Nat) (xs ys : List Member) (w : World) (hx : SR memberRep w (· < w.heap.size) A xs) (hy : SR memberRep w (· < w.heap.size) A' ys) (hlx : xs.length ≤ maxLen) (hly : ys.length ≤ maxLen) (hl : ¬ xs.length = ys.length) :
    Calls Try.prog 33 #[.agg #[.slice A xs.length c], .agg #[.slice A' ys.length c']] w fun e w' => e = .returned (.bool (decide (xs = ys))) ∧ Below w.heap.size w w' := by
  unfold maxLen at hlx hly
  have hb : ((xs.length : Int) != (ys.length : Int)) = true := by rw [bne_iff_ne]; omega
  go_enter Try.func33, Try.ntmps33
  go_wp2_with fail
  go_ret
  exact ⟨ret_bool (decide_eq_false (fun h => hl (by rw [h]))).symm, by (repeat' (first | (with_reducible exact Below.refl _ _) | (with_reducible assumption) | (with_reducible refine Below.alloc ?_ ?_ _) | (with_reducible refine Below.drew ?_) | (with_reducible refine bdrewN ?_ _) | (with_reducible refine Below.setCell ?_ ?_ _) | (first | (with_reducible exact Nat.le_refl _) | (with_reducible assumption) | omega | (simp only [World.size_alloc, World.size_setCell, World.size_drew]; omega) | (simp; omega) | (simp; done))))⟩

set_option maxRecDepth 100000 in
set_option maxHeartbeats 2000000 in
theorem spec_eq (A A' : Option Addr) (c c' : Nat) (xs ys : List Member) (w : World) (hx : SR memberRep w (· < w.heap.size) A xs) (hy : SR memberRep w (· < w.heap.size) A' ys) (hlx : xs.length ≤ maxLen) (hly : ys.length ≤ maxLen) (hl : xs.length = ys.length) :
    Calls Try.prog 33 #[.agg #[.slice A xs.length c], .agg #[.slice A' ys.length c']] w fun e w' => e = .returned (.bool (decide (xs = ys))) ∧ Below w.heap.size w w' := by
  unfold maxLen at hlx hly
  have hb : ((xs.length : Int) != (ys.length : Int)) = false := by simp [hl]
  have HL := Lib.hid hl
  clear hl
  go_enter Try.func33, Try.ntmps33
  go_wp2_with fail
  obtain ⟨W, hW⟩ : ∃ W : World, ((w.alloc (.cells #[.slice A xs.length c] 55)).alloc (.cells #[.slice A' ys.length c'] 55)) = W := ⟨_, rfl⟩
  have hs : w.heap.size + 2 ≤ W.heap.size := by rw [← hW]; simp
  have hB : Below w.heap.size w W := by rw [← hW]; (repeat' (first | (with_reducible exact Below.refl _ _) | (with_reducible assumption) | (with_reducible refine Below.alloc ?_ ?_ _) | (with_reducible refine Below.drew ?_) | (with_reducible refine bdrewN ?_ _) | (with_reducible refine Below.setCell ?_ ?_ _) | (first | (with_reducible exact Nat.le_refl _) | (with_reducible assumption) | omega | (simp only [World.size_alloc, World.size_setCell, World.size_drew]; omega) | (simp; omega) | (simp; done))))
  have c0_0 : W.cell? ⟨w.heap.size, 0, none⟩ = some (.slice A xs.length c) := by rw [← hW]; simp [go_sem]
  have c1_0 : W.cell? ⟨w.heap.size + 1, 0, none⟩ = some (.slice A' ys.length c') := by rw [← hW]; simp [go_sem]
  rw [hW]
  clear hW
  have hn : w.heap.size ≤ w.heap.size + 2 := by omega
  have hn0 : w.heap.size < w.heap.size + 2 := by omega
  have hn1 : w.heap.size + 1 < w.heap.size + 2 := by omega
  replace hx := hx.to hB
  replace hy := hy.to hB
  have hw0 : w.heap.size < w.heap.size + 2 := by omega
  go_loopw [5] (fun i wr => ∃ k : Nat, k ≤ xs.length ∧ i = .int .i64 k ∧ xs.take k = ys.take k ∧ Below W.heap.size W wr) (fun i _ => xs.length - (intOf i).toNat)
  case atStart => exact ⟨0, Nat.zero_le _, rfl, rfl, Below.refl _ _⟩
  case round =>
    obtain ⟨k, hk, rfl, htake, hbr⟩ := hrel
    have HT := Lib.hid htake
    clear htake
    have hB1 : Below w.heap.size w wr := hB.trans (hbr.mono (by omega))
    replace c0_0 := (hbr.cell (p := ⟨w.heap.size, 0, none⟩) (Nat.lt_of_lt_of_le hn0 hs)).trans c0_0
    replace c1_0 := (hbr.cell (p := ⟨w.heap.size + 1, 0, none⟩) (Nat.lt_of_lt_of_le hn1 hs)).trans c1_0
    by_cases hlt : k < xs.length
    · have hlt' : k < ys.length := by have := HL.out; omega
      obtain ⟨b, off, row, hA, hbb, hr, hc⟩ := (hx.below hbr).at_ hlt
      obtain ⟨b', off', row', hA', hbb', hr', hc'⟩ := (hy.below hbr).at_ hlt'
      subst hA hA'
      have hrow : row = Member.cells xs[k] := hr
      have hrow' : row' = Member.cells ys[k] := hr'
      generalize hm : xs[k] = m at hrow hr
      generalize hm' : ys[k] = m' at hrow' hr'
      obtain ⟨x0, x1⟩ := m
      obtain ⟨y0, y1⟩ := m'
      subst hrow hrow'
      have c0 : wr.cell? ⟨b, off + k * 2, none⟩ = some (.string x0) := hc 0 _ rfl
      have c1 : wr.cell? ⟨b, off + k * 2 + 1, none⟩ = some (.int .i64 x1) := hc 1 _ rfl
      have d0 : wr.cell? ⟨b', off' + k * 2, none⟩ = some (.string y0) := hc' 0 _ rfl
      have d1 : wr.cell? ⟨b', off' + k * 2 + 1, none⟩ = some (.int .i64 y1) := hc' 1 _ rfl
      have hG : Try.prog.eqGuardType Try.prog.depth 103 = false := by kernel_rfl
      have hne := member_neq x0 y0 x1 y1
      have HM := Lib.hid hm
      have HM' := Lib.hid hm'
      have hbs := hbr.size
      have i0 : (0 : Int) ≤ (k : Int) := by omega
      have i1 : (k : Int) < (xs.length : Int) := by omega
      have i2 : (k : Int) < (ys.length : Int) := by omega
      clear hc hc' hr hr' hm hm' hx hy
      cases he : Member.eqB ⟨x0, x1⟩ ⟨y0, y1⟩
      · have HE : Hid (xs[k] ≠ ys[k]) := Lib.hid (by rw [HM.out, HM'.out]; simpa [Member.eqB] using he)
        rw [he] at hne
        clear he
        go_wp2
        go_region_held3 (fun w' => w'.cell? ⟨b, off + k * 2, none⟩ = some (.string x0) ∧ w'.cell? ⟨b, off + k * 2 + 1, none⟩ = some (.int .i64 x1) ∧ w'.cell? ⟨b', off' + k * 2, none⟩ = some (.string y0) ∧ w'.cell? ⟨b', off' + k * 2 + 1, none⟩ = some (.int .i64 y1) ∧ w'.cell? ⟨w.heap.size, 0, none⟩ = some (.slice (some ⟨b, off, none⟩) xs.length c) ∧ w'.cell? ⟨w.heap.size + 1, 0, none⟩ = some (.slice (some ⟨b', off', none⟩) ys.length c')) (exact ⟨c0, c1, d0, d1, c0_0, c1_0⟩) (fail)
        go_wp2
        all_goals (go_ret; exact ⟨ret_bool (decide_eq_false (list_ne_at hlt hlt' HE.out)).symm, by first | exact hB1 | (repeat' (first | (with_reducible exact Below.refl _ _) | (with_reducible assumption) | (with_reducible refine Below.alloc ?_ ?_ _) | (with_reducible refine Below.drew ?_) | (with_reducible refine bdrewN ?_ _) | (with_reducible refine Below.setCell ?_ ?_ _) | (first | (with_reducible exact Nat.le_refl _) | (with_reducible assumption) | omega | (simp only [World.size_alloc, World.size_setCell, World.size_drew]; omega) | (simp; omega) | (simp; done))))⟩)
      · have HE : Hid (xs[k] = ys[k]) := Lib.hid (by rw [HM.out, HM'.out]; simpa [Member.eqB] using he)
        rw [he] at hne
        clear he
        go_wp2
        go_region_held3 (fun w' => w'.cell? ⟨b, off + k * 2, none⟩ = some (.string x0) ∧ w'.cell? ⟨b, off + k * 2 + 1, none⟩ = some (.int .i64 x1) ∧ w'.cell? ⟨b', off' + k * 2, none⟩ = some (.string y0) ∧ w'.cell? ⟨b', off' + k * 2 + 1, none⟩ = some (.int .i64 y1) ∧ w'.cell? ⟨w.heap.size, 0, none⟩ = some (.slice (some ⟨b, off, none⟩) xs.length c) ∧ w'.cell? ⟨w.heap.size + 1, 0, none⟩ = some (.slice (some ⟨b', off', none⟩) ys.length c')) (exact ⟨c0, c1, d0, d1, c0_0, c1_0⟩) (fail)
        go_wp2
        exact ⟨⟨k + 1, by omega, by go_num, take_more HT.out hlt hlt' HE.out, by first | exact hbr | (repeat' (first | (with_reducible exact Below.refl _ _) | (with_reducible assumption) | (with_reducible refine Below.alloc ?_ ?_ _) | (with_reducible refine Below.drew ?_) | (with_reducible refine bdrewN ?_ _) | (with_reducible refine Below.setCell ?_ ?_ _) | (first | (with_reducible exact Nat.le_refl _) | (with_reducible assumption) | omega | (simp only [World.size_alloc, World.size_setCell, World.size_drew]; omega) | (simp; omega) | (simp; done))))⟩, by simp [intOf]; omega⟩
    · have hk' : k = xs.length := by omega
      go_wp2
      go_ret
      subst hk'
      exact ⟨ret_bool (decide_eq_true (list_eq_of_take HL.out HT.out)).symm, hB1⟩

theorem impl_any (A A' : Option Addr) (c c' : Nat) (xs ys : List Member) (w : World) (hx : SR memberRep w (· < w.heap.size) A xs) (hy : SR memberRep w (· < w.heap.size) A' ys) (hlx : xs.length ≤ maxLen) (hly : ys.length ≤ maxLen) :
    Calls Try.prog 35 #[.agg #[.slice A xs.length c], .agg #[.slice A' ys.length c']] w fun e w' => e = .returned (.bool (decide (xs = ys))) ∧ Below w.heap.size w w' := by
  have ct : ∀ b : Bool, decide (xs = ys) = b → Calls Try.prog 35 #[.agg #[.slice A xs.length c], .agg #[.slice A' ys.length c']] w fun e w' => e = .returned (.bool b) ∧ Below w.heap.size w w' := by
    intro b hb
    have ct : ∀ W, SR memberRep W (· < W.heap.size) A xs → SR memberRep W (· < W.heap.size) A' ys → Calls Try.prog 75 _ W _ := fun W h h' => equal_any A A' c c' xs ys W h h' hlx hly
    rw [hb] at ct
    have CT := Lib.hid ct
    clear ct hb
    go_enter Try.func35, Try.ntmps35
    go_wp2_with (first | (go_at_call 75; refine (CT.out _ (hx.to (by (repeat' (first | (with_reducible exact Below.refl _ _) | (with_reducible assumption) | (with_reducible refine Below.alloc ?_ ?_ _) | (with_reducible refine Below.drew ?_) | (with_reducible refine bdrewN ?_ _) | (with_reducible refine Below.setCell ?_ ?_ _) | (first | (with_reducible exact Nat.le_refl _) | (with_reducible assumption) | omega | (simp only [World.size_alloc, World.size_setCell, World.size_drew]; omega) | (simp; omega) | (simp; done)))))) (hy.to (by (repeat' (first | (with_reducible exact Below.refl _ _) | (with_reducible assumption) | (with_reducible refine Below.alloc ?_ ?_ _) | (with_reducible refine Below.drew ?_) | (with_reducible refine bdrewN ?_ _) | (with_reducible refine Below.setCell ?_ ?_ _) | (first | (with_reducible exact Nat.le_refl _) | (with_reducible assumption) | omega | (simp only [World.size_alloc, World.size_setCell, World.size_drew]; omega) | (simp; omega) | (simp; done))))))).mono ?_; rintro e w1 ⟨rfl, hbw1⟩; obtain ⟨hcw1, hfw1⟩ := bcell hbw1; have hBw1 : Below w.heap.size w w1 := Below.trans (by (repeat' (first | (with_reducible exact Below.refl _ _) | (with_reducible assumption) | (with_reducible refine Below.alloc ?_ ?_ _) | (with_reducible refine Below.drew ?_) | (with_reducible refine bdrewN ?_ _) | (with_reducible refine Below.setCell ?_ ?_ _) | (first | (with_reducible exact Nat.le_refl _) | (with_reducible assumption) | omega | (simp only [World.size_alloc, World.size_setCell, World.size_drew]; omega) | (simp; omega) | (simp; done))))) (hbw1.mono (by (first | (with_reducible exact Nat.le_refl _) | (with_reducible assumption) | omega | (simp only [World.size_alloc, World.size_setCell, World.size_drew]; omega) | (simp; omega) | (simp; done)))); have hzw1 := hbw1.size; (try simp at hzw1); (try have hl0w1 : w.heap.size < w1.heap.size := by omega); (try have hl1w1 : w.heap.size + 1 < w1.heap.size := by omega); (try have hl2w1 : w.heap.size + 1 + 1 < w1.heap.size := by omega); (try have hl3w1 : w.heap.size + 1 + 1 + 1 < w1.heap.size := by omega); (try have hl4w1 : w.heap.size + 1 + 1 + 1 + 1 < w1.heap.size := by omega)))
    go_ret
    exact ⟨rfl, by (repeat' (first | (with_reducible exact Below.refl _ _) | (with_reducible assumption) | (with_reducible refine Below.alloc ?_ ?_ _) | (with_reducible refine Below.drew ?_) | (with_reducible refine bdrewN ?_ _) | (with_reducible refine Below.setCell ?_ ?_ _) | (first | (with_reducible exact Nat.le_refl _) | (with_reducible assumption) | omega | (simp only [World.size_alloc, World.size_setCell, World.size_drew]; omega) | (simp; omega) | (simp; done))))⟩
  exact ct _ rfl

theorem spec_any (A A' : Option Addr) (c c' : Nat) (xs ys : List Member) (w : World) (hx : SR memberRep w (· < w.heap.size) A xs) (hy : SR memberRep w (· < w.heap.size) A' ys) (hlx : xs.length ≤ maxLen) (hly : ys.length ≤ maxLen) :
    Calls Try.prog 33 #[.agg #[.slice A xs.length c], .agg #[.slice A' ys.length c']] w fun e w' => e = .returned (.bool (decide (xs = ys))) ∧ Below w.heap.size w w' := by
  by_cases hl : xs.length = ys.length
  · exact spec_eq A A' c c' xs ys w hx hy hlx hly hl
  · exact spec_ne A A' c c' xs ys w hx hy hlx hly hl

theorem eqSelf_any (A A' : Option Addr) (c c' : Nat) (xs : List Member) (w : World) (hx : SR memberRep w (· < w.heap.size) A xs) (hy : SR memberRep w (· < w.heap.size) A' xs) (hlx : xs.length ≤ maxLen) :
    Calls Try.prog 36 #[.agg #[.slice A xs.length c], .agg #[.slice A' xs.length c']] w fun e w' => e = .returned (.bool true) ∧ Below w.heap.size w w' := by
  have h := eqClub_any A A' c c' xs xs w hx hy hlx hlx
  rwa [decide_eq_true rfl] at h

set_option maxRecDepth 100000 in
set_option maxHeartbeats 4000000 in
theorem walk_b (bb : Bool) (A A' : Option Addr) (c c' : Nat) (xs ys : List Member) (hbb : decide (xs = ys) = bb) (w : World) (hx : SR memberRep w (· < w.heap.size) A xs) (hy : SR memberRep w (· < w.heap.size) A' ys) (hlx : xs.length ≤ maxLen) (hly : ys.length ≤ maxLen) (hox : ∀ x ∈ xs, x.ok) (hoy : ∀ x ∈ ys, x.ok) :
    Calls Try.prog 8 #[.agg #[.slice A xs.length c], .agg #[.slice A' ys.length c']] w fun e w' => e = .returned (.bool true) ∧ Below w.heap.size w w' := by
  have cs := fun A A' c c' w hx hy => spec_any A A' c c' xs ys w hx hy hlx hly
  have ci := fun A A' c c' w hx hy => impl_any A A' c c' xs ys w hx hy hlx hly
  simp only [hbb] at cs ci
  have CS := Lib.hid cs
  have CI := Lib.hid ci
  have HOX := Lib.hid hox
  have HOY := Lib.hid hoy
  clear hox hoy cs ci hbb
  have hmx := hlx
  have hmy := hly
  unfold maxLen at hlx hly
  go_enter Try.func8, Try.ntmps8
  go_wp2_with fail
  obtain ⟨W, hW⟩ : ∃ W : World, ((w.alloc (.cells #[.slice A xs.length c] 50)).alloc (.cells #[.slice A' ys.length c'] 50)) = W := ⟨_, rfl⟩
  have hs : w.heap.size + 2 ≤ W.heap.size := by rw [← hW]; simp
  have hB : Below w.heap.size w W := by rw [← hW]; (repeat' (first | (with_reducible exact Below.refl _ _) | (with_reducible assumption) | (with_reducible refine Below.alloc ?_ ?_ _) | (with_reducible refine Below.drew ?_) | (with_reducible refine bdrewN ?_ _) | (with_reducible refine Below.setCell ?_ ?_ _) | (first | (with_reducible exact Nat.le_refl _) | (with_reducible assumption) | omega | (simp only [World.size_alloc, World.size_setCell, World.size_drew]; omega) | (simp; omega) | (simp; done))))
  have c0_0 : W.cell? ⟨w.heap.size, 0, none⟩ = some (.slice A xs.length c) := by rw [← hW]; simp [go_sem]
  have c1_0 : W.cell? ⟨w.heap.size + 1, 0, none⟩ = some (.slice A' ys.length c') := by rw [← hW]; simp [go_sem]
  rw [hW]
  clear hW
  have hn : w.heap.size ≤ w.heap.size + 2 := by omega
  have hn0 : w.heap.size < w.heap.size + 2 := by omega
  have hn1 : w.heap.size + 1 < w.heap.size + 2 := by omega
  replace hx := hx.to hB
  replace hy := hy.to hB
  go_upto_region 5 with (first | (go_at_call 32; refine (szClub_any A c xs _ _ hx HOX.out hmx (by omega) (by omega)).mono ?_; rintro e w1 ⟨⟨q, rfl, hq0, hq1⟩, hbw1⟩; have c0_0 := (hbw1.cell (p := ⟨w.heap.size, 0, none⟩) (Nat.lt_of_lt_of_le hn0 hs)).trans c0_0; have c1_0 := (hbw1.cell (p := ⟨w.heap.size + 1, 0, none⟩) (Nat.lt_of_lt_of_le hn1 hs)).trans c1_0; have hB := below_go hB hbw1 ⟨rfl, rfl, rfl, rfl⟩ (Nat.le_trans hn hs); have hx := SR.to (SR.to hx (by (repeat' (first | (with_reducible exact Below.refl _ _) | (with_reducible assumption) | (with_reducible refine Below.alloc ?_ ?_ _) | (with_reducible refine Below.drew ?_) | (with_reducible refine bdrewN ?_ _) | (with_reducible refine Below.setCell ?_ ?_ _) | (first | (with_reducible exact Nat.le_refl _) | (with_reducible assumption) | omega | (simp only [World.size_alloc, World.size_setCell, World.size_drew]; omega) | (simp; omega) | (simp; done)))))) hbw1; have hy := SR.to (SR.to hy (by (repeat' (first | (with_reducible exact Below.refl _ _) | (with_reducible assumption) | (with_reducible refine Below.alloc ?_ ?_ _) | (with_reducible refine Below.drew ?_) | (with_reducible refine bdrewN ?_ _) | (with_reducible refine Below.setCell ?_ ?_ _) | (first | (with_reducible exact Nat.le_refl _) | (with_reducible assumption) | omega | (simp only [World.size_alloc, World.size_setCell, World.size_drew]; omega) | (simp; omega) | (simp; done)))))) hbw1; have hs := Nat.le_trans hs hbw1.size))
  · go_ret
    exact ⟨rfl, hB⟩
  have hqq : 0 ≤ q := by assumption
  have hq2 := hq1 hqq
  have hnx : xs.length ≤ 1048576 := by omega
  have hqm : q ≤ 1048576 := by omega
  clear hq0 hq1
  go_upto_region 8 with (first | (go_at_call 32; refine (szClub_any A' c' ys _ _ hy HOY.out hmy hqq hqm).mono ?_; rintro e w2 ⟨⟨q', rfl, hr0, hr1⟩, hbw2⟩; have c0_0 := (hbw2.cell (p := ⟨w.heap.size, 0, none⟩) (Nat.lt_of_lt_of_le hn0 hs)).trans c0_0; have c1_0 := (hbw2.cell (p := ⟨w.heap.size + 1, 0, none⟩) (Nat.lt_of_lt_of_le hn1 hs)).trans c1_0; have hB := below_go hB hbw2 ⟨rfl, rfl, rfl, rfl⟩ (Nat.le_trans hn hs); have hx := SR.to (SR.to hx (by (repeat' (first | (with_reducible exact Below.refl _ _) | (with_reducible assumption) | (with_reducible refine Below.alloc ?_ ?_ _) | (with_reducible refine Below.drew ?_) | (with_reducible refine bdrewN ?_ _) | (with_reducible refine Below.setCell ?_ ?_ _) | (first | (with_reducible exact Nat.le_refl _) | (with_reducible assumption) | omega | (simp only [World.size_alloc, World.size_setCell, World.size_drew]; omega) | (simp; omega) | (simp; done)))))) hbw2; have hy := SR.to (SR.to hy (by (repeat' (first | (with_reducible exact Below.refl _ _) | (with_reducible assumption) | (with_reducible refine Below.alloc ?_ ?_ _) | (with_reducible refine Below.drew ?_) | (with_reducible refine bdrewN ?_ _) | (with_reducible refine Below.setCell ?_ ?_ _) | (first | (with_reducible exact Nat.le_refl _) | (with_reducible assumption) | omega | (simp only [World.size_alloc, World.size_setCell, World.size_drew]; omega) | (simp; omega) | (simp; done)))))) hbw2; have hs := Nat.le_trans hs hbw2.size))
  · go_ret
    exact ⟨rfl, hB⟩
  have hrr : 0 ≤ q' := by assumption
  have hr2 := hr1 hrr
  have hny : ys.length ≤ 1048576 := by omega
  clear hr0 hr1
  have t1 := trivial
  have t2 := trivial
  go_region_held3 (fun w' => w'.cell? ⟨w.heap.size, 0, none⟩ = some (.slice A xs.length c) ∧ w'.cell? ⟨w.heap.size + 1, 0, none⟩ = some (.slice A' ys.length c')) (exact ⟨c0_0, c1_0⟩) (first | (go_at_call 34; clear t1; refine (toClub_any A c xs _ (hx.to (by (repeat' (first | (with_reducible exact Below.refl _ _) | (with_reducible assumption) | (with_reducible refine Below.alloc ?_ ?_ _) | (with_reducible refine Below.drew ?_) | (with_reducible refine bdrewN ?_ _) | (with_reducible refine Below.setCell ?_ ?_ _) | (first | (with_reducible exact Nat.le_refl _) | (with_reducible assumption) | omega | (simp only [World.size_alloc, World.size_setCell, World.size_drew]; omega) | (simp; omega) | (simp; done)))))) hnx).mono ?_; rintro e w3 ⟨⟨g3, rfl, h3⟩, hbw3⟩; have c0_0 := (hbw3.cell (p := ⟨w.heap.size, 0, none⟩) (Nat.lt_of_lt_of_le hn0 hs)).trans c0_0; have c1_0 := (hbw3.cell (p := ⟨w.heap.size + 1, 0, none⟩) (Nat.lt_of_lt_of_le hn1 hs)).trans c1_0; have hB := below_go hB hbw3 ⟨rfl, rfl, rfl, rfl⟩ (Nat.le_trans hn hs); have hx := SR.to (SR.to hx (by (repeat' (first | (with_reducible exact Below.refl _ _) | (with_reducible assumption) | (with_reducible refine Below.alloc ?_ ?_ _) | (with_reducible refine Below.drew ?_) | (with_reducible refine bdrewN ?_ _) | (with_reducible refine Below.setCell ?_ ?_ _) | (first | (with_reducible exact Nat.le_refl _) | (with_reducible assumption) | omega | (simp only [World.size_alloc, World.size_setCell, World.size_drew]; omega) | (simp; omega) | (simp; done)))))) hbw3; have hy := SR.to (SR.to hy (by (repeat' (first | (with_reducible exact Below.refl _ _) | (with_reducible assumption) | (with_reducible refine Below.alloc ?_ ?_ _) | (with_reducible refine Below.drew ?_) | (with_reducible refine bdrewN ?_ _) | (with_reducible refine Below.setCell ?_ ?_ _) | (first | (with_reducible exact Nat.le_refl _) | (with_reducible assumption) | omega | (simp only [World.size_alloc, World.size_setCell, World.size_drew]; omega) | (simp; omega) | (simp; done)))))) hbw3; have hs := Nat.le_trans hs hbw3.size) | (go_at_call 34; clear t2; refine (toClub_any A' c' ys _ (hy.to (by (repeat' (first | (with_reducible exact Below.refl _ _) | (with_reducible assumption) | (with_reducible refine Below.alloc ?_ ?_ _) | (with_reducible refine Below.drew ?_) | (with_reducible refine bdrewN ?_ _) | (with_reducible refine Below.setCell ?_ ?_ _) | (first | (with_reducible exact Nat.le_refl _) | (with_reducible assumption) | omega | (simp only [World.size_alloc, World.size_setCell, World.size_drew]; omega) | (simp; omega) | (simp; done)))))) hny).mono ?_; rintro e w4 ⟨⟨g4, rfl, h4⟩, hbw4⟩; have c0_0 := (hbw4.cell (p := ⟨w.heap.size, 0, none⟩) (Nat.lt_of_lt_of_le hn0 hs)).trans c0_0; have c1_0 := (hbw4.cell (p := ⟨w.heap.size + 1, 0, none⟩) (Nat.lt_of_lt_of_le hn1 hs)).trans c1_0; have hB := below_go hB hbw4 ⟨rfl, rfl, rfl, rfl⟩ (Nat.le_trans hn hs); have hx := SR.to (SR.to hx (by (repeat' (first | (with_reducible exact Below.refl _ _) | (with_reducible assumption) | (with_reducible refine Below.alloc ?_ ?_ _) | (with_reducible refine Below.drew ?_) | (with_reducible refine bdrewN ?_ _) | (with_reducible refine Below.setCell ?_ ?_ _) | (first | (with_reducible exact Nat.le_refl _) | (with_reducible assumption) | omega | (simp only [World.size_alloc, World.size_setCell, World.size_drew]; omega) | (simp; omega) | (simp; done)))))) hbw4; have hy := SR.to (SR.to hy (by (repeat' (first | (with_reducible exact Below.refl _ _) | (with_reducible assumption) | (with_reducible refine Below.alloc ?_ ?_ _) | (with_reducible refine Below.drew ?_) | (with_reducible refine bdrewN ?_ _) | (with_reducible refine Below.setCell ?_ ?_ _) | (first | (with_reducible exact Nat.le_refl _) | (with_reducible assumption) | omega | (simp only [World.size_alloc, World.size_setCell, World.size_drew]; omega) | (simp; omega) | (simp; done)))))) hbw4; have h3 := SR.to (SR.to h3 (by (repeat' (first | (with_reducible exact Below.refl _ _) | (with_reducible assumption) | (with_reducible refine Below.alloc ?_ ?_ _) | (with_reducible refine Below.drew ?_) | (with_reducible refine bdrewN ?_ _) | (with_reducible refine Below.setCell ?_ ?_ _) | (first | (with_reducible exact Nat.le_refl _) | (with_reducible assumption) | omega | (simp only [World.size_alloc, World.size_setCell, World.size_drew]; omega) | (simp; omega) | (simp; done)))))) hbw4; have hs := Nat.le_trans hs hbw4.size) | (go_at_call 33; refine (CS.out _ _ _ _ _ (h3.to (by (repeat' (first | (with_reducible exact Below.refl _ _) | (with_reducible assumption) | (with_reducible refine Below.alloc ?_ ?_ _) | (with_reducible refine Below.drew ?_) | (with_reducible refine bdrewN ?_ _) | (with_reducible refine Below.setCell ?_ ?_ _) | (first | (with_reducible exact Nat.le_refl _) | (with_reducible assumption) | omega | (simp only [World.size_alloc, World.size_setCell, World.size_drew]; omega) | (simp; omega) | (simp; done)))))) (h4.to (by (repeat' (first | (with_reducible exact Below.refl _ _) | (with_reducible assumption) | (with_reducible refine Below.alloc ?_ ?_ _) | (with_reducible refine Below.drew ?_) | (with_reducible refine bdrewN ?_ _) | (with_reducible refine Below.setCell ?_ ?_ _) | (first | (with_reducible exact Nat.le_refl _) | (with_reducible assumption) | omega | (simp only [World.size_alloc, World.size_setCell, World.size_drew]; omega) | (simp; omega) | (simp; done))))))).mono ?_; rintro e w5 ⟨rfl, hbw5⟩; have c0_0 := (hbw5.cell (p := ⟨w.heap.size, 0, none⟩) (Nat.lt_of_lt_of_le hn0 hs)).trans c0_0; have c1_0 := (hbw5.cell (p := ⟨w.heap.size + 1, 0, none⟩) (Nat.lt_of_lt_of_le hn1 hs)).trans c1_0; have hB := below_go hB hbw5 ⟨rfl, rfl, rfl, rfl⟩ (Nat.le_trans hn hs); have hx := SR.to (SR.to hx (by (repeat' (first | (with_reducible exact Below.refl _ _) | (with_reducible assumption) | (with_reducible refine Below.alloc ?_ ?_ _) | (with_reducible refine Below.drew ?_) | (with_reducible refine bdrewN ?_ _) | (with_reducible refine Below.setCell ?_ ?_ _) | (first | (with_reducible exact Nat.le_refl _) | (with_reducible assumption) | omega | (simp only [World.size_alloc, World.size_setCell, World.size_drew]; omega) | (simp; omega) | (simp; done)))))) hbw5; have hy := SR.to (SR.to hy (by (repeat' (first | (with_reducible exact Below.refl _ _) | (with_reducible assumption) | (with_reducible refine Below.alloc ?_ ?_ _) | (with_reducible refine Below.drew ?_) | (with_reducible refine bdrewN ?_ _) | (with_reducible refine Below.setCell ?_ ?_ _) | (first | (with_reducible exact Nat.le_refl _) | (with_reducible assumption) | omega | (simp only [World.size_alloc, World.size_setCell, World.size_drew]; omega) | (simp; omega) | (simp; done)))))) hbw5; have hs := Nat.le_trans hs hbw5.size))
  go_upto_region 10 with (first | (go_at_call 34; refine (toClub_any A c xs _ (hx.to (by (repeat' (first | (with_reducible exact Below.refl _ _) | (with_reducible assumption) | (with_reducible refine Below.alloc ?_ ?_ _) | (with_reducible refine Below.drew ?_) | (with_reducible refine bdrewN ?_ _) | (with_reducible refine Below.setCell ?_ ?_ _) | (first | (with_reducible exact Nat.le_refl _) | (with_reducible assumption) | omega | (simp only [World.size_alloc, World.size_setCell, World.size_drew]; omega) | (simp; omega) | (simp; done)))))) hnx).mono ?_; rintro e w6 ⟨⟨g1, rfl, h1⟩, hbw6⟩; have c0_0 := (hbw6.cell (p := ⟨w.heap.size, 0, none⟩) (Nat.lt_of_lt_of_le hn0 hs)).trans c0_0; have c1_0 := (hbw6.cell (p := ⟨w.heap.size + 1, 0, none⟩) (Nat.lt_of_lt_of_le hn1 hs)).trans c1_0; have hB := below_go hB hbw6 ⟨rfl, rfl, rfl, rfl⟩ (Nat.le_trans hn hs); have hx := SR.to (SR.to hx (by (repeat' (first | (with_reducible exact Below.refl _ _) | (with_reducible assumption) | (with_reducible refine Below.alloc ?_ ?_ _) | (with_reducible refine Below.drew ?_) | (with_reducible refine bdrewN ?_ _) | (with_reducible refine Below.setCell ?_ ?_ _) | (first | (with_reducible exact Nat.le_refl _) | (with_reducible assumption) | omega | (simp only [World.size_alloc, World.size_setCell, World.size_drew]; omega) | (simp; omega) | (simp; done)))))) hbw6; have hy := SR.to (SR.to hy (by (repeat' (first | (with_reducible exact Below.refl _ _) | (with_reducible assumption) | (with_reducible refine Below.alloc ?_ ?_ _) | (with_reducible refine Below.drew ?_) | (with_reducible refine bdrewN ?_ _) | (with_reducible refine Below.setCell ?_ ?_ _) | (first | (with_reducible exact Nat.le_refl _) | (with_reducible assumption) | omega | (simp only [World.size_alloc, World.size_setCell, World.size_drew]; omega) | (simp; omega) | (simp; done)))))) hbw6; have hs := Nat.le_trans hs hbw6.size))
  obtain ⟨W, hW⟩ : ∃ W : World, w6.alloc (.cells #[.slice (some ⟨g1, 0, none⟩) xs.length xs.length] 55) = W := ⟨_, rfl⟩
  rw [hW]
  have c0_0 := (World.cell?_alloc_lt w6 (.cells #[.slice (some ⟨g1, 0, none⟩) xs.length xs.length] 55) ⟨w.heap.size, 0, none⟩ (Nat.lt_of_lt_of_le hn0 hs)).trans c0_0
  have c1_0 := (World.cell?_alloc_lt w6 (.cells #[.slice (some ⟨g1, 0, none⟩) xs.length xs.length] 55) ⟨w.heap.size + 1, 0, none⟩ (Nat.lt_of_lt_of_le hn1 hs)).trans c1_0
  obtain ⟨b1, eb1⟩ : ∃ b : Nat, w6.heap.size = b := ⟨_, rfl⟩
  have c2_0 : (w6.alloc (.cells #[.slice (some ⟨g1, 0, none⟩) xs.length xs.length] 55)).cell? ⟨b1, 0, none⟩ = some (.slice (some ⟨g1, 0, none⟩) xs.length xs.length) := by rw [← eb1]; simp [go_sem]
  have hb1 : b1 < (w6.alloc (.cells #[.slice (some ⟨g1, 0, none⟩) xs.length xs.length] 55)).heap.size := by rw [← eb1]; simp
  have hB := hB.alloc (Nat.le_trans hn hs) (.cells #[.slice (some ⟨g1, 0, none⟩) xs.length xs.length] 55)
  have hs : w.heap.size + 2 ≤ (w6.alloc (.cells #[.slice (some ⟨g1, 0, none⟩) xs.length xs.length] 55)).heap.size := Nat.le_trans hs (by simp)
  have hx := hx.to ((Below.refl _ _).alloc (Nat.le_refl _) (.cells #[.slice (some ⟨g1, 0, none⟩) xs.length xs.length] 55))
  have hy := hy.to ((Below.refl _ _).alloc (Nat.le_refl _) (.cells #[.slice (some ⟨g1, 0, none⟩) xs.length xs.length] 55))
  have h1 := h1.to ((Below.refl _ _).alloc (Nat.le_refl _) (.cells #[.slice (some ⟨g1, 0, none⟩) xs.length xs.length] 55))
  rw [hW] at hx hy h1 c0_0 c1_0 c2_0 hB hs hb1
  simp only [eb1]
  clear hW eb1
  go_upto_region 11 with (first | (go_at_call 34; refine (toClub_any A' c' ys _ (hy.to (by (repeat' (first | (with_reducible exact Below.refl _ _) | (with_reducible assumption) | (with_reducible refine Below.alloc ?_ ?_ _) | (with_reducible refine Below.drew ?_) | (with_reducible refine bdrewN ?_ _) | (with_reducible refine Below.setCell ?_ ?_ _) | (first | (with_reducible exact Nat.le_refl _) | (with_reducible assumption) | omega | (simp only [World.size_alloc, World.size_setCell, World.size_drew]; omega) | (simp; omega) | (simp; done)))))) hny).mono ?_; rintro e w7 ⟨⟨g2, rfl, h2⟩, hbw7⟩; have c0_0 := (hbw7.cell (p := ⟨w.heap.size, 0, none⟩) (Nat.lt_of_lt_of_le hn0 hs)).trans c0_0; have c1_0 := (hbw7.cell (p := ⟨w.heap.size + 1, 0, none⟩) (Nat.lt_of_lt_of_le hn1 hs)).trans c1_0; have c2_0 := (hbw7.cell (p := ⟨b1, 0, none⟩) hb1).trans c2_0; have hB := below_go hB hbw7 ⟨rfl, rfl, rfl, rfl⟩ (Nat.le_trans hn hs); have hx := SR.to (SR.to hx (by (repeat' (first | (with_reducible exact Below.refl _ _) | (with_reducible assumption) | (with_reducible refine Below.alloc ?_ ?_ _) | (with_reducible refine Below.drew ?_) | (with_reducible refine bdrewN ?_ _) | (with_reducible refine Below.setCell ?_ ?_ _) | (first | (with_reducible exact Nat.le_refl _) | (with_reducible assumption) | omega | (simp only [World.size_alloc, World.size_setCell, World.size_drew]; omega) | (simp; omega) | (simp; done)))))) hbw7; have hy := SR.to (SR.to hy (by (repeat' (first | (with_reducible exact Below.refl _ _) | (with_reducible assumption) | (with_reducible refine Below.alloc ?_ ?_ _) | (with_reducible refine Below.drew ?_) | (with_reducible refine bdrewN ?_ _) | (with_reducible refine Below.setCell ?_ ?_ _) | (first | (with_reducible exact Nat.le_refl _) | (with_reducible assumption) | omega | (simp only [World.size_alloc, World.size_setCell, World.size_drew]; omega) | (simp; omega) | (simp; done)))))) hbw7; have h1 := SR.to (SR.to h1 (by (repeat' (first | (with_reducible exact Below.refl _ _) | (with_reducible assumption) | (with_reducible refine Below.alloc ?_ ?_ _) | (with_reducible refine Below.drew ?_) | (with_reducible refine bdrewN ?_ _) | (with_reducible refine Below.setCell ?_ ?_ _) | (first | (with_reducible exact Nat.le_refl _) | (with_reducible assumption) | omega | (simp only [World.size_alloc, World.size_setCell, World.size_drew]; omega) | (simp; omega) | (simp; done)))))) hbw7; have hb1 := Nat.lt_of_lt_of_le hb1 hbw7.size; have hs := Nat.le_trans hs hbw7.size))
  obtain ⟨W, hW⟩ : ∃ W : World, w7.alloc (.cells #[.slice (some ⟨g2, 0, none⟩) ys.length ys.length] 55) = W := ⟨_, rfl⟩
  rw [hW]
  have c0_0 := (World.cell?_alloc_lt w7 (.cells #[.slice (some ⟨g2, 0, none⟩) ys.length ys.length] 55) ⟨w.heap.size, 0, none⟩ (Nat.lt_of_lt_of_le hn0 hs)).trans c0_0
  have c1_0 := (World.cell?_alloc_lt w7 (.cells #[.slice (some ⟨g2, 0, none⟩) ys.length ys.length] 55) ⟨w.heap.size + 1, 0, none⟩ (Nat.lt_of_lt_of_le hn1 hs)).trans c1_0
  have c2_0 := (World.cell?_alloc_lt w7 (.cells #[.slice (some ⟨g2, 0, none⟩) ys.length ys.length] 55) ⟨b1, 0, none⟩ hb1).trans c2_0
  obtain ⟨b2, eb2⟩ : ∃ b : Nat, w7.heap.size = b := ⟨_, rfl⟩
  have c3_0 : (w7.alloc (.cells #[.slice (some ⟨g2, 0, none⟩) ys.length ys.length] 55)).cell? ⟨b2, 0, none⟩ = some (.slice (some ⟨g2, 0, none⟩) ys.length ys.length) := by rw [← eb2]; simp [go_sem]
  have hb2 : b2 < (w7.alloc (.cells #[.slice (some ⟨g2, 0, none⟩) ys.length ys.length] 55)).heap.size := by rw [← eb2]; simp
  have hb1 : b1 < (w7.alloc (.cells #[.slice (some ⟨g2, 0, none⟩) ys.length ys.length] 55)).heap.size := Nat.lt_of_lt_of_le hb1 (by simp)
  have hB := hB.alloc (Nat.le_trans hn hs) (.cells #[.slice (some ⟨g2, 0, none⟩) ys.length ys.length] 55)
  have hs : w.heap.size + 2 ≤ (w7.alloc (.cells #[.slice (some ⟨g2, 0, none⟩) ys.length ys.length] 55)).heap.size := Nat.le_trans hs (by simp)
  have hx := hx.to ((Below.refl _ _).alloc (Nat.le_refl _) (.cells #[.slice (some ⟨g2, 0, none⟩) ys.length ys.length] 55))
  have hy := hy.to ((Below.refl _ _).alloc (Nat.le_refl _) (.cells #[.slice (some ⟨g2, 0, none⟩) ys.length ys.length] 55))
  have h1 := h1.to ((Below.refl _ _).alloc (Nat.le_refl _) (.cells #[.slice (some ⟨g2, 0, none⟩) ys.length ys.length] 55))
  have h2 := h2.to ((Below.refl _ _).alloc (Nat.le_refl _) (.cells #[.slice (some ⟨g2, 0, none⟩) ys.length ys.length] 55))
  rw [hW] at hx hy h1 h2 c0_0 c1_0 c2_0 c3_0 hB hs hb2 hb1
  simp only [eb2]
  clear hW eb2
  have t3 := trivial
  have t4 := trivial
  go_wp2_with (first | (go_at_call 35; refine (CI.out _ _ _ _ _ (h1.to (by (repeat' (first | (with_reducible exact Below.refl _ _) | (with_reducible assumption) | (with_reducible refine Below.alloc ?_ ?_ _) | (with_reducible refine Below.drew ?_) | (with_reducible refine bdrewN ?_ _) | (with_reducible refine Below.setCell ?_ ?_ _) | (first | (with_reducible exact Nat.le_refl _) | (with_reducible assumption) | omega | (simp only [World.size_alloc, World.size_setCell, World.size_drew]; omega) | (simp; omega) | (simp; done)))))) (h2.to (by (repeat' (first | (with_reducible exact Below.refl _ _) | (with_reducible assumption) | (with_reducible refine Below.alloc ?_ ?_ _) | (with_reducible refine Below.drew ?_) | (with_reducible refine bdrewN ?_ _) | (with_reducible refine Below.setCell ?_ ?_ _) | (first | (with_reducible exact Nat.le_refl _) | (with_reducible assumption) | omega | (simp only [World.size_alloc, World.size_setCell, World.size_drew]; omega) | (simp; omega) | (simp; done))))))).mono ?_; rintro e w8 ⟨rfl, hbw8⟩; have c0_0 := (hbw8.cell (p := ⟨w.heap.size, 0, none⟩) (Nat.lt_of_lt_of_le hn0 hs)).trans c0_0; have c1_0 := (hbw8.cell (p := ⟨w.heap.size + 1, 0, none⟩) (Nat.lt_of_lt_of_le hn1 hs)).trans c1_0; have c2_0 := (hbw8.cell (p := ⟨b1, 0, none⟩) hb1).trans c2_0; have c3_0 := (hbw8.cell (p := ⟨b2, 0, none⟩) hb2).trans c3_0; have hB := below_go hB hbw8 ⟨rfl, rfl, rfl, rfl⟩ (Nat.le_trans hn hs); have hx := SR.to (SR.to hx (by (repeat' (first | (with_reducible exact Below.refl _ _) | (with_reducible assumption) | (with_reducible refine Below.alloc ?_ ?_ _) | (with_reducible refine Below.drew ?_) | (with_reducible refine bdrewN ?_ _) | (with_reducible refine Below.setCell ?_ ?_ _) | (first | (with_reducible exact Nat.le_refl _) | (with_reducible assumption) | omega | (simp only [World.size_alloc, World.size_setCell, World.size_drew]; omega) | (simp; omega) | (simp; done)))))) hbw8; have hy := SR.to (SR.to hy (by (repeat' (first | (with_reducible exact Below.refl _ _) | (with_reducible assumption) | (with_reducible refine Below.alloc ?_ ?_ _) | (with_reducible refine Below.drew ?_) | (with_reducible refine bdrewN ?_ _) | (with_reducible refine Below.setCell ?_ ?_ _) | (first | (with_reducible exact Nat.le_refl _) | (with_reducible assumption) | omega | (simp only [World.size_alloc, World.size_setCell, World.size_drew]; omega) | (simp; omega) | (simp; done)))))) hbw8; have h1 := SR.to (SR.to h1 (by (repeat' (first | (with_reducible exact Below.refl _ _) | (with_reducible assumption) | (with_reducible refine Below.alloc ?_ ?_ _) | (with_reducible refine Below.drew ?_) | (with_reducible refine bdrewN ?_ _) | (with_reducible refine Below.setCell ?_ ?_ _) | (first | (with_reducible exact Nat.le_refl _) | (with_reducible assumption) | omega | (simp only [World.size_alloc, World.size_setCell, World.size_drew]; omega) | (simp; omega) | (simp; done)))))) hbw8; have h2 := SR.to (SR.to h2 (by (repeat' (first | (with_reducible exact Below.refl _ _) | (with_reducible assumption) | (with_reducible refine Below.alloc ?_ ?_ _) | (with_reducible refine Below.drew ?_) | (with_reducible refine bdrewN ?_ _) | (with_reducible refine Below.setCell ?_ ?_ _) | (first | (with_reducible exact Nat.le_refl _) | (with_reducible assumption) | omega | (simp only [World.size_alloc, World.size_setCell, World.size_drew]; omega) | (simp; omega) | (simp; done)))))) hbw8; have hb1 := Nat.lt_of_lt_of_le hb1 hbw8.size; have hb2 := Nat.lt_of_lt_of_le hb2 hbw8.size; have hs := Nat.le_trans hs hbw8.size))
  go_region_held3 (fun w' => w'.cell? ⟨w.heap.size, 0, none⟩ = some (.slice A xs.length c) ∧ w'.cell? ⟨w.heap.size + 1, 0, none⟩ = some (.slice A' ys.length c') ∧ w'.cell? ⟨b1, 0, none⟩ = some (.slice (some ⟨g1, 0, none⟩) xs.length xs.length) ∧ w'.cell? ⟨b2, 0, none⟩ = some (.slice (some ⟨g2, 0, none⟩) ys.length ys.length)) (exact ⟨c0_0, c1_0, c2_0, c3_0⟩) (first | (go_at_call 34; clear t3; refine (toClub_any A c xs _ (hx.to (by (repeat' (first | (with_reducible exact Below.refl _ _) | (with_reducible assumption) | (with_reducible refine Below.alloc ?_ ?_ _) | (with_reducible refine Below.drew ?_) | (with_reducible refine bdrewN ?_ _) | (with_reducible refine Below.setCell ?_ ?_ _) | (first | (with_reducible exact Nat.le_refl _) | (with_reducible assumption) | omega | (simp only [World.size_alloc, World.size_setCell, World.size_drew]; omega) | (simp; omega) | (simp; done)))))) hnx).mono ?_; rintro e w9 ⟨⟨g5, rfl, h5⟩, hbw9⟩; have c0_0 := (hbw9.cell (p := ⟨w.heap.size, 0, none⟩) (Nat.lt_of_lt_of_le hn0 hs)).trans c0_0; have c1_0 := (hbw9.cell (p := ⟨w.heap.size + 1, 0, none⟩) (Nat.lt_of_lt_of_le hn1 hs)).trans c1_0; have c2_0 := (hbw9.cell (p := ⟨b1, 0, none⟩) hb1).trans c2_0; have c3_0 := (hbw9.cell (p := ⟨b2, 0, none⟩) hb2).trans c3_0; have hB := below_go hB hbw9 ⟨rfl, rfl, rfl, rfl⟩ (Nat.le_trans hn hs); have hx := SR.to (SR.to hx (by (repeat' (first | (with_reducible exact Below.refl _ _) | (with_reducible assumption) | (with_reducible refine Below.alloc ?_ ?_ _) | (with_reducible refine Below.drew ?_) | (with_reducible refine bdrewN ?_ _) | (with_reducible refine Below.setCell ?_ ?_ _) | (first | (with_reducible exact Nat.le_refl _) | (with_reducible assumption) | omega | (simp only [World.size_alloc, World.size_setCell, World.size_drew]; omega) | (simp; omega) | (simp; done)))))) hbw9; have hy := SR.to (SR.to hy (by (repeat' (first | (with_reducible exact Below.refl _ _) | (with_reducible assumption) | (with_reducible refine Below.alloc ?_ ?_ _) | (with_reducible refine Below.drew ?_) | (with_reducible refine bdrewN ?_ _) | (with_reducible refine Below.setCell ?_ ?_ _) | (first | (with_reducible exact Nat.le_refl _) | (with_reducible assumption) | omega | (simp only [World.size_alloc, World.size_setCell, World.size_drew]; omega) | (simp; omega) | (simp; done)))))) hbw9; have h1 := SR.to (SR.to h1 (by (repeat' (first | (with_reducible exact Below.refl _ _) | (with_reducible assumption) | (with_reducible refine Below.alloc ?_ ?_ _) | (with_reducible refine Below.drew ?_) | (with_reducible refine bdrewN ?_ _) | (with_reducible refine Below.setCell ?_ ?_ _) | (first | (with_reducible exact Nat.le_refl _) | (with_reducible assumption) | omega | (simp only [World.size_alloc, World.size_setCell, World.size_drew]; omega) | (simp; omega) | (simp; done)))))) hbw9; have h2 := SR.to (SR.to h2 (by (repeat' (first | (with_reducible exact Below.refl _ _) | (with_reducible assumption) | (with_reducible refine Below.alloc ?_ ?_ _) | (with_reducible refine Below.drew ?_) | (with_reducible refine bdrewN ?_ _) | (with_reducible refine Below.setCell ?_ ?_ _) | (first | (with_reducible exact Nat.le_refl _) | (with_reducible assumption) | omega | (simp only [World.size_alloc, World.size_setCell, World.size_drew]; omega) | (simp; omega) | (simp; done)))))) hbw9; have hb1 := Nat.lt_of_lt_of_le hb1 hbw9.size; have hb2 := Nat.lt_of_lt_of_le hb2 hbw9.size; have hs := Nat.le_trans hs hbw9.size) | (go_at_call 36; refine (eqSelf_any _ _ _ _ xs _ (h1.to (by (repeat' (first | (with_reducible exact Below.refl _ _) | (with_reducible assumption) | (with_reducible refine Below.alloc ?_ ?_ _) | (with_reducible refine Below.drew ?_) | (with_reducible refine bdrewN ?_ _) | (with_reducible refine Below.setCell ?_ ?_ _) | (first | (with_reducible exact Nat.le_refl _) | (with_reducible assumption) | omega | (simp only [World.size_alloc, World.size_setCell, World.size_drew]; omega) | (simp; omega) | (simp; done)))))) (h5.to (by (repeat' (first | (with_reducible exact Below.refl _ _) | (with_reducible assumption) | (with_reducible refine Below.alloc ?_ ?_ _) | (with_reducible refine Below.drew ?_) | (with_reducible refine bdrewN ?_ _) | (with_reducible refine Below.setCell ?_ ?_ _) | (first | (with_reducible exact Nat.le_refl _) | (with_reducible assumption) | omega | (simp only [World.size_alloc, World.size_setCell, World.size_drew]; omega) | (simp; omega) | (simp; done)))))) hmx).mono ?_; rintro e w10 ⟨rfl, hbw10⟩; have c0_0 := (hbw10.cell (p := ⟨w.heap.size, 0, none⟩) (Nat.lt_of_lt_of_le hn0 hs)).trans c0_0; have c1_0 := (hbw10.cell (p := ⟨w.heap.size + 1, 0, none⟩) (Nat.lt_of_lt_of_le hn1 hs)).trans c1_0; have c2_0 := (hbw10.cell (p := ⟨b1, 0, none⟩) hb1).trans c2_0; have c3_0 := (hbw10.cell (p := ⟨b2, 0, none⟩) hb2).trans c3_0; have hB := below_go hB hbw10 ⟨rfl, rfl, rfl, rfl⟩ (Nat.le_trans hn hs); have hx := SR.to (SR.to hx (by (repeat' (first | (with_reducible exact Below.refl _ _) | (with_reducible assumption) | (with_reducible refine Below.alloc ?_ ?_ _) | (with_reducible refine Below.drew ?_) | (with_reducible refine bdrewN ?_ _) | (with_reducible refine Below.setCell ?_ ?_ _) | (first | (with_reducible exact Nat.le_refl _) | (with_reducible assumption) | omega | (simp only [World.size_alloc, World.size_setCell, World.size_drew]; omega) | (simp; omega) | (simp; done)))))) hbw10; have hy := SR.to (SR.to hy (by (repeat' (first | (with_reducible exact Below.refl _ _) | (with_reducible assumption) | (with_reducible refine Below.alloc ?_ ?_ _) | (with_reducible refine Below.drew ?_) | (with_reducible refine bdrewN ?_ _) | (with_reducible refine Below.setCell ?_ ?_ _) | (first | (with_reducible exact Nat.le_refl _) | (with_reducible assumption) | omega | (simp only [World.size_alloc, World.size_setCell, World.size_drew]; omega) | (simp; omega) | (simp; done)))))) hbw10; have h1 := SR.to (SR.to h1 (by (repeat' (first | (with_reducible exact Below.refl _ _) | (with_reducible assumption) | (with_reducible refine Below.alloc ?_ ?_ _) | (with_reducible refine Below.drew ?_) | (with_reducible refine bdrewN ?_ _) | (with_reducible refine Below.setCell ?_ ?_ _) | (first | (with_reducible exact Nat.le_refl _) | (with_reducible assumption) | omega | (simp only [World.size_alloc, World.size_setCell, World.size_drew]; omega) | (simp; omega) | (simp; done)))))) hbw10; have h2 := SR.to (SR.to h2 (by (repeat' (first | (with_reducible exact Below.refl _ _) | (with_reducible assumption) | (with_reducible refine Below.alloc ?_ ?_ _) | (with_reducible refine Below.drew ?_) | (with_reducible refine bdrewN ?_ _) | (with_reducible refine Below.setCell ?_ ?_ _) | (first | (with_reducible exact Nat.le_refl _) | (with_reducible assumption) | omega | (simp only [World.size_alloc, World.size_setCell, World.size_drew]; omega) | (simp; omega) | (simp; done)))))) hbw10; have hb1 := Nat.lt_of_lt_of_le hb1 hbw10.size; have hb2 := Nat.lt_of_lt_of_le hb2 hbw10.size; have hs := Nat.le_trans hs hbw10.size))
  go_wp2
  go_region_held3 (fun w' => w'.cell? ⟨w.heap.size, 0, none⟩ = some (.slice A xs.length c) ∧ w'.cell? ⟨w.heap.size + 1, 0, none⟩ = some (.slice A' ys.length c') ∧ w'.cell? ⟨b1, 0, none⟩ = some (.slice (some ⟨g1, 0, none⟩) xs.length xs.length) ∧ w'.cell? ⟨b2, 0, none⟩ = some (.slice (some ⟨g2, 0, none⟩) ys.length ys.length)) (exact ⟨c0_0, c1_0, c2_0, c3_0⟩) (first | (go_at_call 34; clear t4; refine (toClub_any A' c' ys _ (hy.to (by (repeat' (first | (with_reducible exact Below.refl _ _) | (with_reducible assumption) | (with_reducible refine Below.alloc ?_ ?_ _) | (with_reducible refine Below.drew ?_) | (with_reducible refine bdrewN ?_ _) | (with_reducible refine Below.setCell ?_ ?_ _) | (first | (with_reducible exact Nat.le_refl _) | (with_reducible assumption) | omega | (simp only [World.size_alloc, World.size_setCell, World.size_drew]; omega) | (simp; omega) | (simp; done)))))) hny).mono ?_; rintro e w11 ⟨⟨g6, rfl, h6⟩, hbw11⟩; have c0_0 := (hbw11.cell (p := ⟨w.heap.size, 0, none⟩) (Nat.lt_of_lt_of_le hn0 hs)).trans c0_0; have c1_0 := (hbw11.cell (p := ⟨w.heap.size + 1, 0, none⟩) (Nat.lt_of_lt_of_le hn1 hs)).trans c1_0; have c2_0 := (hbw11.cell (p := ⟨b1, 0, none⟩) hb1).trans c2_0; have c3_0 := (hbw11.cell (p := ⟨b2, 0, none⟩) hb2).trans c3_0; have hB := below_go hB hbw11 ⟨rfl, rfl, rfl, rfl⟩ (Nat.le_trans hn hs); have hx := SR.to (SR.to hx (by (repeat' (first | (with_reducible exact Below.refl _ _) | (with_reducible assumption) | (with_reducible refine Below.alloc ?_ ?_ _) | (with_reducible refine Below.drew ?_) | (with_reducible refine bdrewN ?_ _) | (with_reducible refine Below.setCell ?_ ?_ _) | (first | (with_reducible exact Nat.le_refl _) | (with_reducible assumption) | omega | (simp only [World.size_alloc, World.size_setCell, World.size_drew]; omega) | (simp; omega) | (simp; done)))))) hbw11; have hy := SR.to (SR.to hy (by (repeat' (first | (with_reducible exact Below.refl _ _) | (with_reducible assumption) | (with_reducible refine Below.alloc ?_ ?_ _) | (with_reducible refine Below.drew ?_) | (with_reducible refine bdrewN ?_ _) | (with_reducible refine Below.setCell ?_ ?_ _) | (first | (with_reducible exact Nat.le_refl _) | (with_reducible assumption) | omega | (simp only [World.size_alloc, World.size_setCell, World.size_drew]; omega) | (simp; omega) | (simp; done)))))) hbw11; have h1 := SR.to (SR.to h1 (by (repeat' (first | (with_reducible exact Below.refl _ _) | (with_reducible assumption) | (with_reducible refine Below.alloc ?_ ?_ _) | (with_reducible refine Below.drew ?_) | (with_reducible refine bdrewN ?_ _) | (with_reducible refine Below.setCell ?_ ?_ _) | (first | (with_reducible exact Nat.le_refl _) | (with_reducible assumption) | omega | (simp only [World.size_alloc, World.size_setCell, World.size_drew]; omega) | (simp; omega) | (simp; done)))))) hbw11; have h2 := SR.to (SR.to h2 (by (repeat' (first | (with_reducible exact Below.refl _ _) | (with_reducible assumption) | (with_reducible refine Below.alloc ?_ ?_ _) | (with_reducible refine Below.drew ?_) | (with_reducible refine bdrewN ?_ _) | (with_reducible refine Below.setCell ?_ ?_ _) | (first | (with_reducible exact Nat.le_refl _) | (with_reducible assumption) | omega | (simp only [World.size_alloc, World.size_setCell, World.size_drew]; omega) | (simp; omega) | (simp; done)))))) hbw11; have hb1 := Nat.lt_of_lt_of_le hb1 hbw11.size; have hb2 := Nat.lt_of_lt_of_le hb2 hbw11.size; have hs := Nat.le_trans hs hbw11.size) | (go_at_call 36; refine (eqSelf_any _ _ _ _ ys _ (h2.to (by (repeat' (first | (with_reducible exact Below.refl _ _) | (with_reducible assumption) | (with_reducible refine Below.alloc ?_ ?_ _) | (with_reducible refine Below.drew ?_) | (with_reducible refine bdrewN ?_ _) | (with_reducible refine Below.setCell ?_ ?_ _) | (first | (with_reducible exact Nat.le_refl _) | (with_reducible assumption) | omega | (simp only [World.size_alloc, World.size_setCell, World.size_drew]; omega) | (simp; omega) | (simp; done)))))) (h6.to (by (repeat' (first | (with_reducible exact Below.refl _ _) | (with_reducible assumption) | (with_reducible refine Below.alloc ?_ ?_ _) | (with_reducible refine Below.drew ?_) | (with_reducible refine bdrewN ?_ _) | (with_reducible refine Below.setCell ?_ ?_ _) | (first | (with_reducible exact Nat.le_refl _) | (with_reducible assumption) | omega | (simp only [World.size_alloc, World.size_setCell, World.size_drew]; omega) | (simp; omega) | (simp; done)))))) hmy).mono ?_; rintro e w12 ⟨rfl, hbw12⟩; have c0_0 := (hbw12.cell (p := ⟨w.heap.size, 0, none⟩) (Nat.lt_of_lt_of_le hn0 hs)).trans c0_0; have c1_0 := (hbw12.cell (p := ⟨w.heap.size + 1, 0, none⟩) (Nat.lt_of_lt_of_le hn1 hs)).trans c1_0; have c2_0 := (hbw12.cell (p := ⟨b1, 0, none⟩) hb1).trans c2_0; have c3_0 := (hbw12.cell (p := ⟨b2, 0, none⟩) hb2).trans c3_0; have hB := below_go hB hbw12 ⟨rfl, rfl, rfl, rfl⟩ (Nat.le_trans hn hs); have hx := SR.to (SR.to hx (by (repeat' (first | (with_reducible exact Below.refl _ _) | (with_reducible assumption) | (with_reducible refine Below.alloc ?_ ?_ _) | (with_reducible refine Below.drew ?_) | (with_reducible refine bdrewN ?_ _) | (with_reducible refine Below.setCell ?_ ?_ _) | (first | (with_reducible exact Nat.le_refl _) | (with_reducible assumption) | omega | (simp only [World.size_alloc, World.size_setCell, World.size_drew]; omega) | (simp; omega) | (simp; done)))))) hbw12; have hy := SR.to (SR.to hy (by (repeat' (first | (with_reducible exact Below.refl _ _) | (with_reducible assumption) | (with_reducible refine Below.alloc ?_ ?_ _) | (with_reducible refine Below.drew ?_) | (with_reducible refine bdrewN ?_ _) | (with_reducible refine Below.setCell ?_ ?_ _) | (first | (with_reducible exact Nat.le_refl _) | (with_reducible assumption) | omega | (simp only [World.size_alloc, World.size_setCell, World.size_drew]; omega) | (simp; omega) | (simp; done)))))) hbw12; have h1 := SR.to (SR.to h1 (by (repeat' (first | (with_reducible exact Below.refl _ _) | (with_reducible assumption) | (with_reducible refine Below.alloc ?_ ?_ _) | (with_reducible refine Below.drew ?_) | (with_reducible refine bdrewN ?_ _) | (with_reducible refine Below.setCell ?_ ?_ _) | (first | (with_reducible exact Nat.le_refl _) | (with_reducible assumption) | omega | (simp only [World.size_alloc, World.size_setCell, World.size_drew]; omega) | (simp; omega) | (simp; done)))))) hbw12; have h2 := SR.to (SR.to h2 (by (repeat' (first | (with_reducible exact Below.refl _ _) | (with_reducible assumption) | (with_reducible refine Below.alloc ?_ ?_ _) | (with_reducible refine Below.drew ?_) | (with_reducible refine bdrewN ?_ _) | (with_reducible refine Below.setCell ?_ ?_ _) | (first | (with_reducible exact Nat.le_refl _) | (with_reducible assumption) | omega | (simp only [World.size_alloc, World.size_setCell, World.size_drew]; omega) | (simp; omega) | (simp; done)))))) hbw12; have hb1 := Nat.lt_of_lt_of_le hb1 hbw12.size; have hb2 := Nat.lt_of_lt_of_le hb2 hbw12.size; have hs := Nat.le_trans hs hbw12.size))
  go_wp2
  all_goals (go_ret; exact ⟨rfl, hB⟩)

theorem walk (A A' : Option Addr) (c c' : Nat) (xs ys : List Member) (w : World) (hx : SR memberRep w (· < w.heap.size) A xs) (hy : SR memberRep w (· < w.heap.size) A' ys) (hlx : xs.length ≤ maxLen) (hly : ys.length ≤ maxLen) (hox : ∀ x ∈ xs, x.ok) (hoy : ∀ x ∈ ys, x.ok) :
    Calls Try.prog 8 #[.agg #[.slice A xs.length c], .agg #[.slice A' ys.length c']] w fun e w' => e = .returned (.bool true) ∧ Below w.heap.size w w' :=
  walk_b _ A A' c c' xs ys rfl w hx hy hlx hly hox hoy

theorem Club.leaf : leafT Try.prog 6 50 = some [48] := by kernel_rfl
theorem Club.cellsOf : Try.prog.cellsOf 50 = 1 := by kernel_rfl
theorem arg_Club {H : Type} {enc : TypeId × Value → H} {W : World} {v : Value} (h : Arg enc Try.prog W 50 v) :
    ∃ A c xs, v = .agg #[.slice A xs.length c] ∧ xs.length ≤ maxLen ∧ SR memberRep W (· < W.heap.size) A xs ∧ ∀ x ∈ xs, Member.ok x := by
  obtain ⟨cs, rfl, hr⟩ := arg_struct Try.underlying50 Club.leaf Club.cellsOf h
  match cs, hr.1 with
  | [u], _ =>
    obtain ⟨A, c, xs, rfl, h1, h2, h3, h4⟩ := cell_MemberS (hr.2 0 _ _ rfl rfl)
    exact ⟨A, c, xs, rfl, Nat.le_trans h1 h2, h3, h4⟩

theorem given_walk {H : Type} {enc : TypeId × Value → H} (W : World) (args : Array Value) (h : Given enc Try.prog W Try.f8.params.toList args.toList) :
    Calls Try.prog 8 args W fun e W' => e = .returned (.bool true) ∧ Below W.heap.size W W' := by
  rw [Try.params8] at h
  obtain ⟨v0, vs0, hargs, a0, h⟩ := given_cons h
  obtain ⟨v1, vs1, rfl, a1, h⟩ := given_cons h
  obtain rfl := given_nil h
  obtain rfl : args = #[v0, v1] := by cases args; simp_all
  obtain ⟨A, c, xs, rfl, hm, hx, hok⟩ := arg_Club a0
  obtain ⟨A', c', ys, rfl, hm', hy, hok'⟩ := arg_Club a1
  exact walk A A' c c' xs ys W hx hy hm hm' hok hok'

set_option maxRecDepth 100000 in
theorem lifted (os : Os) (started : os.Started) (H : Type) (enc : TypeId × Value → H) :
    ReturnsInHanded {} Try.checked os 8 .any (Rows.fnExactSameClubSpec.pre6 enc Try.prog Try.f8 Rows.fnExactSameClubRow.domain false) (Rows.fnExactSameClubSpec.post enc Try.prog Try.f8 false true false false) :=
  law_lift started Try.func8 (by kernel_rfl) (by kernel_rfl) rfl rfl (fun ds h => by match ds, h with | [d0, d1], _ => exact ⟨rfl, rfl, rfl⟩)
    (ChangeSpec.witness6 (enc := enc) (C := Try.checked) false ⟨#[], #[.agg #[.slice none 0 0], .agg #[.slice none 0 0]], []⟩ 8 (by kernel_rfl) (by kernel_rfl) (by kernel_rfl) (by kernel_rfl))
    (fun W args h => given_walk W args h)

theorem over : Rows.fnExactSameClubRow.holds Try.pinned (OpenSpec.ofChange Rows.fnExactSameClubSpec) :=
  OpenClaim.holds_of_wide 8 Try.f8 rfl rfl rfl rfl rfl rfl rfl ⟨rfl, rfl, rfl, rfl, rfl⟩ rfl rfl rfl rfl rfl (by kernel_rfl) Try.func8 (by kernel_rfl)
    (of_decide_eq_true (by kernel_rfl)) (by unfold Func.isWrapper; first | (rw [if_pos (by decide +kernel)]; kernel_rfl) | (rw [if_neg (by decide +kernel)]; exact ⟨rfl, rfl⟩))
    (fun os started H enc _ => lifted os started H enc)

theorem proved : Rows.FnExactSameClubSaid :=
  over
#print axioms proved

end Go.Proofs.Ytdngdgjlcfbdhaa.fnExactSameClub
