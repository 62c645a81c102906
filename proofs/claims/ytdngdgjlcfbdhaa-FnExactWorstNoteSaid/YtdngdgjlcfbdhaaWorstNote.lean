/- WorstNote: the program and the reference give the same for all lists of notes. -/
import Derived.Test.YtdngdgjlcfbdhaaLists
import Derived.Test.YtdngdgjlcfbdhaaArgs
import Derived.Deep.Cut
namespace Go.Proofs.Ytdngdgjlcfbdhaa.fnExactWorstNote
open Go.ChangeShapes Go.WideShapes Go.ChangeAt Go.RowKit
set_option linter.unusedSimpArgs false
set_option linter.unusedVariables false
attribute [local go_sem ↓] Go.wp_at_zero Go.wp_at_succ

def lossAt (xs : List Note) (i : Nat) : Int := (xs[i]?.map Note.loss).getD 0
def worstTo (xs : List Note) : Nat → Nat
  | 0 => 0
  | k + 1 => if lossAt xs (worstTo xs k) < lossAt xs k then k else worstTo xs k
theorem worstTo_succ (xs : List Note) (k : Nat) : worstTo xs (k + 1) = if lossAt xs (worstTo xs k) < lossAt xs k then k else worstTo xs k := rfl
theorem worstTo_one (xs : List Note) : worstTo xs 1 = 0 := by simp [worstTo]
theorem worstTo_le (xs : List Note) (k : Nat) : worstTo xs k ≤ k - 1 := by
  induction k with
  | zero => simp [worstTo]
  | succ k ih => rw [worstTo_succ]; split <;> omega
theorem lossAt_at (xs : List Note) (i : Nat) (h : i < xs.length) : lossAt xs i = xs[i].loss := by simp [lossAt, List.getElem?_eq_getElem h]
def worstV (xs : List Note) : Int × Int := if xs.length = 0 then (0, 3) else (((worstTo xs xs.length : Nat) : Int), 0)

set_option maxRecDepth 100000 in
set_option maxHeartbeats 1000000 in
theorem spec_any (A : Option Addr) (c : Nat) (xs : List Note) (w : World) (hx : SR noteRep w (· < w.heap.size) A xs) (hlen : xs.length ≤ maxLen) :
    Calls Try.prog 52 #[.slice A xs.length c] w fun e w' => e = .returned (.tuple #[.int .i64 (worstV xs).1, .int .i64 (worstV xs).2]) ∧ Below w.heap.size w w' := by
  unfold maxLen at hlen
  by_cases h0 : xs.length = 0
  · have HF := Lib.hid (show worstV xs = (0, 3) by simp [worstV, h0])
    have h0' : ((xs.length : Int) == 0) = true := by simp [h0]
    clear h0
    go_enter Try.func52, Try.ntmps52
    go_wp2
    go_ret2
    exact ⟨by rw [HF.out]; rfl, Below.refl _ _⟩
  · have HF := Lib.hid (show worstV xs = (((worstTo xs xs.length : Nat) : Int), 0) by simp [worstV, h0])
    have h0' : ((xs.length : Int) == 0) = false := by simp [h0]
    have hpos : 1 ≤ xs.length := by omega
    clear h0
    go_enter Try.func52, Try.ntmps52
    go_wp2
    go_loopw [4, 5] (fun b i wr => ∃ k : Nat, 1 ≤ k ∧ k ≤ xs.length ∧ i = .int .i64 k ∧ b = .int .i64 (worstTo xs k : Nat) ∧ Below w.heap.size w wr) (fun _ i _ => xs.length - (intOf i).toNat)
    case atStart => exact ⟨1, Nat.le_refl _, hpos, rfl, by rw [worstTo_one]; rfl, Below.refl _ _⟩
    case round =>
      obtain ⟨k, hk1, hk, rfl, rfl, hb⟩ := hrel
      have hm := worstTo_le xs k
      have HS := Lib.hid (worstTo_succ xs k)
      generalize hw : worstTo xs k = m at hm HS
      have HW := Lib.hid hw
      clear hw
      by_cases hlt : k < xs.length
      · have hmk : m < xs.length := by omega
        obtain ⟨b, off, row, hA, hbb, hr, hc⟩ := (hx.below hb).at_ hlt
        obtain ⟨b', off', row', hA', hbb', hr', hc'⟩ := (hx.below hb).at_ hmk
        subst hA
        simp only [Option.some.injEq, Addr.mk.injEq, and_true] at hA'
        obtain ⟨rfl, rfl⟩ := hA'
        have hrow : row = Note.cells xs[k] := hr
        have hrow' : row' = Note.cells xs[m] := hr'
        have c6 : wr.cell? ⟨b, off + k * 8 + 6, none⟩ = some (.int .i64 (lossAt xs k)) := hc 6 _ (by rw [hrow, lossAt_at xs k hlt]; rfl)
        have d6 : wr.cell? ⟨b, off + m * 8 + 6, none⟩ = some (.int .i64 (lossAt xs m)) := hc' 6 _ (by rw [hrow', lossAt_at xs m hmk]; rfl)
        have i0 : (0 : Int) ≤ (k : Int) := by omega
        have i1 : (k : Int) < (xs.length : Int) := by omega
        have i2 : (0 : Int) ≤ (m : Int) := by omega
        have i3 : (m : Int) < (xs.length : Int) := by omega
        clear hc hc' hr hr' hrow hrow' hx
        by_cases hcmp : lossAt xs m < lossAt xs k
        · have HE := Lib.hid (show worstTo xs (k + 1) = k by rw [HS.out, if_pos hcmp])
          go_wp2
          go_quiet (fail)
          go_wp2
          exact ⟨⟨k + 1, by omega, by omega, by go_num, by rw [HE.out], by (repeat' (first | (with_reducible exact Below.refl _ _) | (with_reducible assumption) | (with_reducible refine Below.alloc ?_ ?_ _) | (with_reducible refine Below.drew ?_) | (with_reducible refine bdrewN ?_ _) | (with_reducible refine Below.setCell ?_ ?_ _) | (first | (with_reducible exact Nat.le_refl _) | (with_reducible assumption) | omega | (simp only [World.size_alloc, World.size_setCell, World.size_drew]; omega) | (simp; omega) | (simp; done))))⟩, by simp [intOf]; omega⟩
        · have HE := Lib.hid (show worstTo xs (k + 1) = m by rw [HS.out, if_neg hcmp])
          go_wp2
          go_quiet (fail)
          go_wp2
          exact ⟨⟨k + 1, by omega, by omega, by go_num, by rw [HE.out], by (repeat' (first | (with_reducible exact Below.refl _ _) | (with_reducible assumption) | (with_reducible refine Below.alloc ?_ ?_ _) | (with_reducible refine Below.drew ?_) | (with_reducible refine bdrewN ?_ _) | (with_reducible refine Below.setCell ?_ ?_ _) | (first | (with_reducible exact Nat.le_refl _) | (with_reducible assumption) | omega | (simp only [World.size_alloc, World.size_setCell, World.size_drew]; omega) | (simp; omega) | (simp; done))))⟩, by simp [intOf]; omega⟩
      · have hk' : k = xs.length := by omega
        go_wp2
        go_ret2
        subst hk'
        exact ⟨by rw [HF.out, HW.out]; rfl, hb⟩

set_option maxRecDepth 100000 in
set_option maxHeartbeats 2000000 in
theorem impl_any (A : Option Addr) (c : Nat) (xs : List Note) (w : World) (hx : SR noteRep w (· < w.heap.size) A xs) (hlen : xs.length ≤ maxLen) :
    Calls Try.prog 53 #[.slice A xs.length c] w fun e w' => e = .returned (.tuple #[.int .i64 (worstV xs).1, .int .i64 (worstV xs).2]) ∧ Below w.heap.size w w' := by
  unfold maxLen at hlen
  by_cases h0 : xs.length = 0
  · have HF := Lib.hid (show worstV xs = (0, 3) by simp [worstV, h0])
    have h0' : ((xs.length : Int) == 0) = true := by simp [h0]
    clear h0
    go_enter Try.func53, Try.ntmps53
    go_wp2
    go_ret2
    exact ⟨by rw [HF.out]; rfl, Below.refl _ _⟩
  · have HF := Lib.hid (show worstV xs = (((worstTo xs xs.length : Nat) : Int), 0) by simp [worstV, h0])
    have h0' : ((xs.length : Int) == 0) = false := by simp [h0]
    have hpos : 1 ≤ xs.length := by omega
    clear h0
    go_enter Try.func53, Try.ntmps53
    go_wp2
    go_loopw [4, 12] (fun b i wr => ∃ k : Nat, k ≤ xs.length ∧ i = .int .i64 k ∧ b = .int .i64 (worstTo xs k : Nat) ∧ Below w.heap.size w wr) (fun _ i _ => xs.length - (intOf i).toNat)
    case atStart => exact ⟨0, Nat.zero_le _, rfl, rfl, Below.refl _ _⟩
    case round =>
      obtain ⟨k, hk, rfl, rfl, hb⟩ := hrel
      have hm := worstTo_le xs k
      have HS := Lib.hid (worstTo_succ xs k)
      generalize hw : worstTo xs k = m at hm HS
      have HW := Lib.hid hw
      clear hw
      by_cases hlt : k < xs.length
      · have hmk : m < xs.length := by omega
        obtain ⟨b, off, row, hA, hbb, hr, hc⟩ := (hx.below hb).at_ hlt
        obtain ⟨b', off', row', hA', hbb', hr', hc'⟩ := (hx.below hb).at_ hmk
        subst hA
        simp only [Option.some.injEq, Addr.mk.injEq, and_true] at hA'
        obtain ⟨rfl, rfl⟩ := hA'
        have hrow : row = Note.cells xs[k] := hr
        have hrow' : row' = Note.cells xs[m] := hr'
        have hlk := lossAt_at xs k hlt
        have d6 : wr.cell? ⟨b, off + m * 8 + 6, none⟩ = some (.int .i64 (lossAt xs m)) := hc' 6 _ (by rw [hrow', lossAt_at xs m hmk]; rfl)
        generalize hxk : xs[k] = y at hrow hr hlk
        obtain ⟨x0, ⟨⟨x1, x2, x3, x4⟩, x5⟩, x6, x7⟩ := y
        subst hrow
        simp only at hlk
        subst hlk
        have c0 : wr.cell? ⟨b, off + k * 8, none⟩ = some (.int .i64 x0) := hc 0 _ rfl
        have c1 : wr.cell? ⟨b, off + k * 8 + 1, none⟩ = some (.int .i64 x1) := hc 1 _ rfl
        have c2 : wr.cell? ⟨b, off + k * 8 + 2, none⟩ = some (.int .i64 x2) := hc 2 _ rfl
        have c3 : wr.cell? ⟨b, off + k * 8 + 3, none⟩ = some (.bool x3) := hc 3 _ rfl
        have c4 : wr.cell? ⟨b, off + k * 8 + 4, none⟩ = some (.string x4) := hc 4 _ rfl
        have c5 : wr.cell? ⟨b, off + k * 8 + 5, none⟩ = some (.int .i64 x5) := hc 5 _ rfl
        have c6 : wr.cell? ⟨b, off + k * 8 + 6, none⟩ = some (.int .i64 (lossAt xs k)) := hc 6 _ rfl
        have c7 : wr.cell? ⟨b, off + k * 8 + 7, none⟩ = some (.int .i64 x7) := hc 7 _ rfl
        have i0 : (0 : Int) ≤ (k : Int) := by omega
        have i1 : (k : Int) < (xs.length : Int) := by omega
        have i2 : (0 : Int) ≤ (m : Int) := by omega
        have i3 : (m : Int) < (xs.length : Int) := by omega
        have hbs := hb.size
        have hbw : b < wr.heap.size := by omega
        clear hc hc' hr hr' hrow' hx hxk
        by_cases hcmp : lossAt xs m < lossAt xs k
        · have HE := Lib.hid (show worstTo xs (k + 1) = k by rw [HS.out, if_pos hcmp])
          go_wp2
          go_quiet (fail)
          go_wp2
          exact ⟨⟨k + 1, by omega, by go_num, by rw [HE.out], by (repeat' (first | (with_reducible exact Below.refl _ _) | (with_reducible assumption) | (with_reducible refine Below.alloc ?_ ?_ _) | (with_reducible refine Below.drew ?_) | (with_reducible refine bdrewN ?_ _) | (with_reducible refine Below.setCell ?_ ?_ _) | (first | (with_reducible exact Nat.le_refl _) | (with_reducible assumption) | omega | (simp only [World.size_alloc, World.size_setCell, World.size_drew]; omega) | (simp; omega) | (simp; done))))⟩, by simp [intOf]; omega⟩
        · have HE := Lib.hid (show worstTo xs (k + 1) = m by rw [HS.out, if_neg hcmp])
          go_wp2
          go_quiet (fail)
          go_wp2
          exact ⟨⟨k + 1, by omega, by go_num, by rw [HE.out], by (repeat' (first | (with_reducible exact Below.refl _ _) | (with_reducible assumption) | (with_reducible refine Below.alloc ?_ ?_ _) | (with_reducible refine Below.drew ?_) | (with_reducible refine bdrewN ?_ _) | (with_reducible refine Below.setCell ?_ ?_ _) | (first | (with_reducible exact Nat.le_refl _) | (with_reducible assumption) | omega | (simp only [World.size_alloc, World.size_setCell, World.size_drew]; omega) | (simp; omega) | (simp; done))))⟩, by simp [intOf]; omega⟩
      · have hk' : k = xs.length := by omega
        go_wp2
        go_ret2
        subst hk'
        exact ⟨by rw [HF.out, HW.out]; rfl, hb⟩

set_option maxHeartbeats 1000000 in
theorem walk (A : Option Addr) (c : Nat) (xs : List Note) (w : World) (hx : SR noteRep w (· < w.heap.size) A xs) (hlen : xs.length ≤ maxLen) (hok : ∀ x ∈ xs, x.ok) :
    Calls Try.prog 14 #[.slice A xs.length c] w fun e w' => e = .returned (.bool true) ∧ Below w.heap.size w w' := by
  have HOK := Lib.hid hok
  clear hok
  have hB : Below w.heap.size w w := Below.refl _ _
  have hz : w.heap.size ≤ w.heap.size := Nat.le_refl _
  have t1 := trivial
  have t2 := trivial
  have hm : xs.length ≤ maxLen := hlen
  unfold maxLen at hlen
  go_enter Try.func14, Try.ntmps14
  go_upto_region 5 with (first | (go_at_call 41; clear t1; refine (szNoteS_any A c xs _ _ hx HOK.out hm (by omega) (by omega)).mono ?_; rintro e w1 ⟨⟨q, rfl, hq0, hq1⟩, hbw1⟩; have hx := (hx.below hbw1).more hbw1.size; have hB := below_go hB hbw1 ⟨rfl, rfl, rfl, rfl⟩ hz; have hz := Nat.le_trans hz hbw1.size))
  · go_ret
    exact ⟨rfl, hB⟩
  have hn : xs.length ≤ 1048576 := by have : 0 ≤ q := by assumption
                                      have := hq1 this
                                      omega
  clear hq0 hq1
  go_upto_region 10 with (first | (go_at_call 43; clear t2; refine (toNoteS_any A c xs _ hx hn).mono ?_; rintro e w2 ⟨⟨g, rfl, _, h0⟩, hbw2⟩; have hx := (hx.below hbw2).more hbw2.size; have hB := below_go hB hbw2 ⟨rfl, rfl, rfl, rfl⟩ hz; have hz := Nat.le_trans hz hbw2.size) | (go_at_call 52; refine (spec_any _ _ xs _ h0 hm).mono ?_; rintro e w3 ⟨rfl, hbw3⟩; have hx := (hx.below hbw3).more hbw3.size; have hB := below_go hB hbw3 ⟨rfl, rfl, rfl, rfl⟩ hz; have hz := Nat.le_trans hz hbw3.size) | (go_at_call 43; refine (toNoteS_any A c xs _ hx hn).mono ?_; rintro e w4 ⟨⟨g1, rfl, _, h1⟩, hbw4⟩; have hx := (hx.below hbw4).more hbw4.size; have hB := below_go hB hbw4 ⟨rfl, rfl, rfl, rfl⟩ hz; have hz := Nat.le_trans hz hbw4.size) | (go_at_call 53; refine (impl_any _ _ xs _ h1 hm).mono ?_; rintro e w5 ⟨rfl, hbw5⟩; have hx := (hx.below hbw5).more hbw5.size; have h1 := (h1.below hbw5).more hbw5.size; have hB := below_go hB hbw5 ⟨rfl, rfl, rfl, rfl⟩ hz; have hz := Nat.le_trans hz hbw5.size))
  go_wp2_with (first | (go_at_call 43; refine (toNoteS_any A c xs _ hx hn).mono ?_; rintro e w6 ⟨⟨g2, rfl, _, h2⟩, hbw6⟩; have h1 := (h1.below hbw6).more hbw6.size; have hB := below_go hB hbw6 ⟨rfl, rfl, rfl, rfl⟩ hz; have hz := Nat.le_trans hz hbw6.size) | (go_at_call 45; refine (eqNoteS_any _ _ _ _ xs xs _ h1 h2 hm hm).mono ?_; rintro e w7 ⟨rfl, hbw7⟩; have hB := below_go hB hbw7 ⟨rfl, rfl, rfl, rfl⟩ hz; have hz := Nat.le_trans hz hbw7.size))
  all_goals (go_ret; exact ⟨by simp, hB⟩)

theorem given_walk {H : Type} {enc : TypeId × Value → H} (W : World) (args : Array Value) (h : Given enc Try.prog W Try.f14.params.toList args.toList) :
    Calls Try.prog 14 args W fun e W' => e = .returned (.bool true) ∧ Below W.heap.size W W' := by
  rw [Try.params14] at h
  obtain ⟨v0, vs0, hargs, a0, h⟩ := given_cons h
  obtain rfl := given_nil h
  obtain rfl : args = #[v0] := by cases args; simp_all
  obtain ⟨A, c, xs, rfl, hc, hm, hx, hok⟩ := cell_NoteS (arg_slice Try.underlying62 a0)
  exact walk A c xs W hx (Nat.le_trans hc hm) hok

set_option maxRecDepth 100000 in
theorem lifted (os : Os) (started : os.Started) (H : Type) (enc : TypeId × Value → H) :
    ReturnsInHanded {} Try.checked os 14 .any (Rows.fnExactWorstNoteSpec.pre6 enc Try.prog Try.f14 Rows.fnExactWorstNoteRow.domain false) (Rows.fnExactWorstNoteSpec.post enc Try.prog Try.f14 false true false false) :=
  law_lift started Try.func14 (by kernel_rfl) (by kernel_rfl) rfl rfl (fun ds h => by match ds, h with | [d0], _ => exact ⟨rfl, rfl, rfl⟩)
    (ChangeSpec.witness6 (enc := enc) (C := Try.checked) false ⟨#[], #[.slice none 0 0], []⟩ 8 (by kernel_rfl) (by kernel_rfl) (by kernel_rfl) (by kernel_rfl))
    (fun W args h => given_walk W args h)

theorem over : Rows.fnExactWorstNoteRow.holds Try.pinned (OpenSpec.ofChange Rows.fnExactWorstNoteSpec) :=
  OpenClaim.holds_of_wide 14 Try.f14 rfl rfl rfl rfl rfl rfl rfl ⟨rfl, rfl, rfl, rfl, rfl⟩ rfl rfl rfl rfl rfl (by kernel_rfl) Try.func14 (by kernel_rfl)
    (of_decide_eq_true (by kernel_rfl)) (by unfold Func.isWrapper; first | (rw [if_pos (by decide +kernel)]; kernel_rfl) | (rw [if_neg (by decide +kernel)]; exact ⟨rfl, rfl⟩))
    (fun os started H enc _ => lifted os started H enc)

theorem proved : Rows.FnExactWorstNoteSaid :=
  over
#print axioms proved

end Go.Proofs.Ytdngdgjlcfbdhaa.fnExactWorstNote
