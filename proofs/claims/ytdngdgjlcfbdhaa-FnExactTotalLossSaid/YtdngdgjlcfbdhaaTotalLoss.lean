/- TotalLoss: the program and the reference give the same for all lists of notes. -/
import Derived.Test.YtdngdgjlcfbdhaaLists
import Derived.Test.YtdngdgjlcfbdhaaArgs
import Derived.Deep.Cut
namespace Go.Proofs.Ytdngdgjlcfbdhaa.fnExactTotalLoss
open Go.ChangeShapes Go.WideShapes Go.ChangeAt Go.RowKit
set_option linter.unusedSimpArgs false
set_option linter.unusedVariables false
attribute [local go_sem ↓] Go.wp_at_zero Go.wp_at_succ

def lossTo (xs : List Note) (k : Nat) : Int := (xs.take k).foldl (fun a n => wrap64 (a + n.loss)) 0
theorem lossTo_zero (xs : List Note) : lossTo xs 0 = 0 := rfl
theorem lossTo_succ (xs : List Note) (k : Nat) (h : k < xs.length) : lossTo xs (k + 1) = wrap64 (lossTo xs k + xs[k].loss) := by
  unfold lossTo
  rw [List.take_succ_eq_append_getElem h, List.foldl_append]
  rfl

theorem add_any (a x0 x1 x2 : Int) (x3 : Bool) (x4 : ByteArray) (x5 x6 x7 : Int) (w : World) :
    Calls Try.prog 86 #[.int .i64 a, .agg #[.int .i64 x0, .int .i64 x1, .int .i64 x2, .bool x3, .string x4, .int .i64 x5, .int .i64 x6, .int .i64 x7]] w fun e w' => e = .returned (.int .i64 (wrap64 (a + x6))) ∧ Below w.heap.size w w' := by
  go_enter Try.func86, Try.ntmps86
  go_wp2
  go_ret
  exact ⟨rfl, by (repeat' (first | (with_reducible exact Below.refl _ _) | (with_reducible assumption) | (with_reducible refine Below.alloc ?_ ?_ _) | (with_reducible refine Below.drew ?_) | (with_reducible refine bdrewN ?_ _) | (with_reducible refine Below.setCell ?_ ?_ _) | (first | (with_reducible exact Nat.le_refl _) | (with_reducible assumption) | omega | (simp only [World.size_alloc, World.size_setCell, World.size_drew]; omega) | (simp; omega) | (simp; done))))⟩

set_option maxRecDepth 100000 in
set_option maxHeartbeats 1000000 in
theorem spec_any (A : Option Addr) (c : Nat) (xs : List Note) (w : World) (hx : SR noteRep w (· < w.heap.size) A xs) (hlen : xs.length ≤ maxLen) :
    Calls Try.prog 42 #[.slice A xs.length c] w fun e w' => e = .returned (.int .i64 (lossTo xs xs.length)) ∧ Below w.heap.size w w' := by
  unfold maxLen at hlen
  go_enter Try.func42, Try.ntmps42
  go_wp2
  go_loop [3, 4] (fun s i => ∃ k : Nat, k ≤ xs.length ∧ i = .int .i64 k ∧ s = .int .i64 (lossTo xs k)) (fun _ i => xs.length - (intOf i).toNat)
  case atStart => exact ⟨0, Nat.zero_le _, rfl, rfl⟩
  case round =>
    obtain ⟨k, hk, rfl, rfl⟩ := hrel
    by_cases hlt : k < xs.length
    · obtain ⟨b, off, row, hA, hbb, hr, hc⟩ := hx.at_ hlt
      subst hA
      have hrow : row = Note.cells xs[k] := hr
      have HS := Lib.hid (lossTo_succ xs k hlt)
      have c6 : w.cell? ⟨b, off + k * 8 + 6, none⟩ = some (.int .i64 xs[k].loss) := hc 6 _ (by rw [hrow]; rfl)
      clear hc hr hrow hx
      go_wp2
      exact ⟨⟨k + 1, by omega, by go_num, by rw [HS.out]⟩, by simp [intOf]; omega⟩
    · have hk' : k = xs.length := by omega
      go_wp2
      go_ret
      subst hk'
      exact ⟨rfl, Below.refl _ _⟩

set_option maxRecDepth 100000 in
set_option maxHeartbeats 2000000 in
theorem fold_any (A : Option Addr) (c : Nat) (xs : List Note) (w : World) (hx : SR noteRep w (· < w.heap.size) A xs) (hlen : xs.length ≤ maxLen) :
    Calls Try.prog 85 #[.slice A xs.length c, .int .i64 0, .func (.func 86) #[] #[]] w fun e w' => e = .returned (.int .i64 (lossTo xs xs.length)) ∧ Below w.heap.size w w' := by
  unfold maxLen at hlen
  go_enter Try.func85, Try.ntmps85
  go_wp2
  go_loopw [1, 11] (fun s i wr => ∃ k : Nat, k ≤ xs.length ∧ i = .int .i64 k ∧ s = .int .i64 (lossTo xs k) ∧ Below w.heap.size w wr) (fun _ i _ => xs.length - (intOf i).toNat)
  case atStart => exact ⟨0, Nat.zero_le _, rfl, rfl, Below.refl _ _⟩
  case round =>
    obtain ⟨k, hk, rfl, rfl, hb⟩ := hrel
    by_cases hlt : k < xs.length
    · obtain ⟨b, off, row, hA, hbb, hr, hc⟩ := (hx.below hb).at_ hlt
      subst hA
      have hrow : row = Note.cells xs[k] := hr
      have hs := lossTo_succ xs k hlt
      generalize hm : xs[k] = m at hrow hr hs
      obtain ⟨x0, ⟨⟨x1, x2, x3, x4⟩, x5⟩, x6, x7⟩ := m
      subst hrow
      have HS := Lib.hid hs
      have c0 : wr.cell? ⟨b, off + k * 8, none⟩ = some (.int .i64 x0) := hc 0 _ rfl
      have c1 : wr.cell? ⟨b, off + k * 8 + 1, none⟩ = some (.int .i64 x1) := hc 1 _ rfl
      have c2 : wr.cell? ⟨b, off + k * 8 + 2, none⟩ = some (.int .i64 x2) := hc 2 _ rfl
      have c3 : wr.cell? ⟨b, off + k * 8 + 3, none⟩ = some (.bool x3) := hc 3 _ rfl
      have c4 : wr.cell? ⟨b, off + k * 8 + 4, none⟩ = some (.string x4) := hc 4 _ rfl
      have c5 : wr.cell? ⟨b, off + k * 8 + 5, none⟩ = some (.int .i64 x5) := hc 5 _ rfl
      have c6 : wr.cell? ⟨b, off + k * 8 + 6, none⟩ = some (.int .i64 x6) := hc 6 _ rfl
      have c7 : wr.cell? ⟨b, off + k * 8 + 7, none⟩ = some (.int .i64 x7) := hc 7 _ rfl
      have hbs := hb.size
      clear hc hr hm hs hx
      go_wp2_with (go_at_call 86; refine (add_any _ _ _ _ _ _ _ _ _ _).mono ?_; rintro e w1 ⟨rfl, hb1⟩)
      have hB1 : Below w.heap.size w w1 := (hb.alloc hbs _).trans (hb1.mono (by simp; omega))
      exact ⟨⟨k + 1, by omega, by go_num, by rw [HS.out], hB1⟩, by simp [intOf]; omega⟩
    · have hk' : k = xs.length := by omega
      go_wp2
      go_ret
      subst hk'
      exact ⟨rfl, hb⟩

theorem impl_any (A : Option Addr) (c : Nat) (xs : List Note) (w : World) (hx : SR noteRep w (· < w.heap.size) A xs) (hlen : xs.length ≤ maxLen) :
    Calls Try.prog 44 #[.slice A xs.length c] w fun e w' => e = .returned (.int .i64 (lossTo xs xs.length)) ∧ Below w.heap.size w w' := by
  go_enter Try.func44, Try.ntmps44
  go_wp2_with (go_at_call 85; refine (fold_any A c xs w hx hlen).mono ?_; rintro e w1 ⟨rfl, hb1⟩)
  go_ret
  exact ⟨rfl, hb1⟩

set_option maxHeartbeats 1000000 in
theorem walk (A : Option Addr) (c : Nat) (xs : List Note) (w : World) (hx : SR noteRep w (· < w.heap.size) A xs) (hlen : xs.length ≤ maxLen) (hok : ∀ x ∈ xs, x.ok) :
    Calls Try.prog 11 #[.slice A xs.length c] w fun e w' => e = .returned (.bool true) ∧ Below w.heap.size w w' := by
  have HOK := Lib.hid hok
  clear hok
  have hB : Below w.heap.size w w := Below.refl _ _
  have hz : w.heap.size ≤ w.heap.size := Nat.le_refl _
  have t1 := trivial
  have t2 := trivial
  have hm : xs.length ≤ maxLen := hlen
  unfold maxLen at hlen
  go_enter Try.func11, Try.ntmps11
  go_upto_region 5 with (first | (go_at_call 41; clear t1; refine (szNoteS_any A c xs _ _ hx HOK.out hm (by omega) (by omega)).mono ?_; rintro e w1 ⟨⟨q, rfl, hq0, hq1⟩, hbw1⟩; have hx := (hx.below hbw1).more hbw1.size; have hB := below_go hB hbw1 ⟨rfl, rfl, rfl, rfl⟩ hz; have hz := Nat.le_trans hz hbw1.size))
  · go_ret
    exact ⟨rfl, hB⟩
  have hn : xs.length ≤ 1048576 := by have : 0 ≤ q := by assumption
                                      have := hq1 this
                                      omega
  clear hq0 hq1
  go_upto_region 10 with (first | (go_at_call 43; clear t2; refine (toNoteS_any A c xs _ hx hn).mono ?_; rintro e w2 ⟨⟨g, rfl, _, h0⟩, hbw2⟩; have hx := (hx.below hbw2).more hbw2.size; have hB := below_go hB hbw2 ⟨rfl, rfl, rfl, rfl⟩ hz; have hz := Nat.le_trans hz hbw2.size) | (go_at_call 42; refine (spec_any _ _ xs _ h0 hm).mono ?_; rintro e w3 ⟨rfl, hbw3⟩; have hx := (hx.below hbw3).more hbw3.size; have hB := below_go hB hbw3 ⟨rfl, rfl, rfl, rfl⟩ hz; have hz := Nat.le_trans hz hbw3.size) | (go_at_call 43; refine (toNoteS_any A c xs _ hx hn).mono ?_; rintro e w4 ⟨⟨g1, rfl, _, h1⟩, hbw4⟩; have hx := (hx.below hbw4).more hbw4.size; have hB := below_go hB hbw4 ⟨rfl, rfl, rfl, rfl⟩ hz; have hz := Nat.le_trans hz hbw4.size) | (go_at_call 44; refine (impl_any _ _ xs _ h1 hm).mono ?_; rintro e w5 ⟨rfl, hbw5⟩; have hx := (hx.below hbw5).more hbw5.size; have h1 := (h1.below hbw5).more hbw5.size; have hB := below_go hB hbw5 ⟨rfl, rfl, rfl, rfl⟩ hz; have hz := Nat.le_trans hz hbw5.size))
  go_wp2_with (first | (go_at_call 43; refine (toNoteS_any A c xs _ hx hn).mono ?_; rintro e w6 ⟨⟨g2, rfl, _, h2⟩, hbw6⟩; have h1 := (h1.below hbw6).more hbw6.size; have hB := below_go hB hbw6 ⟨rfl, rfl, rfl, rfl⟩ hz; have hz := Nat.le_trans hz hbw6.size) | (go_at_call 45; refine (eqNoteS_any _ _ _ _ xs xs _ h1 h2 hm hm).mono ?_; rintro e w7 ⟨rfl, hbw7⟩; have hB := below_go hB hbw7 ⟨rfl, rfl, rfl, rfl⟩ hz; have hz := Nat.le_trans hz hbw7.size))
  all_goals (go_ret; exact ⟨by simp, hB⟩)

theorem given_walk {H : Type} {enc : TypeId × Value → H} (W : World) (args : Array Value) (h : Given enc Try.prog W Try.f11.params.toList args.toList) :
    Calls Try.prog 11 args W fun e W' => e = .returned (.bool true) ∧ Below W.heap.size W W' := by
  rw [Try.params11] at h
  obtain ⟨v0, vs0, hargs, a0, h⟩ := given_cons h
  obtain rfl := given_nil h
  obtain rfl : args = #[v0] := by cases args; simp_all
  obtain ⟨A, c, xs, rfl, hc, hm, hx, hok⟩ := cell_NoteS (arg_slice Try.underlying62 a0)
  exact walk A c xs W hx (Nat.le_trans hc hm) hok

set_option maxRecDepth 100000 in
theorem lifted (os : Os) (started : os.Started) (H : Type) (enc : TypeId × Value → H) :
    ReturnsInHanded {} Try.checked os 11 .any (Rows.fnExactTotalLossSpec.pre6 enc Try.prog Try.f11 Rows.fnExactTotalLossRow.domain false) (Rows.fnExactTotalLossSpec.post enc Try.prog Try.f11 false true false false) :=
  law_lift started Try.func11 (by kernel_rfl) (by kernel_rfl) rfl rfl (fun ds h => by match ds, h with | [d0], _ => exact ⟨rfl, rfl, rfl⟩)
    (ChangeSpec.witness6 (enc := enc) (C := Try.checked) false ⟨#[], #[.slice none 0 0], []⟩ 8 (by kernel_rfl) (by kernel_rfl) (by kernel_rfl) (by kernel_rfl))
    (fun W args h => given_walk W args h)

theorem over : Rows.fnExactTotalLossRow.holds Try.pinned (OpenSpec.ofChange Rows.fnExactTotalLossSpec) :=
  OpenClaim.holds_of_wide 11 Try.f11 rfl rfl rfl rfl rfl rfl rfl ⟨rfl, rfl, rfl, rfl, rfl⟩ rfl rfl rfl rfl rfl (by kernel_rfl) Try.func11 (by kernel_rfl)
    (of_decide_eq_true (by kernel_rfl)) (by unfold Func.isWrapper; first | (rw [if_pos (by decide +kernel)]; kernel_rfl) | (rw [if_neg (by decide +kernel)]; exact ⟨rfl, rfl⟩))
    (fun os started H enc _ => lifted os started H enc)

theorem proved : Rows.FnExactTotalLossSaid :=
  over
#print axioms proved

end Go.Proofs.Ytdngdgjlcfbdhaa.fnExactTotalLoss
