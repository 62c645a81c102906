/- HavePlayed: the program and the reference give the same for all lists and names.  -/
import Derived.Test.YtdngdgjlcfbdhaaClub
import Derived.Test.YtdngdgjlcfbdhaaArgs
namespace Go.Proofs.Ytdngdgjlcfbdhaa.fnExactHavePlayed
open Go.ChangeShapes Go.WideShapes Go.ChangeAt Go.RowKit
set_option linter.unusedSimpArgs false
set_option linter.unusedVariables false
attribute [local go_sem ↓] Go.wp_at_zero Go.wp_at_succ

def met (a b : ByteArray) (x : Result) : Bool := (x.a.toList == a.toList) && (x.b.toList == b.toList) || (x.a.toList == b.toList) && (x.b.toList == a.toList)
def metIn (a b : ByteArray) (xs : List Result) : Bool := xs.any (met a b)
theorem metIn_hit {a b : ByteArray} {xs : List Result} {k : Nat} (h : k < xs.length) (hm : met a b xs[k] = true) : metIn a b xs = true := List.any_eq_true.2 ⟨xs[k], List.getElem_mem h, hm⟩
theorem met_more {a b : ByteArray} {xs : List Result} {k : Nat} (h : k < xs.length) (h0 : metIn a b (xs.take k) = false) (hm : met a b xs[k] = false) : metIn a b (xs.take (k + 1)) = false := by
  unfold metIn at *
  rw [List.take_succ_eq_append_getElem h, List.any_append, h0]
  simp [hm]

set_option maxRecDepth 100000 in
set_option maxHeartbeats 2000000 in
theorem l26Played_any (A : Option Addr) (c : Nat) (xs : List Result) (p q : ByteArray) (w : World) (hx : SR resultRep w (· < w.heap.size) A xs) (hlen : xs.length ≤ maxLen) :
    Calls Try.prog 66 #[.slice A xs.length c, .string p, .string q] w fun e w' => e = .returned (.bool (metIn p q xs)) ∧ Below w.heap.size w w' := by
  unfold maxLen at hlen
  go_enter Try.func66, Try.ntmps66
  go_wp2
  go_loopw [7] (fun i wr => ∃ k : Nat, k ≤ xs.length ∧ i = .int .i64 k ∧ metIn p q (xs.take k) = false ∧ Below w.heap.size w wr) (fun i _ => xs.length - (intOf i).toNat)
  case atStart => exact ⟨0, Nat.zero_le _, rfl, rfl, Below.refl _ _⟩
  case round =>
    obtain ⟨k, hk, rfl, hno, hbr⟩ := hrel
    have HN := Lib.hid hno
    clear hno
    by_cases hlt : k < xs.length
    · obtain ⟨b, off, row, hA, hbb, hr, hc⟩ := (hx.below hbr).at_ hlt
      subst hA
      have hrow : row = Result.cells xs[k] := hr
      generalize hm : xs[k] = m at hrow hr
      obtain ⟨x0, x1, x2, x3⟩ := m
      subst hrow
      have c0 : wr.cell? ⟨b, off + k * 4, none⟩ = some (.string x0) := hc 0 _ rfl
      have c1 : wr.cell? ⟨b, off + k * 4 + 1, none⟩ = some (.string x1) := hc 1 _ rfl
      have HM : Hid (met p q xs[k] = ((x0.toList == p.toList) && (x1.toList == q.toList) || (x0.toList == q.toList) && (x1.toList == p.toList))) := Lib.hid (by rw [hm]; rfl)
      have i0 : (0 : Int) ≤ (k : Int) := by omega
      have i1 : (k : Int) < (xs.length : Int) := by omega
      clear hc hr hm hx
      cases e1 : (x0.toList == p.toList) <;> cases e2 : (x1.toList == q.toList) <;> cases e3 : (x0.toList == q.toList) <;> cases e4 : (x1.toList == p.toList) <;> rw [e1, e2, e3, e4] at HM
      all_goals
        go_wp2
        try (go_quiet (fail); go_wp2)
        first
          | (go_ret; exact ⟨ret_bool (by rw [metIn_hit hlt (by rw [HM.out]; rfl)]), by (repeat' (first | (with_reducible exact Below.refl _ _) | (with_reducible assumption) | (with_reducible refine Below.alloc ?_ ?_ _) | (with_reducible refine Below.drew ?_) | (with_reducible refine bdrewN ?_ _) | (with_reducible refine Below.setCell ?_ ?_ _) | (first | (with_reducible exact Nat.le_refl _) | (with_reducible assumption) | omega | (simp only [World.size_alloc, World.size_setCell, World.size_drew]; omega) | (simp; omega) | (simp; done))))⟩)
          | exact ⟨⟨k + 1, by omega, by go_num, met_more hlt HN.out (by rw [HM.out]; rfl), by (repeat' (first | (with_reducible exact Below.refl _ _) | (with_reducible assumption) | (with_reducible refine Below.alloc ?_ ?_ _) | (with_reducible refine Below.drew ?_) | (with_reducible refine bdrewN ?_ _) | (with_reducible refine Below.setCell ?_ ?_ _) | (first | (with_reducible exact Nat.le_refl _) | (with_reducible assumption) | omega | (simp only [World.size_alloc, World.size_setCell, World.size_drew]; omega) | (simp; omega) | (simp; done))))⟩, by simp [intOf]; omega⟩
    · have hk' : k = xs.length := by omega
      go_wp2
      go_ret
      subst hk'
      exact ⟨ret_bool (by have := HN.out; rw [List.take_length] at this; exact this.symm), hbr⟩

theorem spec_any (A : Option Addr) (c : Nat) (xs : List Result) (p q : ByteArray) (w : World) (hx : SR resultRep w (· < w.heap.size) A xs) (hlen : xs.length ≤ maxLen) :
    Calls Try.prog 25 #[.slice A xs.length c, .string p, .string q] w fun e w' => e = .returned (.bool (metIn p q xs)) ∧ Below w.heap.size w w' := by
  generalize hm : metIn p q xs = b
  have ct := l26Played_any A c xs p q w hx hlen
  rw [hm] at ct
  clear hm
  go_enter Try.func25, Try.ntmps25
  go_wp2_with (go_at_call 66; refine ct.mono ?_; rintro e w1 ⟨rfl, hb1⟩)
  go_ret
  exact ⟨rfl, hb1⟩

set_option maxRecDepth 100000 in
set_option maxHeartbeats 2000000 in
theorem same_any (x0 x1 p q : ByteArray) (x2 x3 : Int) (bp bq : Nat) (w : World) (hp : w.cell? ⟨bp, 0, none⟩ = some (.string p)) (hq : w.cell? ⟨bq, 0, none⟩ = some (.string q)) (hbp : bp < w.heap.size) (hbq : bq < w.heap.size) :
    Calls Try.prog 69 #[.agg #[.string x0, .string x1, .int .i64 x2, .int .i64 x3], .pointer (some ⟨bp, 0, none⟩), .pointer (some ⟨bq, 0, none⟩)] w fun e w' => e = .returned (.bool (met p q ⟨x0, x1, x2, x3⟩)) ∧ Below w.heap.size w w' := by
  have HM : Hid (met p q ⟨x0, x1, x2, x3⟩ = ((x0.toList == p.toList) && (x1.toList == q.toList) || (x0.toList == q.toList) && (x1.toList == p.toList))) := Lib.hid rfl
  have hp' : (w.alloc (.cells #[.string x0, .string x1, .int .i64 x2, .int .i64 x3] 94)).cell? ⟨bp, 0, none⟩ = some (.string p) := (World.cell?_alloc_lt w _ ⟨bp, 0, none⟩ hbp).trans hp
  have hq' : (w.alloc (.cells #[.string x0, .string x1, .int .i64 x2, .int .i64 x3] 94)).cell? ⟨bq, 0, none⟩ = some (.string q) := (World.cell?_alloc_lt w _ ⟨bq, 0, none⟩ hbq).trans hq
  clear hp hq
  cases e1 : (x0.toList == p.toList) <;> cases e2 : (x1.toList == q.toList) <;> cases e3 : (x0.toList == q.toList) <;> cases e4 : (x1.toList == p.toList) <;> rw [e1, e2, e3, e4] at HM
  all_goals
    go_enter Try.func69, Try.ntmps69
    go_wp2
    try (go_quiet (fail); go_wp2)
    go_ret
    exact ⟨ret_bool (by rw [HM.out]; rfl), by (repeat' (first | (with_reducible exact Below.refl _ _) | (with_reducible assumption) | (with_reducible refine Below.alloc ?_ ?_ _) | (with_reducible refine Below.drew ?_) | (with_reducible refine bdrewN ?_ _) | (with_reducible refine Below.setCell ?_ ?_ _) | (first | (with_reducible exact Nat.le_refl _) | (with_reducible assumption) | omega | (simp only [World.size_alloc, World.size_setCell, World.size_drew]; omega) | (simp; omega) | (simp; done))))⟩

set_option maxRecDepth 100000 in
set_option maxHeartbeats 2000000 in
theorem index_any (A : Option Addr) (c : Nat) (xs : List Result) (p q : ByteArray) (bp bq : Nat) (w : World) (hx : SR resultRep w (· < w.heap.size) A xs) (hlen : xs.length ≤ maxLen) (hp : w.cell? ⟨bp, 0, none⟩ = some (.string p)) (hq : w.cell? ⟨bq, 0, none⟩ = some (.string q)) (hbp : bp < w.heap.size) (hbq : bq < w.heap.size) :
    Calls Try.prog 103 #[.slice A xs.length c, .func (.func 69) #[] #[.pointer (some ⟨bp, 0, none⟩), .pointer (some ⟨bq, 0, none⟩)]] w fun e w' => (∃ i : Int, e = .returned (.int .i64 i) ∧ decide (0 ≤ i) = metIn p q xs) ∧ Below w.heap.size w w' := by
  unfold maxLen at hlen
  go_enter Try.func103, Try.ntmps103
  go_wp2
  go_loopw [8] (fun i wr => ∃ k : Nat, k ≤ xs.length ∧ i = .int .i64 k ∧ metIn p q (xs.take k) = false ∧ Below w.heap.size w wr) (fun i _ => xs.length - (intOf i).toNat)
  case atStart => exact ⟨0, Nat.zero_le _, rfl, rfl, Below.refl _ _⟩
  case round =>
    obtain ⟨k, hk, rfl, hno, hbr⟩ := hrel
    have HN := Lib.hid hno
    clear hno
    by_cases hlt : k < xs.length
    · obtain ⟨b, off, row, hA, hbb, hr, hc⟩ := (hx.below hbr).at_ hlt
      subst hA
      have hrow : row = Result.cells xs[k] := hr
      generalize hm : xs[k] = m at hrow hr
      obtain ⟨x0, x1, x2, x3⟩ := m
      subst hrow
      have c0 : wr.cell? ⟨b, off + k * 4, none⟩ = some (.string x0) := hc 0 _ rfl
      have c1 : wr.cell? ⟨b, off + k * 4 + 1, none⟩ = some (.string x1) := hc 1 _ rfl
      have c2 : wr.cell? ⟨b, off + k * 4 + 2, none⟩ = some (.int .i64 x2) := hc 2 _ rfl
      have c3 : wr.cell? ⟨b, off + k * 4 + 3, none⟩ = some (.int .i64 x3) := hc 3 _ rfl
      have hbs := hbr.size
      have ct := same_any x0 x1 p q x2 x3 bp bq wr ((hbr.cell (p := ⟨bp, 0, none⟩) hbp).trans hp) ((hbr.cell (p := ⟨bq, 0, none⟩) hbq).trans hq) (Nat.lt_of_lt_of_le hbp hbs) (Nat.lt_of_lt_of_le hbq hbs)
      have HM : Hid (met p q xs[k] = met p q ⟨x0, x1, x2, x3⟩) := Lib.hid (by rw [hm])
      generalize met p q ⟨x0, x1, x2, x3⟩ = v at ct HM
      have i0 : (0 : Int) ≤ (k : Int) := by omega
      have i1 : (k : Int) < (xs.length : Int) := by omega
      clear hc hr hm hx hp hq
      have CT := Lib.hid ct
      clear ct
      cases v
      · go_wp2_with (go_at_call 69; refine (CT.out).mono ?_; rintro e w1 ⟨rfl, hb1⟩)
        exact ⟨⟨k + 1, by omega, by go_num, met_more hlt HN.out HM.out, hbr.trans (hb1.mono hbs)⟩, by simp [intOf]; omega⟩
      · go_wp2_with (go_at_call 69; refine (CT.out).mono ?_; rintro e w1 ⟨rfl, hb1⟩)
        go_ret
        exact ⟨⟨_, rfl, by rw [metIn_hit hlt HM.out]; exact decide_eq_true (by omega)⟩, hbr.trans (hb1.mono hbs)⟩
    · have hk' : k = xs.length := by omega
      go_wp2
      go_ret
      subst hk'
      exact ⟨⟨_, rfl, by have := HN.out; rw [List.take_length] at this; rw [this]; rfl⟩, hbr⟩

theorem contains_any (A : Option Addr) (c : Nat) (xs : List Result) (p q : ByteArray) (bp bq : Nat) (w : World) (hx : SR resultRep w (· < w.heap.size) A xs) (hlen : xs.length ≤ maxLen) (hp : w.cell? ⟨bp, 0, none⟩ = some (.string p)) (hq : w.cell? ⟨bq, 0, none⟩ = some (.string q)) (hbp : bp < w.heap.size) (hbq : bq < w.heap.size) :
    Calls Try.prog 68 #[.slice A xs.length c, .func (.func 69) #[] #[.pointer (some ⟨bp, 0, none⟩), .pointer (some ⟨bq, 0, none⟩)]] w fun e w' => e = .returned (.bool (metIn p q xs)) ∧ Below w.heap.size w w' := by
  have ct := index_any A c xs p q bp bq w hx hlen hp hq hbp hbq
  generalize metIn p q xs = b at ct
  clear hp hq
  go_enter Try.func68, Try.ntmps68
  go_wp2_with (go_at_call 103; refine ct.mono ?_; rintro e w1 ⟨⟨i, rfl, hi⟩, hb1⟩)
  go_ret
  exact ⟨by rw [← hi]; first | rfl | simp, hb1⟩

theorem impl_any (A : Option Addr) (c : Nat) (xs : List Result) (p q : ByteArray) (w : World) (hx : SR resultRep w (· < w.heap.size) A xs) (hlen : xs.length ≤ maxLen) :
    Calls Try.prog 27 #[.slice A xs.length c, .string p, .string q] w fun e w' => e = .returned (.bool (metIn p q xs)) ∧ Below w.heap.size w w' := by
  have ct := fun (bp bq : Nat) w => contains_any A c xs p q bp bq w
  generalize metIn p q xs = b at ct
  go_enter Try.func27, Try.ntmps27
  go_wp2_with (go_at_call 68; refine (ct _ _ _ (hx.to (by (repeat' (first | (with_reducible exact Below.refl _ _) | (with_reducible assumption) | (with_reducible refine Below.alloc ?_ ?_ _) | (with_reducible refine Below.drew ?_) | (with_reducible refine bdrewN ?_ _) | (with_reducible refine Below.setCell ?_ ?_ _) | (first | (with_reducible exact Nat.le_refl _) | (with_reducible assumption) | omega | (simp only [World.size_alloc, World.size_setCell, World.size_drew]; omega) | (simp; omega) | (simp; done)))))) hlen (by simp [go_sem]) (by simp [go_sem]) (by simp <;> omega) (by simp <;> omega)).mono ?_; rintro e w1 ⟨rfl, hb1⟩)
  go_ret
  exact ⟨rfl, Below.trans (by (repeat' (first | (with_reducible exact Below.refl _ _) | (with_reducible assumption) | (with_reducible refine Below.alloc ?_ ?_ _) | (with_reducible refine Below.drew ?_) | (with_reducible refine bdrewN ?_ _) | (with_reducible refine Below.setCell ?_ ?_ _) | (first | (with_reducible exact Nat.le_refl _) | (with_reducible assumption) | omega | (simp only [World.size_alloc, World.size_setCell, World.size_drew]; omega) | (simp; omega) | (simp; done))))) (hb1.mono (by simp; omega))⟩

set_option maxRecDepth 100000 in
set_option maxHeartbeats 2000000 in
theorem walk (A : Option Addr) (c : Nat) (xs : List Result) (p q : ByteArray) (w : World) (hx : SR resultRep w (· < w.heap.size) A xs) (hlen : xs.length ≤ maxLen) (hok : ∀ x ∈ xs, x.ok) (hp : p.size ≤ maxLen) (hq : q.size ≤ maxLen) :
    Calls Try.prog 6 #[.slice A xs.length c, .string p, .string q] w fun e w' => e = .returned (.bool true) ∧ Below w.heap.size w w' := by
  have cs := fun A c w hx => spec_any A c xs p q w hx hlen
  have ci := fun A c w hx => impl_any A c xs p q w hx hlen
  generalize metIn p q xs = b at cs ci
  have CS := Lib.hid cs
  have CI := Lib.hid ci
  have HOK := Lib.hid hok
  clear hok cs ci
  have hB : Below w.heap.size w w := Below.refl _ _
  have hz : w.heap.size ≤ w.heap.size := Nat.le_refl _
  have t1 := trivial
  have t2 := trivial
  have hm : xs.length ≤ maxLen := hlen
  unfold maxLen at hlen hp hq
  by_cases hpl : (1048576 : Int) < (p.size : Int)
  · go_enter Try.func6, Try.ntmps6
    go_wp2
    go_ret
    exact ⟨rfl, hB⟩
  by_cases hql : (1048576 : Int) < (q.size : Int)
  · go_enter Try.func6, Try.ntmps6
    go_wp2
    go_ret
    exact ⟨rfl, hB⟩
  go_enter Try.func6, Try.ntmps6
  go_upto_region 9 with (first | (go_at_call 24; clear t1; refine (szResultS_any A c xs _ _ hx HOK.out hm (by omega) (by omega)).mono ?_; rintro e w1 ⟨⟨n, rfl, hq0, hq1⟩, hbw1⟩; have hx := (hx.below hbw1).more hbw1.size; have hB := below_go hB hbw1 ⟨rfl, rfl, rfl, rfl⟩ hz; have hz := Nat.le_trans hz hbw1.size))
  · go_ret
    exact ⟨rfl, hB⟩
  have hn : xs.length ≤ 1048576 := by have : 0 ≤ n := by assumption
                                      have := hq1 this
                                      omega
  clear hq0 hq1
  go_upto_region 12 with (first | (go_at_call 26; clear t2; refine (toResultS_any A c xs _ hx hn).mono ?_; rintro e w2 ⟨⟨g, rfl, _, h0⟩, hbw2⟩; have hx := (hx.below hbw2).more hbw2.size; have hB := below_go hB hbw2 ⟨rfl, rfl, rfl, rfl⟩ hz; have hz := Nat.le_trans hz hbw2.size) | (go_at_call 25; refine (CS.out _ _ _ h0).mono ?_; rintro e w3 ⟨rfl, hbw3⟩; have hx := (hx.below hbw3).more hbw3.size; have hB := below_go hB hbw3 ⟨rfl, rfl, rfl, rfl⟩ hz; have hz := Nat.le_trans hz hbw3.size) | (go_at_call 26; refine (toResultS_any A c xs _ hx hn).mono ?_; rintro e w4 ⟨⟨g1, rfl, _, h1⟩, hbw4⟩; have hx := (hx.below hbw4).more hbw4.size; have hB := below_go hB hbw4 ⟨rfl, rfl, rfl, rfl⟩ hz; have hz := Nat.le_trans hz hbw4.size) | (go_at_call 27; refine (CI.out _ _ _ h1).mono ?_; rintro e w5 ⟨rfl, hbw5⟩; have hx := (hx.below hbw5).more hbw5.size; have h1 := (h1.below hbw5).more hbw5.size; have hB := below_go hB hbw5 ⟨rfl, rfl, rfl, rfl⟩ hz; have hz := Nat.le_trans hz hbw5.size))
  go_wp2_with (first | (go_at_call 26; refine (toResultS_any A c xs _ hx hn).mono ?_; rintro e w6 ⟨⟨g2, rfl, _, h2⟩, hbw6⟩; have h1 := (h1.below hbw6).more hbw6.size; have hB := below_go hB hbw6 ⟨rfl, rfl, rfl, rfl⟩ hz; have hz := Nat.le_trans hz hbw6.size) | (go_at_call 28; refine (eqResultS_any _ _ _ _ xs xs _ h1 h2 hm hm).mono ?_; rintro e w7 ⟨rfl, hbw7⟩; have hB := below_go hB hbw7 ⟨rfl, rfl, rfl, rfl⟩ hz; have hz := Nat.le_trans hz hbw7.size))
  all_goals (go_ret; exact ⟨by simp, hB⟩)

theorem given_walk {H : Type} {enc : TypeId × Value → H} (W : World) (args : Array Value) (h : Given enc Try.prog W Try.f6.params.toList args.toList) :
    Calls Try.prog 6 args W fun e W' => e = .returned (.bool true) ∧ Below W.heap.size W W' := by
  rw [Try.params6] at h
  obtain ⟨v0, vs0, hargs, a0, h⟩ := given_cons h
  obtain ⟨v1, vs1, rfl, a1, h⟩ := given_cons h
  obtain ⟨v2, vs2, rfl, a2, h⟩ := given_cons h
  obtain rfl := given_nil h
  obtain rfl : args = #[v0, v1, v2] := by cases args; simp_all
  obtain ⟨A, c, xs, rfl, hc, hm, hx, hok⟩ := cell_ResultS (arg_slice Try.underlying38 a0)
  obtain ⟨p, rfl, hp⟩ := arg_string Try.underlying9 a1
  obtain ⟨q, rfl, hq⟩ := arg_string Try.underlying9 a2
  exact walk A c xs p q W hx (Nat.le_trans hc hm) hok hp hq

set_option maxRecDepth 100000 in
theorem lifted (os : Os) (started : os.Started) (H : Type) (enc : TypeId × Value → H) :
    ReturnsInHanded {} Try.checked os 6 .any (Rows.fnExactHavePlayedSpec.pre6 enc Try.prog Try.f6 Rows.fnExactHavePlayedRow.domain false) (Rows.fnExactHavePlayedSpec.post enc Try.prog Try.f6 false true false false) :=
  law_lift started Try.func6 (by kernel_rfl) (by kernel_rfl) rfl rfl (fun ds h => by match ds, h with | [d0, d1, d2], _ => exact ⟨rfl, rfl, rfl⟩)
    (ChangeSpec.witness6 (enc := enc) (C := Try.checked) false ⟨#[], #[.slice none 0 0, .string ByteArray.empty, .string ByteArray.empty], []⟩ 8 (by kernel_rfl) (by kernel_rfl) (by kernel_rfl) (by kernel_rfl))
    (fun W args h => given_walk W args h)

theorem over : Rows.fnExactHavePlayedRow.holds Try.pinned (OpenSpec.ofChange Rows.fnExactHavePlayedSpec) :=
  OpenClaim.holds_of_wide 6 Try.f6 rfl rfl rfl rfl rfl rfl rfl ⟨rfl, rfl, rfl, rfl, rfl⟩ rfl rfl rfl rfl rfl (by kernel_rfl) Try.func6 (by kernel_rfl)
    (of_decide_eq_true (by kernel_rfl)) (by unfold Func.isWrapper; first | (rw [if_pos (by decide +kernel)]; kernel_rfl) | (rw [if_neg (by decide +kernel)]; exact ⟨rfl, rfl⟩))
    (fun os started H enc _ => lifted os started H enc)

theorem proved : Rows.FnExactHavePlayedSaid :=
  over
#print axioms proved

end Go.Proofs.Ytdngdgjlcfbdhaa.fnExactHavePlayed
