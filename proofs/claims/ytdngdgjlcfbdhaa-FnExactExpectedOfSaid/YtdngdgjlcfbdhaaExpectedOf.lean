/- ExpectedOf: the program and the reference give the same for all ratings. -/
import Derived.Test.YtdngdgjlcfbdhaaInts
import Derived.Test.YtdngdgjlcfbdhaaOpen
namespace Go.Proofs.Ytdngdgjlcfbdhaa.fnExactExpectedOf
open Go.ChangeShapes Go.WideShapes Go.ChangeAt Go.RowKit

def far (a b : Int) : Int := 2000 + 5 * max (-400) (min (a - b) 400)

theorem rating_any (x : Int) (w : World) :
    Calls Try.prog 54 #[.int .i64 x] w fun e w' => e = .returned (.bool (inR x 0 4000)) ∧ w = w' := by
  go_enter Try.func54, Try.ntmps54
  go_wp2_with (go_at_call 95; refine (l00In_any _ _ _ _).mono ?_; rintro e w' ⟨rfl, rfl⟩)
  go_ret
  exact ⟨rfl, rfl⟩

theorem specExpected_any (a b : Int) (w : World) (ha : 0 ≤ a) (ha' : a ≤ 4000) (hb : 0 ≤ b) (hb' : b ≤ 4000) :
    Calls Try.prog 55 #[.int .i64 a, .int .i64 b] w fun e w' => e = .returned (.int .i64 (far a b)) ∧ w = w' := by
  go_enter Try.func55, Try.ntmps55
  go_wp2_with (first
    | (go_at_call 97; refine (l00Min_any _ _ _).mono ?_; rintro e w' ⟨rfl, rfl⟩)
    | (go_at_call 96; refine (l00Max_any _ _ _).mono ?_; rintro e w' ⟨rfl, rfl⟩))
  go_ret
  refine ⟨?_, rfl⟩
  unfold far
  exact ret_int (by omega)

theorem expected_any (a b : Int) (w : World) (ha : 0 ≤ a) (ha' : a ≤ 4000) (hb : 0 ≤ b) (hb' : b ≤ 4000) :
    Calls Try.prog 57 #[.int .i64 a, .int .i64 b] w fun e w' => e = .returned (.int .i64 (far a b)) ∧ w = w' := by
  go_enter Try.func57, Try.ntmps57
  go_wp2_with (go_at_call 98; refine (clamp64_any _ _ _ _).mono ?_; rintro e w' ⟨rfl, rfl⟩)
  go_ret
  refine ⟨?_, rfl⟩
  unfold far
  exact ret_int (by omega)


def expOf (a b : Int) : Int × Int := if inR a 0 4000 && inR b 0 4000 then (far a b, 0) else (0, 2)

theorem spec_any (a b : Int) (w : World) :
    Calls Try.prog 15 #[.int .i64 a, .int .i64 b] w fun e w' => e = .returned (.tuple #[.int .i64 (expOf a b).1, .int .i64 (expOf a b).2]) ∧ w = w' := by
  cases ha : inR a 0 4000
  · have hfin : expOf a b = (0, 2) := by simp [expOf, ha]
    have Hf := Lib.hid hfin; clear hfin
    go_enter Try.func15, Try.ntmps15
    go_wp2_with (go_at_call 54; refine (rating_any _ _).mono ?_; rintro e w' ⟨rfl, rfl⟩)
    go_ret2
    rw [Hf.out]; exact ⟨rfl, rfl⟩
  cases hb : inR b 0 4000
  · have hfin : expOf a b = (0, 2) := by simp [expOf, hb]
    have Hf := Lib.hid hfin; clear hfin
    go_enter Try.func15, Try.ntmps15
    go_wp2_with (go_at_call 54; refine (rating_any _ _).mono ?_; rintro e w' ⟨rfl, rfl⟩)
    go_ret2
    rw [Hf.out]; exact ⟨rfl, rfl⟩
  · have hfin : expOf a b = (far a b, 0) := by simp [expOf, ha, hb]
    have Hf := Lib.hid hfin; clear hfin
    have h1 := inR_true ha
    have h2 := inR_true hb
    go_enter Try.func15, Try.ntmps15
    go_wp2_with (first
      | (go_at_call 54; refine (rating_any _ _).mono ?_; rintro e w' ⟨rfl, rfl⟩)
      | (go_at_call 55; refine (specExpected_any _ _ _ h1.1 h1.2 h2.1 h2.2).mono ?_; rintro e w' ⟨rfl, rfl⟩))
    go_ret2
    rw [Hf.out]; exact ⟨rfl, rfl⟩

theorem impl_any (a b : Int) (w : World) :
    Calls Try.prog 16 #[.int .i64 a, .int .i64 b] w fun e w' => e = .returned (.tuple #[.int .i64 (expOf a b).1, .int .i64 (expOf a b).2]) ∧ w = w' := by
  cases ha : inR a 0 4000
  · have hfin : expOf a b = (0, 2) := by simp [expOf, ha]
    have Hf := Lib.hid hfin; clear hfin
    go_enter Try.func16, Try.ntmps16
    go_wp2_with (go_at_call 56; refine (within_any _ _ _ _).mono ?_; rintro e w' ⟨rfl, rfl⟩)
    go_ret2
    rw [Hf.out]; exact ⟨rfl, rfl⟩
  cases hb : inR b 0 4000
  · have hfin : expOf a b = (0, 2) := by simp [expOf, hb]
    have Hf := Lib.hid hfin; clear hfin
    go_enter Try.func16, Try.ntmps16
    go_wp2_with (go_at_call 56; refine (within_any _ _ _ _).mono ?_; rintro e w' ⟨rfl, rfl⟩)
    go_ret2
    rw [Hf.out]; exact ⟨rfl, rfl⟩
  · have hfin : expOf a b = (far a b, 0) := by simp [expOf, ha, hb]
    have Hf := Lib.hid hfin; clear hfin
    have h1 := inR_true ha
    have h2 := inR_true hb
    go_enter Try.func16, Try.ntmps16
    go_wp2_with (first
      | (go_at_call 56; refine (within_any _ _ _ _).mono ?_; rintro e w' ⟨rfl, rfl⟩)
      | (go_at_call 57; refine (expected_any _ _ _ h1.1 h1.2 h2.1 h2.2).mono ?_; rintro e w' ⟨rfl, rfl⟩))
    go_ret2
    rw [Hf.out]; exact ⟨rfl, rfl⟩

theorem walk (a b : Int) (w : World) :
    Calls Try.prog 3 #[.int .i64 a, .int .i64 b] w fun e w' => e = .returned (.bool true) ∧ Below w.heap.size w w' := by
  go_enter Try.func3, Try.ntmps3
  go_wp2_with (first
      | (go_at_call 16; refine (impl_any _ _ _).mono ?_; rintro e w' ⟨rfl, rfl⟩)
      | (go_at_call 15; refine (spec_any _ _ _).mono ?_; rintro e w' ⟨rfl, rfl⟩))
  go_ret
  exact ⟨rfl, Below.refl _ _⟩

theorem given_walk {H : Type} {enc : TypeId × Value → H} (W : World) (args : Array Value) (h : Given enc Try.prog W Try.f3.params.toList args.toList) :
    Calls Try.prog 3 args W fun e W' => e = .returned (.bool true) ∧ Below W.heap.size W W' := by
  rw [Try.params3] at h
  obtain ⟨v0, vs0, hargs, a0, h⟩ := given_cons h
  obtain ⟨v1, vs1, rfl, a1, h⟩ := given_cons h
  obtain rfl := given_nil h
  obtain rfl : args = #[v0, v1] := by cases args; simp_all
  obtain ⟨n0, rfl, _⟩ := arg_int Try.underlying2 a0
  obtain ⟨n1, rfl, _⟩ := arg_int Try.underlying2 a1
  exact walk n0 n1 W

set_option maxRecDepth 100000 in
theorem lifted (os : Os) (started : os.Started) (H : Type) (enc : TypeId × Value → H) :
    ReturnsInHanded {} Try.checked os 3 .any (Rows.fnExactExpectedOfSpec.pre6 enc Try.prog Try.f3 Rows.fnExactExpectedOfRow.domain false) (Rows.fnExactExpectedOfSpec.post enc Try.prog Try.f3 false true false false) :=
  law_lift started Try.func3 (by kernel_rfl) (by kernel_rfl) rfl rfl (fun ds h => by match ds, h with | [d0, d1], _ => exact ⟨rfl, rfl, rfl⟩)
    (ChangeSpec.witness6 (enc := enc) (C := Try.checked) false ⟨#[], #[.int .i64 0, .int .i64 0], []⟩ 8 (by kernel_rfl) (by kernel_rfl) (by kernel_rfl) (by kernel_rfl))
    (fun W args h => given_walk W args h)

theorem over : Rows.fnExactExpectedOfRow.holds Try.pinned (OpenSpec.ofChange Rows.fnExactExpectedOfSpec) :=
  OpenClaim.holds_of_wide 3 Try.f3 rfl rfl rfl rfl rfl rfl rfl ⟨rfl, rfl, rfl, rfl, rfl⟩ rfl rfl rfl rfl rfl (by kernel_rfl) Try.func3 (by kernel_rfl)
    (of_decide_eq_true (by kernel_rfl)) (by unfold Func.isWrapper; first | (rw [if_pos (by decide +kernel)]; kernel_rfl) | (rw [if_neg (by decide +kernel)]; exact ⟨rfl, rfl⟩))
    (fun os started H enc _ => lifted os started H enc)

theorem proved : Rows.FnExactExpectedOfSaid :=
  over
#print axioms proved

end Go.Proofs.Ytdngdgjlcfbdhaa.fnExactExpectedOf
