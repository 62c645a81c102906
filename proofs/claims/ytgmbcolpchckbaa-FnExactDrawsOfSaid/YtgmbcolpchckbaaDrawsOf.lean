/- The statement of FnExactDrawsOf holds of the given program, for all arguments. Printed by drive.py. -/
import Derived.Test.YtgmbcolpchckbaaEngL
import Derived.Test.YtgmbcolpchckbaaDrawsOfRef
import Derived.Test.YtgmbcolpchckbaaDrawsOfPure
namespace Go.Proofs.Ytgmbcolpchckbaa.fnExactDrawsOf
open Go.ChangeShapes Go.WideShapes Go.ChangeAt Go.RowKit Go.Deep
set_option linter.unusedSimpArgs false
set_option linter.unusedVariables false

theorem given_walk {H : Type} {enc : TypeId × Value → H} (W : World) (args : Array Value) (h : Given enc Try.prog W Try.f6.params.toList args.toList) :
    Calls Try.prog 6 args W fun e W' => e = .returned (.bool true) ∧ Below W.heap.size W W' := by
  rw [Try.params6] at h
  obtain ⟨v0, vs0, hargs, a0, h⟩ := given_cons h
  obtain ⟨v1, vs1, rfl, a1, h⟩ := given_cons h
  obtain rfl := given_nil h
  obtain rfl : args = #[v0, v1] := by cases args; simp_all
  obtain ⟨x0, rfl, w0⟩ := arg_s Try.underlying9 a0
  obtain ⟨x1, rfl, w1⟩ := arg_i Try.underlying2 a1
  exact (r_laws_FnExactDrawsOf (Cx.law W (fun _ => False) (fun _ h => h.elim) (Tabs.start W)) x0 w0 x1 w1 true (m_laws_FnExactDrawsOf_true x0 x1 ⟨W, fun _ => True, _, rfl, w0⟩ ⟨W, fun _ => True, _, rfl, w1⟩)).mono fun e w ⟨he, hM⟩ => ⟨he, hM.chg.below⟩

set_option maxRecDepth 100000 in
theorem lifted (os : Os) (started : os.Started) (H : Type) (enc : TypeId × Value → H) :
    ReturnsInHanded {} Try.checked os 6 .any (Rows.fnExactDrawsOfSpec.pre6 enc Try.prog Try.f6 Rows.fnExactDrawsOfRow.domain false) (Rows.fnExactDrawsOfSpec.post enc Try.prog Try.f6 false true false false) :=
  law_lift started Try.func6 (by kernel_rfl) (by kernel_rfl) rfl rfl (fun ds h => by match ds, h with | [d0, d1], _ => exact ⟨rfl, rfl, rfl⟩)
    (ChangeSpec.witness6 (enc := enc) (C := Try.checked) false ⟨#[], #[.string ByteArray.empty, .int .i64 0], []⟩ 8 (by kernel_rfl) (by kernel_rfl) (by kernel_rfl) (by kernel_rfl))
    (fun W args h => given_walk W args h)

theorem over : Rows.fnExactDrawsOfRow.holds Try.pinned (OpenSpec.ofChange Rows.fnExactDrawsOfSpec) :=
  OpenClaim.holds_of_wide 6 Try.f6 rfl rfl rfl rfl rfl rfl rfl ⟨rfl, rfl, rfl, rfl, rfl⟩ rfl rfl rfl rfl rfl (by kernel_rfl) Try.func6 (by kernel_rfl)
    (of_decide_eq_true (by kernel_rfl)) (by unfold Func.isWrapper; first | (rw [if_pos (by decide +kernel)]; kernel_rfl) | (rw [if_neg (by decide +kernel)]; exact ⟨rfl, rfl⟩))
    (fun os started H enc _ => lifted os started H enc)

theorem proved : Rows.FnExactDrawsOfSaid :=
  over
#print axioms proved

end Go.Proofs.Ytgmbcolpchckbaa.fnExactDrawsOf
