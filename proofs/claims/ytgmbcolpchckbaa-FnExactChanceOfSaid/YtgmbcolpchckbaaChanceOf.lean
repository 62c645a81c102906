/- The statement of FnExactChanceOf holds of the given program, for all arguments. Printed by drive.py. -/
import Derived.Test.YtgmbcolpchckbaaEngL
import Derived.Test.YtgmbcolpchckbaaChanceOfRefB
import Derived.Test.YtgmbcolpchckbaaChanceOfPure
namespace Go.Proofs.Ytgmbcolpchckbaa.fnExactChanceOf
open Go.ChangeShapes Go.WideShapes Go.ChangeAt Go.RowKit Go.Deep
set_option linter.unusedSimpArgs false
set_option linter.unusedVariables false

theorem given_walk {H : Type} {enc : TypeId × Value → H} (W : World) (args : Array Value) (h : Given enc Try.prog W Try.f7.params.toList args.toList) :
    Calls Try.prog 7 args W fun e W' => e = .returned (.bool true) ∧ Below W.heap.size W W' := by
  rw [Try.params7] at h
  obtain ⟨v0, vs0, hargs, a0, h⟩ := given_cons h
  obtain ⟨v1, vs1, rfl, a1, h⟩ := given_cons h
  obtain ⟨v2, vs2, rfl, a2, h⟩ := given_cons h
  obtain rfl := given_nil h
  obtain rfl : args = #[v0, v1, v2] := by cases args; simp_all
  obtain ⟨x0, rfl, w0⟩ := arg_s Try.underlying9 a0
  obtain ⟨x1, rfl, w1⟩ := arg_i Try.underlying2 a1
  obtain ⟨x2, rfl, w2⟩ := arg_s Try.underlying9 a2
  exact (r_laws_FnExactChanceOf (Cx.law W (fun _ => False) (fun _ h => h.elim) (Tabs.start W)) x0 w0 x1 w1 x2 w2 true (m_laws_FnExactChanceOf_true x0 x1 x2 ⟨W, fun _ => True, _, rfl, w0⟩ ⟨W, fun _ => True, _, rfl, w1⟩ ⟨W, fun _ => True, _, rfl, w2⟩)).mono fun e w ⟨he, hM⟩ => ⟨he, hM.chg.below⟩

set_option maxRecDepth 100000 in
theorem lifted (os : Os) (started : os.Started) (H : Type) (enc : TypeId × Value → H) :
    ReturnsInHanded {} Try.checked os 7 .any (Rows.fnExactChanceOfSpec.pre6 enc Try.prog Try.f7 Rows.fnExactChanceOfRow.domain false) (Rows.fnExactChanceOfSpec.post enc Try.prog Try.f7 false true false false) :=
  law_lift started Try.func7 (by kernel_rfl) (by kernel_rfl) rfl rfl (fun ds h => by match ds, h with | [d0, d1, d2], _ => exact ⟨rfl, rfl, rfl⟩)
    (ChangeSpec.witness6 (enc := enc) (C := Try.checked) false ⟨#[], #[.string ByteArray.empty, .int .i64 0, .string ByteArray.empty], []⟩ 8 (by kernel_rfl) (by kernel_rfl) (by kernel_rfl) (by kernel_rfl))
    (fun W args h => given_walk W args h)

theorem over : Rows.fnExactChanceOfRow.holds Try.pinned (OpenSpec.ofChange Rows.fnExactChanceOfSpec) :=
  OpenClaim.holds_of_wide 7 Try.f7 rfl rfl rfl rfl rfl rfl rfl ⟨rfl, rfl, rfl, rfl, rfl⟩ rfl rfl rfl rfl rfl (by kernel_rfl) Try.func7 (by kernel_rfl)
    (of_decide_eq_true (by kernel_rfl)) (by unfold Func.isWrapper; first | (rw [if_pos (by decide +kernel)]; kernel_rfl) | (rw [if_neg (by decide +kernel)]; exact ⟨rfl, rfl⟩))
    (fun os started H enc _ => lifted os started H enc)

theorem proved : Rows.FnExactChanceOfSaid :=
  over
#print axioms proved

end Go.Proofs.Ytgmbcolpchckbaa.fnExactChanceOf
