/- The statement of FnFillings holds of the given program, for all arguments. Printed by drive.py. -/
import Derived.Test.YtgmikhdealhlfaaEngL
import Derived.Test.YtgmikhdealhlfaaFnFillingsRefD
import Derived.Test.YtgmikhdealhlfaaFnFillingsPure
namespace Go.Proofs.Ytgmikhdealhlfaa.fnFillings
open Go.ChangeShapes Go.WideShapes Go.ChangeAt Go.RowKit Go.Deep
set_option linter.unusedSimpArgs false
set_option linter.unusedVariables false

theorem leaf_5 : leafT Try.prog 6 5 = some [5] := by kernel_rfl
theorem cells_5 : Try.prog.cellsOf 5 = 1 := by kernel_rfl

theorem given_walk {H : Type} {enc : TypeId × Value → H} (W : World) (args : Array Value) (h : Given enc Try.prog W Try.f11.params.toList args.toList) :
    Calls Try.prog 11 args W fun e W' => e = .returned (.bool true) ∧ Below W.heap.size W W' := by
  rw [Try.params11] at h
  obtain ⟨v0, vs0, hargs, a0, h⟩ := given_cons h
  obtain rfl := given_nil h
  obtain rfl : args = #[v0] := by cases args; simp_all
  obtain ⟨x0, y0⟩ := cell_list byteRep Try.underlying63 leaf_5 cells_5 (by decide) rfl (fun row h => row_c Try.underlying5 h) (arg_slice Try.underlying63 a0)
  obtain ⟨A0, c0, e0, w0⟩ := slice_form y0
  cases e0
  exact (r_laws_FnFillings (Cx.law W (fun _ => False) (fun _ h => h.elim) (Tabs.start W)) x0 A0 c0 w0 true (m_laws_FnFillings_true x0 ⟨_, _, _, w0⟩)).mono fun e w ⟨he, hM⟩ => ⟨he, hM.chg.below⟩

set_option maxRecDepth 100000 in
theorem lifted (os : Os) (started : os.Started) (H : Type) (enc : TypeId × Value → H) :
    ReturnsInHanded {} Try.checked os 11 .any (Rows.fnFillingsSpec.pre6 enc Try.prog Try.f11 Rows.fnFillingsRow.domain false) (Rows.fnFillingsSpec.post enc Try.prog Try.f11 false true false false) :=
  law_lift started Try.func11 (by kernel_rfl) (by kernel_rfl) rfl rfl (fun ds h => by match ds, h with | [d0], _ => exact ⟨rfl, rfl, rfl⟩)
    (ChangeSpec.witness6 (enc := enc) (C := Try.checked) false ⟨#[], #[.slice none 0 0], []⟩ 8 (by kernel_rfl) (by kernel_rfl) (by kernel_rfl) (by kernel_rfl))
    (fun W args h => given_walk W args h)

theorem over : Rows.fnFillingsRow.holds Try.pinned (OpenSpec.ofChange Rows.fnFillingsSpec) :=
  OpenClaim.holds_of_wide 11 Try.f11 rfl rfl rfl rfl rfl rfl rfl ⟨rfl, rfl, rfl, rfl, rfl⟩ rfl rfl rfl rfl rfl (by kernel_rfl) Try.func11 (by kernel_rfl)
    (of_decide_eq_true (by kernel_rfl)) (by unfold Func.isWrapper; first | (rw [if_pos (by decide +kernel)]; kernel_rfl) | (rw [if_neg (by decide +kernel)]; exact ⟨rfl, rfl⟩))
    (fun os started H enc _ => lifted os started H enc)

theorem proved : Rows.FnFillingsSaid :=
  over
#print axioms proved

end Go.Proofs.Ytgmikhdealhlfaa.fnFillings
