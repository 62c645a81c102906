/- The statement of FnExactSettleEnd holds of the given program, for all arguments. Printed by drive.py. -/
import Derived.Test.YtgmbcolpchckbaaEngL
import Derived.Test.YtgmbcolpchckbaaSettleEndRef
import Derived.Test.YtgmbcolpchckbaaSettleEndPure
namespace Go.Proofs.Ytgmbcolpchckbaa.fnExactSettleEnd
open Go.ChangeShapes Go.WideShapes Go.ChangeAt Go.RowKit Go.Deep
set_option linter.unusedSimpArgs false
set_option linter.unusedVariables false

theorem leaf_2 : leafT Try.prog 6 2 = some [2] := by kernel_rfl
theorem cells_2 : Try.prog.cellsOf 2 = 1 := by kernel_rfl

theorem ofrow_24 {H : Type} {enc : TypeId × Value → H} {W : World} {row : List Value} (h : Row enc Try.prog W [9, 22, 22, 2] row) : ∃ x, TileSetRep.R W (· < W.heap.size) x row := by
  match row, h.1 with
  | [v0, v1, v2, v3], _ =>
    obtain ⟨x0, rfl, w0⟩ := cell_s Try.underlying9 (h.2 0 _ _ rfl rfl)
    obtain ⟨x1, y1⟩ := cell_list intRep Try.underlying22 leaf_2 cells_2 (by decide) rfl (fun row h => row_i Try.underlying2 h) (h.2 1 _ _ rfl rfl)
    obtain ⟨A1, c1, e1, w1⟩ := slice_form y1
    cases e1
    obtain ⟨x2, y2⟩ := cell_list intRep Try.underlying22 leaf_2 cells_2 (by decide) rfl (fun row h => row_i Try.underlying2 h) (h.2 2 _ _ rfl rfl)
    obtain ⟨A2, c2, e2, w2⟩ := slice_form y2
    cases e2
    obtain ⟨x3, rfl, w3⟩ := cell_i Try.underlying2 (h.2 3 _ _ rfl rfl)
    exact ⟨⟨x0, x1, x2, x3⟩, TileSetRep_mk (x := ⟨x0, x1, x2, x3⟩) w0 w1 w2 w3⟩

theorem leaf_24 : leafT Try.prog 6 24 = some [9, 22, 22, 2] := by kernel_rfl
theorem cells_24 : Try.prog.cellsOf 24 = 4 := by kernel_rfl

theorem given_walk {H : Type} {enc : TypeId × Value → H} (W : World) (args : Array Value) (h : Given enc Try.prog W Try.f3.params.toList args.toList) :
    Calls Try.prog 3 args W fun e W' => e = .returned (.bool true) ∧ Below W.heap.size W W' := by
  rw [Try.params3] at h
  obtain ⟨v0, vs0, hargs, a0, h⟩ := given_cons h
  obtain ⟨v1, vs1, rfl, a1, h⟩ := given_cons h
  obtain ⟨v2, vs2, rfl, a2, h⟩ := given_cons h
  obtain rfl := given_nil h
  obtain rfl : args = #[v0, v1, v2] := by cases args; simp_all
  obtain ⟨cs0, rfl, hr0⟩ := arg_struct Try.underlying24 leaf_24 cells_24 a0
  obtain ⟨x0, y0⟩ := ofrow_24 hr0
  have z0 : Lies TileSetRep x0 := ⟨_, _, _, y0⟩
  obtain ⟨A0_1, c0_1, A0_2, c0_2, rfl, w0_0, w0_1, w0_2, w0_3⟩ := TileSetRep_open y0
  obtain ⟨x1, rfl, w1⟩ := arg_s Try.underlying9 a1
  obtain ⟨x2, rfl, w2⟩ := arg_s Try.underlying9 a2
  exact (r_laws_FnExactSettleEnd (Cx.law W) x0 w0_0 A0_1 c0_1 w0_1 A0_2 c0_2 w0_2 w0_3 x1 w1 x2 w2 true (m_laws_FnExactSettleEnd_true x0 x1 x2 z0 ⟨W, fun _ => True, _, rfl, w1⟩ ⟨W, fun _ => True, _, rfl, w2⟩)).mono fun e w ⟨he, hM⟩ => ⟨he, hM.chg.below⟩

set_option maxRecDepth 100000 in
theorem lifted (os : Os) (started : os.Started) (H : Type) (enc : TypeId × Value → H) :
    ReturnsInHanded {} Try.checked os 3 .any (Rows.fnExactSettleEndSpec.pre6 enc Try.prog Try.f3 Rows.fnExactSettleEndRow.domain false) (Rows.fnExactSettleEndSpec.post enc Try.prog Try.f3 false true false false) :=
  law_lift started Try.func3 (by kernel_rfl) (by kernel_rfl) rfl rfl (fun ds h => by match ds, h with | [d0, d1, d2], _ => exact ⟨rfl, rfl, rfl⟩)
    (ChangeSpec.witness6 (enc := enc) (C := Try.checked) false ⟨#[], #[.agg #[.string ByteArray.empty, .slice none 0 0, .slice none 0 0, .int .i64 0], .string ByteArray.empty, .string ByteArray.empty], []⟩ 8 (by kernel_rfl) (by kernel_rfl) (by kernel_rfl) (by kernel_rfl))
    (fun W args h => given_walk W args h)

theorem over : Rows.fnExactSettleEndRow.holds Try.pinned (OpenSpec.ofChange Rows.fnExactSettleEndSpec) :=
  OpenClaim.holds_of_wide 3 Try.f3 rfl rfl rfl rfl rfl rfl rfl ⟨rfl, rfl, rfl, rfl, rfl⟩ rfl rfl rfl rfl rfl (by kernel_rfl) Try.func3 (by kernel_rfl)
    (of_decide_eq_true (by kernel_rfl)) (by unfold Func.isWrapper; first | (rw [if_pos (by decide +kernel)]; kernel_rfl) | (rw [if_neg (by decide +kernel)]; exact ⟨rfl, rfl⟩))
    (fun os started H enc _ => lifted os started H enc)

theorem proved : Rows.FnExactSettleEndSaid :=
  over
#print axioms proved

end Go.Proofs.Ytgmbcolpchckbaa.fnExactSettleEnd
