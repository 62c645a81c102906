/- The statement of FnExactValidEnd holds of the given program, for all arguments. Printed by drive.py. -/
import Derived.Test.YtdngdgjlcfbdhaaEngL
import Derived.Test.YtdngdgjlcfbdhaaValidEndRef
import Derived.Test.YtdngdgjlcfbdhaaValidEndPure
namespace Go.Proofs.Ytdngdgjlcfbdhaa.fnExactValidEnd
open Go.ChangeShapes Go.WideShapes Go.ChangeAt Go.RowKit Go.Deep
set_option linter.unusedSimpArgs false
set_option linter.unusedVariables false

theorem ofrow_72 {H : Type} {enc : TypeId × Value → H} {W : World} {row : List Value} (h : Row enc Try.prog W [2, 9, 9, 9, 9, 4] row) : ∃ x, EndRep.R W (· < W.heap.size) x row := by
  match row, h.1 with
  | [v0, v1, v2, v3, v4, v5], _ =>
    obtain ⟨x0, rfl, w0⟩ := cell_i Try.underlying2 (h.2 0 _ _ rfl rfl)
    obtain ⟨x1, rfl, w1⟩ := cell_s Try.underlying9 (h.2 1 _ _ rfl rfl)
    obtain ⟨x2, rfl, w2⟩ := cell_s Try.underlying9 (h.2 2 _ _ rfl rfl)
    obtain ⟨x3, rfl, w3⟩ := cell_s Try.underlying9 (h.2 3 _ _ rfl rfl)
    obtain ⟨x4, rfl, w4⟩ := cell_s Try.underlying9 (h.2 4 _ _ rfl rfl)
    obtain ⟨x5, rfl⟩ := cell_bool Try.underlying4 (h.2 5 _ _ rfl rfl)
    exact ⟨⟨⟨x0, x1, x2⟩, x3, x4, x5⟩, EndRep_mk (x := ⟨⟨x0, x1, x2⟩, x3, x4, x5⟩) w0 w1 w2 w3 w4⟩

theorem leaf_72 : leafT Try.prog 6 72 = some [2, 9, 9, 9, 9, 4] := by kernel_rfl
theorem cells_72 : Try.prog.cellsOf 72 = 6 := by kernel_rfl

theorem given_walk {H : Type} {enc : TypeId × Value → H} (W : World) (args : Array Value) (h : Given enc Try.prog W Try.f12.params.toList args.toList) :
    Calls Try.prog 12 args W fun e W' => e = .returned (.bool true) ∧ Below W.heap.size W W' := by
  rw [Try.params12] at h
  obtain ⟨v0, vs0, hargs, a0, h⟩ := given_cons h
  obtain rfl := given_nil h
  obtain rfl : args = #[v0] := by cases args; simp_all
  obtain ⟨cs0, rfl, hr0⟩ := arg_struct Try.underlying72 leaf_72 cells_72 a0
  obtain ⟨x0, y0⟩ := ofrow_72 hr0
  have z0 : Lies EndRep x0 := ⟨_, _, _, y0⟩
  obtain ⟨rfl, w0_0, w0_1, w0_2, w0_3, w0_4⟩ := EndRep_open y0
  exact (r_laws_FnExactValidEnd (Cx.law W) x0 w0_0 w0_1 w0_2 w0_3 w0_4 true (m_laws_FnExactValidEnd_true x0 z0)).mono fun e w ⟨he, hM⟩ => ⟨he, hM.chg.below⟩

set_option maxRecDepth 100000 in
theorem lifted (os : Os) (started : os.Started) (H : Type) (enc : TypeId × Value → H) :
    ReturnsInHanded {} Try.checked os 12 .any (Rows.fnExactValidEndSpec.pre6 enc Try.prog Try.f12 Rows.fnExactValidEndRow.domain false) (Rows.fnExactValidEndSpec.post enc Try.prog Try.f12 false true false false) :=
  law_lift started Try.func12 (by kernel_rfl) (by kernel_rfl) rfl rfl (fun ds h => by match ds, h with | [d0], _ => exact ⟨rfl, rfl, rfl⟩)
    (ChangeSpec.witness6 (enc := enc) (C := Try.checked) false ⟨#[], #[.agg #[.int .i64 0, .string ByteArray.empty, .string ByteArray.empty, .string ByteArray.empty, .string ByteArray.empty, .bool false]], []⟩ 8 (by kernel_rfl) (by kernel_rfl) (by kernel_rfl) (by kernel_rfl))
    (fun W args h => given_walk W args h)

theorem over : Rows.fnExactValidEndRow.holds Try.pinned (OpenSpec.ofChange Rows.fnExactValidEndSpec) :=
  OpenClaim.holds_of_wide 12 Try.f12 rfl rfl rfl rfl rfl rfl rfl ⟨rfl, rfl, rfl, rfl, rfl⟩ rfl rfl rfl rfl rfl (by kernel_rfl) Try.func12 (by kernel_rfl)
    (of_decide_eq_true (by kernel_rfl)) (by unfold Func.isWrapper; first | (rw [if_pos (by decide +kernel)]; kernel_rfl) | (rw [if_neg (by decide +kernel)]; exact ⟨rfl, rfl⟩))
    (fun os started H enc _ => lifted os started H enc)

theorem proved : Rows.FnExactValidEndSaid :=
  over
#print axioms proved

end Go.Proofs.Ytdngdgjlcfbdhaa.fnExactValidEnd
