/- The statement of FnExactProveNoFill holds of the given program, for all arguments. Printed by drive.py. -/
import Derived.Test.YtgmikhdealhlfaaEngL
import Derived.Test.YtgmikhdealhlfaaProveNoFillRefC
import Derived.Test.YtgmikhdealhlfaaProveNoFillPure
namespace Go.Proofs.Ytgmikhdealhlfaa.fnExactProveNoFill
open Go.ChangeShapes Go.WideShapes Go.ChangeAt Go.RowKit Go.Deep
set_option linter.unusedSimpArgs false
set_option linter.unusedVariables false

theorem ofrow_23 {H : Type} {enc : TypeId × Value → H} {W : World} {row : List Value} (h : Row enc Try.prog W [2, 2, 9] row) : ∃ x, GridRep.R W (· < W.heap.size) x row := by
  match row, h.1 with
  | [v0, v1, v2], _ =>
    obtain ⟨x0, rfl, w0⟩ := cell_i Try.underlying2 (h.2 0 _ _ rfl rfl)
    obtain ⟨x1, rfl, w1⟩ := cell_i Try.underlying2 (h.2 1 _ _ rfl rfl)
    obtain ⟨x2, rfl, w2⟩ := cell_s Try.underlying9 (h.2 2 _ _ rfl rfl)
    exact ⟨⟨x0, x1, x2⟩, GridRep_mk (x := ⟨x0, x1, x2⟩) w0 w1 w2⟩

theorem leaf_23 : leafT Try.prog 6 23 = some [2, 2, 9] := by kernel_rfl
theorem cells_23 : Try.prog.cellsOf 23 = 3 := by kernel_rfl

theorem leaf_9 : leafT Try.prog 6 9 = some [9] := by kernel_rfl
theorem cells_9 : Try.prog.cellsOf 9 = 1 := by kernel_rfl

theorem ofrow_42 {H : Type} {enc : TypeId × Value → H} {W : World} {row : List Value} (h : Row enc Try.prog W [40] row) : ∃ x, LexiconRep.R W (· < W.heap.size) x row := by
  match row, h.1 with
  | [v0], _ =>
    obtain ⟨x0, y0⟩ := cell_list strRep Try.underlying40 leaf_9 cells_9 (by decide) rfl (fun row h => row_s Try.underlying9 h) (h.2 0 _ _ rfl rfl)
    obtain ⟨A0, c0, e0, w0⟩ := slice_form y0
    cases e0
    exact ⟨⟨x0⟩, LexiconRep_mk (x := ⟨x0⟩) w0⟩

theorem leaf_42 : leafT Try.prog 6 42 = some [40] := by kernel_rfl
theorem cells_42 : Try.prog.cellsOf 42 = 1 := by kernel_rfl

theorem given_walk {H : Type} {enc : TypeId × Value → H} (W : World) (args : Array Value) (h : Given enc Try.prog W Try.f10.params.toList args.toList) :
    Calls Try.prog 10 args W fun e W' => e = .returned (.bool true) ∧ Below W.heap.size W W' := by
  rw [Try.params10] at h
  obtain ⟨v0, vs0, hargs, a0, h⟩ := given_cons h
  obtain ⟨v1, vs1, rfl, a1, h⟩ := given_cons h
  obtain rfl := given_nil h
  obtain rfl : args = #[v0, v1] := by cases args; simp_all
  obtain ⟨cs0, rfl, hr0⟩ := arg_struct Try.underlying23 leaf_23 cells_23 a0
  obtain ⟨x0, y0⟩ := ofrow_23 hr0
  have z0 : Lies GridRep x0 := ⟨_, _, _, y0⟩
  obtain ⟨rfl, w0_0, w0_1, w0_2⟩ := GridRep_open y0
  obtain ⟨cs1, rfl, hr1⟩ := arg_struct Try.underlying42 leaf_42 cells_42 a1
  obtain ⟨x1, y1⟩ := ofrow_42 hr1
  have z1 : Lies LexiconRep x1 := ⟨_, _, _, y1⟩
  obtain ⟨A1_0, c1_0, rfl, w1_0⟩ := LexiconRep_open y1
  exact (r_laws_FnExactProveNoFill (Cx.law W (fun _ => False) (fun _ h => h.elim) (Tabs.start W)) x0 w0_0 w0_1 w0_2 x1 A1_0 c1_0 w1_0 true (m_laws_FnExactProveNoFill_true x0 x1 z0 z1)).mono fun e w ⟨he, hM⟩ => ⟨he, hM.chg.below⟩

set_option maxRecDepth 100000 in
theorem lifted (os : Os) (started : os.Started) (H : Type) (enc : TypeId × Value → H) :
    ReturnsInHanded {} Try.checked os 10 .any (Rows.fnExactProveNoFillSpec.pre6 enc Try.prog Try.f10 Rows.fnExactProveNoFillRow.domain false) (Rows.fnExactProveNoFillSpec.post enc Try.prog Try.f10 false true false false) :=
  law_lift started Try.func10 (by kernel_rfl) (by kernel_rfl) rfl rfl (fun ds h => by match ds, h with | [d0, d1], _ => exact ⟨rfl, rfl, rfl⟩)
    (ChangeSpec.witness6 (enc := enc) (C := Try.checked) false ⟨#[], #[.agg #[.int .i64 0, .int .i64 0, .string ByteArray.empty], .agg #[.slice none 0 0]], []⟩ 8 (by kernel_rfl) (by kernel_rfl) (by kernel_rfl) (by kernel_rfl))
    (fun W args h => given_walk W args h)

theorem over : Rows.fnExactProveNoFillRow.holds Try.pinned (OpenSpec.ofChange Rows.fnExactProveNoFillSpec) :=
  OpenClaim.holds_of_wide 10 Try.f10 rfl rfl rfl rfl rfl rfl rfl ⟨rfl, rfl, rfl, rfl, rfl⟩ rfl rfl rfl rfl rfl (by kernel_rfl) Try.func10 (by kernel_rfl)
    (of_decide_eq_true (by kernel_rfl)) (by unfold Func.isWrapper; first | (rw [if_pos (by decide +kernel)]; kernel_rfl) | (rw [if_neg (by decide +kernel)]; exact ⟨rfl, rfl⟩))
    (fun os started H enc _ => lifted os started H enc)

theorem proved : Rows.FnExactProveNoFillSaid :=
  over
#print axioms proved

end Go.Proofs.Ytgmikhdealhlfaa.fnExactProveNoFill
