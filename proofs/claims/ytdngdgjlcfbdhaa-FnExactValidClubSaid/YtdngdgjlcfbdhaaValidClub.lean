/- The statement of FnExactValidClub holds of the given program, for all arguments. Printed by drive.py. -/
import Derived.Test.YtdngdgjlcfbdhaaEngL
import Derived.Test.YtdngdgjlcfbdhaaValidClubRef
import Derived.Test.YtdngdgjlcfbdhaaValidClubPure
namespace Go.Proofs.Ytdngdgjlcfbdhaa.fnExactValidClub
open Go.ChangeShapes Go.WideShapes Go.ChangeAt Go.RowKit Go.Deep
set_option linter.unusedSimpArgs false
set_option linter.unusedVariables false

theorem ofrow_140 {H : Type} {enc : TypeId × Value → H} {W : World} {row : List Value} (h : Row enc Try.prog W [9, 2] row) : ∃ x, MemberRep.R W (· < W.heap.size) x row := by
  match row, h.1 with
  | [v0, v1], _ =>
    obtain ⟨x0, rfl, w0⟩ := cell_s Try.underlying9 (h.2 0 _ _ rfl rfl)
    obtain ⟨x1, rfl, w1⟩ := cell_i Try.underlying2 (h.2 1 _ _ rfl rfl)
    exact ⟨⟨x0, x1⟩, MemberRep_mk (x := ⟨x0, x1⟩) w0 w1⟩

theorem leaf_140 : leafT Try.prog 6 140 = some [9, 2] := by kernel_rfl
theorem cells_140 : Try.prog.cellsOf 140 = 2 := by kernel_rfl

theorem ofrow_50 {H : Type} {enc : TypeId × Value → H} {W : World} {row : List Value} (h : Row enc Try.prog W [48] row) : ∃ x, ClubRep.R W (· < W.heap.size) x row := by
  match row, h.1 with
  | [v0], _ =>
    obtain ⟨x0, y0⟩ := cell_list MemberRep Try.underlying48 leaf_140 cells_140 (by decide) rfl (fun row h => ofrow_140 h) (h.2 0 _ _ rfl rfl)
    obtain ⟨A0, c0, e0, w0⟩ := slice_form y0
    cases e0
    exact ⟨⟨x0⟩, ClubRep_mk (x := ⟨x0⟩) w0⟩

theorem leaf_50 : leafT Try.prog 6 50 = some [48] := by kernel_rfl
theorem cells_50 : Try.prog.cellsOf 50 = 1 := by kernel_rfl

theorem given_walk {H : Type} {enc : TypeId × Value → H} (W : World) (args : Array Value) (h : Given enc Try.prog W Try.f10.params.toList args.toList) :
    Calls Try.prog 10 args W fun e W' => e = .returned (.bool true) ∧ Below W.heap.size W W' := by
  rw [Try.params10] at h
  obtain ⟨v0, vs0, hargs, a0, h⟩ := given_cons h
  obtain rfl := given_nil h
  obtain rfl : args = #[v0] := by cases args; simp_all
  obtain ⟨cs0, rfl, hr0⟩ := arg_struct Try.underlying50 leaf_50 cells_50 a0
  obtain ⟨x0, y0⟩ := ofrow_50 hr0
  have z0 : Lies ClubRep x0 := ⟨_, _, _, y0⟩
  obtain ⟨A0_0, c0_0, rfl, w0_0⟩ := ClubRep_open y0
  exact (r_laws_FnExactValidClub (Cx.law W) x0 A0_0 c0_0 w0_0 true (m_laws_FnExactValidClub_true x0 z0)).mono fun e w ⟨he, hM⟩ => ⟨he, hM.chg.below⟩

set_option maxRecDepth 100000 in
theorem lifted (os : Os) (started : os.Started) (H : Type) (enc : TypeId × Value → H) :
    ReturnsInHanded {} Try.checked os 10 .any (Rows.fnExactValidClubSpec.pre6 enc Try.prog Try.f10 Rows.fnExactValidClubRow.domain false) (Rows.fnExactValidClubSpec.post enc Try.prog Try.f10 false true false false) :=
  law_lift started Try.func10 (by kernel_rfl) (by kernel_rfl) rfl rfl (fun ds h => by match ds, h with | [d0], _ => exact ⟨rfl, rfl, rfl⟩)
    (ChangeSpec.witness6 (enc := enc) (C := Try.checked) false ⟨#[], #[.agg #[.slice none 0 0]], []⟩ 8 (by kernel_rfl) (by kernel_rfl) (by kernel_rfl) (by kernel_rfl))
    (fun W args h => given_walk W args h)

theorem over : Rows.fnExactValidClubRow.holds Try.pinned (OpenSpec.ofChange Rows.fnExactValidClubSpec) :=
  OpenClaim.holds_of_wide 10 Try.f10 rfl rfl rfl rfl rfl rfl rfl ⟨rfl, rfl, rfl, rfl, rfl⟩ rfl rfl rfl rfl rfl (by kernel_rfl) Try.func10 (by kernel_rfl)
    (of_decide_eq_true (by kernel_rfl)) (by unfold Func.isWrapper; first | (rw [if_pos (by decide +kernel)]; kernel_rfl) | (rw [if_neg (by decide +kernel)]; exact ⟨rfl, rfl⟩))
    (fun os started H enc _ => lifted os started H enc)

theorem proved : Rows.FnExactValidClubSaid :=
  over
#print axioms proved

end Go.Proofs.Ytdngdgjlcfbdhaa.fnExactValidClub
