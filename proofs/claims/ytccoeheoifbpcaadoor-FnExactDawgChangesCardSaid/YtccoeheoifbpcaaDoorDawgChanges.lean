/- The statement of FnExactDawgChanges holds of the given program, for all arguments. Printed by drive.py. -/
import Derived.SevenTiedAt
import Derived.LaidMore
import Derived.Test.YtccoeheoifbpcaaDoorTie
import Derived.Test.YtccoeheoifbpcaaDoorCards
import Derived.Test.YtccoeheoifbpcaaDoorEngS
import Derived.Test.YtccoeheoifbpcaaDoorEngL
import Derived.Test.YtccoeheoifbpcaaDoorDawgChangesRefC
import Derived.Test.YtccoeheoifbpcaaDoorDawgChangesPure
namespace Go.Proofs.YtccoeheoifbpcaaDoor.fnExactDawgChanges
open Go.ChangeShapes Go.WideShapes Go.ChangeAt Go.RowKit Go.Deep
set_option linter.unusedSimpArgs false
set_option linter.unusedVariables false

theorem leaf_2 : leafT Tryd.prog 6 2 = some [2] := by kernel_rfl
theorem cells_2 : Tryd.prog.cellsOf 2 = 1 := by kernel_rfl

theorem ofrow_54 {H : Type} {enc : TypeId × Value → H} {W : World} {row : List Value} (h : Row enc Tryd.prog W [4, 9, 52] row) : ∃ x, NodeRep.R W (· < W.heap.size) x row := by
  match row, h.1 with
  | [v0, v1, v2], _ =>
    obtain ⟨x0, rfl⟩ := cell_bool Tryd.underlying4 (h.2 0 _ _ rfl rfl)
    obtain ⟨x1, rfl, w1⟩ := cell_s Tryd.underlying9 (h.2 1 _ _ rfl rfl)
    obtain ⟨x2, y2⟩ := cell_list intRep Tryd.underlying52 leaf_2 cells_2 (by decide) rfl (fun row h => row_i Tryd.underlying2 h) (h.2 2 _ _ rfl rfl)
    obtain ⟨A2, c2, e2, w2⟩ := slice_form y2
    cases e2
    exact ⟨⟨x0, x1, x2⟩, NodeRep_mk (x := ⟨x0, x1, x2⟩) w1 w2⟩

theorem leaf_54 : leafT Tryd.prog 6 54 = some [4, 9, 52] := by kernel_rfl
theorem cells_54 : Tryd.prog.cellsOf 54 = 3 := by kernel_rfl

theorem ofrow_24 {H : Type} {enc : TypeId × Value → H} {W : World} {row : List Value} (h : Row enc Tryd.prog W [22] row) : ∃ x, DawgRep.R W (· < W.heap.size) x row := by
  match row, h.1 with
  | [v0], _ =>
    obtain ⟨x0, y0⟩ := cell_list NodeRep Tryd.underlying22 leaf_54 cells_54 (by decide) rfl (fun row h => ofrow_54 h) (h.2 0 _ _ rfl rfl)
    obtain ⟨A0, c0, e0, w0⟩ := slice_form y0
    cases e0
    exact ⟨⟨x0⟩, DawgRep_mk (x := ⟨x0⟩) w0⟩

theorem leaf_24 : leafT Tryd.prog 6 24 = some [22] := by kernel_rfl
theorem cells_24 : Tryd.prog.cellsOf 24 = 1 := by kernel_rfl

theorem given_walk {H : Type} {enc : TypeId × Value → H} (W : World) (args : Array Value) (hL : laidMetH Tryd.prog laidL W) (hS : W.ShapedOpen Tryd.prog) (h : Given enc Tryd.prog W Tryd.f3.params.toList args.toList) :
    Calls Tryd.prog 3 args W fun e W' => e = .returned (.bool true) ∧ Below W.heap.size W W' := by
  rw [Tryd.params3] at h
  obtain ⟨v0, vs0, hargs, a0, h⟩ := given_cons h
  obtain ⟨v1, vs1, rfl, a1, h⟩ := given_cons h
  obtain rfl := given_nil h
  obtain rfl : args = #[v0, v1] := by cases args; simp_all
  obtain ⟨cs0, rfl, hr0⟩ := arg_struct Tryd.underlying24 leaf_24 cells_24 a0
  obtain ⟨x0, y0⟩ := ofrow_24 hr0
  have z0 : Lies DawgRep x0 := ⟨_, _, _, y0⟩
  obtain ⟨A0_0, c0_0, rfl, w0_0⟩ := DawgRep_open y0
  obtain ⟨cs1, rfl, hr1⟩ := arg_struct Tryd.underlying24 leaf_24 cells_24 a1
  obtain ⟨x1, y1⟩ := ofrow_24 hr1
  have z1 : Lies DawgRep x1 := ⟨_, _, _, y1⟩
  obtain ⟨A1_0, c1_0, rfl, w1_0⟩ := DawgRep_open y1
  exact (r_laws_FnExactDawgChanges (Cx.law W (· < W.heap.size) (fun _ h => h) (Tabs.start hL hS)) x0 A0_0 c0_0 w0_0 x1 A1_0 c1_0 w1_0 true (m_laws_FnExactDawgChanges_true x0 x1 z0 z1)).mono fun e w ⟨he, hM⟩ => ⟨he, hM.chg.below⟩

set_option maxRecDepth 100000 in
theorem lifted (os : Os) (started : os.Started) (H : Type) (enc : TypeId × Value → H) :
    ReturnsInHanded {} Tryd.checked os 3 .any (fun w args => (Rows.fnExactDawgChangesSpec.pre enc Tryd.prog Tryd.f3 [] false w args ∧ laidMetH Tryd.prog laidL w) ∧ sizedMet enc Tryd.prog Tryd.f3 (OpenSpec.ofChange Rows.fnExactDawgChangesSpec) false w args) (Rows.fnExactDawgChangesSpec.post enc Tryd.prog Tryd.f3 false true false false) :=
  law_liftX (X := fun w => laidMetH Tryd.prog laidL w) (fun _ _ hh h => h.of_heap hh) started Tryd.func3 (by kernel_rfl) (by kernel_rfl) rfl rfl (fun ds h => by match ds, h with | [d0, d1], _ => exact ⟨rfl, rfl, rfl⟩)
    (ChangeSpec.witness_shaped (enc := enc) (C := Tryd.checked) (os := os) (X := fun w _ => laidMetH Tryd.prog laidL w) false (startW os) #[.agg #[.slice none 0 0], .agg #[.slice none 0 0]] 8 (startW_os os) (startW_shaped os _) (by kernel_rfl) (by kernel_rfl) (by kernel_rfl) (door_met os _))
    (fun W args hL hS h => given_walk W args hL hS h)

theorem over : Rows.fnExactDawgChangesRow.holds Tryd.pinned (OpenSpec.ofChange Rows.fnExactDawgChangesSpec) :=
  OpenClaim.holds_of_wide 3 Tryd.f3 rfl rfl rfl rfl rfl rfl rfl ⟨rfl, rfl, rfl, rfl, rfl⟩ rfl rfl rfl rfl rfl (by kernel_rfl) Tryd.func3 (by kernel_rfl)
    (of_decide_eq_true (by kernel_rfl)) (by unfold Func.isWrapper; first | (rw [if_pos (by decide +kernel)]; kernel_rfl) | (rw [if_neg (by decide +kernel)]; exact ⟨rfl, rfl⟩))
    (fun os started H enc _ => lifted os started H enc)

theorem proved : Rows.FnExactDawgChangesCardSaid :=
  Claim7.holds_tied_plain_at .later [] [.data, .data, .data] true (true, "9493a32403166a250e3d20e41584790d95172ee2ad83938edbe15d80f473de89") false
    over (fun _ h => by cases h) (by kernel_rfl) (fun _ h => by cases h) fnExactDawgChanges_row_tie rfl ⟨rfl, rfl⟩ (by kernel_rfl) rfl
    (fun f fn hf hfn => by
      obtain rfl : f = 3 := Option.some.inj ((show Tryd.prog.funcNamed "loop.example/g00911/laws.FnExactDawgChanges" = some 3 by kernel_rfl).symm.trans hf) |>.symm
      obtain rfl : fn = Tryd.f3 := (Option.some.inj (Tryd.func3.symm.trans hfn)).symm
      exact ⟨by kernel_rfl, fun j t ht => by
        rw [Tryd.params3] at ht
        have hm : t ∈ [24, 24] := by simpa using Array.mem_of_getElem? ht
        have hall : ([24, 24].all fun u => !Tryd.prog.wantsStandIn u) = true := by kernel_rfl
        exact (show Tryd.prog.wantsStandIn t = false by simpa using List.all_eq_true.1 hall t hm)⟩)
    (by kernel_rfl)
#print axioms proved

end Go.Proofs.YtccoeheoifbpcaaDoor.fnExactDawgChanges
