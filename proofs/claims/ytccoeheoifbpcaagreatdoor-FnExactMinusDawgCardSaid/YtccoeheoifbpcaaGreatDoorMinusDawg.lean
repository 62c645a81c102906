/- The statement of FnExactMinusDawg holds of the given program, for all arguments. Printed by drive.py. -/
import Derived.SevenTiedAt
import Derived.LaidMore
import Derived.Test.YtccoeheoifbpcaaGreatDoorTie
import Derived.Test.YtccoeheoifbpcaaGreatDoorCards
import Derived.Test.YtccoeheoifbpcaaGreatDoorEngS
import Derived.Test.YtccoeheoifbpcaaGreatDoorEngL
import Derived.Test.YtccoeheoifbpcaaGreatDoorMinusDawgRefD
import Derived.Test.YtccoeheoifbpcaaGreatDoorMinusDawgPure
namespace Go.Proofs.YtccoeheoifbpcaaGreatDoor.fnExactMinusDawg
open Go.ChangeShapes Go.WideShapes Go.ChangeAt Go.RowKit Go.Deep
set_option linter.unusedSimpArgs false
set_option linter.unusedVariables false

theorem leaf_2 : leafT Tryz.prog 6 2 = some [2] := by kernel_rfl
theorem cells_2 : Tryz.prog.cellsOf 2 = 1 := by kernel_rfl

theorem ofrow_106 {H : Type} {enc : TypeId × Value → H} {W : World} {row : List Value} (h : Row enc Tryz.prog W [4, 9, 77] row) : ∃ x, NodeRep.R W (· < W.heap.size) x row := by
  match row, h.1 with
  | [v0, v1, v2], _ =>
    obtain ⟨x0, rfl⟩ := cell_bool Tryz.underlying4 (h.2 0 _ _ rfl rfl)
    obtain ⟨x1, rfl, w1⟩ := cell_s Tryz.underlying9 (h.2 1 _ _ rfl rfl)
    obtain ⟨x2, y2⟩ := cell_list intRep Tryz.underlying77 leaf_2 cells_2 (by decide) rfl (fun row h => row_i Tryz.underlying2 h) (h.2 2 _ _ rfl rfl)
    obtain ⟨A2, c2, e2, w2⟩ := slice_form y2
    cases e2
    exact ⟨⟨x0, x1, x2⟩, NodeRep_mk (x := ⟨x0, x1, x2⟩) w1 w2⟩

theorem leaf_106 : leafT Tryz.prog 6 106 = some [4, 9, 77] := by kernel_rfl
theorem cells_106 : Tryz.prog.cellsOf 106 = 3 := by kernel_rfl

theorem ofrow_37 {H : Type} {enc : TypeId × Value → H} {W : World} {row : List Value} (h : Row enc Tryz.prog W [35] row) : ∃ x, DawgRep.R W (· < W.heap.size) x row := by
  match row, h.1 with
  | [v0], _ =>
    obtain ⟨x0, y0⟩ := cell_list NodeRep Tryz.underlying35 leaf_106 cells_106 (by decide) rfl (fun row h => ofrow_106 h) (h.2 0 _ _ rfl rfl)
    obtain ⟨A0, c0, e0, w0⟩ := slice_form y0
    cases e0
    exact ⟨⟨x0⟩, DawgRep_mk (x := ⟨x0⟩) w0⟩

theorem leaf_37 : leafT Tryz.prog 6 37 = some [35] := by kernel_rfl
theorem cells_37 : Tryz.prog.cellsOf 37 = 1 := by kernel_rfl

theorem given_walk {H : Type} {enc : TypeId × Value → H} (W : World) (args : Array Value) (hL : laidMetH Tryz.prog laidL W) (hS : W.ShapedOpen Tryz.prog) (h : Given enc Tryz.prog W Tryz.f6.params.toList args.toList) :
    Calls Tryz.prog 6 args W fun e W' => e = .returned (.bool true) ∧ Below W.heap.size W W' := by
  rw [Tryz.params6] at h
  obtain ⟨v0, vs0, hargs, a0, h⟩ := given_cons h
  obtain ⟨v1, vs1, rfl, a1, h⟩ := given_cons h
  obtain rfl := given_nil h
  obtain rfl : args = #[v0, v1] := by cases args; simp_all
  obtain ⟨cs0, rfl, hr0⟩ := arg_struct Tryz.underlying37 leaf_37 cells_37 a0
  obtain ⟨x0, y0⟩ := ofrow_37 hr0
  have z0 : Lies DawgRep x0 := ⟨_, _, _, y0⟩
  obtain ⟨A0_0, c0_0, rfl, w0_0⟩ := DawgRep_open y0
  obtain ⟨cs1, rfl, hr1⟩ := arg_struct Tryz.underlying37 leaf_37 cells_37 a1
  obtain ⟨x1, y1⟩ := ofrow_37 hr1
  have z1 : Lies DawgRep x1 := ⟨_, _, _, y1⟩
  obtain ⟨A1_0, c1_0, rfl, w1_0⟩ := DawgRep_open y1
  exact (r_laws_FnExactMinusDawg (Cx.law W (· < W.heap.size) (fun _ h => h) (Tabs.start hL hS)) x0 A0_0 c0_0 w0_0 x1 A1_0 c1_0 w1_0 true (m_laws_FnExactMinusDawg_true x0 x1 z0 z1)).mono fun e w ⟨he, hM⟩ => ⟨he, hM.chg.below⟩

set_option maxRecDepth 100000 in
theorem lifted (os : Os) (started : os.Started) (H : Type) (enc : TypeId × Value → H) :
    ReturnsInHanded {} Tryz.checked os 6 .any (fun w args => (Rows.fnExactMinusDawgSpec.pre enc Tryz.prog Tryz.f6 [] false w args ∧ laidMetH Tryz.prog laidL w) ∧ sizedMet enc Tryz.prog Tryz.f6 (OpenSpec.ofChange Rows.fnExactMinusDawgSpec) false w args) (Rows.fnExactMinusDawgSpec.post enc Tryz.prog Tryz.f6 false true false false) :=
  law_liftX (X := fun w => laidMetH Tryz.prog laidL w) (fun _ _ hh h => h.of_heap hh) started Tryz.func6 (by kernel_rfl) (by kernel_rfl) rfl rfl (fun ds h => by match ds, h with | [d0, d1], _ => exact ⟨rfl, rfl, rfl⟩)
    (ChangeSpec.witness_shaped (enc := enc) (C := Tryz.checked) (os := os) (X := fun w _ => laidMetH Tryz.prog laidL w) false (startW os) #[.agg #[.slice none 0 0], .agg #[.slice none 0 0]] 8 (startW_os os) (startW_shaped os _) (by kernel_rfl) (by kernel_rfl) (by kernel_rfl) (door_met os _))
    (fun W args hL hS h => given_walk W args hL hS h)

theorem over : Rows.fnExactMinusDawgRow.holds Tryz.pinned (OpenSpec.ofChange Rows.fnExactMinusDawgSpec) :=
  OpenClaim.holds_of_wide 6 Tryz.f6 rfl rfl rfl rfl rfl rfl rfl ⟨rfl, rfl, rfl, rfl, rfl⟩ rfl rfl rfl rfl rfl (by kernel_rfl) Tryz.func6 (by kernel_rfl)
    (of_decide_eq_true (by kernel_rfl)) (by unfold Func.isWrapper; first | (rw [if_pos (by decide +kernel)]; kernel_rfl) | (rw [if_neg (by decide +kernel)]; exact ⟨rfl, rfl⟩))
    (fun os started H enc _ => lifted os started H enc)

theorem proved : Rows.FnExactMinusDawgCardSaid :=
  Claim7.holds_tied_plain_at .later [] [.data, .data, .data] true (true, "ede82ac13d29b0dad360396811c278bb1be04c6e328a35d3e8717b8232f85923") false
    over (fun _ h => by cases h) (by kernel_rfl) (fun _ h => by cases h) fnExactMinusDawg_row_tie rfl ⟨rfl, rfl⟩ (by kernel_rfl) rfl
    (fun f fn hf hfn => by
      obtain rfl : f = 6 := Option.some.inj ((show Tryz.prog.funcNamed "loop.example/g00911/laws.FnExactMinusDawg" = some 6 by kernel_rfl).symm.trans hf) |>.symm
      obtain rfl : fn = Tryz.f6 := (Option.some.inj (Tryz.func6.symm.trans hfn)).symm
      exact ⟨by kernel_rfl, fun j t ht => by
        rw [Tryz.params6] at ht
        have hm : t ∈ [37, 37] := by simpa using Array.mem_of_getElem? ht
        have hall : ([37, 37].all fun u => !Tryz.prog.wantsStandIn u) = true := by kernel_rfl
        exact (show Tryz.prog.wantsStandIn t = false by simpa using List.all_eq_true.1 hall t hm)⟩)
    (by kernel_rfl)
#print axioms proved

end Go.Proofs.YtccoeheoifbpcaaGreatDoor.fnExactMinusDawg
