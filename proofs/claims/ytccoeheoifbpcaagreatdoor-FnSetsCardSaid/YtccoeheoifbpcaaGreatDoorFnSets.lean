/- The statement of FnSets holds of the given program, for all arguments. Printed by drive.py. -/
import Derived.SevenTiedAt
import Derived.LaidMore
import Derived.Test.YtccoeheoifbpcaaGreatDoorTie
import Derived.Test.YtccoeheoifbpcaaGreatDoorCards
import Derived.Test.YtccoeheoifbpcaaGreatDoorEngS
import Derived.Test.YtccoeheoifbpcaaGreatDoorEngL
import Derived.Test.YtccoeheoifbpcaaGreatDoorFnSetsRefC
import Derived.Test.YtccoeheoifbpcaaGreatDoorFnSetsPure
namespace Go.Proofs.YtccoeheoifbpcaaGreatDoor.fnSets
open Go.ChangeShapes Go.WideShapes Go.ChangeAt Go.RowKit Go.Deep
set_option linter.unusedSimpArgs false
set_option linter.unusedVariables false

theorem leaf_5 : leafT Tryz.prog 6 5 = some [5] := by kernel_rfl
theorem cells_5 : Tryz.prog.cellsOf 5 = 1 := by kernel_rfl

theorem given_walk {H : Type} {enc : TypeId × Value → H} (W : World) (args : Array Value) (hL : laidMetH Tryz.prog laidL W) (hS : W.ShapedOpen Tryz.prog) (h : Given enc Tryz.prog W Tryz.f3.params.toList args.toList) :
    Calls Tryz.prog 3 args W fun e W' => e = .returned (.bool true) ∧ Below W.heap.size W W' := by
  rw [Tryz.params3] at h
  obtain ⟨v0, vs0, hargs, a0, h⟩ := given_cons h
  obtain ⟨v1, vs1, rfl, a1, h⟩ := given_cons h
  obtain rfl := given_nil h
  obtain rfl : args = #[v0, v1] := by cases args; simp_all
  obtain ⟨x0, y0⟩ := cell_list byteRep Tryz.underlying22 leaf_5 cells_5 (by decide) rfl (fun row h => row_c Tryz.underlying5 h) (arg_slice Tryz.underlying22 a0)
  obtain ⟨A0, c0, e0, w0⟩ := slice_form y0
  cases e0
  obtain ⟨x1, y1⟩ := cell_list byteRep Tryz.underlying22 leaf_5 cells_5 (by decide) rfl (fun row h => row_c Tryz.underlying5 h) (arg_slice Tryz.underlying22 a1)
  obtain ⟨A1, c1, e1, w1⟩ := slice_form y1
  cases e1
  exact (r_laws_FnSets (Cx.law W (· < W.heap.size) (fun _ h => h) (Tabs.start hL hS)) x0 A0 c0 w0 x1 A1 c1 w1 true (m_laws_FnSets_true x0 x1 ⟨_, _, _, w0⟩ ⟨_, _, _, w1⟩)).mono fun e w ⟨he, hM⟩ => ⟨he, hM.chg.below⟩

set_option maxRecDepth 100000 in
theorem lifted (os : Os) (started : os.Started) (H : Type) (enc : TypeId × Value → H) :
    ReturnsInHanded {} Tryz.checked os 3 .any (fun w args => (Rows.fnSetsSpec.pre enc Tryz.prog Tryz.f3 [] false w args ∧ laidMetH Tryz.prog laidL w) ∧ sizedMet enc Tryz.prog Tryz.f3 (OpenSpec.ofChange Rows.fnSetsSpec) false w args) (Rows.fnSetsSpec.post enc Tryz.prog Tryz.f3 false true false false) :=
  law_liftX (X := fun w => laidMetH Tryz.prog laidL w) (fun _ _ hh h => h.of_heap hh) started Tryz.func3 (by kernel_rfl) (by kernel_rfl) rfl rfl (fun ds h => by match ds, h with | [d0, d1], _ => exact ⟨rfl, rfl, rfl⟩)
    (ChangeSpec.witness_shaped (enc := enc) (C := Tryz.checked) (os := os) (X := fun w _ => laidMetH Tryz.prog laidL w) false (startW os) #[.slice none 0 0, .slice none 0 0] 8 (startW_os os) (startW_shaped os _) (by kernel_rfl) (by kernel_rfl) (by kernel_rfl) (door_met os _))
    (fun W args hL hS h => given_walk W args hL hS h)

theorem over : Rows.fnSetsRow.holds Tryz.pinned (OpenSpec.ofChange Rows.fnSetsSpec) :=
  OpenClaim.holds_of_wide 3 Tryz.f3 rfl rfl rfl rfl rfl rfl rfl ⟨rfl, rfl, rfl, rfl, rfl⟩ rfl rfl rfl rfl rfl (by kernel_rfl) Tryz.func3 (by kernel_rfl)
    (of_decide_eq_true (by kernel_rfl)) (by unfold Func.isWrapper; first | (rw [if_pos (by decide +kernel)]; kernel_rfl) | (rw [if_neg (by decide +kernel)]; exact ⟨rfl, rfl⟩))
    (fun os started H enc _ => lifted os started H enc)

theorem proved : Rows.FnSetsCardSaid :=
  Claim7.holds_tied_plain_at .later [] [.data, .data, .data] true (true, "ede82ac13d29b0dad360396811c278bb1be04c6e328a35d3e8717b8232f85923") false
    over (fun _ h => by cases h) (by kernel_rfl) (fun _ h => by cases h) fnSets_row_tie rfl ⟨rfl, rfl⟩ (by kernel_rfl) rfl
    (fun f fn hf hfn => by
      obtain rfl : f = 3 := Option.some.inj ((show Tryz.prog.funcNamed "loop.example/g00911/laws.FnSets" = some 3 by kernel_rfl).symm.trans hf) |>.symm
      obtain rfl : fn = Tryz.f3 := (Option.some.inj (Tryz.func3.symm.trans hfn)).symm
      exact ⟨by kernel_rfl, fun j t ht => by
        rw [Tryz.params3] at ht
        have hm : t ∈ [22, 22] := by simpa using Array.mem_of_getElem? ht
        have hall : ([22, 22].all fun u => !Tryz.prog.wantsStandIn u) = true := by kernel_rfl
        exact (show Tryz.prog.wantsStandIn t = false by simpa using List.all_eq_true.1 hall t hm)⟩)
    (by kernel_rfl)
#print axioms proved

end Go.Proofs.YtccoeheoifbpcaaGreatDoor.fnSets
