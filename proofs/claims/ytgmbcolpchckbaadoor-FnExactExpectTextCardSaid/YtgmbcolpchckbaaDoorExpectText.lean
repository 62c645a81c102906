/- The statement of FnExactExpectText holds of the given program, for all arguments. Printed by drive.py. -/
import Derived.SevenTiedAt
import Derived.LaidMore
import Derived.Test.YtgmbcolpchckbaaDoorTie
import Derived.Test.YtgmbcolpchckbaaDoorCards
import Derived.Test.YtgmbcolpchckbaaDoorEngL
import Derived.Test.YtgmbcolpchckbaaDoorExpectTextRef
import Derived.Test.YtgmbcolpchckbaaDoorExpectTextPure
namespace Go.Proofs.YtgmbcolpchckbaaDoor.fnExactExpectText
open Go.ChangeShapes Go.WideShapes Go.ChangeAt Go.RowKit Go.Deep
set_option linter.unusedSimpArgs false
set_option linter.unusedVariables false

theorem ofrow_30 {H : Type} {enc : TypeId × Value → H} {W : World} {row : List Value} (h : Row enc Tryd.prog W [2, 2] row) : ∃ x, ExpectRep.R W (· < W.heap.size) x row := by
  match row, h.1 with
  | [v0, v1], _ =>
    obtain ⟨x0, rfl, w0⟩ := cell_i Tryd.underlying2 (h.2 0 _ _ rfl rfl)
    obtain ⟨x1, rfl, w1⟩ := cell_i Tryd.underlying2 (h.2 1 _ _ rfl rfl)
    exact ⟨⟨x0, x1⟩, ExpectRep_mk (x := ⟨x0, x1⟩) w0 w1⟩

theorem leaf_30 : leafT Tryd.prog 6 30 = some [2, 2] := by kernel_rfl
theorem cells_30 : Tryd.prog.cellsOf 30 = 2 := by kernel_rfl

theorem given_walk {H : Type} {enc : TypeId × Value → H} (W : World) (args : Array Value) (hL : laidMetH Tryd.prog laidL W) (h : Given enc Tryd.prog W Tryd.f4.params.toList args.toList) :
    Calls Tryd.prog 4 args W fun e W' => e = .returned (.bool true) ∧ Below W.heap.size W W' := by
  rw [Tryd.params4] at h
  obtain ⟨v0, vs0, hargs, a0, h⟩ := given_cons h
  obtain rfl := given_nil h
  obtain rfl : args = #[v0] := by cases args; simp_all
  obtain ⟨cs0, rfl, hr0⟩ := arg_struct Tryd.underlying30 leaf_30 cells_30 a0
  obtain ⟨x0, y0⟩ := ofrow_30 hr0
  have z0 : Lies ExpectRep x0 := ⟨_, _, _, y0⟩
  obtain ⟨rfl, w0_0, w0_1⟩ := ExpectRep_open y0
  exact (r_laws_FnExactExpectText (Cx.law W (· = 0) (Tabs.start_lt (Tabs.start hL)) (Tabs.start hL)) x0 w0_0 w0_1 true (m_laws_FnExactExpectText_true x0 z0)).mono fun e w ⟨he, hM⟩ => ⟨he, hM.chg.below⟩

theorem door_met (os : Os) (args : Array Value) : laidMetH Tryd.prog laidL ((World.doorLaid Tryd.prog 400 os).forCall (fun _ _ => 0) ⟨#[], args, []⟩).memory :=
  laidMetH_of_parts3 (fuel := 8) (laidMet_of_run' 8 (by kernel_rfl) (by kernel_rfl)) (by kernel_rfl) (by kernel_rfl)

set_option maxRecDepth 100000 in
theorem lifted (os : Os) (started : os.Started) (H : Type) (enc : TypeId × Value → H) :
    ReturnsInHanded {} Tryd.checked os 4 .any (fun w args => (Rows.fnExactExpectTextSpec.pre enc Tryd.prog Tryd.f4 [] false w args ∧ laidMetH Tryd.prog laidL w) ∧ sizedMet enc Tryd.prog Tryd.f4 (OpenSpec.ofChange Rows.fnExactExpectTextSpec) false w args) (Rows.fnExactExpectTextSpec.post enc Tryd.prog Tryd.f4 false true false false) :=
  law_liftX (X := fun w => laidMetH Tryd.prog laidL w) (fun _ _ hh h => h.of_heap hh) started Tryd.func4 (by kernel_rfl) (by kernel_rfl) rfl rfl (fun ds h => by match ds, h with | [d0], _ => exact ⟨rfl, rfl, rfl⟩)
    (ChangeSpec.witness_shaped (enc := enc) (C := Tryd.checked) (os := os) (X := fun w _ => laidMetH Tryd.prog laidL w) false (World.doorLaid Tryd.prog 400 os) #[.agg #[.int .i64 0, .int .i64 0]] 8 rfl (World.shaped_of_RefB (by kernel_rfl) (by kernel_rfl)) (by kernel_rfl) (by kernel_rfl) (by kernel_rfl) (door_met os _))
    (fun W args hL h => given_walk W args hL h)

theorem over : Rows.fnExactExpectTextRow.holds Tryd.pinned (OpenSpec.ofChange Rows.fnExactExpectTextSpec) :=
  OpenClaim.holds_of_wide 4 Tryd.f4 rfl rfl rfl rfl rfl rfl rfl ⟨rfl, rfl, rfl, rfl, rfl⟩ rfl rfl rfl rfl rfl (by kernel_rfl) Tryd.func4 (by kernel_rfl)
    (of_decide_eq_true (by kernel_rfl)) (by unfold Func.isWrapper; first | (rw [if_pos (by decide +kernel)]; kernel_rfl) | (rw [if_neg (by decide +kernel)]; exact ⟨rfl, rfl⟩))
    (fun os started H enc _ => lifted os started H enc)

theorem proved : Rows.FnExactExpectTextCardSaid :=
  Claim7.holds_tied_plain_at .later [] [.data, .data, .data] true (true, "a4b1a7fc9564596e268725315bb3d62b8814dbfa45722a432cf8ec2eb21f8f57") false
    over (fun _ h => by cases h) (by kernel_rfl) (fun _ h => by cases h) fnExactExpectText_row_tie rfl ⟨rfl, rfl⟩ (by kernel_rfl) rfl
    (fun f fn hf hfn => by
      obtain rfl : f = 4 := Option.some.inj ((show Tryd.prog.funcNamed "loop.example/g00911/laws.FnExactExpectText" = some 4 by kernel_rfl).symm.trans hf) |>.symm
      obtain rfl : fn = Tryd.f4 := (Option.some.inj (Tryd.func4.symm.trans hfn)).symm
      exact ⟨by kernel_rfl, fun j t ht => by
        rw [Tryd.params4] at ht
        have hm : t ∈ [30] := by simpa using Array.mem_of_getElem? ht
        have hall : ([30].all fun u => !Tryd.prog.wantsStandIn u) = true := by kernel_rfl
        exact (show Tryd.prog.wantsStandIn t = false by simpa using List.all_eq_true.1 hall t hm)⟩)
    (by kernel_rfl)
#print axioms proved

end Go.Proofs.YtgmbcolpchckbaaDoor.fnExactExpectText
