/- The statement of FnExactTurnText holds of the given program, for all arguments. Printed by drive.py. -/
import Derived.SevenTiedAt
import Derived.LaidMore
import Derived.Test.YtbekokenomhgeaaDoorTie
import Derived.Test.YtbekokenomhgeaaDoorCards
import Derived.Test.YtbekokenomhgeaaDoorEngS
import Derived.Test.YtbekokenomhgeaaDoorEngL
import Derived.Test.YtbekokenomhgeaaDoorTurnTextRef
import Derived.Test.YtbekokenomhgeaaDoorTurnTextPure
namespace Go.Proofs.YtbekokenomhgeaaDoor.fnExactTurnText
open Go.ChangeShapes Go.WideShapes Go.ChangeAt Go.RowKit Go.Deep
set_option linter.unusedSimpArgs false
set_option linter.unusedVariables false

theorem ofrow_25 {H : Type} {enc : TypeId × Value → H} {W : World} {row : List Value} (h : Row enc Tryd.prog W [9, 4, 2, 2, 4, 9] row) : ∃ x, TurnRep.R W (· < W.heap.size) x row := by
  match row, h.1 with
  | [v0, v1, v2, v3, v4, v5], _ =>
    obtain ⟨x0, rfl, w0⟩ := cell_s Tryd.underlying9 (h.2 0 _ _ rfl rfl)
    obtain ⟨x1, rfl⟩ := cell_bool Tryd.underlying4 (h.2 1 _ _ rfl rfl)
    obtain ⟨x2, rfl, w2⟩ := cell_i Tryd.underlying2 (h.2 2 _ _ rfl rfl)
    obtain ⟨x3, rfl, w3⟩ := cell_i Tryd.underlying2 (h.2 3 _ _ rfl rfl)
    obtain ⟨x4, rfl⟩ := cell_bool Tryd.underlying4 (h.2 4 _ _ rfl rfl)
    obtain ⟨x5, rfl, w5⟩ := cell_s Tryd.underlying9 (h.2 5 _ _ rfl rfl)
    exact ⟨⟨x0, x1, ⟨x2, x3, x4, x5⟩⟩, TurnRep_mk (x := ⟨x0, x1, ⟨x2, x3, x4, x5⟩⟩) w0 w2 w3 w5⟩

theorem leaf_25 : leafT Tryd.prog 6 25 = some [9, 4, 2, 2, 4, 9] := by kernel_rfl
theorem cells_25 : Tryd.prog.cellsOf 25 = 6 := by kernel_rfl

theorem given_walk {H : Type} {enc : TypeId × Value → H} (W : World) (args : Array Value) (hL : laidMetH Tryd.prog laidL W) (h : Given enc Tryd.prog W Tryd.f3.params.toList args.toList) :
    Calls Tryd.prog 3 args W fun e W' => e = .returned (.bool true) ∧ Below W.heap.size W W' := by
  rw [Tryd.params3] at h
  obtain ⟨v0, vs0, hargs, a0, h⟩ := given_cons h
  obtain rfl := given_nil h
  obtain rfl : args = #[v0] := by cases args; simp_all
  obtain ⟨cs0, rfl, hr0⟩ := arg_struct Tryd.underlying25 leaf_25 cells_25 a0
  obtain ⟨x0, y0⟩ := ofrow_25 hr0
  have z0 : Lies TurnRep x0 := ⟨_, _, _, y0⟩
  obtain ⟨rfl, w0_0, w0_2, w0_3, w0_5⟩ := TurnRep_open y0
  exact (r_laws_FnExactTurnText (Cx.law W (· < W.heap.size) (fun _ h => h) (Tabs.start hL)) x0 w0_0 w0_2 w0_3 w0_5 true (m_laws_FnExactTurnText_true x0 z0)).mono fun e w ⟨he, hM⟩ => ⟨he, hM.chg.below⟩

set_option maxRecDepth 100000 in
theorem lifted (os : Os) (started : os.Started) (H : Type) (enc : TypeId × Value → H) :
    ReturnsInHanded {} Tryd.checked os 3 .any (fun w args => (Rows.fnExactTurnTextSpec.pre enc Tryd.prog Tryd.f3 [] false w args ∧ laidMetH Tryd.prog laidL w) ∧ sizedMet enc Tryd.prog Tryd.f3 (OpenSpec.ofChange Rows.fnExactTurnTextSpec) false w args) (Rows.fnExactTurnTextSpec.post enc Tryd.prog Tryd.f3 false true false false) :=
  law_liftX (X := fun w => laidMetH Tryd.prog laidL w) (fun _ _ hh h => h.of_heap hh) started Tryd.func3 (by kernel_rfl) (by kernel_rfl) rfl rfl (fun ds h => by match ds, h with | [d0], _ => exact ⟨rfl, rfl, rfl⟩)
    (ChangeSpec.witness_shaped (enc := enc) (C := Tryd.checked) (os := os) (X := fun w _ => laidMetH Tryd.prog laidL w) false (startW os) #[.agg #[.string ByteArray.empty, .bool false, .int .i64 0, .int .i64 0, .bool false, .string ByteArray.empty]] 8 (startW_os os) (startW_shaped os _) (by kernel_rfl) (by kernel_rfl) (by kernel_rfl) (door_met os _))
    (fun W args hL h => given_walk W args hL h)

theorem over : Rows.fnExactTurnTextRow.holds Tryd.pinned (OpenSpec.ofChange Rows.fnExactTurnTextSpec) :=
  OpenClaim.holds_of_wide 3 Tryd.f3 rfl rfl rfl rfl rfl rfl rfl ⟨rfl, rfl, rfl, rfl, rfl⟩ rfl rfl rfl rfl rfl (by kernel_rfl) Tryd.func3 (by kernel_rfl)
    (of_decide_eq_true (by kernel_rfl)) (by unfold Func.isWrapper; first | (rw [if_pos (by decide +kernel)]; kernel_rfl) | (rw [if_neg (by decide +kernel)]; exact ⟨rfl, rfl⟩))
    (fun os started H enc _ => lifted os started H enc)

theorem proved : Rows.FnExactTurnTextCardSaid :=
  Claim7.holds_tied_plain_at .later [] [.data, .data, .data, .data, .pinned, .pinned] true (true, "c91eed96d5d176ab78033e562a1b3bf551a7055456988963993792d78c46ffc9") false
    over (fun _ h => by cases h) (by kernel_rfl) (fun _ h => by cases h) fnExactTurnText_row_tie rfl ⟨rfl, rfl⟩ (by kernel_rfl) rfl
    (fun f fn hf hfn => by
      obtain rfl : f = 3 := Option.some.inj ((show Tryd.prog.funcNamed "loop.example/g00911/laws.FnExactTurnText" = some 3 by kernel_rfl).symm.trans hf) |>.symm
      obtain rfl : fn = Tryd.f3 := (Option.some.inj (Tryd.func3.symm.trans hfn)).symm
      exact ⟨by kernel_rfl, fun j t ht => by
        rw [Tryd.params3] at ht
        have hm : t ∈ [25] := by simpa using Array.mem_of_getElem? ht
        have hall : ([25].all fun u => !Tryd.prog.wantsStandIn u) = true := by kernel_rfl
        exact (show Tryd.prog.wantsStandIn t = false by simpa using List.all_eq_true.1 hall t hm)⟩)
    (by kernel_rfl)
#print axioms proved

end Go.Proofs.YtbekokenomhgeaaDoor.fnExactTurnText
