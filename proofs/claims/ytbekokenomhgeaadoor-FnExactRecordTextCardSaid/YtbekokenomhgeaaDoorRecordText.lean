/- The statement of FnExactRecordText holds of the given program, for all arguments. Printed by drive.py. -/
import Derived.SevenTiedAt
import Derived.LaidMore
import Derived.Test.YtbekokenomhgeaaDoorTie
import Derived.Test.YtbekokenomhgeaaDoorCards
import Derived.Test.YtbekokenomhgeaaDoorEngS
import Derived.Test.YtbekokenomhgeaaDoorEngL
import Derived.Test.YtbekokenomhgeaaDoorRecordTextRefB
import Derived.Test.YtbekokenomhgeaaDoorRecordTextPure
namespace Go.Proofs.YtbekokenomhgeaaDoor.fnExactRecordText
open Go.ChangeShapes Go.WideShapes Go.ChangeAt Go.RowKit Go.Deep
set_option linter.unusedSimpArgs false
set_option linter.unusedVariables false

theorem ofrow_34 {H : Type} {enc : TypeId × Value → H} {W : World} {row : List Value} (h : Row enc Tryd.prog W [2, 2, 2, 4, 9, 9, 2] row) : ∃ x, ActionRep.R W (· < W.heap.size) x row := by
  match row, h.1 with
  | [v0, v1, v2, v3, v4, v5, v6], _ =>
    obtain ⟨x0, rfl, w0⟩ := cell_i Tryd.underlying2 (h.2 0 _ _ rfl rfl)
    obtain ⟨x1, rfl, w1⟩ := cell_i Tryd.underlying2 (h.2 1 _ _ rfl rfl)
    obtain ⟨x2, rfl, w2⟩ := cell_i Tryd.underlying2 (h.2 2 _ _ rfl rfl)
    obtain ⟨x3, rfl⟩ := cell_bool Tryd.underlying4 (h.2 3 _ _ rfl rfl)
    obtain ⟨x4, rfl, w4⟩ := cell_s Tryd.underlying9 (h.2 4 _ _ rfl rfl)
    obtain ⟨x5, rfl, w5⟩ := cell_s Tryd.underlying9 (h.2 5 _ _ rfl rfl)
    obtain ⟨x6, rfl, w6⟩ := cell_i Tryd.underlying2 (h.2 6 _ _ rfl rfl)
    exact ⟨⟨x0, ⟨x1, x2, x3, x4⟩, x5, x6⟩, ActionRep_mk (x := ⟨x0, ⟨x1, x2, x3, x4⟩, x5, x6⟩) w0 w1 w2 w4 w5 w6⟩

theorem leaf_34 : leafT Tryd.prog 6 34 = some [2, 2, 2, 4, 9, 9, 2] := by kernel_rfl
theorem cells_34 : Tryd.prog.cellsOf 34 = 7 := by kernel_rfl

theorem ofrow_43 {H : Type} {enc : TypeId × Value → H} {W : World} {row : List Value} (h : Row enc Tryd.prog W [2, 41] row) : ∃ x, RecordRep.R W (· < W.heap.size) x row := by
  match row, h.1 with
  | [v0, v1], _ =>
    obtain ⟨x0, rfl, w0⟩ := cell_i Tryd.underlying2 (h.2 0 _ _ rfl rfl)
    obtain ⟨x1, y1⟩ := cell_list ActionRep Tryd.underlying41 leaf_34 cells_34 (by decide) rfl (fun row h => ofrow_34 h) (h.2 1 _ _ rfl rfl)
    obtain ⟨A1, c1, e1, w1⟩ := slice_form y1
    cases e1
    exact ⟨⟨x0, x1⟩, RecordRep_mk (x := ⟨x0, x1⟩) w0 w1⟩

theorem leaf_43 : leafT Tryd.prog 6 43 = some [2, 41] := by kernel_rfl
theorem cells_43 : Tryd.prog.cellsOf 43 = 2 := by kernel_rfl

theorem given_walk {H : Type} {enc : TypeId × Value → H} (W : World) (args : Array Value) (hL : laidMetH Tryd.prog laidL W) (h : Given enc Tryd.prog W Tryd.f6.params.toList args.toList) :
    Calls Tryd.prog 6 args W fun e W' => e = .returned (.bool true) ∧ Below W.heap.size W W' := by
  rw [Tryd.params6] at h
  obtain ⟨v0, vs0, hargs, a0, h⟩ := given_cons h
  obtain rfl := given_nil h
  obtain rfl : args = #[v0] := by cases args; simp_all
  obtain ⟨cs0, rfl, hr0⟩ := arg_struct Tryd.underlying43 leaf_43 cells_43 a0
  obtain ⟨x0, y0⟩ := ofrow_43 hr0
  have z0 : Lies RecordRep x0 := ⟨_, _, _, y0⟩
  obtain ⟨A0_1, c0_1, rfl, w0_0, w0_1⟩ := RecordRep_open y0
  exact (r_laws_FnExactRecordText (Cx.law W (· < W.heap.size) (fun _ h => h) (Tabs.start hL)) x0 w0_0 A0_1 c0_1 w0_1 true (m_laws_FnExactRecordText_true x0 z0)).mono fun e w ⟨he, hM⟩ => ⟨he, hM.chg.below⟩

set_option maxRecDepth 100000 in
theorem lifted (os : Os) (started : os.Started) (H : Type) (enc : TypeId × Value → H) :
    ReturnsInHanded {} Tryd.checked os 6 .any (fun w args => (Rows.fnExactRecordTextSpec.pre enc Tryd.prog Tryd.f6 [] false w args ∧ laidMetH Tryd.prog laidL w) ∧ sizedMet enc Tryd.prog Tryd.f6 (OpenSpec.ofChange Rows.fnExactRecordTextSpec) false w args) (Rows.fnExactRecordTextSpec.post enc Tryd.prog Tryd.f6 false true false false) :=
  law_liftX (X := fun w => laidMetH Tryd.prog laidL w) (fun _ _ hh h => h.of_heap hh) started Tryd.func6 (by kernel_rfl) (by kernel_rfl) rfl rfl (fun ds h => by match ds, h with | [d0], _ => exact ⟨rfl, rfl, rfl⟩)
    (ChangeSpec.witness_shaped (enc := enc) (C := Tryd.checked) (os := os) (X := fun w _ => laidMetH Tryd.prog laidL w) false (startW os) #[.agg #[.int .i64 0, .slice none 0 0]] 8 (startW_os os) (startW_shaped os _) (by kernel_rfl) (by kernel_rfl) (by kernel_rfl) (door_met os _))
    (fun W args hL h => given_walk W args hL h)

theorem over : Rows.fnExactRecordTextRow.holds Tryd.pinned (OpenSpec.ofChange Rows.fnExactRecordTextSpec) :=
  OpenClaim.holds_of_wide 6 Tryd.f6 rfl rfl rfl rfl rfl rfl rfl ⟨rfl, rfl, rfl, rfl, rfl⟩ rfl rfl rfl rfl rfl (by kernel_rfl) Tryd.func6 (by kernel_rfl)
    (of_decide_eq_true (by kernel_rfl)) (by unfold Func.isWrapper; first | (rw [if_pos (by decide +kernel)]; kernel_rfl) | (rw [if_neg (by decide +kernel)]; exact ⟨rfl, rfl⟩))
    (fun os started H enc _ => lifted os started H enc)

theorem proved : Rows.FnExactRecordTextCardSaid :=
  Claim7.holds_tied_plain_at .later [] [.data, .data, .data, .data, .pinned, .pinned] true (true, "c91eed96d5d176ab78033e562a1b3bf551a7055456988963993792d78c46ffc9") false
    over (fun _ h => by cases h) (by kernel_rfl) (fun _ h => by cases h) fnExactRecordText_row_tie rfl ⟨rfl, rfl⟩ (by kernel_rfl) rfl
    (fun f fn hf hfn => by
      obtain rfl : f = 6 := Option.some.inj ((show Tryd.prog.funcNamed "loop.example/g00911/laws.FnExactRecordText" = some 6 by kernel_rfl).symm.trans hf) |>.symm
      obtain rfl : fn = Tryd.f6 := (Option.some.inj (Tryd.func6.symm.trans hfn)).symm
      exact ⟨by kernel_rfl, fun j t ht => by
        rw [Tryd.params6] at ht
        have hm : t ∈ [43] := by simpa using Array.mem_of_getElem? ht
        have hall : ([43].all fun u => !Tryd.prog.wantsStandIn u) = true := by kernel_rfl
        exact (show Tryd.prog.wantsStandIn t = false by simpa using List.all_eq_true.1 hall t hm)⟩)
    (by kernel_rfl)
#print axioms proved

end Go.Proofs.YtbekokenomhgeaaDoor.fnExactRecordText
