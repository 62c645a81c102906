/- The statement of FnExactReplayTurns holds of the given program, for all arguments. Printed by drive.py. -/
import Derived.SevenTiedAt
import Derived.LaidMore
import Derived.Test.YtbekokenomhgeaaGreatDoorTie
import Derived.Test.YtbekokenomhgeaaGreatDoorCards
import Derived.Test.YtbekokenomhgeaaGreatDoorEngS
import Derived.Test.YtbekokenomhgeaaGreatDoorEngL
import Derived.Test.YtbekokenomhgeaaGreatDoorReplayTurnsRefC
import Derived.Test.YtbekokenomhgeaaGreatDoorReplayTurnsPure
namespace Go.Proofs.YtbekokenomhgeaaGreatDoor.fnExactReplayTurns
open Go.ChangeShapes Go.WideShapes Go.ChangeAt Go.RowKit Go.Deep
set_option linter.unusedSimpArgs false
set_option linter.unusedVariables false

theorem ofrow_23 {H : Type} {enc : TypeId × Value → H} {W : World} {row : List Value} (h : Row enc Tryz.prog W [2, 9, 9] row) : ∃ x, BoardRep.R W (· < W.heap.size) x row := by
  match row, h.1 with
  | [v0, v1, v2], _ =>
    obtain ⟨x0, rfl, w0⟩ := cell_i Tryz.underlying2 (h.2 0 _ _ rfl rfl)
    obtain ⟨x1, rfl, w1⟩ := cell_s Tryz.underlying9 (h.2 1 _ _ rfl rfl)
    obtain ⟨x2, rfl, w2⟩ := cell_s Tryz.underlying9 (h.2 2 _ _ rfl rfl)
    exact ⟨⟨x0, x1, x2⟩, BoardRep_mk (x := ⟨x0, x1, x2⟩) w0 w1 w2⟩

theorem leaf_23 : leafT Tryz.prog 6 23 = some [2, 9, 9] := by kernel_rfl
theorem cells_23 : Tryz.prog.cellsOf 23 = 3 := by kernel_rfl

theorem ofrow_68 {H : Type} {enc : TypeId × Value → H} {W : World} {row : List Value} (h : Row enc Tryz.prog W [9, 4, 2, 2, 4, 9] row) : ∃ x, TurnRep.R W (· < W.heap.size) x row := by
  match row, h.1 with
  | [v0, v1, v2, v3, v4, v5], _ =>
    obtain ⟨x0, rfl, w0⟩ := cell_s Tryz.underlying9 (h.2 0 _ _ rfl rfl)
    obtain ⟨x1, rfl⟩ := cell_bool Tryz.underlying4 (h.2 1 _ _ rfl rfl)
    obtain ⟨x2, rfl, w2⟩ := cell_i Tryz.underlying2 (h.2 2 _ _ rfl rfl)
    obtain ⟨x3, rfl, w3⟩ := cell_i Tryz.underlying2 (h.2 3 _ _ rfl rfl)
    obtain ⟨x4, rfl⟩ := cell_bool Tryz.underlying4 (h.2 4 _ _ rfl rfl)
    obtain ⟨x5, rfl, w5⟩ := cell_s Tryz.underlying9 (h.2 5 _ _ rfl rfl)
    exact ⟨⟨x0, x1, ⟨x2, x3, x4, x5⟩⟩, TurnRep_mk (x := ⟨x0, x1, ⟨x2, x3, x4, x5⟩⟩) w0 w2 w3 w5⟩

theorem leaf_68 : leafT Tryz.prog 6 68 = some [9, 4, 2, 2, 4, 9] := by kernel_rfl
theorem cells_68 : Tryz.prog.cellsOf 68 = 6 := by kernel_rfl

theorem given_walk {H : Type} {enc : TypeId × Value → H} (W : World) (args : Array Value) (hL : laidMetH Tryz.prog laidL W) (hS : W.ShapedOpen Tryz.prog) (h : Given enc Tryz.prog W Tryz.f5.params.toList args.toList) :
    Calls Tryz.prog 5 args W fun e W' => e = .returned (.bool true) ∧ Below W.heap.size W W' := by
  rw [Tryz.params5] at h
  obtain ⟨v0, vs0, hargs, a0, h⟩ := given_cons h
  obtain ⟨v1, vs1, rfl, a1, h⟩ := given_cons h
  obtain rfl := given_nil h
  obtain rfl : args = #[v0, v1] := by cases args; simp_all
  obtain ⟨cs0, rfl, hr0⟩ := arg_struct Tryz.underlying23 leaf_23 cells_23 a0
  obtain ⟨x0, y0⟩ := ofrow_23 hr0
  have z0 : Lies BoardRep x0 := ⟨_, _, _, y0⟩
  obtain ⟨rfl, w0_0, w0_1, w0_2⟩ := BoardRep_open y0
  obtain ⟨x1, y1⟩ := cell_list TurnRep Tryz.underlying24 leaf_68 cells_68 (by decide) rfl (fun row h => ofrow_68 h) (arg_slice Tryz.underlying24 a1)
  obtain ⟨A1, c1, e1, w1⟩ := slice_form y1
  cases e1
  exact (r_laws_FnExactReplayTurns (Cx.law W (· < W.heap.size) (fun _ h => h) (Tabs.start hL hS)) x0 w0_0 w0_1 w0_2 x1 A1 c1 w1 true (m_laws_FnExactReplayTurns_true x0 x1 z0 ⟨_, _, _, w1⟩)).mono fun e w ⟨he, hM⟩ => ⟨he, hM.chg.below⟩

set_option maxRecDepth 100000 in
theorem lifted (os : Os) (started : os.Started) (H : Type) (enc : TypeId × Value → H) :
    ReturnsInHanded {} Tryz.checked os 5 .any (fun w args => (Rows.fnExactReplayTurnsSpec.pre enc Tryz.prog Tryz.f5 [] false w args ∧ laidMetH Tryz.prog laidL w) ∧ sizedMet enc Tryz.prog Tryz.f5 (OpenSpec.ofChange Rows.fnExactReplayTurnsSpec) false w args) (Rows.fnExactReplayTurnsSpec.post enc Tryz.prog Tryz.f5 false true false false) :=
  law_liftX (X := fun w => laidMetH Tryz.prog laidL w) (fun _ _ hh h => h.of_heap hh) started Tryz.func5 (by kernel_rfl) (by kernel_rfl) rfl rfl (fun ds h => by match ds, h with | [d0, d1], _ => exact ⟨rfl, rfl, rfl⟩)
    (ChangeSpec.witness_shaped (enc := enc) (C := Tryz.checked) (os := os) (X := fun w _ => laidMetH Tryz.prog laidL w) false (startW os) #[.agg #[.int .i64 0, .string ByteArray.empty, .string ByteArray.empty], .slice none 0 0] 8 (startW_os os) (startW_shaped os _) (by kernel_rfl) (by kernel_rfl) (by kernel_rfl) (door_met os _))
    (fun W args hL hS h => given_walk W args hL hS h)

theorem over : Rows.fnExactReplayTurnsRow.holds Tryz.pinned (OpenSpec.ofChange Rows.fnExactReplayTurnsSpec) :=
  OpenClaim.holds_of_wide 5 Tryz.f5 rfl rfl rfl rfl rfl rfl rfl ⟨rfl, rfl, rfl, rfl, rfl⟩ rfl rfl rfl rfl rfl (by kernel_rfl) Tryz.func5 (by kernel_rfl)
    (of_decide_eq_true (by kernel_rfl)) (by unfold Func.isWrapper; first | (rw [if_pos (by decide +kernel)]; kernel_rfl) | (rw [if_neg (by decide +kernel)]; exact ⟨rfl, rfl⟩))
    (fun os started H enc _ => lifted os started H enc)

theorem proved : Rows.FnExactReplayTurnsCardSaid :=
  Claim7.holds_tied_plain_at .later [] [.data, .pinned, .pinned] true (true, "d723a50463c80438967f982e7e7a0a48ef27ea6ca9bb4bdf4ea613ea7c0ac188") true
    over (fun _ h => by cases h) (by kernel_rfl) (fun _ h => by cases h) fnExactReplayTurns_row_tie rfl ⟨rfl, rfl⟩ (by kernel_rfl) rfl
    (fun f fn hf hfn => by
      obtain rfl : f = 5 := Option.some.inj ((show Tryz.prog.funcNamed "loop.example/g00911/laws.FnExactReplayTurns" = some 5 by kernel_rfl).symm.trans hf) |>.symm
      obtain rfl : fn = Tryz.f5 := (Option.some.inj (Tryz.func5.symm.trans hfn)).symm
      exact ⟨by kernel_rfl, fun j t ht => by
        rw [Tryz.params5] at ht
        have hm : t ∈ [23, 24] := by simpa using Array.mem_of_getElem? ht
        have hall : ([23, 24].all fun u => !Tryz.prog.wantsStandIn u) = true := by kernel_rfl
        exact (show Tryz.prog.wantsStandIn t = false by simpa using List.all_eq_true.1 hall t hm)⟩)
    (by kernel_rfl)
#print axioms proved

end Go.Proofs.YtbekokenomhgeaaGreatDoor.fnExactReplayTurns
