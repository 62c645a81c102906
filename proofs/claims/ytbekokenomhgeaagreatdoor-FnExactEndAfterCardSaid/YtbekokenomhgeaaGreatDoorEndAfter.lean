/- The statement of FnExactEndAfter holds of the given program, for all arguments. Printed by drive.py. -/
import Derived.SevenTiedAt
import Derived.LaidMore
import Derived.Test.YtbekokenomhgeaaGreatDoorTie
import Derived.Test.YtbekokenomhgeaaGreatDoorCards
import Derived.Test.YtbekokenomhgeaaGreatDoorEngS
import Derived.Test.YtbekokenomhgeaaGreatDoorEngL
import Derived.Test.YtbekokenomhgeaaGreatDoorEndAfterRefC
import Derived.Test.YtbekokenomhgeaaGreatDoorEndAfterPure
namespace Go.Proofs.YtbekokenomhgeaaGreatDoor.fnExactEndAfter
open Go.ChangeShapes Go.WideShapes Go.ChangeAt Go.RowKit Go.Deep
set_option linter.unusedSimpArgs false
set_option linter.unusedVariables false

theorem ofrow_23 {H : Type} {enc : TypeId × Value → H} {W : World} {row : List Value} (h : Row enc Tryz.prog W [2, 9, 9] row) : ∃ x, BoardRep.R W (· < W.heap.size) x row := by
  match row, h.1 with
  | [v0, v1, v2], _ =>
    obtain ⟨x0, rfl, w0⟩ := cell_i Tryz.underlying2 (h.2 0 _ _ rfl rfl)
    obtain ⟨x1, rfl, w1⟩ := cell_s Tryz.underlying9 (h.2 1 _ _ rfl rfl)
    obtain ⟨x2, rfl, w2⟩ := cell_s Tryz.underlying9 (h.2 2 _ _ rfl rfl)
    exact ⟨⟨x0, x1, x2⟩, BoardRep_mk (x := ⟨x0, x1, x2⟩) w0 w1 w2⟩

theorem leaf_23 : leafT Tryz.prog 6 23 = some [2, 9, 9] := by kernel_rfl
theorem cells_23 : Tryz.prog.cellsOf 23 = 3 := by kernel_rfl

theorem ofrow_35 {H : Type} {enc : TypeId × Value → H} {W : World} {row : List Value} (h : Row enc Tryz.prog W [2, 2, 4, 9] row) : ∃ x, PlayRep.R W (· < W.heap.size) x row := by
  match row, h.1 with
  | [v0, v1, v2, v3], _ =>
    obtain ⟨x0, rfl, w0⟩ := cell_i Tryz.underlying2 (h.2 0 _ _ rfl rfl)
    obtain ⟨x1, rfl, w1⟩ := cell_i Tryz.underlying2 (h.2 1 _ _ rfl rfl)
    obtain ⟨x2, rfl⟩ := cell_bool Tryz.underlying4 (h.2 2 _ _ rfl rfl)
    obtain ⟨x3, rfl, w3⟩ := cell_s Tryz.underlying9 (h.2 3 _ _ rfl rfl)
    exact ⟨⟨x0, x1, x2, x3⟩, PlayRep_mk (x := ⟨x0, x1, x2, x3⟩) w0 w1 w3⟩

theorem leaf_35 : leafT Tryz.prog 6 35 = some [2, 2, 4, 9] := by kernel_rfl
theorem cells_35 : Tryz.prog.cellsOf 35 = 4 := by kernel_rfl

theorem given_walk {H : Type} {enc : TypeId × Value → H} (W : World) (args : Array Value) (hL : laidMetH Tryz.prog laidL W) (hS : W.ShapedOpen Tryz.prog) (h : Given enc Tryz.prog W Tryz.f4.params.toList args.toList) :
    Calls Tryz.prog 4 args W fun e W' => e = .returned (.bool true) ∧ Below W.heap.size W W' := by
  rw [Tryz.params4] at h
  obtain ⟨v0, vs0, hargs, a0, h⟩ := given_cons h
  obtain ⟨v1, vs1, rfl, a1, h⟩ := given_cons h
  obtain ⟨v2, vs2, rfl, a2, h⟩ := given_cons h
  obtain ⟨v3, vs3, rfl, a3, h⟩ := given_cons h
  obtain ⟨v4, vs4, rfl, a4, h⟩ := given_cons h
  obtain rfl := given_nil h
  obtain rfl : args = #[v0, v1, v2, v3, v4] := by cases args; simp_all
  obtain ⟨cs0, rfl, hr0⟩ := arg_struct Tryz.underlying23 leaf_23 cells_23 a0
  obtain ⟨x0, y0⟩ := ofrow_23 hr0
  have z0 : Lies BoardRep x0 := ⟨_, _, _, y0⟩
  obtain ⟨rfl, w0_0, w0_1, w0_2⟩ := BoardRep_open y0
  obtain ⟨x1, rfl, w1⟩ := arg_s Tryz.underlying9 a1
  obtain ⟨x2, rfl, w2⟩ := arg_s Tryz.underlying9 a2
  obtain ⟨cs3, rfl, hr3⟩ := arg_struct Tryz.underlying35 leaf_35 cells_35 a3
  obtain ⟨x3, y3⟩ := ofrow_35 hr3
  have z3 : Lies PlayRep x3 := ⟨_, _, _, y3⟩
  obtain ⟨rfl, w3_0, w3_1, w3_3⟩ := PlayRep_open y3
  obtain ⟨x4, rfl, w4⟩ := arg_s Tryz.underlying9 a4
  exact (r_laws_FnExactEndAfter (Cx.law W (· < W.heap.size) (fun _ h => h) (Tabs.start hL hS)) x0 w0_0 w0_1 w0_2 x1 w1 x2 w2 x3 w3_0 w3_1 w3_3 x4 w4 true (m_laws_FnExactEndAfter_true x0 x1 x2 x3 x4 z0 ⟨W, fun _ => True, _, rfl, w1⟩ ⟨W, fun _ => True, _, rfl, w2⟩ z3 ⟨W, fun _ => True, _, rfl, w4⟩)).mono fun e w ⟨he, hM⟩ => ⟨he, hM.chg.below⟩

set_option maxRecDepth 100000 in
theorem lifted (os : Os) (started : os.Started) (H : Type) (enc : TypeId × Value → H) :
    ReturnsInHanded {} Tryz.checked os 4 .any (fun w args => (Rows.fnExactEndAfterSpec.pre enc Tryz.prog Tryz.f4 [] false w args ∧ laidMetH Tryz.prog laidL w) ∧ sizedMet enc Tryz.prog Tryz.f4 (OpenSpec.ofChange Rows.fnExactEndAfterSpec) false w args) (Rows.fnExactEndAfterSpec.post enc Tryz.prog Tryz.f4 false true false false) :=
  law_liftX (X := fun w => laidMetH Tryz.prog laidL w) (fun _ _ hh h => h.of_heap hh) started Tryz.func4 (by kernel_rfl) (by kernel_rfl) rfl rfl (fun ds h => by match ds, h with | [d0, d1, d2, d3, d4], _ => exact ⟨rfl, rfl, rfl⟩)
    (ChangeSpec.witness_shaped (enc := enc) (C := Tryz.checked) (os := os) (X := fun w _ => laidMetH Tryz.prog laidL w) false (startW os) #[.agg #[.int .i64 0, .string ByteArray.empty, .string ByteArray.empty], .string ByteArray.empty, .string ByteArray.empty, .agg #[.int .i64 0, .int .i64 0, .bool false, .string ByteArray.empty], .string ByteArray.empty] 8 (startW_os os) (startW_shaped os _) (by kernel_rfl) (by kernel_rfl) (by kernel_rfl) (door_met os _))
    (fun W args hL hS h => given_walk W args hL hS h)

theorem over : Rows.fnExactEndAfterRow.holds Tryz.pinned (OpenSpec.ofChange Rows.fnExactEndAfterSpec) :=
  OpenClaim.holds_of_wide 4 Tryz.f4 rfl rfl rfl rfl rfl rfl rfl ⟨rfl, rfl, rfl, rfl, rfl⟩ rfl rfl rfl rfl rfl (by kernel_rfl) Tryz.func4 (by kernel_rfl)
    (of_decide_eq_true (by kernel_rfl)) (by unfold Func.isWrapper; first | (rw [if_pos (by decide +kernel)]; kernel_rfl) | (rw [if_neg (by decide +kernel)]; exact ⟨rfl, rfl⟩))
    (fun os started H enc _ => lifted os started H enc)

theorem proved : Rows.FnExactEndAfterCardSaid :=
  Claim7.holds_tied_plain_at .later [] [.data, .pinned, .pinned] true (true, "d723a50463c80438967f982e7e7a0a48ef27ea6ca9bb4bdf4ea613ea7c0ac188") true
    over (fun _ h => by cases h) (by kernel_rfl) (fun _ h => by cases h) fnExactEndAfter_row_tie rfl ⟨rfl, rfl⟩ (by kernel_rfl) rfl
    (fun f fn hf hfn => by
      obtain rfl : f = 4 := Option.some.inj ((show Tryz.prog.funcNamed "loop.example/g00911/laws.FnExactEndAfter" = some 4 by kernel_rfl).symm.trans hf) |>.symm
      obtain rfl : fn = Tryz.f4 := (Option.some.inj (Tryz.func4.symm.trans hfn)).symm
      exact ⟨by kernel_rfl, fun j t ht => by
        rw [Tryz.params4] at ht
        have hm : t ∈ [23, 9, 9, 35, 9] := by simpa using Array.mem_of_getElem? ht
        have hall : ([23, 9, 9, 35, 9].all fun u => !Tryz.prog.wantsStandIn u) = true := by kernel_rfl
        exact (show Tryz.prog.wantsStandIn t = false by simpa using List.all_eq_true.1 hall t hm)⟩)
    (by kernel_rfl)
#print axioms proved

end Go.Proofs.YtbekokenomhgeaaGreatDoor.fnExactEndAfter
