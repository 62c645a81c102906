/- The statement of FnExactCountsOf holds of the given program, for all arguments. Printed by drive.py. -/
import Derived.SevenTiedAt
import Derived.LaidMore
import Derived.Test.YtdaoecpkgobelaaDoorTie
import Derived.Test.YtdaoecpkgobelaaDoorCards
import Derived.Test.YtdaoecpkgobelaaDoorEngS
import Derived.Test.YtdaoecpkgobelaaDoorEngL
import Derived.Test.YtdaoecpkgobelaaDoorCountsOfRefC
import Derived.Test.YtdaoecpkgobelaaDoorCountsOfPure
namespace Go.Proofs.YtdaoecpkgobelaaDoor.fnExactCountsOf
open Go.ChangeShapes Go.WideShapes Go.ChangeAt Go.RowKit Go.Deep
set_option linter.unusedSimpArgs false
set_option linter.unusedVariables false

theorem leaf_2 : leafT Tryd.prog 6 2 = some [2] := by kernel_rfl
theorem cells_2 : Tryd.prog.cellsOf 2 = 1 := by kernel_rfl

theorem ofrow_121 {H : Type} {enc : TypeId × Value → H} {W : World} {row : List Value} (h : Row enc Tryd.prog W [4, 9, 31] row) : ∃ x, NodeRep.R W (· < W.heap.size) x row := by
  match row, h.1 with
  | [v0, v1, v2], _ =>
    obtain ⟨x0, rfl⟩ := cell_bool Tryd.underlying4 (h.2 0 _ _ rfl rfl)
    obtain ⟨x1, rfl, w1⟩ := cell_s Tryd.underlying9 (h.2 1 _ _ rfl rfl)
    obtain ⟨x2, y2⟩ := cell_list intRep Tryd.underlying31 leaf_2 cells_2 (by decide) rfl (fun row h => row_i Tryd.underlying2 h) (h.2 2 _ _ rfl rfl)
    obtain ⟨A2, c2, e2, w2⟩ := slice_form y2
    cases e2
    exact ⟨⟨x0, x1, x2⟩, NodeRep_mk (x := ⟨x0, x1, x2⟩) w1 w2⟩

theorem leaf_121 : leafT Tryd.prog 6 121 = some [4, 9, 31] := by kernel_rfl
theorem cells_121 : Tryd.prog.cellsOf 121 = 3 := by kernel_rfl

theorem ofrow_48 {H : Type} {enc : TypeId × Value → H} {W : World} {row : List Value} (h : Row enc Tryd.prog W [46] row) : ∃ x, DawgRep.R W (· < W.heap.size) x row := by
  match row, h.1 with
  | [v0], _ =>
    obtain ⟨x0, y0⟩ := cell_list NodeRep Tryd.underlying46 leaf_121 cells_121 (by decide) rfl (fun row h => ofrow_121 h) (h.2 0 _ _ rfl rfl)
    obtain ⟨A0, c0, e0, w0⟩ := slice_form y0
    cases e0
    exact ⟨⟨x0⟩, DawgRep_mk (x := ⟨x0⟩) w0⟩

theorem leaf_48 : leafT Tryd.prog 6 48 = some [46] := by kernel_rfl
theorem cells_48 : Tryd.prog.cellsOf 48 = 1 := by kernel_rfl

theorem given_walk {H : Type} {enc : TypeId × Value → H} (W : World) (args : Array Value) (hL : laidMetH Tryd.prog laidL W) (hS : W.ShapedOpen Tryd.prog) (h : Given enc Tryd.prog W Tryd.f6.params.toList args.toList) :
    Calls Tryd.prog 6 args W fun e W' => e = .returned (.bool true) ∧ Below W.heap.size W W' := by
  rw [Tryd.params6] at h
  obtain ⟨v0, vs0, hargs, a0, h⟩ := given_cons h
  obtain rfl := given_nil h
  obtain rfl : args = #[v0] := by cases args; simp_all
  obtain ⟨cs0, rfl, hr0⟩ := arg_struct Tryd.underlying48 leaf_48 cells_48 a0
  obtain ⟨x0, y0⟩ := ofrow_48 hr0
  have z0 : Lies DawgRep x0 := ⟨_, _, _, y0⟩
  obtain ⟨A0_0, c0_0, rfl, w0_0⟩ := DawgRep_open y0
  exact (r_laws_FnExactCountsOf (Cx.law W (· < W.heap.size) (fun _ h => h) (Tabs.start hL hS)) x0 A0_0 c0_0 w0_0 true (m_laws_FnExactCountsOf_true x0 z0)).mono fun e w ⟨he, hM⟩ => ⟨he, hM.chg.below⟩

set_option maxRecDepth 100000 in
theorem lifted (os : Os) (started : os.Started) (H : Type) (enc : TypeId × Value → H) :
    ReturnsInHanded {} Tryd.checked os 6 .any (fun w args => (Rows.fnExactCountsOfSpec.pre enc Tryd.prog Tryd.f6 [] false w args ∧ laidMetH Tryd.prog laidL w) ∧ sizedMet enc Tryd.prog Tryd.f6 (OpenSpec.ofChange Rows.fnExactCountsOfSpec) false w args) (Rows.fnExactCountsOfSpec.post enc Tryd.prog Tryd.f6 false true false false) :=
  law_liftX (X := fun w => laidMetH Tryd.prog laidL w) (fun _ _ hh h => h.of_heap hh) started Tryd.func6 (by kernel_rfl) (by kernel_rfl) rfl rfl (fun ds h => by match ds, h with | [d0], _ => exact ⟨rfl, rfl, rfl⟩)
    (ChangeSpec.witness_shaped (enc := enc) (C := Tryd.checked) (os := os) (X := fun w _ => laidMetH Tryd.prog laidL w) false (startW os) #[.agg #[.slice none 0 0]] 8 (startW_os os) (startW_shaped os _) (by kernel_rfl) (by kernel_rfl) (by kernel_rfl) (door_met os _))
    (fun W args hL hS h => given_walk W args hL hS h)

theorem over : Rows.fnExactCountsOfRow.holds Tryd.pinned (OpenSpec.ofChange Rows.fnExactCountsOfSpec) :=
  OpenClaim.holds_of_wide 6 Tryd.f6 rfl rfl rfl rfl rfl rfl rfl ⟨rfl, rfl, rfl, rfl, rfl⟩ rfl rfl rfl rfl rfl (by kernel_rfl) Tryd.func6 (by kernel_rfl)
    (of_decide_eq_true (by kernel_rfl)) (by unfold Func.isWrapper; first | (rw [if_pos (by decide +kernel)]; kernel_rfl) | (rw [if_neg (by decide +kernel)]; exact ⟨rfl, rfl⟩))
    (fun os started H enc _ => lifted os started H enc)

theorem proved : Rows.FnExactCountsOfCardSaid :=
  Claim7.holds_tied_plain_at .later [] [.data, .data, .data] true (true, "e43fe4092d759e388c332818c69fb3b605915456db1f8a3e4149680d50ec1356") false
    over (fun _ h => by cases h) (by kernel_rfl) (fun _ h => by cases h) fnExactCountsOf_row_tie rfl ⟨rfl, rfl⟩ (by kernel_rfl) rfl
    (fun f fn hf hfn => by
      obtain rfl : f = 6 := Option.some.inj ((show Tryd.prog.funcNamed "loop.example/g00911/laws.FnExactCountsOf" = some 6 by kernel_rfl).symm.trans hf) |>.symm
      obtain rfl : fn = Tryd.f6 := (Option.some.inj (Tryd.func6.symm.trans hfn)).symm
      exact ⟨by kernel_rfl, fun j t ht => by
        rw [Tryd.params6] at ht
        have hm : t ∈ [48] := by simpa using Array.mem_of_getElem? ht
        have hall : ([48].all fun u => !Tryd.prog.wantsStandIn u) = true := by kernel_rfl
        exact (show Tryd.prog.wantsStandIn t = false by simpa using List.all_eq_true.1 hall t hm)⟩)
    (by kernel_rfl)
#print axioms proved

end Go.Proofs.YtdaoecpkgobelaaDoor.fnExactCountsOf
