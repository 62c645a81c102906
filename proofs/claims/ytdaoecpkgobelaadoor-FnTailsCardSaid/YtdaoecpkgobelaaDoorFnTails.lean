/- The statement of FnTails holds of the given program, for all arguments. Printed by drive.py. -/
import Derived.SevenTiedAt
import Derived.LaidMore
import Derived.Test.YtdaoecpkgobelaaDoorTie
import Derived.Test.YtdaoecpkgobelaaDoorCards
import Derived.Test.YtdaoecpkgobelaaDoorEngS
import Derived.Test.YtdaoecpkgobelaaDoorEngL
import Derived.Test.YtdaoecpkgobelaaDoorFnTailsRefD
import Derived.Test.YtdaoecpkgobelaaDoorFnTailsPure
namespace Go.Proofs.YtdaoecpkgobelaaDoor.fnTails
open Go.ChangeShapes Go.WideShapes Go.ChangeAt Go.RowKit Go.Deep
set_option linter.unusedSimpArgs false
set_option linter.unusedVariables false

theorem leaf_5 : leafT Tryd.prog 6 5 = some [5] := by kernel_rfl
theorem cells_5 : Tryd.prog.cellsOf 5 = 1 := by kernel_rfl

theorem given_walk {H : Type} {enc : TypeId × Value → H} (W : World) (args : Array Value) (hL : laidMetH Tryd.prog laidL W) (hS : W.ShapedOpen Tryd.prog) (h : Given enc Tryd.prog W Tryd.f10.params.toList args.toList) :
    Calls Tryd.prog 10 args W fun e W' => e = .returned (.bool true) ∧ Below W.heap.size W W' := by
  rw [Tryd.params10] at h
  obtain ⟨v0, vs0, hargs, a0, h⟩ := given_cons h
  obtain ⟨v1, vs1, rfl, a1, h⟩ := given_cons h
  obtain rfl := given_nil h
  obtain rfl : args = #[v0, v1] := by cases args; simp_all
  obtain ⟨x0, y0⟩ := cell_list byteRep Tryd.underlying22 leaf_5 cells_5 (by decide) rfl (fun row h => row_c Tryd.underlying5 h) (arg_slice Tryd.underlying22 a0)
  obtain ⟨A0, c0, e0, w0⟩ := slice_form y0
  cases e0
  obtain ⟨x1, y1⟩ := cell_list byteRep Tryd.underlying22 leaf_5 cells_5 (by decide) rfl (fun row h => row_c Tryd.underlying5 h) (arg_slice Tryd.underlying22 a1)
  obtain ⟨A1, c1, e1, w1⟩ := slice_form y1
  cases e1
  exact (r_laws_FnTails (Cx.law W (· < W.heap.size) (fun _ h => h) (Tabs.start hL hS)) x0 A0 c0 w0 x1 A1 c1 w1 true (m_laws_FnTails_true x0 x1 ⟨_, _, _, w0⟩ ⟨_, _, _, w1⟩)).mono fun e w ⟨he, hM⟩ => ⟨he, hM.chg.below⟩

set_option maxRecDepth 100000 in
theorem lifted (os : Os) (started : os.Started) (H : Type) (enc : TypeId × Value → H) :
    ReturnsInHanded {} Tryd.checked os 10 .any (fun w args => (Rows.fnTailsSpec.pre enc Tryd.prog Tryd.f10 [] false w args ∧ laidMetH Tryd.prog laidL w) ∧ sizedMet enc Tryd.prog Tryd.f10 (OpenSpec.ofChange Rows.fnTailsSpec) false w args) (Rows.fnTailsSpec.post enc Tryd.prog Tryd.f10 false true false false) :=
  law_liftX (X := fun w => laidMetH Tryd.prog laidL w) (fun _ _ hh h => h.of_heap hh) started Tryd.func10 (by kernel_rfl) (by kernel_rfl) rfl rfl (fun ds h => by match ds, h with | [d0, d1], _ => exact ⟨rfl, rfl, rfl⟩)
    (ChangeSpec.witness_shaped (enc := enc) (C := Tryd.checked) (os := os) (X := fun w _ => laidMetH Tryd.prog laidL w) false (startW os) #[.slice none 0 0, .slice none 0 0] 8 (startW_os os) (startW_shaped os _) (by kernel_rfl) (by kernel_rfl) (by kernel_rfl) (door_met os _))
    (fun W args hL hS h => given_walk W args hL hS h)

theorem over : Rows.fnTailsRow.holds Tryd.pinned (OpenSpec.ofChange Rows.fnTailsSpec) :=
  OpenClaim.holds_of_wide 10 Tryd.f10 rfl rfl rfl rfl rfl rfl rfl ⟨rfl, rfl, rfl, rfl, rfl⟩ rfl rfl rfl rfl rfl (by kernel_rfl) Tryd.func10 (by kernel_rfl)
    (of_decide_eq_true (by kernel_rfl)) (by unfold Func.isWrapper; first | (rw [if_pos (by decide +kernel)]; kernel_rfl) | (rw [if_neg (by decide +kernel)]; exact ⟨rfl, rfl⟩))
    (fun os started H enc _ => lifted os started H enc)

theorem proved : Rows.FnTailsCardSaid :=
  Claim7.holds_tied_plain_at .later [] [.data, .data, .data] true (true, "e43fe4092d759e388c332818c69fb3b605915456db1f8a3e4149680d50ec1356") false
    over (fun _ h => by cases h) (by kernel_rfl) (fun _ h => by cases h) fnTails_row_tie rfl ⟨rfl, rfl⟩ (by kernel_rfl) rfl
    (fun f fn hf hfn => by
      obtain rfl : f = 10 := Option.some.inj ((show Tryd.prog.funcNamed "loop.example/g00911/laws.FnTails" = some 10 by kernel_rfl).symm.trans hf) |>.symm
      obtain rfl : fn = Tryd.f10 := (Option.some.inj (Tryd.func10.symm.trans hfn)).symm
      exact ⟨by kernel_rfl, fun j t ht => by
        rw [Tryd.params10] at ht
        have hm : t ∈ [22, 22] := by simpa using Array.mem_of_getElem? ht
        have hall : ([22, 22].all fun u => !Tryd.prog.wantsStandIn u) = true := by kernel_rfl
        exact (show Tryd.prog.wantsStandIn t = false by simpa using List.all_eq_true.1 hall t hm)⟩)
    (by kernel_rfl)
#print axioms proved

end Go.Proofs.YtdaoecpkgobelaaDoor.fnTails
