/- The statement of FnChanges holds of the given program, for all arguments. Printed by drive.py. -/
import Derived.SevenTiedAt
import Derived.LaidMore
import Derived.Test.YtdaoecpkgobelaaGreatDoorTie
import Derived.Test.YtdaoecpkgobelaaGreatDoorCards
import Derived.Test.YtdaoecpkgobelaaGreatDoorEngS
import Derived.Test.YtdaoecpkgobelaaGreatDoorEngV
import Derived.Test.YtdaoecpkgobelaaGreatDoorEngL
import Derived.Test.YtdaoecpkgobelaaGreatDoorFnChangesRefD
import Derived.Test.YtdaoecpkgobelaaGreatDoorFnChangesPure
namespace Go.Proofs.YtdaoecpkgobelaaGreatDoor.fnChanges
open Go.ChangeShapes Go.WideShapes Go.ChangeAt Go.RowKit Go.Deep
set_option linter.unusedSimpArgs false
set_option linter.unusedVariables false

theorem leaf_5 : leafT Tryz.prog 6 5 = some [5] := by kernel_rfl
theorem cells_5 : Tryz.prog.cellsOf 5 = 1 := by kernel_rfl

theorem given_walk {H : Type} {enc : TypeId × Value → H} (W : World) (args : Array Value) (hL : laidMetH Tryz.prog laidL W) (hS : W.ShapedOpen Tryz.prog) (h : Given enc Tryz.prog W Tryz.f4.params.toList args.toList) :
    Calls Tryz.prog 4 args W fun e W' => e = .returned (.bool true) ∧ Below W.heap.size W W' := by
  rw [Tryz.params4] at h
  obtain ⟨v0, vs0, hargs, a0, h⟩ := given_cons h
  obtain ⟨v1, vs1, rfl, a1, h⟩ := given_cons h
  obtain rfl := given_nil h
  obtain rfl : args = #[v0, v1] := by cases args; simp_all
  obtain ⟨x0, y0⟩ := cell_list byteRep Tryz.underlying22 leaf_5 cells_5 (by decide) rfl (fun row h => row_c Tryz.underlying5 h) (arg_slice Tryz.underlying22 a0)
  obtain ⟨A0, c0, e0, w0⟩ := slice_form y0
  cases e0
  obtain ⟨x1, y1⟩ := cell_list byteRep Tryz.underlying22 leaf_5 cells_5 (by decide) rfl (fun row h => row_c Tryz.underlying5 h) (arg_slice Tryz.underlying22 a1)
  obtain ⟨A1, c1, e1, w1⟩ := slice_form y1
  cases e1
  exact (r_laws_FnChanges (Cx.law W (· < W.heap.size) (fun _ h => h) (Tabs.start hL hS)) x0 A0 c0 w0 x1 A1 c1 w1 true (m_laws_FnChanges_true x0 x1 ⟨_, _, _, w0⟩ ⟨_, _, _, w1⟩)).mono fun e w ⟨he, hM⟩ => ⟨he, hM.chg.below⟩

set_option maxRecDepth 100000 in
theorem lifted (os : Os) (started : os.Started) (H : Type) (enc : TypeId × Value → H) :
    ReturnsInHanded {} Tryz.checked os 4 .any (fun w args => (Rows.fnChangesSpec.pre enc Tryz.prog Tryz.f4 [] false w args ∧ laidMetH Tryz.prog laidL w) ∧ sizedMet enc Tryz.prog Tryz.f4 (OpenSpec.ofChange Rows.fnChangesSpec) false w args) (Rows.fnChangesSpec.post enc Tryz.prog Tryz.f4 false true false false) :=
  law_liftV (X := fun w => laidMetH Tryz.prog laidL w) (fun _ _ hh h => h.of_heap hh) started Tryz.func4 (by kernel_rfl) (by kernel_rfl) rfl (fun n hn g t h1 h2 => by
      have hn : n ∈ ["loop.example/g00911/impl.errMissing", "loop.example/g00911/impl.errNoForm", "loop.example/g00911/impl.errAccepted"] := hn
      simp only [List.mem_cons, List.not_mem_nil, or_false] at hn
      rcases hn with rfl | rfl | rfl
      · obtain rfl := Option.some.inj ((show Tryz.prog.globalNamed "loop.example/g00911/impl.errMissing" = some 0 by kernel_rfl).symm.trans h1)
        obtain rfl := Option.some.inj ((show (Tryz.prog.globals[0]?).map (·.type) = some 71 by kernel_rfl).symm.trans h2)
        exact ⟨_, Tryz.underlying71⟩
      · obtain rfl := Option.some.inj ((show Tryz.prog.globalNamed "loop.example/g00911/impl.errNoForm" = some 1 by kernel_rfl).symm.trans h1)
        obtain rfl := Option.some.inj ((show (Tryz.prog.globals[1]?).map (·.type) = some 71 by kernel_rfl).symm.trans h2)
        exact ⟨_, Tryz.underlying71⟩
      · obtain rfl := Option.some.inj ((show Tryz.prog.globalNamed "loop.example/g00911/impl.errAccepted" = some 2 by kernel_rfl).symm.trans h1)
        obtain rfl := Option.some.inj ((show (Tryz.prog.globals[2]?).map (·.type) = some 71 by kernel_rfl).symm.trans h2)
        exact ⟨_, Tryz.underlying71⟩) (fun ds gs h hg => by match ds, gs, h, hg with | [d0, d1], [g0, g1, g2], _, _ => exact ⟨rfl, rfl, rfl⟩)
    (ChangeSpec.witness_shaped (enc := enc) (C := Tryz.checked) (os := os) (X := fun w _ => laidMetH Tryz.prog laidL w) false (startW os) #[.slice none 0 0, .slice none 0 0] 8 (startW_os os) (startW_shaped os _) (by kernel_rfl) (by kernel_rfl) (by kernel_rfl) (door_met os _))
    (fun W args hL hS h => given_walk W args hL hS h)

theorem over : Rows.fnChangesRow.holds Tryz.pinned (OpenSpec.ofChange Rows.fnChangesSpec) :=
  OpenClaim.holds_of_wide 4 Tryz.f4 rfl rfl rfl rfl rfl rfl rfl ⟨rfl, rfl, rfl, rfl, rfl⟩ rfl rfl rfl rfl rfl (by kernel_rfl) Tryz.func4 (by kernel_rfl)
    (of_decide_eq_true (by kernel_rfl)) (by unfold Func.isWrapper; first | (rw [if_pos (by decide +kernel)]; kernel_rfl) | (rw [if_neg (by decide +kernel)]; exact ⟨rfl, rfl⟩))
    (fun os started H enc _ => lifted os started H enc)

theorem proved : Rows.FnChangesCardSaid :=
  Claim7.holds_tied_plain_at .later [] [.data, .data, .data, .sentinel, .sentinel, .sentinel] true (true, "1b26a5d3d660c099ec5beced310c95c280601cddedfca436bbb268100d63dc49") true
    over (fun _ h => by cases h) (by kernel_rfl) (fun _ h => by cases h) fnChanges_row_tie rfl ⟨rfl, rfl⟩ (by kernel_rfl) rfl
    (fun f fn hf hfn => by
      obtain rfl : f = 4 := Option.some.inj ((show Tryz.prog.funcNamed "loop.example/g00911/laws.FnChanges" = some 4 by kernel_rfl).symm.trans hf) |>.symm
      obtain rfl : fn = Tryz.f4 := (Option.some.inj (Tryz.func4.symm.trans hfn)).symm
      exact ⟨by kernel_rfl, fun j t ht => by
        rw [Tryz.params4] at ht
        have hm : t ∈ [22, 22] := by simpa using Array.mem_of_getElem? ht
        have hall : ([22, 22].all fun u => !Tryz.prog.wantsStandIn u) = true := by kernel_rfl
        exact (show Tryz.prog.wantsStandIn t = false by simpa using List.all_eq_true.1 hall t hm)⟩)
    (by kernel_rfl)
#print axioms proved

end Go.Proofs.YtdaoecpkgobelaaGreatDoor.fnChanges
