/- The statement of FnExactReadGrid holds of the given program, for all arguments. Printed by drive.py. -/
import Derived.SevenTiedAt
import Derived.LaidMore
import Derived.Test.YtgmikhdealhlfaaDoorTie
import Derived.Test.YtgmikhdealhlfaaDoorCards
import Derived.Test.YtgmikhdealhlfaaDoorEngS
import Derived.Test.YtgmikhdealhlfaaDoorEngL
import Derived.Test.YtgmikhdealhlfaaDoorReadGridRef
import Derived.Test.YtgmikhdealhlfaaDoorReadGridPure
namespace Go.Proofs.YtgmikhdealhlfaaDoor.fnExactReadGrid
open Go.ChangeShapes Go.WideShapes Go.ChangeAt Go.RowKit Go.Deep
set_option linter.unusedSimpArgs false
set_option linter.unusedVariables false

theorem given_walk {H : Type} {enc : TypeId × Value → H} (W : World) (args : Array Value) (hL : laidMetH Tryd.prog laidL W) (hS : W.ShapedOpen Tryd.prog) (h : Given enc Tryd.prog W Tryd.f3.params.toList args.toList) :
    Calls Tryd.prog 3 args W fun e W' => e = .returned (.bool true) ∧ Below W.heap.size W W' := by
  rw [Tryd.params3] at h
  obtain ⟨v0, vs0, hargs, a0, h⟩ := given_cons h
  obtain rfl := given_nil h
  obtain rfl : args = #[v0] := by cases args; simp_all
  obtain ⟨x0, rfl, w0⟩ := arg_s Tryd.underlying9 a0
  exact (r_laws_FnExactReadGrid (Cx.law W (· < W.heap.size) (fun _ h => h) (Tabs.start hL hS)) x0 w0 true (m_laws_FnExactReadGrid_true x0 ⟨W, fun _ => True, _, rfl, w0⟩)).mono fun e w ⟨he, hM⟩ => ⟨he, hM.chg.below⟩

set_option maxRecDepth 100000 in
theorem lifted (os : Os) (started : os.Started) (H : Type) (enc : TypeId × Value → H) :
    ReturnsInHanded {} Tryd.checked os 3 .any (fun w args => (Rows.fnExactReadGridSpec.pre enc Tryd.prog Tryd.f3 [] false w args ∧ laidMetH Tryd.prog laidL w) ∧ sizedMet enc Tryd.prog Tryd.f3 (OpenSpec.ofChange Rows.fnExactReadGridSpec) false w args) (Rows.fnExactReadGridSpec.post enc Tryd.prog Tryd.f3 false true false false) :=
  law_liftX (X := fun w => laidMetH Tryd.prog laidL w) (fun _ _ hh h => h.of_heap hh) started Tryd.func3 (by kernel_rfl) (by kernel_rfl) rfl rfl (fun ds h => by match ds, h with | [d0], _ => exact ⟨rfl, rfl, rfl⟩)
    (ChangeSpec.witness_shaped (enc := enc) (C := Tryd.checked) (os := os) (X := fun w _ => laidMetH Tryd.prog laidL w) false (startW os) #[.string ByteArray.empty] 8 (startW_os os) (startW_shaped os _) (by kernel_rfl) (by kernel_rfl) (by kernel_rfl) (door_met os _))
    (fun W args hL hS h => given_walk W args hL hS h)

theorem over : Rows.fnExactReadGridRow.holds Tryd.pinned (OpenSpec.ofChange Rows.fnExactReadGridSpec) :=
  OpenClaim.holds_of_wide 3 Tryd.f3 rfl rfl rfl rfl rfl rfl rfl ⟨rfl, rfl, rfl, rfl, rfl⟩ rfl rfl rfl rfl rfl (by kernel_rfl) Tryd.func3 (by kernel_rfl)
    (of_decide_eq_true (by kernel_rfl)) (by unfold Func.isWrapper; first | (rw [if_pos (by decide +kernel)]; kernel_rfl) | (rw [if_neg (by decide +kernel)]; exact ⟨rfl, rfl⟩))
    (fun os started H enc _ => lifted os started H enc)

theorem proved : Rows.FnExactReadGridCardSaid :=
  Claim7.holds_tied_plain_at .later [] [.data, .pinned] true (true, "40e2405e68024ffd2f0175bf38f474dcf29482b6a6e33aecf7b301b973c24ca8") false
    over (fun _ h => by cases h) (by kernel_rfl) (fun _ h => by cases h) fnExactReadGrid_row_tie rfl ⟨rfl, rfl⟩ (by kernel_rfl) rfl
    (fun f fn hf hfn => by
      obtain rfl : f = 3 := Option.some.inj ((show Tryd.prog.funcNamed "loop.example/g00911/laws.FnExactReadGrid" = some 3 by kernel_rfl).symm.trans hf) |>.symm
      obtain rfl : fn = Tryd.f3 := (Option.some.inj (Tryd.func3.symm.trans hfn)).symm
      exact ⟨by kernel_rfl, fun j t ht => by
        rw [Tryd.params3] at ht
        have hm : t ∈ [9] := by simpa using Array.mem_of_getElem? ht
        have hall : ([9].all fun u => !Tryd.prog.wantsStandIn u) = true := by kernel_rfl
        exact (show Tryd.prog.wantsStandIn t = false by simpa using List.all_eq_true.1 hall t hm)⟩)
    (by kernel_rfl)
#print axioms proved

end Go.Proofs.YtgmikhdealhlfaaDoor.fnExactReadGrid
