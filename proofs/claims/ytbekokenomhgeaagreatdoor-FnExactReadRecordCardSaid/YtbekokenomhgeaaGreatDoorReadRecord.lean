/- The statement of FnExactReadRecord holds of the given program, for all arguments. Printed by drive.py. -/
import Derived.SevenTiedAt
import Derived.LaidMore
import Derived.Test.YtbekokenomhgeaaGreatDoorTie
import Derived.Test.YtbekokenomhgeaaGreatDoorCards
import Derived.Test.YtbekokenomhgeaaGreatDoorEngS
import Derived.Test.YtbekokenomhgeaaGreatDoorEngL
import Derived.Test.YtbekokenomhgeaaGreatDoorReadRecordRefB
import Derived.Test.YtbekokenomhgeaaGreatDoorReadRecordPure
namespace Go.Proofs.YtbekokenomhgeaaGreatDoor.fnExactReadRecord
open Go.ChangeShapes Go.WideShapes Go.ChangeAt Go.RowKit Go.Deep
set_option linter.unusedSimpArgs false
set_option linter.unusedVariables false

theorem given_walk {H : Type} {enc : TypeId × Value → H} (W : World) (args : Array Value) (hL : laidMetH Tryz.prog laidL W) (hS : W.ShapedOpen Tryz.prog) (h : Given enc Tryz.prog W Tryz.f8.params.toList args.toList) :
    Calls Tryz.prog 8 args W fun e W' => e = .returned (.bool true) ∧ Below W.heap.size W W' := by
  rw [Tryz.params8] at h
  obtain ⟨v0, vs0, hargs, a0, h⟩ := given_cons h
  obtain rfl := given_nil h
  obtain rfl : args = #[v0] := by cases args; simp_all
  obtain ⟨x0, rfl, w0⟩ := arg_s Tryz.underlying9 a0
  exact (r_laws_FnExactReadRecord (Cx.law W (· < W.heap.size) (fun _ h => h) (Tabs.start hL hS)) x0 w0 true (m_laws_FnExactReadRecord_true x0 ⟨W, fun _ => True, _, rfl, w0⟩)).mono fun e w ⟨he, hM⟩ => ⟨he, hM.chg.below⟩

set_option maxRecDepth 100000 in
theorem lifted (os : Os) (started : os.Started) (H : Type) (enc : TypeId × Value → H) :
    ReturnsInHanded {} Tryz.checked os 8 .any (fun w args => (Rows.fnExactReadRecordSpec.pre enc Tryz.prog Tryz.f8 [] false w args ∧ laidMetH Tryz.prog laidL w) ∧ sizedMet enc Tryz.prog Tryz.f8 (OpenSpec.ofChange Rows.fnExactReadRecordSpec) false w args) (Rows.fnExactReadRecordSpec.post enc Tryz.prog Tryz.f8 false true false false) :=
  law_liftX (X := fun w => laidMetH Tryz.prog laidL w) (fun _ _ hh h => h.of_heap hh) started Tryz.func8 (by kernel_rfl) (by kernel_rfl) rfl rfl (fun ds h => by match ds, h with | [d0], _ => exact ⟨rfl, rfl, rfl⟩)
    (ChangeSpec.witness_shaped (enc := enc) (C := Tryz.checked) (os := os) (X := fun w _ => laidMetH Tryz.prog laidL w) false (startW os) #[.string ByteArray.empty] 8 (startW_os os) (startW_shaped os _) (by kernel_rfl) (by kernel_rfl) (by kernel_rfl) (door_met os _))
    (fun W args hL hS h => given_walk W args hL hS h)

theorem over : Rows.fnExactReadRecordRow.holds Tryz.pinned (OpenSpec.ofChange Rows.fnExactReadRecordSpec) :=
  OpenClaim.holds_of_wide 8 Tryz.f8 rfl rfl rfl rfl rfl rfl rfl ⟨rfl, rfl, rfl, rfl, rfl⟩ rfl rfl rfl rfl rfl (by kernel_rfl) Tryz.func8 (by kernel_rfl)
    (of_decide_eq_true (by kernel_rfl)) (by unfold Func.isWrapper; first | (rw [if_pos (by decide +kernel)]; kernel_rfl) | (rw [if_neg (by decide +kernel)]; exact ⟨rfl, rfl⟩))
    (fun os started H enc _ => lifted os started H enc)

theorem proved : Rows.FnExactReadRecordCardSaid :=
  Claim7.holds_tied_plain_at .later [] [.data, .data, .data, .data, .sentinel, .sentinel, .pinned, .pinned] true (true, "d723a50463c80438967f982e7e7a0a48ef27ea6ca9bb4bdf4ea613ea7c0ac188") true
    over (fun _ h => by cases h) (by kernel_rfl) (fun _ h => by cases h) fnExactReadRecord_row_tie rfl ⟨rfl, rfl⟩ (by kernel_rfl) rfl
    (fun f fn hf hfn => by
      obtain rfl : f = 8 := Option.some.inj ((show Tryz.prog.funcNamed "loop.example/g00911/laws.FnExactReadRecord" = some 8 by kernel_rfl).symm.trans hf) |>.symm
      obtain rfl : fn = Tryz.f8 := (Option.some.inj (Tryz.func8.symm.trans hfn)).symm
      exact ⟨by kernel_rfl, fun j t ht => by
        rw [Tryz.params8] at ht
        have hm : t ∈ [9] := by simpa using Array.mem_of_getElem? ht
        have hall : ([9].all fun u => !Tryz.prog.wantsStandIn u) = true := by kernel_rfl
        exact (show Tryz.prog.wantsStandIn t = false by simpa using List.all_eq_true.1 hall t hm)⟩)
    (by kernel_rfl)
#print axioms proved

end Go.Proofs.YtbekokenomhgeaaGreatDoor.fnExactReadRecord
