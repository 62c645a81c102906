/- The functions that this law reaches do what their models say. Printed by gen.py. -/
import Derived.Test.YtdaoecpkgobelaaGreatDoorMod
import Derived.Test.YtdaoecpkgobelaaGreatDoorLib
namespace Go.Proofs.YtdaoecpkgobelaaGreatDoor
open Go Go.RowKit
set_option linter.unusedSimpArgs false
set_option linter.unusedVariables false

theorem ei_2 : ElemInfo Tryz.prog 2 1 := elemInfo (by kernel_rfl)

theorem ei_3 : ElemInfo Tryz.prog 3 1 := elemInfo (by kernel_rfl)

theorem ei_4 : ElemInfo Tryz.prog 4 1 := elemInfo (by kernel_rfl)

theorem ei_5 : ElemInfo Tryz.prog 5 1 := elemInfo (by kernel_rfl)

theorem ei_9 : ElemInfo Tryz.prog 9 1 := elemInfo (by kernel_rfl)

theorem ei_47 : ElemInfo Tryz.prog 47 3 := elemInfo (by kernel_rfl)

theorem bp_26 : ∀ (fs : Array Field), some (TypeDesc.struct fs) = Tryz.prog.underlying 26 → ∀ w, (fs.mapM fun (f : Field) => do pure (f.offset, ← sizeOf f.type)).run Tryz.prog w = .ok #[(0, 1)] w := by
 intro fs h w
 rw [Tryz.underlying26] at h
 cases h
 simp

theorem bp_31 : ∀ (fs : Array Field), some (TypeDesc.struct fs) = Tryz.prog.underlying 31 → ∀ w, (fs.mapM fun (f : Field) => do pure (f.offset, ← sizeOf f.type)).run Tryz.prog w = .ok #[(0, 1)] w := by
 intro fs h w
 rw [Tryz.underlying31] at h
 cases h
 simp

theorem bp_47 : ∀ (fs : Array Field), some (TypeDesc.struct fs) = Tryz.prog.underlying 47 → ∀ w, (fs.mapM fun (f : Field) => do pure (f.offset, ← sizeOf f.type)).run Tryz.prog w = .ok #[(0, 1), (1, 1), (2, 1)] w := by
 intro fs h w
 rw [Tryz.underlying47] at h
 cases h
 simp

theorem bp_83 : ∀ (fs : Array Field), some (TypeDesc.struct fs) = Tryz.prog.underlying 83 → ∀ w, (fs.mapM fun (f : Field) => do pure (f.offset, ← sizeOf f.type)).run Tryz.prog w = .ok #[(0, 1), (1, 1), (2, 1), (3, 1), (4, 1)] w := by
 intro fs h w
 rw [Tryz.underlying83] at h
 cases h
 simp

theorem bp_105 : ∀ (fs : Array Field), some (TypeDesc.struct fs) = Tryz.prog.underlying 105 → ∀ w, (fs.mapM fun (f : Field) => do pure (f.offset, ← sizeOf f.type)).run Tryz.prog w = .ok #[(0, 1), (1, 1), (2, 1)] w := by
 intro fs h w
 rw [Tryz.underlying105] at h
 cases h
 simp

theorem bp_109 : ∀ (fs : Array Field), some (TypeDesc.struct fs) = Tryz.prog.underlying 109 → ∀ w, (fs.mapM fun (f : Field) => do pure (f.offset, ← sizeOf f.type)).run Tryz.prog w = .ok #[(0, 1), (1, 1)] w := by
 intro fs h w
 rw [Tryz.underlying109] at h
 cases h
 simp

set_option maxRecDepth 100000 in
set_option maxHeartbeats 4000000 in
theorem r_laws_a2Long (C : Cx) (code1 : Str) (A2 : Option Addr) (c3 : Nat) (hp4 : (sliceRep byteRep).R C.w0 C.S0 code1 [vL A2 code1 c3]) (more5 : Str) (A6 : Option Addr) (c7 : Nat) (hp8 : (sliceRep byteRep).R C.w0 C.S0 more5 [vL A6 more5 c7]) (r : Bool) (h : m_laws_a2Long code1 more5 = some r) :
    Calls Tryz.prog 5 #[vL A2 (code1) c3, vL A6 (more5) c7] C.w0 fun e w => e = .returned (.bool (r)) ∧ Mem C w [] [] := by
 have hM := Mem.begin C [.dat (sliceRep byteRep) more5 [vL A6 more5 c7], .dat (sliceRep byteRep) code1 [vL A2 code1 c3]] ⟨hp8, hp4, trivial⟩
 refine enter Tryz.func5 rfl Tryz.ntmps5 rfl fun a hf => ?_
 unfold m_laws_a2Long at h
 refine wp_seq ?_
 refine region_pl ?_
 refine q_ hf rfl rfl rfl (e_assign hf rfl) fun a hf => ?_
 refine pl_nil ?_
 refine then_n ?_
 obtain ⟨x11, h12, h⟩ := bind_some h
 refine seq_join (fun a w => ∃ (t9 : Bool), t9 = x11 ∧ Has 13 a [(4, .bool (t9))] ∧ Mem C w [] [.dat (sliceRep byteRep) more5 [vL A6 more5 c7], .dat (sliceRep byteRep) code1 [vL A2 code1 c3]]) ?_ ?_
 ·refine region_pl ?_
  refine q_ hf rfl rfl rfl (e_move hf rfl) fun a hf => ?_
  have hl13 := slice_len (hM.dat (k := 1) rfl)
  refine q_ hf rfl rfl rfl (e_lenL hf (x := code1) rfl Tryz.underlying22) fun a hf => ?_
  refine q_ hf rfl rfl rfl (e_gt hf (x := (code1.length : Int)) (y := 3000) rfl rfl) fun a hf => ?_
  refine q_ hf rfl rfl rfl (e_move hf rfl) fun a hf => ?_
  rcases cond_some h12 with ⟨hc14, h12⟩ | ⟨hc14, h12⟩
  ·iterate 3 refine pl_gs (wanted_f hf rfl rfl rfl rfl hc14) hf rfl rfl fun a hf => ?_
   refine q_ hf rfl rfl rfl (e_pick_t hf rfl hc14 rfl) fun a hf => ?_
   refine q_ hf rfl rfl rfl (e_assign hf rfl) fun a hf => ?_
   refine pl_nil ?_
   obtain rfl := some_inj h12
   refine then_n ?_
   exact ⟨true, rfl, hf.keep ⟨rfl, trivial⟩, hM.pick [0, 1] rfl⟩
  refine gq (wanted_t hf rfl rfl rfl rfl hc14) hf rfl rfl (e_move hf rfl) fun a hf => ?_
  have hl16 := slice_len (hM.dat (k := 0) rfl)
  refine gq (wanted_t hf rfl rfl rfl rfl hc14) hf rfl rfl (e_lenL hf (x := more5) rfl Tryz.underlying22) fun a hf => ?_
  refine gq (wanted_t hf rfl rfl rfl rfl hc14) hf rfl rfl (e_gt hf (x := (more5.length : Int)) (y := 3000) rfl rfl) fun a hf => ?_
  refine q_ hf rfl rfl rfl (e_pick_f hf rfl hc14 rfl) fun a hf => ?_
  refine q_ hf rfl rfl rfl (e_assign hf rfl) fun a hf => ?_
  refine pl_nil ?_
  obtain rfl := some_inj h12
  refine then_n ?_
  exact ⟨(decide (3000 < (more5.length : Int))), rfl, hf.keep ⟨rfl, trivial⟩, hM.pick [0, 1] rfl⟩
 rintro a w18 ⟨t9, rfl, hf, hM⟩
 try dsimp only at h
 refine wp_ret ?_
 obtain rfl := some_inj h
 exact leave1 hf rfl rfl ⟨rfl, hM.fin⟩

set_option maxRecDepth 100000 in
set_option maxHeartbeats 4000000 in
theorem r_spec_l00From (C : Cx) (code1 : Str) (A2 : Option Addr) (c3 : Nat) (hp4 : (sliceRep byteRep).R C.w0 C.S0 code1 [vL A2 code1 c3]) (r : l00Src) (h : m_spec_l00From code1 = some r) :
    Calls Tryz.prog 26 #[vL A2 (code1) c3] C.w0 fun e w => ∃ (b_1 : Nat), ∃ (A_1 : Option Addr), ∃ (c_1 : Nat), e = .returned (vP b_1 (0)) ∧ Mem C w [.box b_1 [vL A_1 (r.code) c_1, vI (r.at_), vW (r.seed)] 105] [] ∧ (sliceRep byteRep).R w (Sh C [.box b_1 [vL A_1 (r.code) c_1, vI (r.at_), vW (r.seed)] 105] w) r.code [vL A_1 r.code c_1] ∧ R64 r.at_ ∧ U64 r.seed := by
 have hM := Mem.begin C [.dat (sliceRep byteRep) code1 [vL A2 code1 c3]] ⟨hp4, trivial⟩
 refine enter Tryz.func26 rfl Tryz.ntmps26 rfl fun a hf => ?_
 unfold m_spec_l00From at h
 refine wp_seq ?_
 refine region_pl ?_
 refine q_ hf rfl rfl rfl (e_assign hf rfl) fun a hf => ?_
 refine pl_nil ?_
 refine then_n ?_
 refine wp_seq ?_
 refine region_pl ?_
 refine q_ hf rfl rfl rfl (e_move hf rfl) fun a hf => ?_
 refine q_ hf rfl rfl rfl (e_build hf Tryz.zeroValue105 Tryz.underlying105 (bp_105 _ Tryz.underlying105.symm) rfl (cs := #[vL A2 (code1) c3, vI (0), vW (0)]) (by kernel_rfl)) fun a hf => ?_
 refine pl_l hf rfl rfl rfl (w_box hf hM (cs := [vL A2 (code1) c3, vI (0), vW (0)]) rfl rfl fun b5 w6 hx7 hM a hf => ?_)
 refine q_ hf rfl rfl rfl (e_assign hf rfl) fun a hf => ?_
 refine pl_nil ?_
 refine then_n ?_
 refine wp_ret ?_
 obtain rfl := some_inj h
 exact leave1 hf rfl rfl ⟨b5, A2, c3, rfl, hM.fin, (hM.dat (k := 0) rfl), (R64_lit rfl), (U64_lit rfl)⟩

set_option maxRecDepth 100000 in
set_option maxHeartbeats 4000000 in
theorem r_spec_l05Some (C : Cx)  (r : (List Str)) (h : m_spec_l05Some = some r) :
    Calls Tryz.prog 28 #[] C.w0 fun e w => ∃ (A_1 : Option Addr), ∃ (c_1 : Nat), e = .returned (vL A_1 (r) c_1) ∧ Mem C w [.row strRep A_1 c_1 9 r true] [] := by
 have hM := Mem.begin C [] trivial
 refine enter Tryz.func28 rfl Tryz.ntmps28 rfl fun a hf => ?_
 unfold m_spec_l05Some at h
 refine wp_seq ?_
 refine region_pl ?_
 refine q_ hf rfl rfl rfl (e_assign hf rfl) fun a hf => ?_
 refine pl_nil ?_
 refine then_n ?_
 refine wp_seq ?_
 refine region_pl ?_
 refine pl_l hf rfl rfl rfl (w_slice hf hM (K := strRep) (xs := ((([97, 110] : Str) :: ([97, 116] : Str) :: ([97, 116, 101] : Str) :: ([101, 97, 114] : Str) :: ([101, 97, 114, 110] : Str) :: ([101, 97, 114, 115] : Str) :: ([101, 97, 115, 116] : Str) :: ([101, 97, 116] : Str) :: ([101, 97, 116, 101, 110] : Str) :: ([101, 97, 116, 115] : Str) :: ([101, 110] : Str) :: ([97, 110, 116] : Str) :: ([97, 110, 116, 115] : Str) :: ([97, 114, 101] : Str) :: ([97, 114, 101, 110, 97] : Str) :: ([97, 114, 116] : Str) :: ([97, 114, 116, 115] : Str) :: ([97, 115] : Str) :: ([101, 114] : Str) :: ([101, 115] : Str) :: ([105, 110] : Str) :: ([105, 115] : Str) :: ([110, 97] : Str) :: ([110, 101] : Str) :: ([110, 101, 97, 114] : Str) :: ([110, 101, 97, 116] : Str) :: ([110, 101, 115, 116] : Str) :: ([110, 101, 115, 116, 115] : Str) :: ([110, 101, 116] : Str) :: ([114, 97, 116] : Str) :: ([114, 97, 116, 101] : Str) :: ([114, 97, 116, 101, 115] : Str) :: ([114, 101] : Str) :: ([114, 101, 115, 116] : Str) :: ([115, 97, 116] : Str) :: ([115, 101, 97] : Str) :: ([115, 101, 97, 116] : Str) :: ([115, 101, 116] : Str) :: ([116, 97] : Str) :: ([116, 97, 114] : Str) :: ([116, 97, 114, 115] : Str) :: ([116, 97, 114, 116] : Str) :: ([116, 101, 97] : Str) :: ([116, 101, 97, 114] : Str) :: ([116, 101, 97, 115] : Str) :: ([116, 101, 110] : Str) :: ([116, 101, 114, 110] : Str) :: ([116, 101, 115, 116] : Str) :: ([116, 101, 115, 116, 115] : Str) :: ([116, 114, 101, 101, 115] : Str) :: ([98, 97, 110, 97, 110, 97] : Str) :: ([98, 101, 101] : Str) :: ([98, 101, 101, 110] : Str) :: ([98, 101, 101, 115] : Str) :: ([115, 116, 97, 114] : Str) :: ([115, 116, 97, 114, 101] : Str) :: ([115, 116, 97, 114, 116] : Str) :: ([116, 114, 101, 101] : Str) :: ([115, 116, 97, 114, 115] : Str) :: ([116, 114, 101, 97, 116, 115] : Str) :: []) : (List Str))) (os := ((.const (.string ⟨#[97, 110]⟩)) :: (.const (.string ⟨#[97, 116]⟩)) :: (.const (.string ⟨#[97, 116, 101]⟩)) :: (.const (.string ⟨#[101, 97, 114]⟩)) :: (.const (.string ⟨#[101, 97, 114, 110]⟩)) :: (.const (.string ⟨#[101, 97, 114, 115]⟩)) :: (.const (.string ⟨#[101, 97, 115, 116]⟩)) :: (.const (.string ⟨#[101, 97, 116]⟩)) :: (.const (.string ⟨#[101, 97, 116, 101, 110]⟩)) :: (.const (.string ⟨#[101, 97, 116, 115]⟩)) :: (.const (.string ⟨#[101, 110]⟩)) :: (.const (.string ⟨#[97, 110, 116]⟩)) :: (.const (.string ⟨#[97, 110, 116, 115]⟩)) :: (.const (.string ⟨#[97, 114, 101]⟩)) :: (.const (.string ⟨#[97, 114, 101, 110, 97]⟩)) :: (.const (.string ⟨#[97, 114, 116]⟩)) :: (.const (.string ⟨#[97, 114, 116, 115]⟩)) :: (.const (.string ⟨#[97, 115]⟩)) :: (.const (.string ⟨#[101, 114]⟩)) :: (.const (.string ⟨#[101, 115]⟩)) :: (.const (.string ⟨#[105, 110]⟩)) :: (.const (.string ⟨#[105, 115]⟩)) :: (.const (.string ⟨#[110, 97]⟩)) :: (.const (.string ⟨#[110, 101]⟩)) :: (.const (.string ⟨#[110, 101, 97, 114]⟩)) :: (.const (.string ⟨#[110, 101, 97, 116]⟩)) :: (.const (.string ⟨#[110, 101, 115, 116]⟩)) :: (.const (.string ⟨#[110, 101, 115, 116, 115]⟩)) :: (.const (.string ⟨#[110, 101, 116]⟩)) :: (.const (.string ⟨#[114, 97, 116]⟩)) :: (.const (.string ⟨#[114, 97, 116, 101]⟩)) :: (.const (.string ⟨#[114, 97, 116, 101, 115]⟩)) :: (.const (.string ⟨#[114, 101]⟩)) :: (.const (.string ⟨#[114, 101, 115, 116]⟩)) :: (.const (.string ⟨#[115, 97, 116]⟩)) :: (.const (.string ⟨#[115, 101, 97]⟩)) :: (.const (.string ⟨#[115, 101, 97, 116]⟩)) :: (.const (.string ⟨#[115, 101, 116]⟩)) :: (.const (.string ⟨#[116, 97]⟩)) :: (.const (.string ⟨#[116, 97, 114]⟩)) :: (.const (.string ⟨#[116, 97, 114, 115]⟩)) :: (.const (.string ⟨#[116, 97, 114, 116]⟩)) :: (.const (.string ⟨#[116, 101, 97]⟩)) :: (.const (.string ⟨#[116, 101, 97, 114]⟩)) :: (.const (.string ⟨#[116, 101, 97, 115]⟩)) :: (.const (.string ⟨#[116, 101, 110]⟩)) :: (.const (.string ⟨#[116, 101, 114, 110]⟩)) :: (.const (.string ⟨#[116, 101, 115, 116]⟩)) :: (.const (.string ⟨#[116, 101, 115, 116, 115]⟩)) :: (.const (.string ⟨#[116, 114, 101, 101, 115]⟩)) :: (.const (.string ⟨#[98, 97, 110, 97, 110, 97]⟩)) :: (.const (.string ⟨#[98, 101, 101]⟩)) :: (.const (.string ⟨#[98, 101, 101, 110]⟩)) :: (.const (.string ⟨#[98, 101, 101, 115]⟩)) :: (.const (.string ⟨#[115, 116, 97, 114]⟩)) :: (.const (.string ⟨#[115, 116, 97, 114, 101]⟩)) :: (.const (.string ⟨#[115, 116, 97, 114, 116]⟩)) :: (.const (.string ⟨#[116, 114, 101, 101]⟩)) :: (.const (.string ⟨#[115, 116, 97, 114, 115]⟩)) :: (.const (.string ⟨#[116, 114, 101, 97, 116, 115]⟩)) :: [])) Tryz.underlying24 ei_9 rfl rfl rfl rfl rfl (VRows.cons ⟨[vS (([97, 110] : Str))], rfl, ⟨rfl, (lit_len rfl)⟩⟩ (VRows.cons ⟨[vS (([97, 116] : Str))], rfl, ⟨rfl, (lit_len rfl)⟩⟩ (VRows.cons ⟨[vS (([97, 116, 101] : Str))], rfl, ⟨rfl, (lit_len rfl)⟩⟩ (VRows.cons ⟨[vS (([101, 97, 114] : Str))], rfl, ⟨rfl, (lit_len rfl)⟩⟩ (VRows.cons ⟨[vS (([101, 97, 114, 110] : Str))], rfl, ⟨rfl, (lit_len rfl)⟩⟩ (VRows.cons ⟨[vS (([101, 97, 114, 115] : Str))], rfl, ⟨rfl, (lit_len rfl)⟩⟩ (VRows.cons ⟨[vS (([101, 97, 115, 116] : Str))], rfl, ⟨rfl, (lit_len rfl)⟩⟩ (VRows.cons ⟨[vS (([101, 97, 116] : Str))], rfl, ⟨rfl, (lit_len rfl)⟩⟩ (VRows.cons ⟨[vS (([101, 97, 116, 101, 110] : Str))], rfl, ⟨rfl, (lit_len rfl)⟩⟩ (VRows.cons ⟨[vS (([101, 97, 116, 115] : Str))], rfl, ⟨rfl, (lit_len rfl)⟩⟩ (VRows.cons ⟨[vS (([101, 110] : Str))], rfl, ⟨rfl, (lit_len rfl)⟩⟩ (VRows.cons ⟨[vS (([97, 110, 116] : Str))], rfl, ⟨rfl, (lit_len rfl)⟩⟩ (VRows.cons ⟨[vS (([97, 110, 116, 115] : Str))], rfl, ⟨rfl, (lit_len rfl)⟩⟩ (VRows.cons ⟨[vS (([97, 114, 101] : Str))], rfl, ⟨rfl, (lit_len rfl)⟩⟩ (VRows.cons ⟨[vS (([97, 114, 101, 110, 97] : Str))], rfl, ⟨rfl, (lit_len rfl)⟩⟩ (VRows.cons ⟨[vS (([97, 114, 116] : Str))], rfl, ⟨rfl, (lit_len rfl)⟩⟩ (VRows.cons ⟨[vS (([97, 114, 116, 115] : Str))], rfl, ⟨rfl, (lit_len rfl)⟩⟩ (VRows.cons ⟨[vS (([97, 115] : Str))], rfl, ⟨rfl, (lit_len rfl)⟩⟩ (VRows.cons ⟨[vS (([101, 114] : Str))], rfl, ⟨rfl, (lit_len rfl)⟩⟩ (VRows.cons ⟨[vS (([101, 115] : Str))], rfl, ⟨rfl, (lit_len rfl)⟩⟩ (VRows.cons ⟨[vS (([105, 110] : Str))], rfl, ⟨rfl, (lit_len rfl)⟩⟩ (VRows.cons ⟨[vS (([105, 115] : Str))], rfl, ⟨rfl, (lit_len rfl)⟩⟩ (VRows.cons ⟨[vS (([110, 97] : Str))], rfl, ⟨rfl, (lit_len rfl)⟩⟩ (VRows.cons ⟨[vS (([110, 101] : Str))], rfl, ⟨rfl, (lit_len rfl)⟩⟩ (VRows.cons ⟨[vS (([110, 101, 97, 114] : Str))], rfl, ⟨rfl, (lit_len rfl)⟩⟩ (VRows.cons ⟨[vS (([110, 101, 97, 116] : Str))], rfl, ⟨rfl, (lit_len rfl)⟩⟩ (VRows.cons ⟨[vS (([110, 101, 115, 116] : Str))], rfl, ⟨rfl, (lit_len rfl)⟩⟩ (VRows.cons ⟨[vS (([110, 101, 115, 116, 115] : Str))], rfl, ⟨rfl, (lit_len rfl)⟩⟩ (VRows.cons ⟨[vS (([110, 101, 116] : Str))], rfl, ⟨rfl, (lit_len rfl)⟩⟩ (VRows.cons ⟨[vS (([114, 97, 116] : Str))], rfl, ⟨rfl, (lit_len rfl)⟩⟩ (VRows.cons ⟨[vS (([114, 97, 116, 101] : Str))], rfl, ⟨rfl, (lit_len rfl)⟩⟩ (VRows.cons ⟨[vS (([114, 97, 116, 101, 115] : Str))], rfl, ⟨rfl, (lit_len rfl)⟩⟩ (VRows.cons ⟨[vS (([114, 101] : Str))], rfl, ⟨rfl, (lit_len rfl)⟩⟩ (VRows.cons ⟨[vS (([114, 101, 115, 116] : Str))], rfl, ⟨rfl, (lit_len rfl)⟩⟩ (VRows.cons ⟨[vS (([115, 97, 116] : Str))], rfl, ⟨rfl, (lit_len rfl)⟩⟩ (VRows.cons ⟨[vS (([115, 101, 97] : Str))], rfl, ⟨rfl, (lit_len rfl)⟩⟩ (VRows.cons ⟨[vS (([115, 101, 97, 116] : Str))], rfl, ⟨rfl, (lit_len rfl)⟩⟩ (VRows.cons ⟨[vS (([115, 101, 116] : Str))], rfl, ⟨rfl, (lit_len rfl)⟩⟩ (VRows.cons ⟨[vS (([116, 97] : Str))], rfl, ⟨rfl, (lit_len rfl)⟩⟩ (VRows.cons ⟨[vS (([116, 97, 114] : Str))], rfl, ⟨rfl, (lit_len rfl)⟩⟩ (VRows.cons ⟨[vS (([116, 97, 114, 115] : Str))], rfl, ⟨rfl, (lit_len rfl)⟩⟩ (VRows.cons ⟨[vS (([116, 97, 114, 116] : Str))], rfl, ⟨rfl, (lit_len rfl)⟩⟩ (VRows.cons ⟨[vS (([116, 101, 97] : Str))], rfl, ⟨rfl, (lit_len rfl)⟩⟩ (VRows.cons ⟨[vS (([116, 101, 97, 114] : Str))], rfl, ⟨rfl, (lit_len rfl)⟩⟩ (VRows.cons ⟨[vS (([116, 101, 97, 115] : Str))], rfl, ⟨rfl, (lit_len rfl)⟩⟩ (VRows.cons ⟨[vS (([116, 101, 110] : Str))], rfl, ⟨rfl, (lit_len rfl)⟩⟩ (VRows.cons ⟨[vS (([116, 101, 114, 110] : Str))], rfl, ⟨rfl, (lit_len rfl)⟩⟩ (VRows.cons ⟨[vS (([116, 101, 115, 116] : Str))], rfl, ⟨rfl, (lit_len rfl)⟩⟩ (VRows.cons ⟨[vS (([116, 101, 115, 116, 115] : Str))], rfl, ⟨rfl, (lit_len rfl)⟩⟩ (VRows.cons ⟨[vS (([116, 114, 101, 101, 115] : Str))], rfl, ⟨rfl, (lit_len rfl)⟩⟩ (VRows.cons ⟨[vS (([98, 97, 110, 97, 110, 97] : Str))], rfl, ⟨rfl, (lit_len rfl)⟩⟩ (VRows.cons ⟨[vS (([98, 101, 101] : Str))], rfl, ⟨rfl, (lit_len rfl)⟩⟩ (VRows.cons ⟨[vS (([98, 101, 101, 110] : Str))], rfl, ⟨rfl, (lit_len rfl)⟩⟩ (VRows.cons ⟨[vS (([98, 101, 101, 115] : Str))], rfl, ⟨rfl, (lit_len rfl)⟩⟩ (VRows.cons ⟨[vS (([115, 116, 97, 114] : Str))], rfl, ⟨rfl, (lit_len rfl)⟩⟩ (VRows.cons ⟨[vS (([115, 116, 97, 114, 101] : Str))], rfl, ⟨rfl, (lit_len rfl)⟩⟩ (VRows.cons ⟨[vS (([115, 116, 97, 114, 116] : Str))], rfl, ⟨rfl, (lit_len rfl)⟩⟩ (VRows.cons ⟨[vS (([116, 114, 101, 101] : Str))], rfl, ⟨rfl, (lit_len rfl)⟩⟩ (VRows.cons ⟨[vS (([115, 116, 97, 114, 115] : Str))], rfl, ⟨rfl, (lit_len rfl)⟩⟩ (VRows.cons ⟨[vS (([116, 114, 101, 97, 116, 115] : Str))], rfl, ⟨rfl, (lit_len rfl)⟩⟩ trivial)))))))))))))))))))))))))))))))))))))))))))))))))))))))))))) rfl fun b1 w2 hx3 hM a hf => ?_)
 refine q_ hf rfl rfl rfl (e_assign hf rfl) fun a hf => ?_
 refine pl_nil ?_
 refine then_n ?_
 refine wp_ret ?_
 obtain rfl := some_inj h
 exact leave1 hf rfl rfl ⟨(some ⟨b1, 0, none⟩), 60, rfl, hM.fin⟩

set_option maxRecDepth 100000 in
set_option maxHeartbeats 4000000 in
theorem r_spec_l00Src_next (C : Cx) (s1 : l00Src) (b2 : Nat) (A3 : Option Addr) (c4 : Nat) (hp5 : (sliceRep byteRep).R C.w0 C.S0 s1.code [vL A3 s1.code c4]) (hp6 : R64 s1.at_) (hp7 : U64 s1.seed) (hO : Mem C C.w0 [.box b2 [vL A3 (s1.code) c4, vI (s1.at_), vW (s1.seed)] 105] []) (hd : ∀ b, C.S0 b → ¬ ownB [.box b2 [vL A3 (s1.code) c4, vI (s1.at_), vW (s1.seed)] 105] b) (r : (Int × l00Src)) (h : m_spec_l00Src_next s1 = some r) :
    Calls Tryz.prog 87 #[vP b2 (0)] C.w0 fun e w => e = .returned (vI (r.1)) ∧ Mem C w [.box b2 [vL A3 (s1.code) c4, vI (r.2.at_), vW (r.2.seed)] 105] [] ∧ R64 r.2.at_ ∧ U64 r.2.seed ∧ R64 r.1 := by
 have hM := hO
 have hM := hM.addIn hd (y := .dat (sliceRep byteRep) s1.code [vL A3 s1.code c4]) hp5
 refine enter Tryz.func87 rfl Tryz.ntmps87 rfl fun a hf => ?_
 unfold m_spec_l00Src_next at h
 refine wp_seq ?_
 refine region_pl ?_
 refine q_ hf rfl rfl rfl (e_assign hf rfl) fun a hf => ?_
 refine pl_nil ?_
 refine then_n ?_
 refine wp_seq ?_
 refine region_pl ?_
 refine q_ hf rfl rfl rfl (e_assign hf rfl) fun a hf => ?_
 refine pl_nil ?_
 refine then_n ?_
 obtain ⟨x10, h11, h⟩ := bind_some h
 refine seq_join (fun a w => ∃ (n8 : Int), n8 = x10 ∧ Has 62 a [(0, vP b2 (0)), (3, vI (n8))] ∧ Mem C w [.box b2 [vL A3 (s1.code) c4, vI (s1.at_), vW (s1.seed)] 105] [.dat (sliceRep byteRep) s1.code [vL A3 s1.code c4]] ∧ R64 n8) ?_ ?_
 ·refine wp_seq ?_
  obtain ⟨w12, hw⟩ : ∃ x, x = C.w0.drew := ⟨_, rfl⟩
  refine region_pi (.q 0 (.q 1 (.q 2 (.q 3 (.q 4 (.q 5 (.q 6 (.q 7 (.q 8 (.q 9 (.nil))))))))))) (Ext w12) rfl (by kernel_rfl) ?_
  have hM := hM.drew
  rw [← hw] at hM ⊢
  clear hw
  refine pi_q hf rfl rfl rfl rfl (Ext.refl _) (e_move hf rfl) fun a hf => ?_
  refine pi_q hf rfl rfl rfl rfl (Ext.refl _) (e_nil hf rfl) fun a hf => ?_
  refine pi_q hf rfl rfl rfl rfl (Ext.refl _) (e_field hf rfl Tryz.underlying105 rfl Tryz.sizeOf3 (o' := 1) rfl) fun a hf => ?_
  refine pi_q hf rfl rfl rfl rfl (Ext.refl _) (e_load1 hf rfl Tryz.isAgg3 (hM.boxCell (k := 0) rfl rfl)) fun a hf => ?_
  refine pi_q hf rfl rfl rfl rfl (Ext.refl _) (e_move hf rfl) fun a hf => ?_
  refine pi_q hf rfl rfl rfl rfl (Ext.refl _) (e_nil hf rfl) fun a hf => ?_
  refine pi_q hf rfl rfl rfl rfl (Ext.refl _) (e_field hf rfl Tryz.underlying105 rfl Tryz.sizeOf22 (o' := 0) rfl) fun a hf => ?_
  refine pi_q hf rfl rfl rfl rfl (Ext.refl _) (e_load1 hf rfl Tryz.isAgg22 (hM.boxCell (k := 0) rfl rfl)) fun a hf => ?_
  have hl13 := slice_len (hM.dat (k := 0) rfl)
  refine pi_q hf rfl rfl rfl rfl (Ext.refl _) (e_lenL hf (x := s1.code) rfl Tryz.underlying22) fun a hf => ?_
  refine pi_q hf rfl rfl rfl rfl (Ext.refl _) (e_lt hf (x := s1.at_) (y := (s1.code.length : Int)) rfl rfl) fun a hf => ?_
  refine pi_nil ?_
  refine then_n ?_
  rcases cond_some h11 with ⟨hc14, h11⟩ | ⟨hc14, h11⟩
  ·refine cond_t hf rfl hc14 ?_
   obtain ⟨w15, hw⟩ : ∃ x, x = w12.drew := ⟨_, rfl⟩
   refine region_pi (.q 0 (.q 1 (.q 2 (.q 3 (.q 4 (.q 5 (.q 6 (.q 7 (.q 8 (.q 9 (.q 10 (.q 11 (.nil))))))))))))) (Ext w15) rfl (by kernel_rfl) ?_
   have hM := hM.drew
   rw [← hw] at hM ⊢
   clear hw
   refine pi_q hf rfl rfl rfl rfl (Ext.refl _) (e_move hf rfl) fun a hf => ?_
   refine pi_q hf rfl rfl rfl rfl (Ext.refl _) (e_nil hf rfl) fun a hf => ?_
   refine pi_q hf rfl rfl rfl rfl (Ext.refl _) (e_field hf rfl Tryz.underlying105 rfl Tryz.sizeOf22 (o' := 0) rfl) fun a hf => ?_
   refine pi_q hf rfl rfl rfl rfl (Ext.refl _) (e_load1 hf rfl Tryz.isAgg22 (hM.boxCell (k := 0) rfl rfl)) fun a hf => ?_
   refine pi_q hf rfl rfl rfl rfl (Ext.refl _) (e_move hf rfl) fun a hf => ?_
   refine pi_q hf rfl rfl rfl rfl (Ext.refl _) (e_nil hf rfl) fun a hf => ?_
   refine pi_q hf rfl rfl rfl rfl (Ext.refl _) (e_field hf rfl Tryz.underlying105 rfl Tryz.sizeOf3 (o' := 1) rfl) fun a hf => ?_
   refine pi_q hf rfl rfl rfl rfl (Ext.refl _) (e_load1 hf rfl Tryz.isAgg3 (hM.boxCell (k := 0) rfl rfl)) fun a hf => ?_
   obtain ⟨e16, hz17, h11⟩ := bind_some h11
   obtain ⟨b21, o22, _, hA23, h18, h19, hr20, hM⟩ := hM.elem (hM.dat (k := 0) rfl) (n := 1) rfl hz17
   obtain rfl : _ = _ := hr20
   refine pi_q hf rfl rfl rfl rfl (Ext.refl _) (e_indexAddr (A := A3) (b := b21) (o := o22) (xs := s1.code) (i := s1.at_) hf hA23 rfl rfl Tryz.underlying22 Tryz.sizeOf5 h18 h19) fun a hf => ?_
   refine pi_q hf rfl rfl rfl rfl (Ext.refl _) (e_load1 hf rfl Tryz.isAgg5 (hM.litCell (k := 0) (j := 0) rfl rfl rfl)) fun a hf => ?_
   refine pi_q hf rfl rfl rfl rfl (Ext.refl _) (e_convBI hf (x := e16) rfl Tryz.underlying5 Tryz.underlying3) fun a hf => ?_
   refine pi_q hf rfl rfl rfl rfl (Ext.refl _) (e_assign hf rfl) fun a hf => ?_
   refine pi_nil ?_
   obtain rfl := some_inj h11
   refine then_n ?_
   exact ⟨(e16.toNat : Int), rfl, hf.keep ⟨rfl, rfl, trivial⟩, hM.pick [1] rfl, (R64_byte _)⟩
  refine cond_f hf rfl hc14 ?_
  refine wp_skip ?_
  obtain rfl := some_inj h11
  refine then_n ?_
  exact ⟨0, rfl, hf.keep ⟨rfl, rfl, trivial⟩, hM.pick [0] rfl, (R64_lit rfl)⟩
 rintro a w26 ⟨n8, rfl, hf, hM, hv9⟩
 try dsimp only at h
 refine wp_seq ?_
 refine region_pl ?_
 refine q_ hf rfl rfl rfl (e_move hf rfl) fun a hf => ?_
 refine q_ hf rfl rfl rfl (e_nil hf rfl) fun a hf => ?_
 refine q_ hf rfl rfl rfl (e_field hf rfl Tryz.underlying105 rfl Tryz.sizeOf3 (o' := 1) rfl) fun a hf => ?_
 refine q_ hf rfl rfl rfl (e_load1 hf rfl Tryz.isAgg3 (hM.boxCell (k := 0) rfl rfl)) fun a hf => ?_
 obtain ⟨z27, hz28, h⟩ := bind_some h
 refine q_ hf rfl rfl rfl (e_add hf rfl rfl hz28) fun a hf => ?_
 refine q_ hf rfl rfl rfl (e_nil hf rfl) fun a hf => ?_
 refine q_ hf rfl rfl rfl (e_field hf rfl Tryz.underlying105 rfl Tryz.sizeOf3 (o' := 1) rfl) fun a hf => ?_
 refine pl_0 hf rfl rfl (w_store hf hM (us := [vI (z27)]) (cs' := [vL A3 (s1.code) c4, vI (z27), vW (s1.seed)]) rfl rfl (k := 0) rfl rfl Tryz.sizeOf3 rfl rfl rfl fun w29 hM => ?_)
 dsimp only [List.set] at hM
 refine pl_nil ?_
 refine then_n ?_
 refine wp_seq ?_
 refine region_pl ?_
 iterate 2 refine q_ hf rfl rfl rfl (e_move hf rfl) fun a hf => ?_
 refine q_ hf rfl rfl rfl (e_nil hf rfl) fun a hf => ?_
 refine q_ hf rfl rfl rfl (e_field hf rfl Tryz.underlying105 rfl Tryz.sizeOf103 (o' := 2) rfl) fun a hf => ?_
 refine q_ hf rfl rfl rfl (e_load1 hf rfl Tryz.isAgg103 (hM.boxCell (k := 0) rfl rfl)) fun a hf => ?_
 refine q_ hf rfl rfl rfl (e_mulW hf rfl rfl) fun a hf => ?_
 refine q_ hf rfl rfl rfl (e_move hf rfl) fun a hf => ?_
 refine q_ hf rfl rfl rfl (e_convIW hf rfl Tryz.underlying3 Tryz.underlying103) fun a hf => ?_
 iterate 2 refine q_ hf rfl rfl rfl (e_addW hf rfl rfl) fun a hf => ?_
 refine q_ hf rfl rfl rfl (e_nil hf rfl) fun a hf => ?_
 refine q_ hf rfl rfl rfl (e_field hf rfl Tryz.underlying105 rfl Tryz.sizeOf103 (o' := 2) rfl) fun a hf => ?_
 refine pl_0 hf rfl rfl (w_store hf hM (us := [vW ((((((s1.seed * 6364136223846793005) % 18446744073709551616) + (n8 % 18446744073709551616)) % 18446744073709551616) + 1442695040888963407) % 18446744073709551616)]) (cs' := [vL A3 (s1.code) c4, vI (z27), vW ((((((s1.seed * 6364136223846793005) % 18446744073709551616) + (n8 % 18446744073709551616)) % 18446744073709551616) + 1442695040888963407) % 18446744073709551616)]) rfl rfl (k := 0) rfl rfl Tryz.sizeOf103 rfl rfl rfl fun w32 hM => ?_)
 dsimp only [List.set] at hM
 refine pl_nil ?_
 refine then_n ?_
 iterate 2 refine wp_seq ?_
 obtain ⟨w35, hw⟩ : ∃ x, x = w32.drew := ⟨_, rfl⟩
 refine region_pi (.q 0 (.q 1 (.q 2 (.q 3 (.q 4 (.q 5 (.q 6 (.q 7 (.q 8 (.q 9 (.nil))))))))))) (Ext w35) rfl (by kernel_rfl) ?_
 have hM := hM.drew
 rw [← hw] at hM ⊢
 clear hw
 refine pi_q hf rfl rfl rfl rfl (Ext.refl _) (e_move hf rfl) fun a hf => ?_
 refine pi_q hf rfl rfl rfl rfl (Ext.refl _) (e_nil hf rfl) fun a hf => ?_
 refine pi_q hf rfl rfl rfl rfl (Ext.refl _) (e_field hf rfl Tryz.underlying105 rfl Tryz.sizeOf3 (o' := 1) rfl) fun a hf => ?_
 refine pi_q hf rfl rfl rfl rfl (Ext.refl _) (e_load1 hf rfl Tryz.isAgg3 (hM.boxCell (k := 0) rfl rfl)) fun a hf => ?_
 refine pi_q hf rfl rfl rfl rfl (Ext.refl _) (e_move hf rfl) fun a hf => ?_
 refine pi_q hf rfl rfl rfl rfl (Ext.refl _) (e_nil hf rfl) fun a hf => ?_
 refine pi_q hf rfl rfl rfl rfl (Ext.refl _) (e_field hf rfl Tryz.underlying105 rfl Tryz.sizeOf22 (o' := 0) rfl) fun a hf => ?_
 refine pi_q hf rfl rfl rfl rfl (Ext.refl _) (e_load1 hf rfl Tryz.isAgg22 (hM.boxCell (k := 0) rfl rfl)) fun a hf => ?_
 have hl36 := slice_len (hM.dat (k := 0) rfl)
 refine pi_q hf rfl rfl rfl rfl (Ext.refl _) (e_lenL hf (x := s1.code) rfl Tryz.underlying22) fun a hf => ?_
 refine pi_q hf rfl rfl rfl rfl (Ext.refl _) (e_le hf (x := z27) (y := (s1.code.length : Int)) rfl rfl) fun a hf => ?_
 refine pi_nil ?_
 refine then_n ?_
 rcases cond_some h with ⟨hc37, h⟩ | ⟨hc37, h⟩
 ·refine cond_t hf rfl hc37 ?_
  refine wp_seq ?_
  refine region_pl ?_
  refine q_ hf rfl rfl rfl (e_move hf rfl) fun a hf => ?_
  refine q_ hf rfl rfl rfl (e_assign hf rfl) fun a hf => ?_
  refine pl_nil ?_
  refine then_n ?_
  refine wp_ret ?_
  refine then_r ?_
  obtain rfl := some_inj h
  exact leave1 hf rfl rfl ⟨rfl, hM.fin, (chk_R hz28), (U64_mod _), hv9⟩
 refine cond_f hf rfl hc37 ?_
 refine wp_skip ?_
 refine then_n ?_
 refine wp_seq ?_
 refine region_pl ?_
 refine q_ hf rfl rfl rfl (e_move hf rfl) fun a hf => ?_
 refine q_ hf rfl rfl rfl (e_nil hf rfl) fun a hf => ?_
 refine q_ hf rfl rfl rfl (e_field hf rfl Tryz.underlying105 rfl Tryz.sizeOf103 (o' := 2) rfl) fun a hf => ?_
 refine q_ hf rfl rfl rfl (e_load1 hf rfl Tryz.isAgg103 (hM.boxCell (k := 0) rfl rfl)) fun a hf => ?_
 refine q_ hf rfl rfl rfl (e_shrW hf (k := 40) rfl rfl rfl rfl (m := 1099511627776) rfl (U64_mod _)) fun a hf => ?_
 refine q_ hf rfl rfl rfl (e_andW hf (k := 8) rfl rfl rfl rfl (m := 256) rfl (U64_div (U64_mod _) (by decide))) fun a hf => ?_
 obtain ⟨z38, hz39, h⟩ := bind_some h
 refine q_ hf rfl rfl rfl (e_convWI hf rfl Tryz.underlying103 Tryz.underlying2 hz39) fun a hf => ?_
 refine q_ hf rfl rfl rfl (e_assign hf rfl) fun a hf => ?_
 refine pl_nil ?_
 refine then_n ?_
 refine wp_ret ?_
 obtain rfl := some_inj h
 exact leave1 hf rfl rfl ⟨rfl, hM.fin, (chk_R hz28), (U64_mod _), (chk_R hz39)⟩

set_option maxRecDepth 100000 in
set_option maxHeartbeats 4000000 in
theorem r_spec_l00Src_pick (C : Cx) (s1 : l00Src) (b2 : Nat) (A3 : Option Addr) (c4 : Nat) (hp5 : (sliceRep byteRep).R C.w0 C.S0 s1.code [vL A3 s1.code c4]) (hp6 : R64 s1.at_) (hp7 : U64 s1.seed) (n8 : Int) (hp9 : R64 n8) (hO : Mem C C.w0 [.box b2 [vL A3 (s1.code) c4, vI (s1.at_), vW (s1.seed)] 105] []) (hd : ∀ b, C.S0 b → ¬ ownB [.box b2 [vL A3 (s1.code) c4, vI (s1.at_), vW (s1.seed)] 105] b) (r : (Int × l00Src)) (h : m_spec_l00Src_pick s1 n8 = some r) :
    Calls Tryz.prog 55 #[vP b2 (0), vI (n8)] C.w0 fun e w => e = .returned (vI (r.1)) ∧ Mem C w [.box b2 [vL A3 (s1.code) c4, vI (r.2.at_), vW (r.2.seed)] 105] [] ∧ R64 r.2.at_ ∧ U64 r.2.seed ∧ R64 r.1 := by
 have hM := hO
 have hM := hM.addIn hd (y := .dat (sliceRep byteRep) s1.code [vL A3 s1.code c4]) hp5
 refine enter Tryz.func55 rfl Tryz.ntmps55 rfl fun a hf => ?_
 unfold m_spec_l00Src_pick at h
 refine wp_seq ?_
 refine region_pl ?_
 refine q_ hf rfl rfl rfl (e_assign hf rfl) fun a hf => ?_
 refine pl_nil ?_
 refine then_n ?_
 iterate 2 refine wp_seq ?_
 refine region_pl ?_
 refine q_ hf rfl rfl rfl (e_move hf rfl) fun a hf => ?_
 refine q_ hf rfl rfl rfl (e_le hf (x := n8) (y := 1) rfl rfl) fun a hf => ?_
 refine pl_nil ?_
 refine then_n ?_
 rcases cond_some h with ⟨hc10, h⟩ | ⟨hc10, h⟩
 ·refine cond_t hf rfl hc10 ?_
  refine wp_seq ?_
  refine region_pl ?_
  refine q_ hf rfl rfl rfl (e_assign hf rfl) fun a hf => ?_
  refine pl_nil ?_
  refine then_n ?_
  refine wp_ret ?_
  refine then_r ?_
  obtain rfl := some_inj h
  exact leave1 hf rfl rfl ⟨rfl, hM.fin, hp6, hp7, (R64_lit rfl)⟩
 refine cond_f hf rfl hc10 ?_
 refine wp_skip ?_
 refine then_n ?_
 refine wp_seq ?_
 refine region_pl ?_
 refine q_ hf rfl rfl rfl (e_move hf rfl) fun a hf => ?_
 have hM : Mem C _ ([.box b2 [vL A3 (s1.code) c4, vI (s1.at_), vW (s1.seed)] 105] ++ []) _ := hM
 obtain ⟨y11, hz12, h⟩ := bind_some h
 refine pl_l hf rfl rfl rfl (w_call hf Tryz.call87 rfl (r_spec_l00Src_next ⟨_, Sh C _ _, ownB _, hM.sh_lt, sub_dis, C.G, hM.g_lt, hM.g_own, hM.tabs⟩ s1 _ _ _ (hM.dat (k := 0) rfl) hp6 hp7 hM.sub sub_dis _ hz12) ?_)
 rintro _ w16 ⟨rfl, hM2, hv13, hv14, hv15⟩
 obtain ⟨hM, hup18⟩ := hM.backG hM2
 dsimp only [List.cons_append, List.nil_append] at hM hup18
 clear hM2
 refine ⟨_, rfl, fun a hf => ?_⟩
 refine q_ hf rfl rfl rfl (e_assign hf rfl) fun a hf => ?_
 refine pl_nil ?_
 refine then_n ?_
 obtain ⟨x25, h26, h⟩ := bind_some h
 refine seq_join (fun a w => ∃ (n19 : Int) (n21 : Int) (n23 : Int), (n19, n21, n23) = x25 ∧ Has 20 a [(1, vI (n8)), (5, vI (n23))] ∧ Mem C w [.box b2 [vL A3 (s1.code) c4, vI (n19), vW (n21)] 105] [.dat (sliceRep byteRep) s1.code [vL A3 s1.code c4]] ∧ R64 n19 ∧ U64 n21 ∧ R64 n23) ?_ ?_
 ·refine wp_seq ?_
  refine region_pl ?_
  refine q_ hf rfl rfl rfl (e_move hf rfl) fun a hf => ?_
  refine q_ hf rfl rfl rfl (e_gt hf (x := n8) (y := 200) rfl rfl) fun a hf => ?_
  refine pl_nil ?_
  refine then_n ?_
  rcases cond_some h26 with ⟨hc27, h26⟩ | ⟨hc27, h26⟩
  ·refine cond_t hf rfl hc27 ?_
   refine region_pl ?_
   refine q_ hf rfl rfl rfl (e_move hf rfl) fun a hf => ?_
   obtain ⟨z28, hz29, h26⟩ := bind_some h26
   refine q_ hf rfl rfl rfl (e_mul hf rfl rfl hz29) fun a hf => ?_
   refine q_ hf rfl rfl rfl (e_move hf rfl) fun a hf => ?_
   have hM : Mem C _ ([.box b2 [vL A3 (s1.code) c4, vI (y11.2.at_), vW (y11.2.seed)] 105] ++ []) _ := hM
   obtain ⟨y30, hz31, h26⟩ := bind_some h26
   refine pl_l hf rfl rfl rfl (w_call hf Tryz.call87 rfl (r_spec_l00Src_next ⟨_, Sh C _ _, ownB _, hM.sh_lt, sub_dis, C.G, hM.g_lt, hM.g_own, hM.tabs⟩ (⟨s1.code, y11.2.at_, y11.2.seed⟩ : l00Src) _ _ _ (hM.dat (k := 0) rfl) hv13 hv14 hM.sub sub_dis _ hz31) ?_)
   rintro _ w35 ⟨rfl, hM2, hv32, hv33, hv34⟩
   obtain ⟨hM, hup37⟩ := hM.backG hM2
   dsimp only [List.cons_append, List.nil_append] at hM hup37
   clear hM2
   refine ⟨_, rfl, fun a hf => ?_⟩
   obtain ⟨z38, hz39, h26⟩ := bind_some h26
   refine q_ hf rfl rfl rfl (e_add hf rfl rfl hz39) fun a hf => ?_
   refine q_ hf rfl rfl rfl (e_assign hf rfl) fun a hf => ?_
   refine pl_nil ?_
   obtain rfl := some_inj h26
   refine then_n ?_
   exact ⟨y30.2.at_, y30.2.seed, z38, rfl, hf.keep ⟨rfl, rfl, trivial⟩, hM.pick [0] rfl, hv32, hv33, (chk_R hz39)⟩
  refine cond_f hf rfl hc27 ?_
  refine wp_skip ?_
  obtain rfl := some_inj h26
  refine then_n ?_
  exact ⟨y11.2.at_, y11.2.seed, y11.1, rfl, hf.keep ⟨rfl, rfl, trivial⟩, hM.pick [0] rfl, hv13, hv14, hv15⟩
 rintro a w42 ⟨n19, n21, n23, rfl, hf, hM, hv20, hv22, hv24⟩
 try dsimp only at h
 refine wp_seq ?_
 refine region_pl ?_
 iterate 2 refine q_ hf rfl rfl rfl (e_move hf rfl) fun a hf => ?_
 obtain ⟨z43, hz44, h⟩ := bind_some h
 refine q_ hf rfl rfl rfl (e_rem hf rfl rfl hz44) fun a hf => ?_
 refine q_ hf rfl rfl rfl (e_assign hf rfl) fun a hf => ?_
 refine pl_nil ?_
 refine then_n ?_
 refine wp_ret ?_
 obtain rfl := some_inj h
 exact leave1 hf rfl rfl ⟨rfl, hM.fin, hv20, hv22, (remI_R hz44 hv24)⟩

set_option maxRecDepth 100000 in
set_option maxHeartbeats 4000000 in
theorem r_spec_l03Insert (C : Cx) (list1 : (List Str)) (A2 : Option Addr) (c3 : Nat) (t4 : Str) (hp5 : t4.length ≤ maxLen) (hO : Mem C C.w0 [.row strRep A2 c3 9 list1 true] []) (hd : ∀ b, C.S0 b → ¬ ownB [.row strRep A2 c3 9 list1 true] b) (r : (List Str)) (h : m_spec_l03Insert list1 t4 = some r) :
    Calls Tryz.prog 56 #[vL A2 (list1) c3, vS (t4)] C.w0 fun e w => ∃ (A_1 : Option Addr), ∃ (c_1 : Nat), e = .returned (vL A_1 (r) c_1) ∧ Mem C w [.row strRep A_1 c_1 9 r true] [] := by
 have hM := hO
 refine enter Tryz.func56 rfl Tryz.ntmps56 rfl fun a hf => ?_
 unfold m_spec_l03Insert at h
 refine wp_seq ?_
 refine region_pl ?_
 refine q_ hf rfl rfl rfl (e_assign hf rfl) fun a hf => ?_
 refine pl_nil ?_
 refine then_n ?_
 refine wp_seq ?_
 refine region_pl ?_
 refine q_ hf rfl rfl rfl (e_move hf rfl) fun a hf => ?_
 have hl6 := row_len (hM.ownAt (k := 0) rfl)
 refine q_ hf rfl rfl rfl (e_lenL hf (x := list1) rfl Tryz.underlying24) fun a hf => ?_
 refine q_ hf rfl rfl rfl (e_assign hf rfl) fun a hf => ?_
 refine pl_nil ?_
 refine then_n ?_
 obtain ⟨x9, h10, h⟩ := bind_some h
 refine seq_join (fun a w => ∃ (n7 : Int), n7 = x9 ∧ Has 48 a [(0, vL A2 (list1) c3), (1, vS (t4)), (5, vI (n7))] ∧ Mem C w [.row strRep A2 c3 9 list1 true] [] ∧ R64 n7) ?_ ?_
 ·refine wp_block ?_
  obtain ⟨x16, h17, h10⟩ := bind_some h10
  refine wp_loopM h17 (fun s a w => ∃ (n11 : Int), n11 = s ∧ Has 48 a [(0, vL A2 (list1) c3), (1, vS (t4)), (5, vI (n11))] ∧ Mem C w [.row strRep A2 c3 9 list1 true] [] ∧ R64 n11) ?_ ?_
  ·exact ⟨(list1.length : Int), rfl, hf.keep ⟨rfl, rfl, rfl, trivial⟩, hM.pick [] rfl, (R64_len hl6)⟩
  rintro s o18 a w13 ⟨n11, rfl, hf, hM, hv12⟩ h19 hd20
  replace h19 : m_spec_l03Insert_l1 list1 t4 n11 = some o18 := h19
  unfold m_spec_l03Insert_l1 at h19
  refine wp_seq ?_
  obtain ⟨x23, h24, h19⟩ := bind_some h19
  refine seq_join (fun a w => ∃ (t21 : Bool), t21 = x23 ∧ Has 48 a [(0, vL A2 (list1) c3), (1, vS (t4)), (5, vI (n11)), (19, .bool (t21))] ∧ Mem C w [.row strRep A2 c3 9 list1 true] []) ?_ ?_
  ·refine region_pl ?_
   refine q_ hf rfl rfl rfl (e_move hf rfl) fun a hf => ?_
   refine q_ hf rfl rfl rfl (e_gt hf (x := n11) (y := 0) rfl rfl) fun a hf => ?_
   refine q_ hf rfl rfl rfl (e_move hf rfl) fun a hf => ?_
   rcases cond_some h24 with ⟨hc25, h24⟩ | ⟨hc25, h24⟩
   ·iterate 2 refine gq (wanted_t hf rfl rfl rfl rfl hc25) hf rfl rfl (e_move hf rfl) fun a hf => ?_
    obtain ⟨z26, hz27, h24⟩ := bind_some h24
    refine gq (wanted_t hf rfl rfl rfl rfl hc25) hf rfl rfl (e_sub hf rfl rfl hz27) fun a hf => ?_
    obtain ⟨e28, hz29, h24⟩ := bind_some h24
    obtain ⟨b34, _, hA35, h30, h31, hr32, hcell33⟩ := hM.rowElemN (k := 0) rfl (n := 1) rfl hz29
    obtain ⟨rfl, hv36⟩ := hr32
    refine gq (wanted_t hf rfl rfl rfl rfl hc25) hf rfl rfl (e_indexAddr (A := A2) (b := b34) (o := 0) (xs := list1) (i := z26) hf hA35 rfl rfl Tryz.underlying24 Tryz.sizeOf9 h30 h31) fun a hf => ?_
    refine gq (wanted_t hf rfl rfl rfl rfl hc25) hf rfl rfl (e_load1 hf rfl Tryz.isAgg9 (hcell33 0 _ rfl)) fun a hf => ?_
    refine gq (wanted_t hf rfl rfl rfl rfl hc25) hf rfl rfl (e_move hf rfl) fun a hf => ?_
    refine gq (wanted_t hf rfl rfl rfl rfl hc25) hf rfl rfl (e_gtS hf (x := e28) (y := t4) rfl rfl) fun a hf => ?_
    refine q_ hf rfl rfl rfl (e_pick_t hf rfl hc25 rfl) fun a hf => ?_
    refine pl_nil ?_
    obtain rfl := some_inj h24
    refine then_n ?_
    exact ⟨(!(ltS e28 t4 || e28 == t4)), rfl, hf.keep ⟨rfl, rfl, rfl, rfl, trivial⟩, hM.pick [] rfl⟩
   iterate 7 refine pl_gs (wanted_f hf rfl rfl rfl rfl hc25) hf rfl rfl fun a hf => ?_
   refine q_ hf rfl rfl rfl (e_pick_f hf rfl hc25 rfl) fun a hf => ?_
   refine pl_nil ?_
   obtain rfl := some_inj h24
   refine then_n ?_
   exact ⟨false, rfl, hf.keep ⟨rfl, rfl, rfl, rfl, trivial⟩, hM.pick [] rfl⟩
  rintro a w39 ⟨t21, rfl, hf, hM⟩
  try dsimp only at h19
  rcases cond_some h19 with ⟨hc40, h19⟩ | ⟨hc40, h19⟩
  ·refine cond_t hf rfl hc40 ?_
   refine wp_skip ?_
   refine then_n ?_
   refine wp_block ?_
   refine region_pl ?_
   refine q_ hf rfl rfl rfl (e_move hf rfl) fun a hf => ?_
   obtain ⟨z41, hz42, h19⟩ := bind_some h19
   refine q_ hf rfl rfl rfl (e_sub hf rfl rfl hz42) fun a hf => ?_
   refine q_ hf rfl rfl rfl (e_assign hf rfl) fun a hf => ?_
   refine pl_nil ?_
   refine blk_n ?_
   obtain rfl := some_inj h19
   refine then_n ⟨_, rfl, ?_⟩
   exact ⟨z41, rfl, hf.keep ⟨rfl, rfl, rfl, trivial⟩, hM.pick [] rfl, (chk_R hz42)⟩
  refine cond_f hf rfl hc40 ?_
  refine wp_exit ?_
  refine then_x ?_
  obtain rfl := some_inj h19
  obtain rfl := hd20 _ rfl
  try dsimp only at h10
  refine then_x ?_
  refine exit_hit ?_
  obtain rfl := some_inj h10
  refine then_n ?_
  exact ⟨n11, rfl, hf.keep ⟨rfl, rfl, rfl, trivial⟩, hM.pick [] rfl, hv12⟩
 rintro a w48 ⟨n7, rfl, hf, hM, hv8⟩
 try dsimp only at h
 refine wp_seq ?_
 obtain ⟨x51, h52, h⟩ := bind_some h
 refine seq_join (fun a w => ∃ (t49 : Bool), t49 = x51 ∧ Has 48 a [(0, vL A2 (list1) c3), (1, vS (t4)), (5, vI (n7)), (32, .bool (t49))] ∧ Mem C w [.row strRep A2 c3 9 list1 true] []) ?_ ?_
 ·refine region_pl ?_
  refine q_ hf rfl rfl rfl (e_move hf rfl) fun a hf => ?_
  refine q_ hf rfl rfl rfl (e_gt hf (x := n7) (y := 0) rfl rfl) fun a hf => ?_
  refine q_ hf rfl rfl rfl (e_move hf rfl) fun a hf => ?_
  rcases cond_some h52 with ⟨hc53, h52⟩ | ⟨hc53, h52⟩
  ·iterate 2 refine gq (wanted_t hf rfl rfl rfl rfl hc53) hf rfl rfl (e_move hf rfl) fun a hf => ?_
   obtain ⟨z54, hz55, h52⟩ := bind_some h52
   refine gq (wanted_t hf rfl rfl rfl rfl hc53) hf rfl rfl (e_sub hf rfl rfl hz55) fun a hf => ?_
   obtain ⟨e56, hz57, h52⟩ := bind_some h52
   obtain ⟨b62, _, hA63, h58, h59, hr60, hcell61⟩ := hM.rowElemN (k := 0) rfl (n := 1) rfl hz57
   obtain ⟨rfl, hv64⟩ := hr60
   refine gq (wanted_t hf rfl rfl rfl rfl hc53) hf rfl rfl (e_indexAddr (A := A2) (b := b62) (o := 0) (xs := list1) (i := z54) hf hA63 rfl rfl Tryz.underlying24 Tryz.sizeOf9 h58 h59) fun a hf => ?_
   refine gq (wanted_t hf rfl rfl rfl rfl hc53) hf rfl rfl (e_load1 hf rfl Tryz.isAgg9 (hcell61 0 _ rfl)) fun a hf => ?_
   refine gq (wanted_t hf rfl rfl rfl rfl hc53) hf rfl rfl (e_move hf rfl) fun a hf => ?_
   refine gq (wanted_t hf rfl rfl rfl rfl hc53) hf rfl rfl (e_eqS hf (x := e56) (y := t4) rfl rfl) fun a hf => ?_
   refine q_ hf rfl rfl rfl (e_pick_t hf rfl hc53 rfl) fun a hf => ?_
   refine pl_nil ?_
   obtain rfl := some_inj h52
   refine then_n ?_
   exact ⟨(e56 == t4), rfl, hf.keep ⟨rfl, rfl, rfl, rfl, trivial⟩, hM.pick [] rfl⟩
  iterate 7 refine pl_gs (wanted_f hf rfl rfl rfl rfl hc53) hf rfl rfl fun a hf => ?_
  refine q_ hf rfl rfl rfl (e_pick_f hf rfl hc53 rfl) fun a hf => ?_
  refine pl_nil ?_
  obtain rfl := some_inj h52
  refine then_n ?_
  exact ⟨false, rfl, hf.keep ⟨rfl, rfl, rfl, rfl, trivial⟩, hM.pick [] rfl⟩
 rintro a w67 ⟨t49, rfl, hf, hM⟩
 try dsimp only at h
 rcases cond_some h with ⟨hc68, h⟩ | ⟨hc68, h⟩
 ·refine cond_t hf rfl hc68 ?_
  refine wp_seq ?_
  refine region_pl ?_
  refine q_ hf rfl rfl rfl (e_move hf rfl) fun a hf => ?_
  refine q_ hf rfl rfl rfl (e_assign hf rfl) fun a hf => ?_
  refine pl_nil ?_
  refine then_n ?_
  refine wp_ret ?_
  refine then_r ?_
  obtain rfl := some_inj h
  exact leave1 hf rfl rfl ⟨A2, c3, rfl, hM.fin⟩
 refine cond_f hf rfl hc68 ?_
 refine wp_skip ?_
 refine then_n ?_
 refine wp_seq ?_
 refine region_pl ?_
 refine pl_l hf rfl rfl rfl (w_slice0 (K := strRep) hM Tryz.underlying24 ei_9 fun b69 w70 hx71 hM a hf => ?_)
 iterate 2 refine q_ hf rfl rfl rfl (e_move hf rfl) fun a hf => ?_
 have hM := hM.freezeRow (k := 1) rfl rfl
 dsimp only [List.eraseIdx] at hM
 obtain ⟨l72, hz73, h⟩ := bind_some h
 obtain ⟨A74, hd75, hA76⟩ := sub_rep (hM.dat (k := 0) rfl) hz73
 have hM := hM.add (y := .dat (sliceRep strRep) l72 [vL A74 l72 (c3 - (0 : Int).toNat)]) hd75
 refine q_ hf rfl rfl rfl (e_subLh hf (xs := list1) rfl rfl Tryz.underlying24 Tryz.sizeOf9 (slice_cap (hM.dat (k := 1) rfl)) hz73 hA76) fun a hf => ?_
 obtain ⟨xs77, hz78, h⟩ := bind_some h
 refine pl_l hf rfl rfl rfl (w_appendD hf hM Tryz.underlying24 ei_9 rfl rfl rfl (k := 0) rfl (hM.dat (k := 0) rfl) hz78 fun A79 c80 w81 hM a hf => ?_)
 dsimp only [List.set] at hM
 refine q_ hf rfl rfl rfl (e_assign hf rfl) fun a hf => ?_
 refine pl_nil ?_
 refine then_n ?_
 refine wp_seq ?_
 refine region_pl ?_
 iterate 2 refine q_ hf rfl rfl rfl (e_move hf rfl) fun a hf => ?_
 refine pl_l hf rfl rfl rfl (w_slice hf hM (K := strRep) (xs := ([t4] : (List Str))) (os := [.tmp 40]) Tryz.underlying24 ei_9 rfl rfl rfl rfl rfl ⟨⟨[vS (t4)], rfl, ⟨rfl, hp5⟩⟩, trivial⟩ rfl fun b84 w85 hx86 hM a hf => ?_)
 obtain ⟨xs87, hz88, h⟩ := bind_some h
 refine pl_l hf rfl rfl rfl (w_append hf hM Tryz.underlying24 ei_9 rfl rfl rfl (k := 1) rfl (hM.srcRow (k := 0) rfl) hz88 fun A89 c90 w91 hM a hf => ?_)
 dsimp only [List.set] at hM
 refine q_ hf rfl rfl rfl (e_assign hf rfl) fun a hf => ?_
 refine pl_nil ?_
 refine then_n ?_
 refine wp_seq ?_
 refine region_pl ?_
 iterate 3 refine q_ hf rfl rfl rfl (e_move hf rfl) fun a hf => ?_
 obtain ⟨l94, hz95, h⟩ := bind_some h
 obtain ⟨A96, hd97, hA98⟩ := sub_rep (hM.dat (k := 1) rfl) hz95
 have hM := hM.add (y := .dat (sliceRep strRep) l94 [vL A96 l94 (c3 - (n7 : Int).toNat)]) hd97
 refine q_ hf rfl rfl rfl (e_subLl hf (xs := list1) rfl rfl Tryz.underlying24 Tryz.sizeOf9 (slice_cap (hM.dat (k := 2) rfl)) hz95 hA98) fun a hf => ?_
 obtain ⟨xs99, hz100, h⟩ := bind_some h
 refine pl_l hf rfl rfl rfl (w_appendD hf hM Tryz.underlying24 ei_9 rfl rfl rfl (k := 1) rfl (hM.dat (k := 0) rfl) hz100 fun A101 c102 w103 hM a hf => ?_)
 dsimp only [List.set] at hM
 refine q_ hf rfl rfl rfl (e_assign hf rfl) fun a hf => ?_
 refine pl_nil ?_
 refine then_n ?_
 refine wp_ret ?_
 obtain rfl := some_inj h
 have hM := hM.front (k := 1) rfl
 dsimp only [List.eraseIdx] at hM
 have hM := hM.outs (own' := [.row strRep A101 c102 9 xs99 true]) 1 rfl
 exact leave1 hf rfl rfl ⟨A101, c102, rfl, hM.fin⟩

set_option maxRecDepth 100000 in
set_option maxHeartbeats 4000000 in
theorem r_spec_l05Draw (C : Cx) (s1 : l00Src) (b2 : Nat) (A3 : Option Addr) (c4 : Nat) (hp5 : (sliceRep byteRep).R C.w0 C.S0 s1.code [vL A3 s1.code c4]) (hp6 : R64 s1.at_) (hp7 : U64 s1.seed) (most8 : Int) (hp9 : R64 most8) (hO : Mem C C.w0 [.box b2 [vL A3 (s1.code) c4, vI (s1.at_), vW (s1.seed)] 105] []) (hd : ∀ b, C.S0 b → ¬ ownB [.box b2 [vL A3 (s1.code) c4, vI (s1.at_), vW (s1.seed)] 105] b) (r : (Lexicon × l00Src)) (h : m_spec_l05Draw s1 most8 = some r) :
    Calls Tryz.prog 25 #[vP b2 (0), vI (most8)] C.w0 fun e w => ∃ (A_1 : Option Addr), ∃ (c_1 : Nat), e = .returned (.agg #[vL A_1 (r.1.Words) c_1]) ∧ Mem C w [.box b2 [vL A3 (s1.code) c4, vI (r.2.at_), vW (r.2.seed)] 105, .row strRep A_1 c_1 9 r.1.Words true] [] ∧ R64 r.2.at_ ∧ U64 r.2.seed := by
 have hM := hO
 have hM := hM.addIn hd (y := .dat (sliceRep byteRep) s1.code [vL A3 s1.code c4]) hp5
 refine enter Tryz.func25 rfl Tryz.ntmps25 rfl fun a hf => ?_
 unfold m_spec_l05Draw at h
 refine wp_seq ?_
 refine region_pl ?_
 refine pl_l hf rfl rfl rfl (w_alloc hM (cs := [vL none (([] : (List Str))) 0]) Tryz.zeroValue26 rfl fun b10 w11 hx12 hM a hf => ?_)
 refine pl_nil ?_
 refine then_n ?_
 refine wp_seq ?_
 refine region_pl ?_
 obtain ⟨y14, hz15, h⟩ := bind_some h
 refine pl_l hf rfl rfl rfl (w_call hf Tryz.call28 rfl (r_spec_l05Some ⟨_, Sh C _ _, none_, hM.sh_lt, none_not, C.G, hM.g_lt, g_none, hM.tabs⟩ _ hz15) ?_)
 rintro _ w18 ⟨A16, c17, rfl, hM2⟩
 obtain ⟨hM, hx19, hup20⟩ := hM.back hM2
 dsimp only [List.cons_append, List.nil_append] at hM hup20
 clear hM2
 refine ⟨_, rfl, fun a hf => ?_⟩
 refine q_ hf rfl rfl rfl (e_assign hf rfl) fun a hf => ?_
 refine pl_nil ?_
 refine then_n ?_
 refine wp_seq ?_
 refine region_pl ?_
 refine pl_l hf rfl rfl rfl (w_slice0 (K := strRep) hM Tryz.underlying24 ei_9 fun b21 w22 hx23 hM a hf => ?_)
 refine q_ hf rfl rfl rfl (e_assign hf rfl) fun a hf => ?_
 refine pl_nil ?_
 refine then_n ?_
 obtain ⟨x31, h32, h⟩ := bind_some h
 refine seq_join (fun a w => ∃ (n24 : Int) (n26 : Int) (xs28 : (List Str)) (A29 : Option Addr) (c30 : Nat), (n24, n26, xs28) = x31 ∧ Has 29 a [(4, vP b10 (0)), (6, vL A29 (xs28) c30)] ∧ Mem C w [.row strRep A29 c30 9 xs28 true, .row strRep A16 c17 9 y14 true, .box b10 [vL none (([] : (List Str))) 0] 26, .box b2 [vL A3 (s1.code) c4, vI (n24), vW (n26)] 105] [.dat (sliceRep byteRep) s1.code [vL A3 s1.code c4]] ∧ R64 n24 ∧ U64 n26) ?_ ?_
 ·refine wp_seq ?_
  refine region_pl ?_
  iterate 2 refine q_ hf rfl rfl rfl (e_move hf rfl) fun a hf => ?_
  obtain ⟨z33, hz34, h32⟩ := bind_some h32
  refine q_ hf rfl rfl rfl (e_add hf rfl rfl hz34) fun a hf => ?_
  have hM := hM.front (k := 3) rfl
  dsimp only [List.eraseIdx] at hM
  have hM : Mem C _ ([.box b2 [vL A3 (s1.code) c4, vI (s1.at_), vW (s1.seed)] 105] ++ [.row strRep (some ⟨b21, 0, none⟩) 0 9 ([] : (List Str)) true, .row strRep A16 c17 9 y14 true, .box b10 [vL none (([] : (List Str))) 0] 26]) _ := hM
  obtain ⟨y35, hz36, h32⟩ := bind_some h32
  refine pl_l hf rfl rfl rfl (w_call hf Tryz.call55 rfl (r_spec_l00Src_pick ⟨_, Sh C _ _, ownB _, hM.sh_lt, sub_dis, C.G, hM.g_lt, hM.g_own, hM.tabs⟩ s1 _ _ _ (hM.dat (k := 0) rfl) hp6 hp7 z33 (chk_R hz34) hM.sub sub_dis _ hz36) ?_)
  rintro _ w40 ⟨rfl, hM2, hv37, hv38, hv39⟩
  obtain ⟨hM, hup42⟩ := hM.backG hM2
  dsimp only [List.cons_append, List.nil_append] at hM hup42
  clear hM2
  refine ⟨_, rfl, fun a hf => ?_⟩
  refine q_ hf rfl rfl rfl (e_assign hf rfl) fun a hf => ?_
  refine pl_nil ?_
  refine then_n ?_
  refine wp_block ?_
  obtain ⟨x60, h61, h32⟩ := bind_some h32
  refine wp_loopM h61 (fun s a w => ∃ (n43 : Int) (n45 : Int) (xs47 : (List Str)) (n50 : Int) (A48 : Option Addr) (c49 : Nat), (n43, n45, xs47, n50) = s ∧ Has 29 a [(0, vP b2 (0)), (4, vP b10 (0)), (5, vL A16 (y14) c17), (6, vL A48 (xs47) c49), (7, vI (n50))] ∧ Mem C w [.row strRep A48 c49 9 xs47 true, .box b2 [vL A3 (s1.code) c4, vI (n43), vW (n45)] 105, .row strRep A16 c17 9 y14 true, .box b10 [vL none (([] : (List Str))) 0] 26] [.dat (sliceRep byteRep) s1.code [vL A3 s1.code c4]] ∧ R64 n43 ∧ U64 n45 ∧ R64 n50) ?_ ?_
  ·have hM := hM.front (k := 3) rfl
   dsimp only [List.eraseIdx] at hM
   have hM := hM.front (k := 3) rfl
   dsimp only [List.eraseIdx] at hM
   have hM := hM.front (k := 2) rfl
   dsimp only [List.eraseIdx] at hM
   have hM := hM.front (k := 3) rfl
   dsimp only [List.eraseIdx] at hM
   exact ⟨y35.2.at_, y35.2.seed, ([] : (List Str)), y35.1, (some ⟨b21, 0, none⟩), 0, rfl, hf.keep ⟨rfl, rfl, rfl, rfl, rfl, trivial⟩, hM.pick [0] rfl, hv37, hv38, hv39⟩
  rintro s o62 a w52 ⟨n43, n45, xs47, n50, A48, c49, rfl, hf, hM, hv44, hv46, hv51⟩ h63 hd64
  replace h63 : m_spec_l05Draw_l1 s1 y14 n43 n45 xs47 n50 = some o62 := h63
  unfold m_spec_l05Draw_l1 at h63
  iterate 2 refine wp_seq ?_
  refine region_pl ?_
  refine q_ hf rfl rfl rfl (e_move hf rfl) fun a hf => ?_
  refine q_ hf rfl rfl rfl (e_gt hf (x := n50) (y := 0) rfl rfl) fun a hf => ?_
  refine pl_nil ?_
  refine then_n ?_
  rcases cond_some h63 with ⟨hc65, h63⟩ | ⟨hc65, h63⟩
  ·refine cond_t hf rfl hc65 ?_
   refine wp_skip ?_
   refine then_n ?_
   refine wp_seq ?_
   refine wp_block ?_
   refine region_pl ?_
   iterate 4 refine q_ hf rfl rfl rfl (e_move hf rfl) fun a hf => ?_
   have hl66 := row_len (hM.ownAt (k := 2) rfl)
   refine q_ hf rfl rfl rfl (e_lenL hf (x := y14) rfl Tryz.underlying24) fun a hf => ?_
   have hM := hM.front (k := 1) rfl
   dsimp only [List.eraseIdx] at hM
   have hM : Mem C _ ([.box b2 [vL A3 (s1.code) c4, vI (n43), vW (n45)] 105] ++ [.row strRep A48 c49 9 xs47 true, .row strRep A16 c17 9 y14 true, .box b10 [vL none (([] : (List Str))) 0] 26]) _ := hM
   obtain ⟨y67, hz68, h63⟩ := bind_some h63
   refine pl_l hf rfl rfl rfl (w_call hf Tryz.call55 rfl (r_spec_l00Src_pick ⟨_, Sh C _ _, ownB _, hM.sh_lt, sub_dis, C.G, hM.g_lt, hM.g_own, hM.tabs⟩ (⟨s1.code, n43, n45⟩ : l00Src) _ _ _ (hM.dat (k := 0) rfl) hv44 hv46 (y14.length : Int) (R64_len hl66) hM.sub sub_dis _ hz68) ?_)
   rintro _ w72 ⟨rfl, hM2, hv69, hv70, hv71⟩
   obtain ⟨hM, hup74⟩ := hM.backG hM2
   dsimp only [List.cons_append, List.nil_append] at hM hup74
   clear hM2
   refine ⟨_, rfl, fun a hf => ?_⟩
   obtain ⟨e75, hz76, h63⟩ := bind_some h63
   obtain ⟨b81, _, hA82, h77, h78, hr79, hcell80⟩ := hM.rowElemN (k := 2) rfl (n := 1) rfl hz76
   obtain ⟨rfl, hv83⟩ := hr79
   refine q_ hf rfl rfl rfl (e_indexAddr (A := A16) (b := b81) (o := 0) (xs := y14) (i := y67.1) hf hA82 rfl rfl Tryz.underlying24 Tryz.sizeOf9 h77 h78) fun a hf => ?_
   refine q_ hf rfl rfl rfl (e_load1 hf rfl Tryz.isAgg9 (hcell80 0 _ rfl)) fun a hf => ?_
   have hM := hM.front (k := 1) rfl
   dsimp only [List.eraseIdx] at hM
   have hM : Mem C _ ([.row strRep A48 c49 9 xs47 true] ++ [.box b2 [vL A3 (s1.code) c4, vI (y67.2.at_), vW (y67.2.seed)] 105, .row strRep A16 c17 9 y14 true, .box b10 [vL none (([] : (List Str))) 0] 26]) _ := hM
   obtain ⟨y84, hz85, h63⟩ := bind_some h63
   refine pl_l hf rfl rfl rfl (w_call hf Tryz.call56 rfl (r_spec_l03Insert ⟨_, Sh C _ _, ownB _, hM.sh_lt, sub_dis, C.G, hM.g_lt, hM.g_own, hM.tabs⟩ xs47 _ _ e75 hv83 hM.sub sub_dis _ hz85) ?_)
   rintro _ w88 ⟨A86, c87, rfl, hM2⟩
   obtain ⟨hM, hup90⟩ := hM.backG hM2
   dsimp only [List.cons_append, List.nil_append] at hM hup90
   clear hM2
   refine ⟨_, rfl, fun a hf => ?_⟩
   refine q_ hf rfl rfl rfl (e_assign hf rfl) fun a hf => ?_
   refine pl_nil ?_
   refine blk_n ?_
   refine then_n ?_
   refine region_pl ?_
   refine q_ hf rfl rfl rfl (e_move hf rfl) fun a hf => ?_
   obtain ⟨z91, hz92, h63⟩ := bind_some h63
   refine q_ hf rfl rfl rfl (e_sub hf rfl rfl hz92) fun a hf => ?_
   refine q_ hf rfl rfl rfl (e_assign hf rfl) fun a hf => ?_
   refine pl_nil ?_
   obtain rfl := some_inj h63
   refine then_n ⟨_, rfl, ?_⟩
   exact ⟨y67.2.at_, y67.2.seed, y84, z91, A86, c87, rfl, hf.keep ⟨rfl, rfl, rfl, rfl, rfl, trivial⟩, hM.pick [0] rfl, hv69, hv70, (chk_R hz92)⟩
  refine cond_f hf rfl hc65 ?_
  refine wp_exit ?_
  refine then_x ?_
  obtain rfl := some_inj h63
  obtain rfl := hd64 _ rfl
  try dsimp only at h32
  refine then_x ?_
  refine exit_hit ?_
  obtain rfl := some_inj h32
  refine then_n ?_
  have hM := hM.front (k := 1) rfl
  dsimp only [List.eraseIdx] at hM
  have hM := hM.front (k := 3) rfl
  dsimp only [List.eraseIdx] at hM
  have hM := hM.front (k := 3) rfl
  dsimp only [List.eraseIdx] at hM
  have hM := hM.front (k := 3) rfl
  dsimp only [List.eraseIdx] at hM
  exact ⟨n43, n45, xs47, A48, c49, rfl, hf.keep ⟨rfl, rfl, trivial⟩, hM.pick [0] rfl, hv44, hv46⟩
 rintro a w98 ⟨n24, n26, xs28, A29, c30, rfl, hf, hM, hv25, hv27⟩
 try dsimp only at h
 refine wp_seq ?_
 refine region_pl ?_
 refine q_ hf rfl rfl rfl (e_move hf rfl) fun a hf => ?_
 refine q_ hf rfl rfl rfl (e_build hf Tryz.zeroValue26 Tryz.underlying26 (bp_26 _ Tryz.underlying26.symm) rfl (cs := #[vL A29 (xs28) c30]) (by kernel_rfl)) fun a hf => ?_
 refine pl_0 hf rfl rfl (w_store hf hM (us := [vL A29 (xs28) c30]) (cs' := [vL A29 (xs28) c30]) rfl rfl (k := 2) rfl rfl Tryz.sizeOf26 rfl rfl rfl fun w99 hM => ?_)
 dsimp only [List.set] at hM
 refine pl_nil ?_
 refine then_n ?_
 refine wp_ret ?_
 obtain rfl := some_inj h
 have hres102 := leaveV1 (P := Tryz.prog) (w := w99) Tryz.results25 (res_agg hf rfl ⟨Tryz.isAgg26, Tryz.sizeOf26⟩ (us := [vL A29 (xs28) c30]) rfl (hM.boxSub (k := 2) (o := 0) rfl rfl))
 have hM := hM.front (k := 0) rfl
 dsimp only [List.eraseIdx] at hM
 have hM := hM.front (k := 3) rfl
 dsimp only [List.eraseIdx] at hM
 have hM := hM.outs (own' := [.box b2 [vL A3 (s1.code) c4, vI (n24), vW (n26)] 105, .row strRep A29 c30 9 xs28 true]) 2 rfl
 exact bodyPost_ret hres102 hf.defers ⟨A29, c30, rfl, hM.fin, hv25, hv27⟩

set_option maxRecDepth 100000 in
set_option maxHeartbeats 4000000 in
theorem r_spec_A2Lexicon (C : Cx) (code1 : Str) (A2 : Option Addr) (c3 : Nat) (hp4 : (sliceRep byteRep).R C.w0 C.S0 code1 [vL A2 code1 c3]) (r : Lexicon) (h : m_spec_A2Lexicon code1 = some r) :
    Calls Tryz.prog 6 #[vL A2 (code1) c3] C.w0 fun e w => ∃ (A_1 : Option Addr), ∃ (c_1 : Nat), e = .returned (.agg #[vL A_1 (r.Words) c_1]) ∧ Mem C w [.row strRep A_1 c_1 9 r.Words true] [] := by
 have hM := Mem.begin C [.dat (sliceRep byteRep) code1 [vL A2 code1 c3]] ⟨hp4, trivial⟩
 refine enter Tryz.func6 rfl Tryz.ntmps6 rfl fun a hf => ?_
 unfold m_spec_A2Lexicon at h
 refine wp_seq ?_
 refine region_pl ?_
 refine pl_l hf rfl rfl rfl (w_alloc hM (cs := [vL none (([] : (List Str))) 0]) Tryz.zeroValue26 rfl fun b5 w6 hx7 hM a hf => ?_)
 refine pl_nil ?_
 refine then_n ?_
 refine wp_seq ?_
 refine region_pl ?_
 refine q_ hf rfl rfl rfl (e_move hf rfl) fun a hf => ?_
 obtain ⟨y9, hz10, h⟩ := bind_some h
 refine pl_l hf rfl rfl rfl (w_call hf Tryz.call26 rfl (r_spec_l00From ⟨_, Sh C _ _, none_, hM.sh_lt, none_not, C.G, hM.g_lt, g_none, hM.tabs⟩ code1 _ _ (hM.dat (k := 0) rfl) _ hz10) ?_)
 rintro _ w17 ⟨b11, A12, c13, rfl, hM2, hv14, hv15, hv16⟩
 obtain ⟨hM, hx18, hup19⟩ := hM.back hM2
 dsimp only [List.cons_append, List.nil_append] at hM hup19
 clear hM2
 have hM := hM.add (y := .dat (sliceRep byteRep) y9.code [vL A12 y9.code c13]) (hup19 hv14)
 refine ⟨_, rfl, fun a hf => ?_⟩
 have hM : Mem C _ ([.box b11 [vL A12 (y9.code) c13, vI (y9.at_), vW (y9.seed)] 105] ++ [.box b5 [vL none (([] : (List Str))) 0] 26]) _ := hM
 obtain ⟨y20, hz21, h⟩ := bind_some h
 refine pl_l hf rfl rfl rfl (w_call hf Tryz.call25 rfl (r_spec_l05Draw ⟨_, Sh C _ _, ownB _, hM.sh_lt, sub_dis, C.G, hM.g_lt, hM.g_own, hM.tabs⟩ y9 _ _ _ (hM.dat (k := 0) rfl) hv15 hv16 16 (R64_lit rfl) hM.sub sub_dis _ hz21) ?_)
 rintro _ w26 ⟨A24, c25, rfl, hM2, hv22, hv23⟩
 obtain ⟨hM, hup28⟩ := hM.backG hM2
 dsimp only [List.cons_append, List.nil_append] at hM hup28
 clear hM2
 refine ⟨_, rfl, fun a hf => ?_⟩
 refine pl_0 hf rfl rfl (w_store hf hM (us := [vL A24 (y20.1.Words) c25]) (cs' := [vL A24 (y20.1.Words) c25]) rfl rfl (k := 2) rfl rfl Tryz.sizeOf26 rfl rfl rfl fun w29 hM => ?_)
 dsimp only [List.set] at hM
 refine pl_nil ?_
 refine then_n ?_
 refine wp_ret ?_
 obtain rfl := some_inj h
 have hres32 := leaveV1 (P := Tryz.prog) (w := w29) Tryz.results6 (res_agg hf rfl ⟨Tryz.isAgg26, Tryz.sizeOf26⟩ (us := [vL A24 (y20.1.Words) c25]) rfl (hM.boxSub (k := 2) (o := 0) rfl rfl))
 have hM := hM.front (k := 1) rfl
 dsimp only [List.eraseIdx] at hM
 have hM := hM.outs (own' := [.row strRep A24 c25 9 y20.1.Words true]) 1 rfl
 exact bodyPost_ret hres32 hf.defers ⟨A24, c25, rfl, hM.fin⟩

set_option maxRecDepth 100000 in
set_option maxHeartbeats 4000000 in
theorem r_spec_l00Src_text (C : Cx) (s1 : l00Src) (b2 : Nat) (A3 : Option Addr) (c4 : Nat) (hp5 : (sliceRep byteRep).R C.w0 C.S0 s1.code [vL A3 s1.code c4]) (hp6 : R64 s1.at_) (hp7 : U64 s1.seed) (list8 : (List Str)) (A9 : Option Addr) (c10 : Nat) (hp11 : (sliceRep strRep).R C.w0 C.S0 list8 [vL A9 list8 c10]) (hO : Mem C C.w0 [.box b2 [vL A3 (s1.code) c4, vI (s1.at_), vW (s1.seed)] 105] []) (hd : ∀ b, C.S0 b → ¬ ownB [.box b2 [vL A3 (s1.code) c4, vI (s1.at_), vW (s1.seed)] 105] b) (r : (Str × l00Src)) (h : m_spec_l00Src_text s1 list8 = some r) :
    Calls Tryz.prog 27 #[vP b2 (0), vL A9 (list8) c10] C.w0 fun e w => e = .returned (vS (r.1)) ∧ Mem C w [.box b2 [vL A3 (s1.code) c4, vI (r.2.at_), vW (r.2.seed)] 105] [] ∧ R64 r.2.at_ ∧ U64 r.2.seed ∧ r.1.length ≤ maxLen := by
 have hM := hO
 have hM := hM.addIn hd (y := .dat (sliceRep byteRep) s1.code [vL A3 s1.code c4]) hp5
 have hM := hM.addIn hd (y := .dat (sliceRep strRep) list8 [vL A9 list8 c10]) hp11
 refine enter Tryz.func27 rfl Tryz.ntmps27 rfl fun a hf => ?_
 unfold m_spec_l00Src_text at h
 refine wp_seq ?_
 refine region_pl ?_
 refine q_ hf rfl rfl rfl (e_assign hf rfl) fun a hf => ?_
 refine pl_nil ?_
 refine then_n ?_
 refine wp_seq ?_
 refine region_pl ?_
 iterate 3 refine q_ hf rfl rfl rfl (e_move hf rfl) fun a hf => ?_
 have hl12 := slice_len (hM.dat (k := 0) rfl)
 refine q_ hf rfl rfl rfl (e_lenL hf (x := list8) rfl Tryz.underlying24) fun a hf => ?_
 have hM : Mem C _ ([.box b2 [vL A3 (s1.code) c4, vI (s1.at_), vW (s1.seed)] 105] ++ []) _ := hM
 obtain ⟨y13, hz14, h⟩ := bind_some h
 refine pl_l hf rfl rfl rfl (w_call hf Tryz.call55 rfl (r_spec_l00Src_pick ⟨_, Sh C _ _, ownB _, hM.sh_lt, sub_dis, C.G, hM.g_lt, hM.g_own, hM.tabs⟩ s1 _ _ _ (hM.dat (k := 1) rfl) hp6 hp7 (list8.length : Int) (R64_len hl12) hM.sub sub_dis _ hz14) ?_)
 rintro _ w18 ⟨rfl, hM2, hv15, hv16, hv17⟩
 obtain ⟨hM, hup20⟩ := hM.backG hM2
 dsimp only [List.cons_append, List.nil_append] at hM hup20
 clear hM2
 refine ⟨_, rfl, fun a hf => ?_⟩
 obtain ⟨e21, hz22, h⟩ := bind_some h
 obtain ⟨b26, o27, _, hA28, h23, h24, hr25, hM⟩ := hM.elem (hM.dat (k := 0) rfl) (n := 1) rfl hz22
 obtain ⟨rfl, hv29⟩ := hr25
 refine q_ hf rfl rfl rfl (e_indexAddr (A := A9) (b := b26) (o := o27) (xs := list8) (i := y13.1) hf hA28 rfl rfl Tryz.underlying24 Tryz.sizeOf9 h23 h24) fun a hf => ?_
 refine q_ hf rfl rfl rfl (e_load1 hf rfl Tryz.isAgg9 (hM.litCell (k := 0) (j := 0) rfl rfl rfl)) fun a hf => ?_
 refine q_ hf rfl rfl rfl (e_assign hf rfl) fun a hf => ?_
 refine pl_nil ?_
 refine then_n ?_
 refine wp_ret ?_
 obtain rfl := some_inj h
 exact leave1 hf rfl rfl ⟨rfl, hM.fin, hv15, hv16, hv29⟩

set_option maxRecDepth 100000 in
set_option maxHeartbeats 4000000 in
theorem r_spec_A2Word (C : Cx) (code1 : Str) (A2 : Option Addr) (c3 : Nat) (hp4 : (sliceRep byteRep).R C.w0 C.S0 code1 [vL A2 code1 c3]) (r : Str) (h : m_spec_A2Word code1 = some r) :
    Calls Tryz.prog 7 #[vL A2 (code1) c3] C.w0 fun e w => e = .returned (vS (r)) ∧ Mem C w [] [] ∧ r.length ≤ maxLen := by
 have hM := Mem.begin C [.dat (sliceRep byteRep) code1 [vL A2 code1 c3]] ⟨hp4, trivial⟩
 refine enter Tryz.func7 rfl Tryz.ntmps7 rfl fun a hf => ?_
 unfold m_spec_A2Word at h
 refine wp_seq ?_
 refine region_pl ?_
 refine q_ hf rfl rfl rfl (e_assign hf rfl) fun a hf => ?_
 refine pl_nil ?_
 refine then_n ?_
 refine wp_seq ?_
 refine region_pl ?_
 refine q_ hf rfl rfl rfl (e_move hf rfl) fun a hf => ?_
 obtain ⟨y5, hz6, h⟩ := bind_some h
 refine pl_l hf rfl rfl rfl (w_call hf Tryz.call26 rfl (r_spec_l00From ⟨_, Sh C _ _, none_, hM.sh_lt, none_not, C.G, hM.g_lt, g_none, hM.tabs⟩ code1 _ _ (hM.dat (k := 0) rfl) _ hz6) ?_)
 rintro _ w13 ⟨b7, A8, c9, rfl, hM2, hv10, hv11, hv12⟩
 obtain ⟨hM, hx14, hup15⟩ := hM.back hM2
 dsimp only [List.cons_append, List.nil_append] at hM hup15
 clear hM2
 have hM := hM.add (y := .dat (sliceRep byteRep) y5.code [vL A8 y5.code c9]) (hup15 hv10)
 refine ⟨_, rfl, fun a hf => ?_⟩
 obtain ⟨y16, hz17, h⟩ := bind_some h
 refine pl_l hf rfl rfl rfl (w_call hf Tryz.call28 rfl (r_spec_l05Some ⟨_, Sh C _ _, none_, hM.sh_lt, none_not, C.G, hM.g_lt, g_none, hM.tabs⟩ _ hz17) ?_)
 rintro _ w20 ⟨A18, c19, rfl, hM2⟩
 obtain ⟨hM, hx21, hup22⟩ := hM.back hM2
 dsimp only [List.cons_append, List.nil_append] at hM hup22
 clear hM2
 refine ⟨_, rfl, fun a hf => ?_⟩
 have hM := hM.freezeRow (k := 0) rfl rfl
 dsimp only [List.eraseIdx] at hM
 have hM : Mem C _ ([.box b7 [vL A8 (y5.code) c9, vI (y5.at_), vW (y5.seed)] 105] ++ []) _ := hM
 obtain ⟨y23, hz24, h⟩ := bind_some h
 refine pl_l hf rfl rfl rfl (w_call hf Tryz.call27 rfl (r_spec_l00Src_text ⟨_, Sh C _ _, ownB _, hM.sh_lt, sub_dis, C.G, hM.g_lt, hM.g_own, hM.tabs⟩ y5 _ _ _ (hM.dat (k := 1) rfl) hv11 hv12 y16 _ _ (hM.dat (k := 0) rfl) hM.sub sub_dis _ hz24) ?_)
 rintro _ w28 ⟨rfl, hM2, hv25, hv26, hv27⟩
 obtain ⟨hM, hup30⟩ := hM.backG hM2
 dsimp only [List.cons_append, List.nil_append] at hM hup30
 clear hM2
 refine ⟨_, rfl, fun a hf => ?_⟩
 refine q_ hf rfl rfl rfl (e_assign hf rfl) fun a hf => ?_
 refine pl_nil ?_
 refine then_n ?_
 refine wp_ret ?_
 obtain rfl := some_inj h
 have hM := hM.outs (own' := []) 0 rfl
 exact leave1 hf rfl rfl ⟨rfl, hM.fin, hv27⟩

set_option maxRecDepth 100000 in
set_option maxHeartbeats 4000000 in
theorem r_impl_increasing (C : Cx) (list1 : (List Str)) (A2 : Option Addr) (c3 : Nat) (hp4 : (sliceRep strRep).R C.w0 C.S0 list1 [vL A2 list1 c3]) (r : Bool) (h : m_impl_increasing list1 = some r) :
    Calls Tryz.prog 57 #[vL A2 (list1) c3] C.w0 fun e w => e = .returned (.bool (r)) ∧ Mem C w [] [] := by
 have hM := Mem.begin C [.dat (sliceRep strRep) list1 [vL A2 list1 c3]] ⟨hp4, trivial⟩
 refine enter Tryz.func57 rfl Tryz.ntmps57 rfl fun a hf => ?_
 unfold m_impl_increasing at h
 refine wp_seq ?_
 refine region_pl ?_
 refine q_ hf rfl rfl rfl (e_assign hf rfl) fun a hf => ?_
 refine pl_nil ?_
 refine then_n ?_
 obtain ⟨x5, h6, h⟩ := bind_some h
 refine seq_join (fun a w => (.inl ()) = x5 ∧ Has 20 a [] ∧ Mem C w [] [.dat (sliceRep strRep) list1 [vL A2 list1 c3]]) ?_ ?_
 ·refine wp_seq ?_
  refine region_pl ?_
  refine q_ hf rfl rfl rfl (e_assign hf rfl) fun a hf => ?_
  refine pl_nil ?_
  refine then_n ?_
  refine wp_block ?_
  obtain ⟨x10, h11, h6⟩ := bind_some h6
  refine wp_loopM h11 (fun s a w => ∃ (n7 : Int), n7 = s ∧ Has 20 a [(0, vL A2 (list1) c3), (3, vI (n7))] ∧ Mem C w [] [.dat (sliceRep strRep) list1 [vL A2 list1 c3]] ∧ R64 n7) ?_ ?_
  ·exact ⟨1, rfl, hf.keep ⟨rfl, rfl, trivial⟩, hM.pick [0] rfl, (R64_lit rfl)⟩
  rintro s o12 a w9 ⟨n7, rfl, hf, hM, hv8⟩ h13 hd14
  replace h13 : m_impl_increasing_l1 list1 n7 = some o12 := h13
  unfold m_impl_increasing_l1 at h13
  iterate 2 refine wp_seq ?_
  refine region_pl ?_
  iterate 2 refine q_ hf rfl rfl rfl (e_move hf rfl) fun a hf => ?_
  have hl15 := slice_len (hM.dat (k := 0) rfl)
  refine q_ hf rfl rfl rfl (e_lenL hf (x := list1) rfl Tryz.underlying24) fun a hf => ?_
  refine q_ hf rfl rfl rfl (e_lt hf (x := n7) (y := (list1.length : Int)) rfl rfl) fun a hf => ?_
  refine pl_nil ?_
  refine then_n ?_
  rcases cond_some h13 with ⟨hc16, h13⟩ | ⟨hc16, h13⟩
  ·refine cond_t hf rfl hc16 ?_
   refine wp_skip ?_
   refine then_n ?_
   refine wp_seq ?_
   refine wp_block ?_
   refine wp_seq ?_
   obtain ⟨w17, hw⟩ : ∃ x, x = w9.drew := ⟨_, rfl⟩
   refine region_pi (.q 0 (.q 1 (.q 2 (.q 3 (.q 4 (.q 5 (.q 6 (.q 7 (.q 8 (.q 9 (.nil))))))))))) (Ext w17) rfl (by kernel_rfl) ?_
   have hM := hM.drew
   rw [← hw] at hM ⊢
   clear hw
   iterate 2 refine pi_q hf rfl rfl rfl rfl (Ext.refl _) (e_move hf rfl) fun a hf => ?_
   obtain ⟨z18, hz19, h13⟩ := bind_some h13
   refine pi_q hf rfl rfl rfl rfl (Ext.refl _) (e_sub hf rfl rfl hz19) fun a hf => ?_
   obtain ⟨e20, hz21, h13⟩ := bind_some h13
   obtain ⟨b25, o26, _, hA27, h22, h23, hr24, hM⟩ := hM.elem (hM.dat (k := 0) rfl) (n := 1) rfl hz21
   obtain ⟨rfl, hv28⟩ := hr24
   refine pi_q hf rfl rfl rfl rfl (Ext.refl _) (e_indexAddr (A := A2) (b := b25) (o := o26) (xs := list1) (i := z18) hf hA27 rfl rfl Tryz.underlying24 Tryz.sizeOf9 h22 h23) fun a hf => ?_
   refine pi_q hf rfl rfl rfl rfl (Ext.refl _) (e_load1 hf rfl Tryz.isAgg9 (hM.litCell (k := 0) (j := 0) rfl rfl rfl)) fun a hf => ?_
   iterate 2 refine pi_q hf rfl rfl rfl rfl (Ext.refl _) (e_move hf rfl) fun a hf => ?_
   obtain ⟨e29, hz30, h13⟩ := bind_some h13
   obtain ⟨b34, o35, _, hA36, h31, h32, hr33, hM⟩ := hM.elem (hM.dat (k := 1) rfl) (n := 1) rfl hz30
   obtain ⟨rfl, hv37⟩ := hr33
   refine pi_q hf rfl rfl rfl rfl (Ext.refl _) (e_indexAddr (A := A2) (b := b34) (o := o35) (xs := list1) (i := n7) hf hA36 rfl rfl Tryz.underlying24 Tryz.sizeOf9 h31 h32) fun a hf => ?_
   refine pi_q hf rfl rfl rfl rfl (Ext.refl _) (e_load1 hf rfl Tryz.isAgg9 (hM.litCell (k := 0) (j := 0) rfl rfl rfl)) fun a hf => ?_
   refine pi_q hf rfl rfl rfl rfl (Ext.refl _) (e_geS hf (x := e20) (y := e29) rfl rfl) fun a hf => ?_
   refine pi_nil ?_
   refine then_n ?_
   rcases cond_some h13 with ⟨hc38, h13⟩ | ⟨hc38, h13⟩
   ·refine cond_t hf rfl hc38 ?_
    refine wp_seq ?_
    refine region_pl ?_
    refine q_ hf rfl rfl rfl (e_assign hf rfl) fun a hf => ?_
    refine pl_nil ?_
    refine then_n ?_
    refine wp_ret ?_
    refine blk_r ?_
    refine then_r ?_
    obtain rfl := some_inj h13
    obtain rfl := hd14 _ rfl
    try dsimp only at h6
    refine then_r ?_
    refine blk_r ?_
    obtain rfl := some_inj h6
    try dsimp only at h
    refine then_r ?_
    obtain rfl := some_inj h
    exact leave1 hf rfl rfl ⟨rfl, hM.fin⟩
   refine cond_f hf rfl hc38 ?_
   refine wp_skip ?_
   refine blk_n ?_
   refine then_n ?_
   refine region_pl ?_
   refine q_ hf rfl rfl rfl (e_move hf rfl) fun a hf => ?_
   obtain ⟨z39, hz40, h13⟩ := bind_some h13
   refine q_ hf rfl rfl rfl (e_add hf rfl rfl hz40) fun a hf => ?_
   refine q_ hf rfl rfl rfl (e_assign hf rfl) fun a hf => ?_
   refine pl_nil ?_
   obtain rfl := some_inj h13
   refine then_n ⟨_, rfl, ?_⟩
   exact ⟨z39, rfl, hf.keep ⟨rfl, rfl, trivial⟩, hM.pick [2] rfl, (chk_R hz40)⟩
  refine cond_f hf rfl hc16 ?_
  refine wp_exit ?_
  refine then_x ?_
  obtain rfl := some_inj h13
  obtain rfl := hd14 _ rfl
  try dsimp only at h6
  refine then_x ?_
  refine exit_hit ?_
  obtain rfl := some_inj h6
  refine then_n ?_
  exact ⟨rfl, hf.keep trivial, hM.pick [0] rfl⟩
 rintro a w47 ⟨rfl, hf, hM⟩
 try dsimp only at h
 refine wp_seq ?_
 refine region_pl ?_
 refine q_ hf rfl rfl rfl (e_assign hf rfl) fun a hf => ?_
 refine pl_nil ?_
 refine then_n ?_
 refine wp_ret ?_
 obtain rfl := some_inj h
 exact leave1 hf rfl rfl ⟨rfl, hM.fin⟩

set_option maxRecDepth 100000 in
set_option maxHeartbeats 4000000 in
theorem r_impl_small (C : Cx) (c1 : UInt8) (r : Bool) (h : m_impl_small c1 = some r) :
    Calls Tryz.prog 100 #[vB (c1)] C.w0 fun e w => e = .returned (.bool (r)) ∧ Mem C w [] [] := by
 have hM := Mem.begin C [] trivial
 refine enter Tryz.func100 rfl Tryz.ntmps100 rfl fun a hf => ?_
 unfold m_impl_small at h
 refine wp_seq ?_
 refine region_pl ?_
 refine q_ hf rfl rfl rfl (e_assign hf rfl) fun a hf => ?_
 refine pl_nil ?_
 refine then_n ?_
 obtain ⟨x4, h5, h⟩ := bind_some h
 refine seq_join (fun a w => ∃ (t2 : Bool), t2 = x4 ∧ Has 9 a [(2, .bool (t2))] ∧ Mem C w [] []) ?_ ?_
 ·refine region_pl ?_
  refine q_ hf rfl rfl rfl (e_move hf rfl) fun a hf => ?_
  refine q_ hf rfl rfl rfl (e_leB hf (x := 97) (y := c1) rfl rfl) fun a hf => ?_
  refine q_ hf rfl rfl rfl (e_move hf rfl) fun a hf => ?_
  rcases cond_some h5 with ⟨hc6, h5⟩ | ⟨hc6, h5⟩
  ·refine gq (wanted_t hf rfl rfl rfl rfl hc6) hf rfl rfl (e_move hf rfl) fun a hf => ?_
   refine gq (wanted_t hf rfl rfl rfl rfl hc6) hf rfl rfl (e_leB hf (x := c1) (y := 122) rfl rfl) fun a hf => ?_
   refine q_ hf rfl rfl rfl (e_pick_t hf rfl hc6 rfl) fun a hf => ?_
   refine q_ hf rfl rfl rfl (e_assign hf rfl) fun a hf => ?_
   refine pl_nil ?_
   obtain rfl := some_inj h5
   refine then_n ?_
   exact ⟨(decide (c1 ≤ 122)), rfl, hf.keep ⟨rfl, trivial⟩, hM.pick [] rfl⟩
  iterate 2 refine pl_gs (wanted_f hf rfl rfl rfl rfl hc6) hf rfl rfl fun a hf => ?_
  refine q_ hf rfl rfl rfl (e_pick_f hf rfl hc6 rfl) fun a hf => ?_
  refine q_ hf rfl rfl rfl (e_assign hf rfl) fun a hf => ?_
  refine pl_nil ?_
  obtain rfl := some_inj h5
  refine then_n ?_
  exact ⟨false, rfl, hf.keep ⟨rfl, trivial⟩, hM.pick [] rfl⟩
 rintro a w9 ⟨t2, rfl, hf, hM⟩
 try dsimp only at h
 refine wp_ret ?_
 obtain rfl := some_inj h
 exact leave1 hf rfl rfl ⟨rfl, hM.fin⟩

set_option maxRecDepth 100000 in
set_option maxHeartbeats 4000000 in
theorem r_impl_onlySmall (C : Cx) (s1 : Str) (hp2 : s1.length ≤ maxLen) (r : Bool) (h : m_impl_onlySmall s1 = some r) :
    Calls Tryz.prog 117 #[vS (s1)] C.w0 fun e w => e = .returned (.bool (r)) ∧ Mem C w [] [] := by
 have hM := Mem.begin C [] trivial
 refine enter Tryz.func117 rfl Tryz.ntmps117 rfl fun a hf => ?_
 unfold m_impl_onlySmall at h
 refine wp_seq ?_
 refine region_pl ?_
 refine q_ hf rfl rfl rfl (e_assign hf rfl) fun a hf => ?_
 refine pl_nil ?_
 refine then_n ?_
 obtain ⟨x3, h4, h⟩ := bind_some h
 refine seq_join (fun a w => (.inl ()) = x3 ∧ Has 16 a [] ∧ Mem C w [] []) ?_ ?_
 ·refine wp_seq ?_
  refine region_pl ?_
  refine q_ hf rfl rfl rfl (e_move hf rfl) fun a hf => ?_
  refine pl_l hf rfl rfl rfl (w_bytes hf hM (x := s1) rfl Tryz.underlying9 Tryz.underlying22 Tryz.underlying5 hp2 fun A5 c6 w7 hx8 hM a hf => ?_)
  have hl9 := row_len (hM.ownAt (k := 0) rfl)
  refine q_ hf rfl rfl rfl (e_lenL hf (x := s1) rfl Tryz.underlying22) fun a hf => ?_
  refine q_ hf rfl rfl rfl (e_move hf rfl) fun a hf => ?_
  refine pl_nil ?_
  refine then_n ?_
  refine wp_block ?_
  obtain ⟨x13, h14, h4⟩ := bind_some h4
  refine wp_loopM h14 (fun s a w => ∃ (n10 : Int), n10 = s ∧ Has 16 a [(6, vL A5 (s1) c6), (7, vI ((s1.length : Int))), (8, vI (n10))] ∧ Mem C w [.row byteRep A5 c6 5 s1 false] [] ∧ R64 n10) ?_ ?_
  ·exact ⟨0, rfl, hf.keep ⟨rfl, rfl, rfl, trivial⟩, hM.pick [] rfl, (R64_lit rfl)⟩
  rintro s o15 a w12 ⟨n10, rfl, hf, hM, hv11⟩ h16 hd17
  replace h16 : m_impl_onlySmall_l1 s1 n10 = some o15 := h16
  unfold m_impl_onlySmall_l1 at h16
  refine wp_seq ?_
  refine region_pl ?_
  refine q_ hf rfl rfl rfl (e_lt hf (x := n10) (y := (s1.length : Int)) rfl rfl) fun a hf => ?_
  refine pl_nil ?_
  refine then_n ?_
  refine wp_seq ?_
  rcases cond_some h16 with ⟨hc18, h16⟩ | ⟨hc18, h16⟩
  ·refine cond_t hf rfl hc18 ?_
   refine wp_skip ?_
   refine then_n ?_
   refine wp_seq ?_
   refine wp_block ?_
   refine wp_seq ?_
   refine region_pl ?_
   obtain ⟨e19, hz20, h16⟩ := bind_some h16
   obtain ⟨b25, _, hA26, h21, h22, hr23, hcell24⟩ := hM.rowElemN (k := 0) rfl (n := 1) rfl hz20
   obtain rfl : _ = _ := hr23
   refine q_ hf rfl rfl rfl (e_indexAddr (A := A5) (b := b25) (o := 0) (xs := s1) (i := n10) hf hA26 rfl rfl Tryz.underlying22 Tryz.sizeOf5 h21 h22) fun a hf => ?_
   refine q_ hf rfl rfl rfl (e_load1 hf rfl Tryz.isAgg5 (hcell24 0 _ rfl)) fun a hf => ?_
   refine q_ hf rfl rfl rfl (e_assign hf rfl) fun a hf => ?_
   refine pl_nil ?_
   refine then_n ?_
   refine wp_seq ?_
   refine region_pl ?_
   refine q_ hf rfl rfl rfl (e_move hf rfl) fun a hf => ?_
   obtain ⟨y27, hz28, h16⟩ := bind_some h16
   refine pl_l hf rfl rfl rfl (w_call hf Tryz.call100 rfl (r_impl_small ⟨_, Sh C _ _, none_, hM.sh_lt, none_not, C.G, hM.g_lt, g_none, hM.tabs⟩ e19 _ hz28) ?_)
   rintro _ w29 ⟨rfl, hM2⟩
   obtain ⟨hM, hx30, hup31⟩ := hM.back hM2
   dsimp only [List.cons_append, List.nil_append] at hM hup31
   clear hM2
   refine ⟨_, rfl, fun a hf => ?_⟩
   refine q_ hf rfl rfl rfl (e_not hf rfl) fun a hf => ?_
   refine pl_nil ?_
   refine then_n ?_
   rcases cond_some h16 with ⟨hc32, h16⟩ | ⟨hc32, h16⟩
   ·refine cond_t hf rfl hc32 ?_
    refine wp_seq ?_
    refine region_pl ?_
    refine q_ hf rfl rfl rfl (e_assign hf rfl) fun a hf => ?_
    refine pl_nil ?_
    refine then_n ?_
    refine wp_ret ?_
    refine blk_r ?_
    refine then_r ?_
    obtain rfl := some_inj h16
    obtain rfl := hd17 _ rfl
    try dsimp only at h4
    refine then_r ?_
    refine blk_r ?_
    obtain rfl := some_inj h4
    try dsimp only at h
    refine then_r ?_
    obtain rfl := some_inj h
    have hM := hM.outs (own' := []) 0 rfl
    exact leave1 hf rfl rfl ⟨rfl, hM.fin⟩
   refine cond_f hf rfl hc32 ?_
   refine wp_skip ?_
   refine blk_n ?_
   refine then_n ?_
   refine region_pl ?_
   obtain ⟨z33, hz34, h16⟩ := bind_some h16
   refine q_ hf rfl rfl rfl (e_add hf rfl rfl hz34) fun a hf => ?_
   refine q_ hf rfl rfl rfl (e_move hf rfl) fun a hf => ?_
   refine pl_nil ?_
   obtain rfl := some_inj h16
   refine then_n ⟨_, rfl, ?_⟩
   exact ⟨z33, rfl, hf.keep ⟨rfl, rfl, rfl, trivial⟩, hM.pick [] rfl, (chk_R hz34)⟩
  refine cond_f hf rfl hc18 ?_
  refine wp_exit ?_
  refine then_x ?_
  obtain rfl := some_inj h16
  obtain rfl := hd17 _ rfl
  try dsimp only at h4
  refine then_x ?_
  refine exit_hit ?_
  obtain rfl := some_inj h4
  refine then_n ?_
  exact ⟨rfl, hf.keep trivial, (hM.drop (.cons _ .slnil)).pick [] rfl⟩
 rintro a w41 ⟨rfl, hf, hM⟩
 try dsimp only at h
 refine wp_seq ?_
 refine region_pl ?_
 refine q_ hf rfl rfl rfl (e_assign hf rfl) fun a hf => ?_
 refine pl_nil ?_
 refine then_n ?_
 refine wp_ret ?_
 obtain rfl := some_inj h
 exact leave1 hf rfl rfl ⟨rfl, hM.fin⟩

set_option maxRecDepth 100000 in
set_option maxHeartbeats 4000000 in
theorem r_impl_IsWord (C : Cx) (s1 : Str) (hp2 : s1.length ≤ maxLen) (r : Bool) (h : m_impl_IsWord s1 = some r) :
    Calls Tryz.prog 88 #[vS (s1)] C.w0 fun e w => e = .returned (.bool (r)) ∧ Mem C w [] [] := by
 have hM := Mem.begin C [] trivial
 refine enter Tryz.func88 rfl Tryz.ntmps88 rfl fun a hf => ?_
 unfold m_impl_IsWord at h
 refine wp_seq ?_
 refine region_pl ?_
 refine q_ hf rfl rfl rfl (e_assign hf rfl) fun a hf => ?_
 refine pl_nil ?_
 refine then_n ?_
 obtain ⟨x5, h6, h⟩ := bind_some h
 refine seq_join (fun a w => ∃ (t3 : Bool), t3 = x5 ∧ Has 15 a [(2, .bool (t3))] ∧ Mem C w [] []) ?_ ?_
 ·refine region_pl ?_
  refine q_ hf rfl rfl rfl (e_move hf rfl) fun a hf => ?_
  refine q_ hf rfl rfl rfl (e_lenS hf (x := s1) rfl Tryz.underlying9) fun a hf => ?_
  refine q_ hf rfl rfl rfl (e_ge hf (x := (s1.length : Int)) (y := 1) rfl rfl) fun a hf => ?_
  refine q_ hf rfl rfl rfl (e_move hf rfl) fun a hf => ?_
  rcases cond_some h6 with ⟨hc7, h6⟩ | ⟨hc7, h6⟩
  ·refine gq (wanted_t hf rfl rfl rfl rfl hc7) hf rfl rfl (e_move hf rfl) fun a hf => ?_
   refine gq (wanted_t hf rfl rfl rfl rfl hc7) hf rfl rfl (e_lenS hf (x := s1) rfl Tryz.underlying9) fun a hf => ?_
   refine gq (wanted_t hf rfl rfl rfl rfl hc7) hf rfl rfl (e_le hf (x := (s1.length : Int)) (y := 12) rfl rfl) fun a hf => ?_
   refine q_ hf rfl rfl rfl (e_pick_t hf rfl hc7 rfl) fun a hf => ?_
   refine q_ hf rfl rfl rfl (e_move hf rfl) fun a hf => ?_
   rcases cond_some h6 with ⟨hc8, h6⟩ | ⟨hc8, h6⟩
   ·refine gq (wanted_t hf rfl rfl rfl rfl hc8) hf rfl rfl (e_move hf rfl) fun a hf => ?_
    obtain ⟨y9, hz10, h6⟩ := bind_some h6
    refine pl_gl (wanted_t hf rfl rfl rfl rfl hc8) hf rfl rfl (w_call hf Tryz.call117 rfl (r_impl_onlySmall ⟨_, Sh C _ _, none_, hM.sh_lt, none_not, C.G, hM.g_lt, g_none, hM.tabs⟩ s1 hp2 _ hz10) ?_)
    rintro _ w11 ⟨rfl, hM2⟩
    obtain ⟨hM, hx12, hup13⟩ := hM.back hM2
    dsimp only [List.cons_append, List.nil_append] at hM hup13
    clear hM2
    refine ⟨_, rfl, fun a hf => ?_⟩
    refine q_ hf rfl rfl rfl (e_pick_t hf rfl hc8 rfl) fun a hf => ?_
    refine q_ hf rfl rfl rfl (e_assign hf rfl) fun a hf => ?_
    refine pl_nil ?_
    obtain rfl := some_inj h6
    refine then_n ?_
    exact ⟨y9, rfl, hf.keep ⟨rfl, trivial⟩, hM.pick [] rfl⟩
   iterate 2 refine pl_gs (wanted_f hf rfl rfl rfl rfl hc8) hf rfl rfl fun a hf => ?_
   refine q_ hf rfl rfl rfl (e_pick_f hf rfl hc8 rfl) fun a hf => ?_
   refine q_ hf rfl rfl rfl (e_assign hf rfl) fun a hf => ?_
   refine pl_nil ?_
   obtain rfl := some_inj h6
   refine then_n ?_
   exact ⟨false, rfl, hf.keep ⟨rfl, trivial⟩, hM.pick [] rfl⟩
  iterate 3 refine pl_gs (wanted_f hf rfl rfl rfl rfl hc7) hf rfl rfl fun a hf => ?_
  refine q_ hf rfl rfl rfl (e_pick_f hf rfl hc7 rfl) fun a hf => ?_
  refine q_ hf rfl rfl rfl (e_move hf rfl) fun a hf => ?_
  iterate 2 refine pl_gs (wanted_f hf rfl rfl rfl rfl rfl) hf rfl rfl fun a hf => ?_
  refine q_ hf rfl rfl rfl (e_pick_f hf rfl rfl rfl) fun a hf => ?_
  refine q_ hf rfl rfl rfl (e_assign hf rfl) fun a hf => ?_
  refine pl_nil ?_
  obtain rfl := some_inj h6
  refine then_n ?_
  exact ⟨false, rfl, hf.keep ⟨rfl, trivial⟩, hM.pick [] rfl⟩
 rintro a w17 ⟨t3, rfl, hf, hM⟩
 try dsimp only at h
 refine wp_ret ?_
 obtain rfl := some_inj h
 exact leave1 hf rfl rfl ⟨rfl, hM.fin⟩

set_option maxRecDepth 100000 in
set_option maxHeartbeats 4000000 in
theorem r_impl_isLong (C : Cx) (s1 : Str) (hp2 : s1.length ≤ maxLen) (r : Bool) (h : m_impl_isLong s1 = some r) :
    Calls Tryz.prog 58 #[vS (s1)] C.w0 fun e w => e = .returned (.bool (r)) ∧ Mem C w [] [] := by
 have hM := Mem.begin C [] trivial
 refine enter Tryz.func58 rfl Tryz.ntmps58 rfl fun a hf => ?_
 unfold m_impl_isLong at h
 refine wp_seq ?_
 refine region_pl ?_
 refine q_ hf rfl rfl rfl (e_assign hf rfl) fun a hf => ?_
 refine pl_nil ?_
 refine then_n ?_
 obtain ⟨x5, h6, h⟩ := bind_some h
 refine seq_join (fun a w => ∃ (t3 : Bool), t3 = x5 ∧ Has 10 a [(2, .bool (t3))] ∧ Mem C w [] []) ?_ ?_
 ·refine region_pl ?_
  refine q_ hf rfl rfl rfl (e_move hf rfl) fun a hf => ?_
  refine q_ hf rfl rfl rfl (e_lenS hf (x := s1) rfl Tryz.underlying9) fun a hf => ?_
  refine q_ hf rfl rfl rfl (e_ge hf (x := (s1.length : Int)) (y := 2) rfl rfl) fun a hf => ?_
  refine q_ hf rfl rfl rfl (e_move hf rfl) fun a hf => ?_
  rcases cond_some h6 with ⟨hc7, h6⟩ | ⟨hc7, h6⟩
  ·refine gq (wanted_t hf rfl rfl rfl rfl hc7) hf rfl rfl (e_move hf rfl) fun a hf => ?_
   obtain ⟨y8, hz9, h6⟩ := bind_some h6
   refine pl_gl (wanted_t hf rfl rfl rfl rfl hc7) hf rfl rfl (w_call hf Tryz.call88 rfl (r_impl_IsWord ⟨_, Sh C _ _, none_, hM.sh_lt, none_not, C.G, hM.g_lt, g_none, hM.tabs⟩ s1 hp2 _ hz9) ?_)
   rintro _ w10 ⟨rfl, hM2⟩
   obtain ⟨hM, hx11, hup12⟩ := hM.back hM2
   dsimp only [List.cons_append, List.nil_append] at hM hup12
   clear hM2
   refine ⟨_, rfl, fun a hf => ?_⟩
   refine q_ hf rfl rfl rfl (e_pick_t hf rfl hc7 rfl) fun a hf => ?_
   refine q_ hf rfl rfl rfl (e_assign hf rfl) fun a hf => ?_
   refine pl_nil ?_
   obtain rfl := some_inj h6
   refine then_n ?_
   exact ⟨y8, rfl, hf.keep ⟨rfl, trivial⟩, hM.pick [] rfl⟩
  iterate 2 refine pl_gs (wanted_f hf rfl rfl rfl rfl hc7) hf rfl rfl fun a hf => ?_
  refine q_ hf rfl rfl rfl (e_pick_f hf rfl hc7 rfl) fun a hf => ?_
  refine q_ hf rfl rfl rfl (e_assign hf rfl) fun a hf => ?_
  refine pl_nil ?_
  obtain rfl := some_inj h6
  refine then_n ?_
  exact ⟨false, rfl, hf.keep ⟨rfl, trivial⟩, hM.pick [] rfl⟩
 rintro a w15 ⟨t3, rfl, hf, hM⟩
 try dsimp only at h
 refine wp_ret ?_
 obtain rfl := some_inj h
 exact leave1 hf rfl rfl ⟨rfl, hM.fin⟩

set_option maxRecDepth 100000 in
set_option maxHeartbeats 4000000 in
theorem r_impl_ValidLexicon (C : Cx) (l1 : Lexicon) (A2 : Option Addr) (c3 : Nat) (hp4 : (sliceRep strRep).R C.w0 C.S0 l1.Words [vL A2 l1.Words c3]) (r : Bool) (h : m_impl_ValidLexicon l1 = some r) :
    Calls Tryz.prog 29 #[.agg #[vL A2 (l1.Words) c3]] C.w0 fun e w => e = .returned (.bool (r)) ∧ Mem C w [] [] := by
 have hM := Mem.begin C [.dat (sliceRep strRep) l1.Words [vL A2 l1.Words c3]] ⟨hp4, trivial⟩
 refine enter Tryz.func29 rfl Tryz.ntmps29 rfl fun a hf => ?_
 unfold m_impl_ValidLexicon at h
 refine wp_seq ?_
 refine region_pl ?_
 refine pl_l hf rfl rfl rfl (w_box hf hM (cs := [vL A2 (l1.Words) c3]) rfl rfl fun b5 w6 hx7 hM a hf => ?_)
 refine q_ hf rfl rfl rfl (e_assign hf rfl) fun a hf => ?_
 refine pl_nil ?_
 refine then_n ?_
 refine wp_seq ?_
 obtain ⟨x11, h12, h⟩ := bind_some h
 refine seq_join (fun a w => ∃ (t9 : Bool), t9 = x11 ∧ Has 26 a [(1, vP b5 (0)), (14, .bool (t9))] ∧ Mem C w [.box b5 [vL A2 (l1.Words) c3] 26] [.dat (sliceRep strRep) l1.Words [vL A2 l1.Words c3]]) ?_ ?_
 ·refine region_pl ?_
  refine q_ hf rfl rfl rfl (e_field hf rfl Tryz.underlying26 rfl Tryz.sizeOf24 (o' := 0) rfl) fun a hf => ?_
  refine q_ hf rfl rfl rfl (e_load1 hf rfl Tryz.isAgg24 (hM.boxCell (k := 0) rfl rfl)) fun a hf => ?_
  have hl13 := slice_len (hM.dat (k := 0) rfl)
  refine q_ hf rfl rfl rfl (e_lenL hf (x := l1.Words) rfl Tryz.underlying24) fun a hf => ?_
  refine q_ hf rfl rfl rfl (e_gt hf (x := (l1.Words.length : Int)) (y := 200) rfl rfl) fun a hf => ?_
  refine q_ hf rfl rfl rfl (e_move hf rfl) fun a hf => ?_
  rcases cond_some h12 with ⟨hc14, h12⟩ | ⟨hc14, h12⟩
  ·iterate 4 refine pl_gs (wanted_f hf rfl rfl rfl rfl hc14) hf rfl rfl fun a hf => ?_
   refine q_ hf rfl rfl rfl (e_pick_t hf rfl hc14 rfl) fun a hf => ?_
   refine pl_nil ?_
   obtain rfl := some_inj h12
   refine then_n ?_
   exact ⟨true, rfl, hf.keep ⟨rfl, rfl, trivial⟩, hM.pick [0] rfl⟩
  refine gq (wanted_t hf rfl rfl rfl rfl hc14) hf rfl rfl (e_field hf rfl Tryz.underlying26 rfl Tryz.sizeOf24 (o' := 0) rfl) fun a hf => ?_
  refine gq (wanted_t hf rfl rfl rfl rfl hc14) hf rfl rfl (e_load1 hf rfl Tryz.isAgg24 (hM.boxCell (k := 0) rfl rfl)) fun a hf => ?_
  obtain ⟨y16, hz17, h12⟩ := bind_some h12
  refine pl_gl (wanted_t hf rfl rfl rfl rfl hc14) hf rfl rfl (w_call hf Tryz.call57 rfl (r_impl_increasing ⟨_, Sh C _ _, none_, hM.sh_lt, none_not, C.G, hM.g_lt, g_none, hM.tabs⟩ l1.Words _ _ (hM.dat (k := 0) rfl) _ hz17) ?_)
  rintro _ w18 ⟨rfl, hM2⟩
  obtain ⟨hM, hx19, hup20⟩ := hM.back hM2
  dsimp only [List.cons_append, List.nil_append] at hM hup20
  clear hM2
  refine ⟨_, rfl, fun a hf => ?_⟩
  refine gq (wanted_t hf rfl rfl rfl rfl hc14) hf rfl rfl (e_not hf rfl) fun a hf => ?_
  refine q_ hf rfl rfl rfl (e_pick_f hf rfl hc14 rfl) fun a hf => ?_
  refine pl_nil ?_
  obtain rfl := some_inj h12
  refine then_n ?_
  exact ⟨(!y16), rfl, hf.keep ⟨rfl, rfl, trivial⟩, hM.pick [0] rfl⟩
 rintro a w22 ⟨t9, rfl, hf, hM⟩
 try dsimp only at h
 rcases cond_some h with ⟨hc23, h⟩ | ⟨hc23, h⟩
 ·refine cond_t hf rfl hc23 ?_
  refine wp_seq ?_
  refine region_pl ?_
  refine q_ hf rfl rfl rfl (e_assign hf rfl) fun a hf => ?_
  refine pl_nil ?_
  refine then_n ?_
  refine wp_ret ?_
  refine then_r ?_
  obtain rfl := some_inj h
  have hM := hM.outs (own' := []) 0 rfl
  exact leave1 hf rfl rfl ⟨rfl, hM.fin⟩
 refine cond_f hf rfl hc23 ?_
 refine wp_skip ?_
 refine then_n ?_
 obtain ⟨x24, h25, h⟩ := bind_some h
 refine seq_join (fun a w => (.inl ()) = x24 ∧ Has 26 a [] ∧ Mem C w [.box b5 [vL A2 (l1.Words) c3] 26] [.dat (sliceRep strRep) l1.Words [vL A2 l1.Words c3]]) ?_ ?_
 ·refine wp_seq ?_
  refine region_pl ?_
  refine q_ hf rfl rfl rfl (e_field hf rfl Tryz.underlying26 rfl Tryz.sizeOf24 (o' := 0) rfl) fun a hf => ?_
  refine q_ hf rfl rfl rfl (e_load1 hf rfl Tryz.isAgg24 (hM.boxCell (k := 0) rfl rfl)) fun a hf => ?_
  have hl26 := slice_len (hM.dat (k := 0) rfl)
  refine q_ hf rfl rfl rfl (e_lenL hf (x := l1.Words) rfl Tryz.underlying24) fun a hf => ?_
  refine q_ hf rfl rfl rfl (e_move hf rfl) fun a hf => ?_
  refine pl_nil ?_
  refine then_n ?_
  refine wp_block ?_
  obtain ⟨x30, h31, h25⟩ := bind_some h25
  refine wp_loopM h31 (fun s a w => ∃ (n27 : Int), n27 = s ∧ Has 26 a [(16, vL A2 (l1.Words) c3), (17, vI ((l1.Words.length : Int))), (18, vI (n27))] ∧ Mem C w [.box b5 [vL A2 (l1.Words) c3] 26] [.dat (sliceRep strRep) l1.Words [vL A2 l1.Words c3]] ∧ R64 n27) ?_ ?_
  ·exact ⟨0, rfl, hf.keep ⟨rfl, rfl, rfl, trivial⟩, hM.pick [0] rfl, (R64_lit rfl)⟩
  rintro s o32 a w29 ⟨n27, rfl, hf, hM, hv28⟩ h33 hd34
  replace h33 : m_impl_ValidLexicon_l1 l1 n27 = some o32 := h33
  unfold m_impl_ValidLexicon_l1 at h33
  refine wp_seq ?_
  refine region_pl ?_
  refine q_ hf rfl rfl rfl (e_lt hf (x := n27) (y := (l1.Words.length : Int)) rfl rfl) fun a hf => ?_
  refine pl_nil ?_
  refine then_n ?_
  refine wp_seq ?_
  rcases cond_some h33 with ⟨hc35, h33⟩ | ⟨hc35, h33⟩
  ·refine cond_t hf rfl hc35 ?_
   refine wp_skip ?_
   refine then_n ?_
   refine wp_seq ?_
   refine wp_block ?_
   refine wp_seq ?_
   refine region_pl ?_
   obtain ⟨e36, hz37, h33⟩ := bind_some h33
   obtain ⟨b41, o42, _, hA43, h38, h39, hr40, hM⟩ := hM.elem (hM.dat (k := 0) rfl) (n := 1) rfl hz37
   obtain ⟨rfl, hv44⟩ := hr40
   refine q_ hf rfl rfl rfl (e_indexAddr (A := A2) (b := b41) (o := o42) (xs := l1.Words) (i := n27) hf hA43 rfl rfl Tryz.underlying24 Tryz.sizeOf9 h38 h39) fun a hf => ?_
   refine q_ hf rfl rfl rfl (e_load1 hf rfl Tryz.isAgg9 (hM.litCell (k := 0) (j := 0) rfl rfl rfl)) fun a hf => ?_
   refine q_ hf rfl rfl rfl (e_assign hf rfl) fun a hf => ?_
   refine pl_nil ?_
   refine then_n ?_
   refine wp_seq ?_
   refine region_pl ?_
   refine q_ hf rfl rfl rfl (e_move hf rfl) fun a hf => ?_
   obtain ⟨y45, hz46, h33⟩ := bind_some h33
   refine pl_l hf rfl rfl rfl (w_call hf Tryz.call58 rfl (r_impl_isLong ⟨_, Sh C _ _, none_, hM.sh_lt, none_not, C.G, hM.g_lt, g_none, hM.tabs⟩ e36 hv44 _ hz46) ?_)
   rintro _ w47 ⟨rfl, hM2⟩
   obtain ⟨hM, hx48, hup49⟩ := hM.back hM2
   dsimp only [List.cons_append, List.nil_append] at hM hup49
   clear hM2
   refine ⟨_, rfl, fun a hf => ?_⟩
   refine q_ hf rfl rfl rfl (e_not hf rfl) fun a hf => ?_
   refine pl_nil ?_
   refine then_n ?_
   rcases cond_some h33 with ⟨hc50, h33⟩ | ⟨hc50, h33⟩
   ·refine cond_t hf rfl hc50 ?_
    refine wp_seq ?_
    refine region_pl ?_
    refine q_ hf rfl rfl rfl (e_assign hf rfl) fun a hf => ?_
    refine pl_nil ?_
    refine then_n ?_
    refine wp_ret ?_
    refine blk_r ?_
    refine then_r ?_
    obtain rfl := some_inj h33
    obtain rfl := hd34 _ rfl
    try dsimp only at h25
    refine then_r ?_
    refine blk_r ?_
    obtain rfl := some_inj h25
    try dsimp only at h
    refine then_r ?_
    obtain rfl := some_inj h
    have hM := hM.outs (own' := []) 0 rfl
    exact leave1 hf rfl rfl ⟨rfl, hM.fin⟩
   refine cond_f hf rfl hc50 ?_
   refine wp_skip ?_
   refine blk_n ?_
   refine then_n ?_
   refine region_pl ?_
   obtain ⟨z51, hz52, h33⟩ := bind_some h33
   refine q_ hf rfl rfl rfl (e_add hf rfl rfl hz52) fun a hf => ?_
   refine q_ hf rfl rfl rfl (e_move hf rfl) fun a hf => ?_
   refine pl_nil ?_
   obtain rfl := some_inj h33
   refine then_n ⟨_, rfl, ?_⟩
   exact ⟨z51, rfl, hf.keep ⟨rfl, rfl, rfl, trivial⟩, hM.pick [1] rfl, (chk_R hz52)⟩
  refine cond_f hf rfl hc35 ?_
  refine wp_exit ?_
  refine then_x ?_
  obtain rfl := some_inj h33
  obtain rfl := hd34 _ rfl
  try dsimp only at h25
  refine then_x ?_
  refine exit_hit ?_
  obtain rfl := some_inj h25
  refine then_n ?_
  exact ⟨rfl, hf.keep trivial, hM.pick [0] rfl⟩
 rintro a w59 ⟨rfl, hf, hM⟩
 try dsimp only at h
 refine wp_seq ?_
 refine region_pl ?_
 refine q_ hf rfl rfl rfl (e_assign hf rfl) fun a hf => ?_
 refine pl_nil ?_
 refine then_n ?_
 refine wp_ret ?_
 obtain rfl := some_inj h
 have hM := hM.outs (own' := []) 0 rfl
 exact leave1 hf rfl rfl ⟨rfl, hM.fin⟩

set_option maxRecDepth 100000 in
set_option maxHeartbeats 4000000 in
theorem r_strings_Builder_copyCheck (C : Cx) (b1 : Str) (b2 : Nat) (p3 : Value) (hp4 : AddrOk b2 p3) (A5 : Option Addr) (c6 : Nat) (hO : Mem C C.w0 [.box b2 [p3, vL A5 (b1) c6] 69, .row byteRep A5 c6 5 b1 true] []) (hd : ∀ b, C.S0 b → ¬ ownB [.box b2 [p3, vL A5 (b1) c6] 69, .row byteRep A5 c6 5 b1 true] b) (r : Str) (h : m_strings_Builder_copyCheck b1 = some r) :
    Calls Tryz.prog 66 #[vP b2 (0)] C.w0 fun e w => ∃ (p_1 : Value), ∃ (A_1 : Option Addr), ∃ (c_1 : Nat), e = .returned (.tuple #[]) ∧ Mem C w [.box b2 [p_1, vL A_1 (r) c_1] 69, .row byteRep A_1 c_1 5 r true] [] ∧ AddrOk b2 p_1 := by
 have hM := hO
 refine enter Tryz.func66 rfl Tryz.ntmps66 rfl fun a hf => ?_
 unfold m_strings_Builder_copyCheck at h
 rcases hp4 with rfl | rfl
 ·refine wp_seq ?_
  refine region_pl ?_
  refine q_ hf rfl rfl rfl (e_move hf rfl) fun a hf => ?_
  refine q_ hf rfl rfl rfl (e_nil hf rfl) fun a hf => ?_
  refine q_ hf rfl rfl rfl (e_field hf rfl Tryz.underlying69 rfl Tryz.sizeOf67 (o' := 0) rfl) fun a hf => ?_
  refine q_ hf rfl rfl rfl (e_load1 hf rfl Tryz.isAgg67 (hM.boxCell (k := 0) rfl rfl)) fun a hf => ?_
  refine q_ hf rfl rfl rfl (e_eqPN hf rfl rfl Tryz.underlying67) fun a hf => ?_
  refine pl_nil ?_
  refine then_n ?_
  refine cond_t hf rfl rfl ?_
  refine region_pl ?_
  iterate 2 refine q_ hf rfl rfl rfl (e_move hf rfl) fun a hf => ?_
  refine q_ hf rfl rfl rfl (e_toUnsafe hf hM (k := 0) (n := 2) rfl rfl Tryz.underlying67 Tryz.underlying145 (by kernel_rfl) rfl rfl) fun a hf => ?_
  refine q_ hf rfl rfl rfl (e_noEscape hf (f := 97) rfl Tryz.func97 rfl rfl (by kernel_rfl) (by kernel_rfl)) fun a hf => ?_
  refine q_ hf rfl rfl rfl (e_fromUnsafe hf hM (k := 0) (n := 2) rfl rfl Tryz.underlying145 Tryz.underlying67 (by kernel_rfl) (by kernel_rfl)) fun a hf => ?_
  refine q_ hf rfl rfl rfl (e_nil hf rfl) fun a hf => ?_
  refine q_ hf rfl rfl rfl (e_field hf rfl Tryz.underlying69 rfl Tryz.sizeOf67 (o' := 0) rfl) fun a hf => ?_
  refine pl_0 hf rfl rfl (w_store hf hM (us := [vP b2 0]) (cs' := [vP b2 0, vL A5 (b1) c6]) rfl rfl (k := 0) rfl rfl Tryz.sizeOf67 rfl rfl rfl fun w7 hM => ?_)
  dsimp only [List.set] at hM
  refine pl_nil ?_
  obtain rfl := some_inj h
  exact leave0n hf rfl ⟨(vP b2 0), A5, c6, rfl, hM.fin, (AddrOk.self _)⟩
 refine wp_seq ?_
 refine region_pl ?_
 refine q_ hf rfl rfl rfl (e_move hf rfl) fun a hf => ?_
 refine q_ hf rfl rfl rfl (e_nil hf rfl) fun a hf => ?_
 refine q_ hf rfl rfl rfl (e_field hf rfl Tryz.underlying69 rfl Tryz.sizeOf67 (o' := 0) rfl) fun a hf => ?_
 refine q_ hf rfl rfl rfl (e_load1 hf rfl Tryz.isAgg67 (hM.boxCell (k := 0) rfl rfl)) fun a hf => ?_
 refine q_ hf rfl rfl rfl (e_eqPS hf rfl rfl Tryz.underlying67) fun a hf => ?_
 refine pl_nil ?_
 refine then_n ?_
 refine cond_f hf rfl rfl ?_
 refine wp_seq ?_
 refine region_pl ?_
 refine q_ hf rfl rfl rfl (e_move hf rfl) fun a hf => ?_
 refine q_ hf rfl rfl rfl (e_nil hf rfl) fun a hf => ?_
 refine q_ hf rfl rfl rfl (e_field hf rfl Tryz.underlying69 rfl Tryz.sizeOf67 (o' := 0) rfl) fun a hf => ?_
 refine q_ hf rfl rfl rfl (e_load1 hf rfl Tryz.isAgg67 (hM.boxCell (k := 0) rfl rfl)) fun a hf => ?_
 refine q_ hf rfl rfl rfl (e_move hf rfl) fun a hf => ?_
 refine q_ hf rfl rfl rfl (e_nePS hf (n := 2) rfl rfl Tryz.underlying67 (by kernel_rfl)) fun a hf => ?_
 refine pl_nil ?_
 refine then_n ?_
 refine cond_f hf rfl rfl ?_
 refine wp_skip ?_
 obtain rfl := some_inj h
 exact leave0n hf rfl ⟨(vP b2 0), A5, c6, rfl, hM.fin, (AddrOk.self _)⟩

set_option maxRecDepth 100000 in
set_option maxHeartbeats 4000000 in
theorem r_strings_Builder_WriteByte (C : Cx) (b1 : Str) (b2 : Nat) (p3 : Value) (hp4 : AddrOk b2 p3) (A5 : Option Addr) (c6 : Nat) (c7 : UInt8) (hO : Mem C C.w0 [.box b2 [p3, vL A5 (b1) c6] 69, .row byteRep A5 c6 5 b1 true] []) (hd : ∀ b, C.S0 b → ¬ ownB [.box b2 [p3, vL A5 (b1) c6] 69, .row byteRep A5 c6 5 b1 true] b) (r : (Unit × Str)) (h : m_strings_Builder_WriteByte b1 c7 = some r) :
    Calls Tryz.prog 35 #[vP b2 (0), vB (c7)] C.w0 fun e w => ∃ (p_1 : Value), ∃ (A_1 : Option Addr), ∃ (c_1 : Nat), e = .returned (.nilIface) ∧ Mem C w [.box b2 [p_1, vL A_1 (r.2) c_1] 69, .row byteRep A_1 c_1 5 r.2 true] [] ∧ AddrOk b2 p_1 := by
 have hM := hO
 refine enter Tryz.func35 rfl Tryz.ntmps35 rfl fun a hf => ?_
 unfold m_strings_Builder_WriteByte at h
 refine wp_seq ?_
 refine region_pl ?_
 refine q_ hf rfl rfl rfl (e_assign hf rfl) fun a hf => ?_
 refine pl_nil ?_
 refine then_n ?_
 refine wp_seq ?_
 refine region_pl ?_
 refine q_ hf rfl rfl rfl (e_move hf rfl) fun a hf => ?_
 have hM : Mem C _ ([.box b2 [p3, vL A5 (b1) c6] 69, .row byteRep A5 c6 5 b1 true] ++ []) _ := hM
 obtain ⟨y8, hz9, h⟩ := bind_some h
 refine pl_l hf rfl rfl rfl (w_call hf Tryz.call66 rfl (r_strings_Builder_copyCheck ⟨_, Sh C _ _, ownB _, hM.sh_lt, sub_dis, C.G, hM.g_lt, hM.g_own, hM.tabs⟩ b1 _ _ hp4 _ _ hM.sub sub_dis _ hz9) ?_)
 rintro _ w14 ⟨p10, A12, c13, rfl, hM2, hv11⟩
 obtain ⟨hM, hup16⟩ := hM.backG hM2
 dsimp only [List.cons_append, List.nil_append] at hM hup16
 clear hM2
 refine ⟨_, rfl, fun a hf => ?_⟩
 refine pl_nil ?_
 refine then_n ?_
 refine wp_seq ?_
 refine region_pl ?_
 iterate 2 refine q_ hf rfl rfl rfl (e_move hf rfl) fun a hf => ?_
 refine q_ hf rfl rfl rfl (e_nil hf rfl) fun a hf => ?_
 refine q_ hf rfl rfl rfl (e_field hf rfl Tryz.underlying69 rfl Tryz.sizeOf22 (o' := 1) rfl) fun a hf => ?_
 refine q_ hf rfl rfl rfl (e_load1 hf rfl Tryz.isAgg22 (hM.boxCell (k := 0) rfl rfl)) fun a hf => ?_
 refine q_ hf rfl rfl rfl (e_move hf rfl) fun a hf => ?_
 refine pl_l hf rfl rfl rfl (w_slice hf hM (K := byteRep) (xs := ([c7] : Str)) (os := [.tmp 12]) Tryz.underlying22 ei_5 rfl rfl rfl rfl rfl ⟨⟨[vB (c7)], rfl, rfl⟩, trivial⟩ rfl fun b17 w18 hx19 hM a hf => ?_)
 obtain ⟨xs20, hz21, h⟩ := bind_some h
 refine pl_l hf rfl rfl rfl (w_append hf hM Tryz.underlying22 ei_5 rfl rfl rfl (k := 2) rfl (hM.srcRow (k := 0) rfl) hz21 fun A22 c23 w24 hM a hf => ?_)
 dsimp only [List.set] at hM
 refine q_ hf rfl rfl rfl (e_nil hf rfl) fun a hf => ?_
 refine q_ hf rfl rfl rfl (e_field hf rfl Tryz.underlying69 rfl Tryz.sizeOf22 (o' := 1) rfl) fun a hf => ?_
 refine pl_0 hf rfl rfl (w_store hf hM (us := [vL A22 (xs20) c23]) (cs' := [p10, vL A22 (xs20) c23]) rfl rfl (k := 1) rfl rfl Tryz.sizeOf22 rfl rfl rfl fun w27 hM => ?_)
 dsimp only [List.set] at hM
 refine pl_nil ?_
 refine then_n ?_
 refine wp_seq ?_
 refine region_pl ?_
 refine q_ hf rfl rfl rfl (e_assign hf rfl) fun a hf => ?_
 refine pl_nil ?_
 refine then_n ?_
 refine wp_ret ?_
 obtain rfl := some_inj h
 have hM := hM.front (k := 2) rfl
 dsimp only [List.eraseIdx] at hM
 have hM := hM.front (k := 2) rfl
 dsimp only [List.eraseIdx] at hM
 have hM := hM.outs (own' := [.box b2 [p10, vL A22 (xs20) c23] 69, .row byteRep A22 c23 5 xs20 true]) 2 rfl
 exact leave1 hf rfl rfl ⟨p10, A22, c23, rfl, hM.fin, hv11⟩

set_option maxRecDepth 100000 in
set_option maxHeartbeats 4000000 in
theorem r_impl_Decimal (C : Cx) (n1 : Int) (hp2 : R64 n1) (r : Str) (h : m_impl_Decimal n1 = some r) :
    Calls Tryz.prog 37 #[vI (n1)] C.w0 fun e w => e = .returned (vS (r)) ∧ Mem C w [] [] ∧ r.length ≤ maxLen := by
 have hM := Mem.begin C [] trivial
 refine enter Tryz.func37 rfl Tryz.ntmps37 rfl fun a hf => ?_
 unfold m_impl_Decimal at h
 refine wp_seq ?_
 refine region_pl ?_
 refine q_ hf rfl rfl rfl (e_assign hf rfl) fun a hf => ?_
 refine pl_nil ?_
 refine then_n ?_
 refine wp_seq ?_
 refine region_pl ?_
 refine q_ hf rfl rfl rfl (e_move hf rfl) fun a hf => ?_
 obtain ⟨y3, hz4, h⟩ := bind_some h
 refine pl_l hf rfl rfl rfl (w_call hf Tryz.call67 rfl (r_strconv_FormatInt ⟨_, Sh C _ _, none_, hM.sh_lt, none_not, C.G, hM.g_lt, g_none, hM.tabs⟩ n1 hp2 10 (R64_lit rfl) _ hz4) ?_)
 rintro _ w6 ⟨rfl, hM2, hv5⟩
 obtain ⟨hM, hx7, hup8⟩ := hM.back hM2
 dsimp only [List.cons_append, List.nil_append] at hM hup8
 clear hM2
 refine ⟨_, rfl, fun a hf => ?_⟩
 refine q_ hf rfl rfl rfl (e_assign hf rfl) fun a hf => ?_
 refine pl_nil ?_
 refine then_n ?_
 refine wp_ret ?_
 obtain rfl := some_inj h
 exact leave1 hf rfl rfl ⟨rfl, hM.fin, hv5⟩

set_option maxRecDepth 100000 in
set_option maxHeartbeats 4000000 in
theorem r_strings_Builder_WriteString (C : Cx) (b1 : Str) (b2 : Nat) (p3 : Value) (hp4 : AddrOk b2 p3) (A5 : Option Addr) (c6 : Nat) (s7 : Str) (hp8 : s7.length ≤ maxLen) (hO : Mem C C.w0 [.box b2 [p3, vL A5 (b1) c6] 69, .row byteRep A5 c6 5 b1 true] []) (hd : ∀ b, C.S0 b → ¬ ownB [.box b2 [p3, vL A5 (b1) c6] 69, .row byteRep A5 c6 5 b1 true] b) (r : (Int × Unit × Str)) (h : m_strings_Builder_WriteString b1 s7 = some r) :
    Calls Tryz.prog 36 #[vP b2 (0), vS (s7)] C.w0 fun e w => ∃ (p_1 : Value), ∃ (A_1 : Option Addr), ∃ (c_1 : Nat), e = .returned (.tuple #[vI (r.1), .nilIface]) ∧ Mem C w [.box b2 [p_1, vL A_1 (r.2.2) c_1] 69, .row byteRep A_1 c_1 5 r.2.2 true] [] ∧ AddrOk b2 p_1 ∧ R64 r.1 := by
 have hM := hO
 refine enter Tryz.func36 rfl Tryz.ntmps36 rfl fun a hf => ?_
 unfold m_strings_Builder_WriteString at h
 refine wp_seq ?_
 refine region_pl ?_
 iterate 2 refine q_ hf rfl rfl rfl (e_assign hf rfl) fun a hf => ?_
 refine pl_nil ?_
 refine then_n ?_
 refine wp_seq ?_
 refine region_pl ?_
 refine q_ hf rfl rfl rfl (e_move hf rfl) fun a hf => ?_
 have hM : Mem C _ ([.box b2 [p3, vL A5 (b1) c6] 69, .row byteRep A5 c6 5 b1 true] ++ []) _ := hM
 obtain ⟨y9, hz10, h⟩ := bind_some h
 refine pl_l hf rfl rfl rfl (w_call hf Tryz.call66 rfl (r_strings_Builder_copyCheck ⟨_, Sh C _ _, ownB _, hM.sh_lt, sub_dis, C.G, hM.g_lt, hM.g_own, hM.tabs⟩ b1 _ _ hp4 _ _ hM.sub sub_dis _ hz10) ?_)
 rintro _ w15 ⟨p11, A13, c14, rfl, hM2, hv12⟩
 obtain ⟨hM, hup17⟩ := hM.backG hM2
 dsimp only [List.cons_append, List.nil_append] at hM hup17
 clear hM2
 refine ⟨_, rfl, fun a hf => ?_⟩
 refine pl_nil ?_
 refine then_n ?_
 refine wp_seq ?_
 refine region_pl ?_
 iterate 2 refine q_ hf rfl rfl rfl (e_move hf rfl) fun a hf => ?_
 refine q_ hf rfl rfl rfl (e_nil hf rfl) fun a hf => ?_
 refine q_ hf rfl rfl rfl (e_field hf rfl Tryz.underlying69 rfl Tryz.sizeOf22 (o' := 1) rfl) fun a hf => ?_
 refine q_ hf rfl rfl rfl (e_load1 hf rfl Tryz.isAgg22 (hM.boxCell (k := 0) rfl rfl)) fun a hf => ?_
 refine q_ hf rfl rfl rfl (e_move hf rfl) fun a hf => ?_
 obtain ⟨xs18, hz19, h⟩ := bind_some h
 refine pl_l hf rfl rfl rfl (w_appendS hf hM Tryz.underlying22 Tryz.underlying9 (by kernel_rfl) rfl rfl (k := 1) rfl hz19 fun A20 c21 w22 hM a hf => ?_)
 dsimp only [List.set] at hM
 refine q_ hf rfl rfl rfl (e_nil hf rfl) fun a hf => ?_
 refine q_ hf rfl rfl rfl (e_field hf rfl Tryz.underlying69 rfl Tryz.sizeOf22 (o' := 1) rfl) fun a hf => ?_
 refine pl_0 hf rfl rfl (w_store hf hM (us := [vL A20 (xs18) c21]) (cs' := [p11, vL A20 (xs18) c21]) rfl rfl (k := 0) rfl rfl Tryz.sizeOf22 rfl rfl rfl fun w23 hM => ?_)
 dsimp only [List.set] at hM
 refine pl_nil ?_
 refine then_n ?_
 refine wp_seq ?_
 refine region_pl ?_
 refine q_ hf rfl rfl rfl (e_move hf rfl) fun a hf => ?_
 refine q_ hf rfl rfl rfl (e_lenS hf (x := s7) rfl Tryz.underlying9) fun a hf => ?_
 iterate 2 refine q_ hf rfl rfl rfl (e_assign hf rfl) fun a hf => ?_
 refine pl_nil ?_
 refine then_n ?_
 refine wp_ret ?_
 obtain rfl := some_inj h
 exact leave2 hf rfl rfl rfl ⟨p11, A20, c21, rfl, hM.fin, hv12, (R64_len hp8)⟩

set_option maxRecDepth 100000 in
set_option maxHeartbeats 4000000 in
theorem r_strings_Builder_String (C : Cx) (b1 : Str) (b2 : Nat) (p3 : Value) (hp4 : AddrOk b2 p3) (A5 : Option Addr) (c6 : Nat) (hO : Mem C C.w0 [.box b2 [p3, vL A5 (b1) c6] 69, .row byteRep A5 c6 5 b1 true] []) (hd : ∀ b, C.S0 b → ¬ ownB [.box b2 [p3, vL A5 (b1) c6] 69, .row byteRep A5 c6 5 b1 true] b) (r : Str) (h : m_strings_Builder_String b1 = some r) :
    Calls Tryz.prog 38 #[vP b2 (0)] C.w0 fun e w => e = .returned (vS (r)) ∧ Mem C w [] [] ∧ r.length ≤ maxLen := by
 have hM := hO
 refine enter Tryz.func38 rfl Tryz.ntmps38 rfl fun a hf => ?_
 unfold m_strings_Builder_String at h
 refine wp_seq ?_
 refine region_pl ?_
 refine q_ hf rfl rfl rfl (e_assign hf rfl) fun a hf => ?_
 refine pl_nil ?_
 refine then_n ?_
 refine wp_seq ?_
 obtain ⟨w7, hw⟩ : ∃ x, x = C.w0.drew := ⟨_, rfl⟩
 refine region_pi (.q 0 (.q 1 (.q 2 (.q 3 (.q 5 (.q 6 (.q 7 (.q 8 (.q 9 (.l 4 (.l 10 (.q 11 (.nil))))))))))))) (Ext w7) rfl (by kernel_rfl) ?_
 have hM := hM.drew
 rw [← hw] at hM ⊢
 clear hw
 refine pi_q hf rfl rfl rfl rfl (Ext.refl _) (e_move hf rfl) fun a hf => ?_
 refine pi_q hf rfl rfl rfl rfl (Ext.refl _) (e_nil hf rfl) fun a hf => ?_
 refine pi_q hf rfl rfl rfl rfl (Ext.refl _) (e_field hf rfl Tryz.underlying69 rfl Tryz.sizeOf22 (o' := 1) rfl) fun a hf => ?_
 refine pi_q hf rfl rfl rfl rfl (Ext.refl _) (e_load1 hf rfl Tryz.isAgg22 (hM.boxCell (k := 0) rfl rfl)) fun a hf => ?_
 refine pi_q hf rfl rfl rfl rfl (Ext.refl _) (e_move hf rfl) fun a hf => ?_
 refine pi_q hf rfl rfl rfl rfl (Ext.refl _) (e_nil hf rfl) fun a hf => ?_
 refine pi_q hf rfl rfl rfl rfl (Ext.refl _) (e_field hf rfl Tryz.underlying69 rfl Tryz.sizeOf22 (o' := 1) rfl) fun a hf => ?_
 refine pi_q hf rfl rfl rfl rfl (Ext.refl _) (e_load1 hf rfl Tryz.isAgg22 (hM.boxCell (k := 0) rfl rfl)) fun a hf => ?_
 have hl8 := row_len (hM.ownAt (k := 1) rfl)
 refine pi_q hf rfl rfl rfl rfl (Ext.refl _) (e_lenL hf (x := b1) rfl Tryz.underlying22) fun a hf => ?_
 refine pi_one ?_
 refine pi_l hf rfl rfl rfl rfl (w_sliceData hf hM (k := 1) rfl rfl Tryz.underlying118 fun q9 w10 hx11 hM hq12 => ⟨Ext w10, fun _ h => Ext.trans hx11 h, Ext.refl _, fun a hf => ?_⟩)
 refine pi_one ?_
 have hl14 := row_len (hM.ownAt (k := 1) rfl)
 refine pi_z hf rfl rfl rfl rfl (by kernel_rfl) (w_unsafeString hf hM (k := 1) rfl hq12 rfl rfl Tryz.underlying118 (by kernel_rfl) fun w13 hM a hf => ?_)
 dsimp only [List.eraseIdx] at hM
 refine pi_q hf rfl rfl rfl rfl (Ext.refl _) (e_assign hf rfl) fun a hf => ?_
 refine pi_nil ?_
 refine then_n ?_
 refine wp_ret ?_
 obtain rfl := some_inj h
 have hM := hM.outs (own' := []) 0 rfl
 exact leave1 hf rfl rfl ⟨rfl, hM.fin, hl14⟩

set_option maxRecDepth 100000 in
set_option maxHeartbeats 4000000 in
theorem r_impl_keyOf (C : Cx) (n1 : Node) (hp2 : n1.Letters.length ≤ maxLen) (A3 : Option Addr) (c4 : Nat) (hp5 : (sliceRep intRep).R C.w0 C.S0 n1.Next [vL A3 n1.Next c4]) (r : Str) (h : m_impl_keyOf n1 = some r) :
    Calls Tryz.prog 43 #[.agg #[.bool (n1.Final), vS (n1.Letters), vL A3 (n1.Next) c4]] C.w0 fun e w => e = .returned (vS (r)) ∧ Mem C w [] [] ∧ r.length ≤ maxLen := by
 have hM := Mem.begin C [.dat (sliceRep intRep) n1.Next [vL A3 n1.Next c4]] ⟨hp5, trivial⟩
 refine enter Tryz.func43 rfl Tryz.ntmps43 rfl fun a hf => ?_
 unfold m_impl_keyOf at h
 refine wp_seq ?_
 refine region_pl ?_
 refine pl_l hf rfl rfl rfl (w_box hf hM (cs := [.bool (n1.Final), vS (n1.Letters), vL A3 (n1.Next) c4]) rfl rfl fun b6 w7 hx8 hM a hf => ?_)
 refine q_ hf rfl rfl rfl (e_assign hf rfl) fun a hf => ?_
 refine pl_nil ?_
 refine then_n ?_
 refine wp_seq ?_
 refine region_pl ?_
 refine pl_l hf rfl rfl rfl (w_alloc hM (cs := [.pointer none, vL none (([] : Str)) 0]) Tryz.zeroValue69 rfl fun b10 w11 hx12 hM a hf => ?_)
 have hM := hM.nilRow byteRep 5
 refine pl_nil ?_
 refine then_n ?_
 obtain ⟨x19, h20, h⟩ := bind_some h
 refine seq_join (fun a w => ∃ (xs16 : Str) (p14 : Value) (A17 : Option Addr) (c18 : Nat), xs16 = x19 ∧ Has 30 a [(1, vP b6 (0)), (3, vP b10 (0))] ∧ Mem C w [.row byteRep A17 c18 5 xs16 true, .box b10 [p14, vL A17 (xs16) c18] 69, .box b6 [.bool (n1.Final), vS (n1.Letters), vL A3 (n1.Next) c4] 47] [.dat (sliceRep intRep) n1.Next [vL A3 n1.Next c4]] ∧ AddrOk b10 p14) ?_ ?_
 ·refine wp_seq ?_
  refine region_pl ?_
  refine q_ hf rfl rfl rfl (e_field hf rfl Tryz.underlying47 rfl Tryz.sizeOf4 (o' := 0) rfl) fun a hf => ?_
  refine q_ hf rfl rfl rfl (e_load1 hf rfl Tryz.isAgg4 (hM.boxCell (k := 2) rfl rfl)) fun a hf => ?_
  refine pl_nil ?_
  refine then_n ?_
  rcases cond_some h20 with ⟨hc21, h20⟩ | ⟨hc21, h20⟩
  ·refine cond_t hf rfl hc21 ?_
   refine region_pl ?_
   have hM := hM.front (k := 0) rfl
   dsimp only [List.eraseIdx] at hM
   have hM := hM.front (k := 1) rfl
   dsimp only [List.eraseIdx] at hM
   have hM : Mem C _ ([.box b10 [.pointer none, vL none (([] : Str)) 0] 69, .row byteRep none 0 5 ([] : Str) true] ++ [.box b6 [.bool (n1.Final), vS (n1.Letters), vL A3 (n1.Next) c4] 47]) _ := hM
   obtain ⟨y22, hz23, h20⟩ := bind_some h20
   refine pl_l hf rfl rfl rfl (w_call hf Tryz.call35 rfl (r_strings_Builder_WriteByte ⟨_, Sh C _ _, ownB _, hM.sh_lt, sub_dis, C.G, hM.g_lt, hM.g_own, hM.tabs⟩ ([] : Str) _ _ (AddrOk.nil _) _ _ 43 hM.sub sub_dis _ hz23) ?_)
   rintro _ w28 ⟨p24, A26, c27, rfl, hM2, hv25⟩
   obtain ⟨hM, hup30⟩ := hM.backG hM2
   dsimp only [List.cons_append, List.nil_append] at hM hup30
   clear hM2
   refine ⟨_, rfl, fun a hf => ?_⟩
   refine pl_nil ?_
   obtain rfl := some_inj h20
   refine then_n ?_
   have hM := hM.front (k := 2) rfl
   dsimp only [List.eraseIdx] at hM
   have hM := hM.front (k := 1) rfl
   dsimp only [List.eraseIdx] at hM
   have hM := hM.front (k := 2) rfl
   dsimp only [List.eraseIdx] at hM
   exact ⟨y22.2, p24, A26, c27, rfl, hf.keep ⟨rfl, rfl, trivial⟩, hM.pick [0] rfl, hv25⟩
  refine cond_f hf rfl hc21 ?_
  refine wp_skip ?_
  obtain rfl := some_inj h20
  refine then_n ?_
  exact ⟨([] : Str), (.pointer none), none, 0, rfl, hf.keep ⟨rfl, rfl, trivial⟩, hM.pick [0] rfl, (AddrOk.nil _)⟩
 rintro a w33 ⟨xs16, p14, A17, c18, rfl, hf, hM, hv15⟩
 try dsimp only at h
 obtain ⟨x39, h40, h⟩ := bind_some h
 refine seq_join (fun a w => ∃ (xs36 : Str) (p34 : Value) (A37 : Option Addr) (c38 : Nat), xs36 = x39 ∧ Has 30 a [(3, vP b10 (0))] ∧ Mem C w [.row byteRep A37 c38 5 xs36 true, .box b10 [p34, vL A37 (xs36) c38] 69, .box b6 [.bool (n1.Final), vS (n1.Letters), vL A3 (n1.Next) c4] 47] [.dat (sliceRep intRep) n1.Next [vL A3 n1.Next c4]] ∧ AddrOk b10 p34) ?_ ?_
 ·refine wp_seq ?_
  refine region_pl ?_
  refine q_ hf rfl rfl rfl (e_field hf rfl Tryz.underlying47 rfl Tryz.sizeOf45 (o' := 2) rfl) fun a hf => ?_
  refine q_ hf rfl rfl rfl (e_load1 hf rfl Tryz.isAgg45 (hM.boxCell (k := 2) rfl rfl)) fun a hf => ?_
  have hl41 := slice_len (hM.dat (k := 0) rfl)
  refine q_ hf rfl rfl rfl (e_lenL hf (x := n1.Next) rfl Tryz.underlying45) fun a hf => ?_
  refine q_ hf rfl rfl rfl (e_move hf rfl) fun a hf => ?_
  refine pl_nil ?_
  refine then_n ?_
  refine wp_block ?_
  obtain ⟨x55, h56, h40⟩ := bind_some h40
  refine wp_loopM h56 (fun s a w => ∃ (xs44 : Str) (n47 : Int) (p42 : Value) (A45 : Option Addr) (c46 : Nat), (xs44, n47) = s ∧ Has 30 a [(1, vP b6 (0)), (3, vP b10 (0)), (10, vL A3 (n1.Next) c4), (11, vI ((n1.Next.length : Int))), (12, vI (n47))] ∧ Mem C w [.row byteRep A45 c46 5 xs44 true, .box b10 [p42, vL A45 (xs44) c46] 69, .box b6 [.bool (n1.Final), vS (n1.Letters), vL A3 (n1.Next) c4] 47] [.dat (sliceRep intRep) n1.Next [vL A3 n1.Next c4]] ∧ AddrOk b10 p42 ∧ R64 n47) ?_ ?_
  ·exact ⟨xs16, 0, p14, A17, c18, rfl, hf.keep ⟨rfl, rfl, rfl, rfl, rfl, trivial⟩, hM.pick [0] rfl, hv15, (R64_lit rfl)⟩
  rintro s o57 a w49 ⟨xs44, n47, p42, A45, c46, rfl, hf, hM, hv43, hv48⟩ h58 hd59
  replace h58 : m_impl_keyOf_l1 n1 xs44 n47 = some o57 := h58
  unfold m_impl_keyOf_l1 at h58
  refine wp_seq ?_
  refine region_pl ?_
  refine q_ hf rfl rfl rfl (e_lt hf (x := n47) (y := (n1.Next.length : Int)) rfl rfl) fun a hf => ?_
  refine pl_nil ?_
  refine then_n ?_
  refine wp_seq ?_
  rcases cond_some h58 with ⟨hc60, h58⟩ | ⟨hc60, h58⟩
  ·refine cond_t hf rfl hc60 ?_
   refine wp_skip ?_
   refine then_n ?_
   refine wp_seq ?_
   refine wp_block ?_
   refine wp_seq ?_
   refine region_pl ?_
   refine q_ hf rfl rfl rfl (e_move hf rfl) fun a hf => ?_
   obtain ⟨e61, hz62, h58⟩ := bind_some h58
   obtain ⟨b66, o67, _, hA68, h63, h64, hr65, hM⟩ := hM.elem (hM.dat (k := 0) rfl) (n := 1) rfl hz62
   obtain ⟨rfl, hv69⟩ := hr65
   refine q_ hf rfl rfl rfl (e_indexAddr (A := A3) (b := b66) (o := o67) (xs := n1.Next) (i := n47) hf hA68 rfl rfl Tryz.underlying45 Tryz.sizeOf2 h63 h64) fun a hf => ?_
   refine q_ hf rfl rfl rfl (e_load1 hf rfl Tryz.isAgg2 (hM.litCell (k := 0) (j := 0) rfl rfl rfl)) fun a hf => ?_
   iterate 2 refine q_ hf rfl rfl rfl (e_assign hf rfl) fun a hf => ?_
   refine pl_nil ?_
   refine then_n ?_
   obtain ⟨w70, hw⟩ : ∃ x, x = w49.drew := ⟨_, rfl⟩
   refine region_pi (.q 0 (.q 1 (.q 2 (.q 3 (.q 4 (.q 5 (.q 6 (.l 7 (.q 8 (.q 9 (.l 10 (.nil)))))))))))) (Ext w70) rfl (by kernel_rfl) ?_
   have hM := hM.drew
   rw [← hw] at hM ⊢
   clear hw
   refine pi_q hf rfl rfl rfl rfl (Ext.refl _) (e_field hf rfl Tryz.underlying47 rfl Tryz.sizeOf9 (o' := 1) rfl) fun a hf => ?_
   refine pi_q hf rfl rfl rfl rfl (Ext.refl _) (e_load1 hf rfl Tryz.isAgg9 (hM.boxCell (k := 2) rfl rfl)) fun a hf => ?_
   iterate 2 refine pi_q hf rfl rfl rfl rfl (Ext.refl _) (e_move hf rfl) fun a hf => ?_
   obtain ⟨z71, hz72, h58⟩ := bind_some h58
   refine pi_q hf rfl rfl rfl rfl (Ext.refl _) (e_add hf rfl rfl hz72) fun a hf => ?_
   obtain ⟨s73, hz74, h58⟩ := bind_some h58
   refine pi_q hf rfl rfl rfl rfl (Ext.refl _) (e_subS hf (x := n1.Letters) rfl rfl rfl Tryz.underlying9 hz74) fun a hf => ?_
   refine pi_q hf rfl rfl rfl rfl (Ext.refl _) (e_move hf rfl) fun a hf => ?_
   refine pi_one ?_
   obtain ⟨y75, hz76, h58⟩ := bind_some h58
   refine pi_l hf rfl rfl rfl rfl (w_call hf Tryz.call37 rfl (r_impl_Decimal ⟨_, Sh C _ _, none_, hM.sh_lt, none_not, C.G, hM.g_lt, g_none, hM.tabs⟩ e61 hv69 _ hz76) ?_)
   rintro _ w78 ⟨rfl, hM2, hv77⟩
   obtain ⟨hM, hx79, hup80⟩ := hM.back hM2
   dsimp only [List.cons_append, List.nil_append] at hM hup80
   clear hM2
   refine ⟨_, rfl, Ext w78, fun _ h => Ext.trans hx79 h, Ext.refl _, fun a hf => ?_⟩
   obtain ⟨s81, hz82, h58⟩ := bind_some h58
   refine pi_q hf rfl rfl rfl rfl (Ext.refl _) (e_cat hf (x := s73) (y := y75) rfl rfl hz82) fun a hf => ?_
   obtain ⟨s83, hz84, h58⟩ := bind_some h58
   refine pi_q hf rfl rfl rfl rfl (Ext.refl _) (e_cat hf (x := s81) (y := ([32] : Str)) rfl rfl hz84) fun a hf => ?_
   refine pi_one ?_
   have hM := hM.front (k := 0) rfl
   dsimp only [List.eraseIdx] at hM
   have hM := hM.front (k := 1) rfl
   dsimp only [List.eraseIdx] at hM
   have hM : Mem C _ ([.box b10 [p42, vL A45 (xs44) c46] 69, .row byteRep A45 c46 5 xs44 true] ++ [.box b6 [.bool (n1.Final), vS (n1.Letters), vL A3 (n1.Next) c4] 47]) _ := hM
   obtain ⟨y85, hz86, h58⟩ := bind_some h58
   refine pi_z hf rfl rfl rfl rfl (by kernel_rfl) (w_call hf Tryz.call36 rfl (r_strings_Builder_WriteString ⟨_, Sh C _ _, ownB _, hM.sh_lt, sub_dis, C.G, hM.g_lt, hM.g_own, hM.tabs⟩ xs44 _ _ hv43 _ _ s83 (cat_len hz84) hM.sub sub_dis _ hz86) ?_)
   rintro _ w92 ⟨p87, A89, c90, rfl, hM2, hv88, hv91⟩
   obtain ⟨hM, hup94⟩ := hM.backG hM2
   dsimp only [List.cons_append, List.nil_append] at hM hup94
   clear hM2
   refine ⟨_, rfl, fun a hf => ?_⟩
   refine pi_nil ?_
   refine blk_n ?_
   refine then_n ?_
   refine region_pl ?_
   obtain ⟨z95, hz96, h58⟩ := bind_some h58
   refine q_ hf rfl rfl rfl (e_add hf rfl rfl hz96) fun a hf => ?_
   refine q_ hf rfl rfl rfl (e_move hf rfl) fun a hf => ?_
   refine pl_nil ?_
   obtain rfl := some_inj h58
   refine then_n ⟨_, rfl, ?_⟩
   have hM := hM.front (k := 2) rfl
   dsimp only [List.eraseIdx] at hM
   have hM := hM.front (k := 1) rfl
   dsimp only [List.eraseIdx] at hM
   have hM := hM.front (k := 2) rfl
   dsimp only [List.eraseIdx] at hM
   exact ⟨y85.2.2, z95, p87, A89, c90, rfl, hf.keep ⟨rfl, rfl, rfl, rfl, rfl, trivial⟩, hM.pick [1] rfl, hv88, (chk_R hz96)⟩
  refine cond_f hf rfl hc60 ?_
  refine wp_exit ?_
  refine then_x ?_
  obtain rfl := some_inj h58
  obtain rfl := hd59 _ rfl
  try dsimp only at h40
  refine then_x ?_
  refine exit_hit ?_
  obtain rfl := some_inj h40
  refine then_n ?_
  exact ⟨xs44, p42, A45, c46, rfl, hf.keep ⟨rfl, trivial⟩, hM.pick [0] rfl, hv43⟩
 rintro a w102 ⟨xs36, p34, A37, c38, rfl, hf, hM, hv35⟩
 try dsimp only at h
 refine wp_seq ?_
 refine region_pl ?_
 have hM := hM.front (k := 0) rfl
 dsimp only [List.eraseIdx] at hM
 have hM := hM.front (k := 1) rfl
 dsimp only [List.eraseIdx] at hM
 have hM : Mem C _ ([.box b10 [p34, vL A37 (xs36) c38] 69, .row byteRep A37 c38 5 xs36 true] ++ [.box b6 [.bool (n1.Final), vS (n1.Letters), vL A3 (n1.Next) c4] 47]) _ := hM
 obtain ⟨y103, hz104, h⟩ := bind_some h
 refine pl_l hf rfl rfl rfl (w_call hf Tryz.call38 rfl (r_strings_Builder_String ⟨_, Sh C _ _, ownB _, hM.sh_lt, sub_dis, C.G, hM.g_lt, hM.g_own, hM.tabs⟩ xs36 _ _ hv35 _ _ hM.sub sub_dis _ hz104) ?_)
 rintro _ w106 ⟨rfl, hM2, hv105⟩
 obtain ⟨hM, hup108⟩ := hM.backG hM2
 dsimp only [List.cons_append, List.nil_append] at hM hup108
 clear hM2
 refine ⟨_, rfl, fun a hf => ?_⟩
 refine q_ hf rfl rfl rfl (e_assign hf rfl) fun a hf => ?_
 refine pl_nil ?_
 refine then_n ?_
 refine wp_ret ?_
 obtain rfl := some_inj h
 have hM := hM.outs (own' := []) 0 rfl
 exact leave1 hf rfl rfl ⟨rfl, hM.fin, hv105⟩

set_option maxRecDepth 100000 in
set_option maxHeartbeats 4000000 in
theorem r_impl_maker_node (C : Cx) (m1 : maker) (b2 : Nat) (A3 : Option Addr) (c4 : Nat) (b5 : Nat) (hp6 : MapR m1.register) (n7 : Node) (hp8 : n7.Letters.length ≤ maxLen) (A9 : Option Addr) (c10 : Nat) (hp11 : (sliceRep intRep).R C.w0 C.S0 n7.Next [vL A9 n7.Next c10]) (hO : Mem C C.w0 [.box b2 [vL A3 (m1.nodes) c4, vM b5] 109, .row NodeRep A3 c4 47 m1.nodes true, .obj b5 (mapO fS fI m1.register)] []) (hd : ∀ b, C.S0 b → ¬ ownB [.box b2 [vL A3 (m1.nodes) c4, vM b5] 109, .row NodeRep A3 c4 47 m1.nodes true, .obj b5 (mapO fS fI m1.register)] b) (r : (Int × maker)) (h : m_impl_maker_node m1 n7 = some r) :
    Calls Tryz.prog 90 #[vP b2 (0), .agg #[.bool (n7.Final), vS (n7.Letters), vL A9 (n7.Next) c10]] C.w0 fun e w => ∃ (A_1 : Option Addr), ∃ (c_1 : Nat), ∃ (b_1 : Nat), e = .returned (vI (r.1)) ∧ Mem C w [.box b2 [vL A_1 (r.2.nodes) c_1, vM b_1] 109, .row NodeRep A_1 c_1 47 r.2.nodes true, .obj b_1 (mapO fS fI r.2.register)] [] ∧ MapR r.2.register ∧ R64 r.1 := by
 have hM := hO
 have hM := hM.addIn hd (y := .dat (sliceRep intRep) n7.Next [vL A9 n7.Next c10]) hp11
 refine enter Tryz.func90 rfl Tryz.ntmps90 rfl fun a hf => ?_
 unfold m_impl_maker_node at h
 refine wp_seq ?_
 refine region_pl ?_
 refine pl_l hf rfl rfl rfl (w_box hf hM (cs := [.bool (n7.Final), vS (n7.Letters), vL A9 (n7.Next) c10]) rfl rfl fun b12 w13 hx14 hM a hf => ?_)
 refine q_ hf rfl rfl rfl (e_assign hf rfl) fun a hf => ?_
 refine pl_nil ?_
 refine then_n ?_
 refine wp_seq ?_
 refine region_pl ?_
 refine q_ hf rfl rfl rfl (e_loadA hf (us := [.bool (n7.Final), vS (n7.Letters), vL A9 (n7.Next) c10]) rfl ⟨Tryz.isAgg47, Tryz.sizeOf47⟩ rfl (hM.boxSub (k := 0) (us := [.bool (n7.Final), vS (n7.Letters), vL A9 (n7.Next) c10]) (o := 0) rfl rfl)) fun a hf => ?_
 obtain ⟨y16, hz17, h⟩ := bind_some h
 refine pl_l hf rfl rfl rfl (w_call hf Tryz.call43 rfl (r_impl_keyOf ⟨_, Sh C _ _, none_, hM.sh_lt, none_not, C.G, hM.g_lt, g_none, hM.tabs⟩ n7 hp8 _ _ (hM.dat (k := 0) rfl) _ hz17) ?_)
 rintro _ w19 ⟨rfl, hM2, hv18⟩
 obtain ⟨hM, hx20, hup21⟩ := hM.back hM2
 dsimp only [List.cons_append, List.nil_append] at hM hup21
 clear hM2
 refine ⟨_, rfl, fun a hf => ?_⟩
 refine q_ hf rfl rfl rfl (e_assign hf rfl) fun a hf => ?_
 refine pl_nil ?_
 refine then_n ?_
 refine wp_seq ?_
 refine region_pl ?_
 refine q_ hf rfl rfl rfl (e_move hf rfl) fun a hf => ?_
 refine q_ hf rfl rfl rfl (e_nil hf rfl) fun a hf => ?_
 refine q_ hf rfl rfl rfl (e_field hf rfl Tryz.underlying109 rfl Tryz.sizeOf107 (o' := 1) rfl) fun a hf => ?_
 refine q_ hf rfl rfl rfl (e_load1 hf rfl Tryz.isAgg107 (hM.boxCell (k := 1) rfl rfl)) fun a hf => ?_
 refine q_ hf rfl rfl rfl (e_move hf rfl) fun a hf => ?_
 refine q_ hf rfl rfl rfl (e_lookupOk (fk := fS) (fv := fI) hf (keyS Tryz.underlying9) Tryz.underlying107 (k := y16) (z := 0) rfl rfl Tryz.zeroValue2 (hM.ownAt (k := 3) rfl)) fun a hf => ?_
 refine q_ hf rfl rfl rfl (e_move hf rfl) fun a hf => ?_
 iterate 2 refine q_ hf rfl rfl rfl (e_extract hf rfl rfl) fun a hf => ?_
 iterate 2 refine q_ hf rfl rfl rfl (e_assign hf rfl) fun a hf => ?_
 refine pl_nil ?_
 refine then_n ?_
 obtain ⟨x30, h31, h⟩ := bind_some h
 refine seq_join (fun a w => ∃ (mp22 : (List (Str × Int))) (xs25 : (List Node)) (n28 : Int) (b23 : Nat) (A26 : Option Addr) (c27 : Nat), (mp22, xs25, n28) = x30 ∧ Has 43 a [(6, vI (n28))] ∧ Mem C w [.box b12 [.bool (n7.Final), vS (n7.Letters), vL A9 (n7.Next) c10] 47, .box b2 [vL A26 (xs25) c27, vM b23] 109, .row NodeRep A26 c27 47 xs25 true, .obj b23 (mapO fS fI mp22)] [.dat (sliceRep intRep) n7.Next [vL A9 n7.Next c10]] ∧ MapR mp22 ∧ R64 n28) ?_ ?_
 ·refine wp_seq ?_
  refine region_pl ?_
  refine q_ hf rfl rfl rfl (e_move hf rfl) fun a hf => ?_
  refine q_ hf rfl rfl rfl (e_not hf rfl) fun a hf => ?_
  refine pl_nil ?_
  refine then_n ?_
  rcases cond_some h31 with ⟨hc32, h31⟩ | ⟨hc32, h31⟩
  ·refine cond_t hf rfl hc32 ?_
   refine wp_seq ?_
   refine region_pl ?_
   refine q_ hf rfl rfl rfl (e_move hf rfl) fun a hf => ?_
   refine q_ hf rfl rfl rfl (e_nil hf rfl) fun a hf => ?_
   refine q_ hf rfl rfl rfl (e_field hf rfl Tryz.underlying109 rfl Tryz.sizeOf29 (o' := 0) rfl) fun a hf => ?_
   refine q_ hf rfl rfl rfl (e_load1 hf rfl Tryz.isAgg29 (hM.boxCell (k := 1) rfl rfl)) fun a hf => ?_
   have hl33 := row_len (hM.ownAt (k := 2) rfl)
   refine q_ hf rfl rfl rfl (e_lenL hf (x := m1.nodes) rfl Tryz.underlying29) fun a hf => ?_
   refine q_ hf rfl rfl rfl (e_assign hf rfl) fun a hf => ?_
   refine pl_nil ?_
   refine then_n ?_
   refine wp_seq ?_
   obtain ⟨w34, hw⟩ : ∃ x, x = w19.drew := ⟨_, rfl⟩
   refine region_pi (.q 0 (.q 1 (.q 2 (.q 3 (.q 4 (.q 5 (.l 6 (.l 7 (.q 8 (.q 9 (.l 10 (.nil)))))))))))) (ExtM [A3.map (·.block)] w34) rfl (by kernel_rfl) ?_
   have hM := hM.drew
   rw [← hw] at hM ⊢
   clear hw
   iterate 2 refine pi_q hf rfl rfl rfl rfl (ExtM.refl _ _) (e_move hf rfl) fun a hf => ?_
   refine pi_q hf rfl rfl rfl rfl (ExtM.refl _ _) (e_nil hf rfl) fun a hf => ?_
   refine pi_q hf rfl rfl rfl rfl (ExtM.refl _ _) (e_field hf rfl Tryz.underlying109 rfl Tryz.sizeOf29 (o' := 0) rfl) fun a hf => ?_
   refine pi_q hf rfl rfl rfl rfl (ExtM.refl _ _) (e_load1M hf rfl Tryz.isAgg29 (hM.boxCell (k := 1) rfl rfl) (hM.apart (js := [2]) rfl (k := 1) rfl rfl rfl)) fun a hf => ?_
   refine pi_q hf rfl rfl rfl rfl (ExtM.refl _ _) (e_loadAM hf (us := [.bool (n7.Final), vS (n7.Letters), vL A9 (n7.Next) c10]) rfl ⟨Tryz.isAgg47, Tryz.sizeOf47⟩ rfl (hM.boxSub (k := 0) (us := [.bool (n7.Final), vS (n7.Letters), vL A9 (n7.Next) c10]) (o := 0) rfl rfl) (hM.apart (js := [2]) rfl (k := 0) rfl rfl rfl)) fun a hf => ?_
   refine pi_one ?_
   refine pi_l hf rfl rfl rfl rfl (w_slice hf hM (K := NodeRep) (xs := ([n7] : (List Node))) (os := [.tmp 31]) Tryz.underlying29 ei_47 rfl rfl rfl rfl rfl ⟨⟨[.bool (n7.Final), vS (n7.Letters), vL A9 (n7.Next) c10], rfl, (NodeRep_mk (x := n7) hp8 (hM.dat (k := 0) rfl))⟩, trivial⟩ rfl fun b35 w36 hx37 hM => ⟨ExtM [A3.map (·.block)] w36, fun _ h => ExtM.trans hx37 h, ExtM.refl _ _, fun a hf => ?_⟩)
   refine pi_one ?_
   obtain ⟨xs38, hz39, h31⟩ := bind_some h31
   refine pi_l hf rfl rfl rfl rfl (w_appendX hf hM Tryz.underlying29 ei_47 rfl rfl rfl (k := 3) rfl (hM.srcRow (k := 0) rfl) hz39 fun A40 c41 w42 hsz44 hold43 hM => ⟨Ext w42, fun _ h => ExtM.last (ExtM.ofRow (List.mem_of_getElem? (i := 0) rfl) hold43) hsz44 h, Ext.refl _, fun a hf => ?_⟩)
   dsimp only [List.set] at hM
   refine pi_q hf rfl rfl rfl rfl (Ext.refl _) (e_nil hf rfl) fun a hf => ?_
   refine pi_q hf rfl rfl rfl rfl (Ext.refl _) (e_field hf rfl Tryz.underlying109 rfl Tryz.sizeOf29 (o' := 0) rfl) fun a hf => ?_
   refine pi_one ?_
   refine pi_z0 hf rfl rfl rfl (by kernel_rfl) (w_store hf hM (us := [vL A40 (xs38) c41]) (cs' := [vL A40 (xs38) c41, vM b5]) rfl rfl (k := 2) rfl rfl Tryz.sizeOf29 rfl rfl rfl fun w45 hM => ?_)
   dsimp only [List.set] at hM
   refine pi_nil ?_
   refine then_n ?_
   refine region_pl ?_
   refine q_ hf rfl rfl rfl (e_move hf rfl) fun a hf => ?_
   refine q_ hf rfl rfl rfl (e_nil hf rfl) fun a hf => ?_
   refine q_ hf rfl rfl rfl (e_field hf rfl Tryz.underlying109 rfl Tryz.sizeOf107 (o' := 1) rfl) fun a hf => ?_
   refine q_ hf rfl rfl rfl (e_load1 hf rfl Tryz.isAgg107 (hM.boxCell (k := 2) rfl rfl)) fun a hf => ?_
   iterate 2 refine q_ hf rfl rfl rfl (e_move hf rfl) fun a hf => ?_
   refine pl_0 hf rfl rfl (w_mapUpdate (fk := fS) (fv := fI) hf hM (keyS Tryz.underlying9) Tryz.underlying107 (k := y16) (v := (m1.nodes.length : Int)) rfl rfl rfl (n := 4) rfl fun w48 hM => ?_)
   dsimp only [List.set] at hM
   refine pl_nil ?_
   obtain rfl := some_inj h31
   refine then_n ?_
   exact ⟨(putM m1.register y16 (m1.nodes.length : Int)), xs38, (m1.nodes.length : Int), b5, A40, c41, rfl, hf.keep ⟨rfl, trivial⟩, (hM.drop (.cons _ (.cons_cons _ (.cons_cons _ (.cons_cons _ (.cons_cons _ .slnil)))))).pick [0] rfl, (hp6.put (R64_len hl33)), (R64_len hl33)⟩
  refine cond_f hf rfl hc32 ?_
  refine wp_skip ?_
  obtain rfl := some_inj h31
  refine then_n ?_
  exact ⟨m1.register, m1.nodes, ((getM m1.register y16).getD 0), b5, A3, c4, rfl, hf.keep ⟨rfl, trivial⟩, hM.pick [0] rfl, hp6, (hp6.get _)⟩
 rintro a w51 ⟨mp22, xs25, n28, b23, A26, c27, rfl, hf, hM, hv24, hv29⟩
 try dsimp only at h
 refine wp_seq ?_
 refine region_pl ?_
 refine q_ hf rfl rfl rfl (e_move hf rfl) fun a hf => ?_
 refine q_ hf rfl rfl rfl (e_assign hf rfl) fun a hf => ?_
 refine pl_nil ?_
 refine then_n ?_
 refine wp_ret ?_
 obtain rfl := some_inj h
 have hM := hM.front (k := 3) rfl
 dsimp only [List.eraseIdx] at hM
 have hM := hM.front (k := 3) rfl
 dsimp only [List.eraseIdx] at hM
 have hM := hM.front (k := 3) rfl
 dsimp only [List.eraseIdx] at hM
 have hM := hM.outs (own' := [.box b2 [vL A26 (xs25) c27, vM b23] 109, .row NodeRep A26 c27 47 xs25 true, .obj b23 (mapO fS fI mp22)]) 3 rfl
 exact leave1 hf rfl rfl ⟨A26, c27, b23, rfl, hM.fin, hv24, hv29⟩

def Ct_impl_maker_build (rc : maker → (List Str) → Int → Option (Int × maker)) : Prop := ∀ (C : Cx) (m1 : maker) (b2 : Nat) (A3 : Option Addr) (c4 : Nat) (b5 : Nat) (hp6 : MapR m1.register) (list7 : (List Str)) (A8 : Option Addr) (c9 : Nat) (hp10 : (sliceRep strRep).R C.w0 C.S0 list7 [vL A8 list7 c9]) (depth11 : Int) (hp12 : R64 depth11) (hO : Mem C C.w0 [.box b2 [vL A3 (m1.nodes) c4, vM b5] 109, .row NodeRep A3 c4 47 m1.nodes true, .obj b5 (mapO fS fI m1.register)] []) (hd : ∀ b, C.S0 b → ¬ ownB [.box b2 [vL A3 (m1.nodes) c4, vM b5] 109, .row NodeRep A3 c4 47 m1.nodes true, .obj b5 (mapO fS fI m1.register)] b) (r : (Int × maker)) (h : rc m1 list7 depth11 = some r),
    Calls Tryz.prog 60 #[vP b2 (0), vL A8 (list7) c9, vI (depth11)] C.w0 fun e w => ∃ (A_1 : Option Addr), ∃ (c_1 : Nat), ∃ (b_1 : Nat), e = .returned (vI (r.1)) ∧ Mem C w [.box b2 [vL A_1 (r.2.nodes) c_1, vM b_1] 109, .row NodeRep A_1 c_1 47 r.2.nodes true, .obj b_1 (mapO fS fI r.2.register)] [] ∧ MapR r.2.register ∧ R64 r.1

set_option maxRecDepth 100000 in
set_option maxHeartbeats 4000000 in
theorem r_impl_maker_build_b (rc : maker → (List Str) → Int → Option (Int × maker)) (ih : Ct_impl_maker_build rc) : Ct_impl_maker_build (m_impl_maker_build_b rc) := by
 intro C m1 b2 A3 c4 b5 hp6 list7 A8 c9 hp10 depth11 hp12 hO hd r h
 have hM := hO
 have hM := hM.addIn hd (y := .dat (sliceRep strRep) list7 [vL A8 list7 c9]) hp10
 refine enter Tryz.func60 rfl Tryz.ntmps60 rfl fun a hf => ?_
 unfold m_impl_maker_build_b at h
 refine wp_seq ?_
 refine region_pl ?_
 refine q_ hf rfl rfl rfl (e_assign hf rfl) fun a hf => ?_
 refine pl_nil ?_
 refine then_n ?_
 refine wp_seq ?_
 refine region_pl ?_
 refine q_ hf rfl rfl rfl (e_build hf Tryz.zeroValue47 Tryz.underlying47 (bp_47 _ Tryz.underlying47.symm) rfl (cs := #[.bool (false), vS (([] : Str)), vL none (([] : (List Int))) 0]) (by kernel_rfl)) fun a hf => ?_
 refine pl_l hf rfl rfl rfl (w_alloc hM (cs := [.bool (false), vS (([] : Str)), vL none (([] : (List Int))) 0]) Tryz.zeroValue47 rfl fun b13 w14 hx15 hM a hf => ?_)
 refine pl_0 hf rfl rfl (w_store hf hM (us := [.bool (false), vS (([] : Str)), vL none (([] : (List Int))) 0]) (cs' := [.bool (false), vS (([] : Str)), vL none (([] : (List Int))) 0]) rfl rfl (k := 0) rfl rfl Tryz.sizeOf47 rfl rfl rfl fun w17 hM => ?_)
 dsimp only [List.set] at hM
 refine pl_nil ?_
 refine then_n ?_
 obtain ⟨x25, h26, h⟩ := bind_some h
 refine seq_join (fun a w => ∃ (t20 : Bool) (l22 : (List Str)) (A23 : Option Addr) (c24 : Nat), (t20, l22) = x25 ∧ Has 74 a [(0, vP b2 (0)), (1, vL A23 (l22) c24), (2, vI (depth11)), (7, vP b13 (0))] ∧ Mem C w [.box b13 [.bool (t20), vS (([] : Str)), vL none (([] : (List Int))) 0] 47, .box b2 [vL A3 (m1.nodes) c4, vM b5] 109, .row NodeRep A3 c4 47 m1.nodes true, .obj b5 (mapO fS fI m1.register)] [.dat (sliceRep strRep) l22 [vL A23 l22 c24], .dat (sliceRep strRep) list7 [vL A8 list7 c9]]) ?_ ?_
 ·obtain ⟨x29, h30, h26⟩ := bind_some h26
  refine seq_join (fun a w => ∃ (t27 : Bool), t27 = x29 ∧ Has 74 a [(0, vP b2 (0)), (1, vL A8 (list7) c9), (2, vI (depth11)), (7, vP b13 (0)), (21, .bool (t27))] ∧ Mem C w [.box b13 [.bool (false), vS (([] : Str)), vL none (([] : (List Int))) 0] 47, .box b2 [vL A3 (m1.nodes) c4, vM b5] 109, .row NodeRep A3 c4 47 m1.nodes true, .obj b5 (mapO fS fI m1.register)] [.dat (sliceRep strRep) list7 [vL A8 list7 c9]]) ?_ ?_
  ·refine region_pl ?_
   refine q_ hf rfl rfl rfl (e_move hf rfl) fun a hf => ?_
   have hl31 := slice_len (hM.dat (k := 0) rfl)
   refine q_ hf rfl rfl rfl (e_lenL hf (x := list7) rfl Tryz.underlying24) fun a hf => ?_
   refine q_ hf rfl rfl rfl (e_gt hf (x := (list7.length : Int)) (y := 0) rfl rfl) fun a hf => ?_
   refine q_ hf rfl rfl rfl (e_move hf rfl) fun a hf => ?_
   rcases cond_some h30 with ⟨hc32, h30⟩ | ⟨hc32, h30⟩
   ·refine gq (wanted_t hf rfl rfl rfl rfl hc32) hf rfl rfl (e_move hf rfl) fun a hf => ?_
    obtain ⟨e33, hz34, h30⟩ := bind_some h30
    obtain ⟨b38, o39, _, hA40, h35, h36, hr37, hM⟩ := hM.elem (hM.dat (k := 0) rfl) (n := 1) rfl hz34
    obtain ⟨rfl, hv41⟩ := hr37
    refine gq (wanted_t hf rfl rfl rfl rfl hc32) hf rfl rfl (e_indexAddr (A := A8) (b := b38) (o := o39) (xs := list7) (i := 0) hf hA40 rfl rfl Tryz.underlying24 Tryz.sizeOf9 h35 h36) fun a hf => ?_
    refine gq (wanted_t hf rfl rfl rfl rfl hc32) hf rfl rfl (e_load1 hf rfl Tryz.isAgg9 (hM.litCell (k := 0) (j := 0) rfl rfl rfl)) fun a hf => ?_
    refine gq (wanted_t hf rfl rfl rfl rfl hc32) hf rfl rfl (e_lenS hf (x := e33) rfl Tryz.underlying9) fun a hf => ?_
    refine gq (wanted_t hf rfl rfl rfl rfl hc32) hf rfl rfl (e_move hf rfl) fun a hf => ?_
    refine gq (wanted_t hf rfl rfl rfl rfl hc32) hf rfl rfl (e_eq hf (x := (e33.length : Int)) (y := depth11) rfl rfl) fun a hf => ?_
    refine q_ hf rfl rfl rfl (e_pick_t hf rfl hc32 rfl) fun a hf => ?_
    refine pl_nil ?_
    obtain rfl := some_inj h30
    refine then_n ?_
    exact ⟨((e33.length : Int) == depth11), rfl, hf.keep ⟨rfl, rfl, rfl, rfl, rfl, trivial⟩, hM.pick [1] rfl⟩
   iterate 6 refine pl_gs (wanted_f hf rfl rfl rfl rfl hc32) hf rfl rfl fun a hf => ?_
   refine q_ hf rfl rfl rfl (e_pick_f hf rfl hc32 rfl) fun a hf => ?_
   refine pl_nil ?_
   obtain rfl := some_inj h30
   refine then_n ?_
   exact ⟨false, rfl, hf.keep ⟨rfl, rfl, rfl, rfl, rfl, trivial⟩, hM.pick [0] rfl⟩
  rintro a w44 ⟨t27, rfl, hf, hM⟩
  try dsimp only at h26
  rcases cond_some h26 with ⟨hc45, h26⟩ | ⟨hc45, h26⟩
  ·refine cond_t hf rfl hc45 ?_
   refine wp_seq ?_
   refine region_pl ?_
   refine q_ hf rfl rfl rfl (e_field hf rfl Tryz.underlying47 rfl Tryz.sizeOf4 (o' := 0) rfl) fun a hf => ?_
   refine pl_0 hf rfl rfl (w_store hf hM (us := [.bool (true)]) (cs' := [.bool (true), vS (([] : Str)), vL none (([] : (List Int))) 0]) rfl rfl (k := 0) rfl rfl Tryz.sizeOf4 rfl rfl rfl fun w46 hM => ?_)
   dsimp only [List.set] at hM
   refine pl_nil ?_
   refine then_n ?_
   refine region_pl ?_
   refine q_ hf rfl rfl rfl (e_move hf rfl) fun a hf => ?_
   obtain ⟨l49, hz50, h26⟩ := bind_some h26
   obtain ⟨A51, hd52, hA53⟩ := sub_rep (hM.dat (k := 0) rfl) hz50
   have hM := hM.add (y := .dat (sliceRep strRep) l49 [vL A51 l49 (c9 - (1 : Int).toNat)]) hd52
   refine q_ hf rfl rfl rfl (e_subLl hf (xs := list7) rfl rfl Tryz.underlying24 Tryz.sizeOf9 (slice_cap (hM.dat (k := 1) rfl)) hz50 hA53) fun a hf => ?_
   refine q_ hf rfl rfl rfl (e_assign hf rfl) fun a hf => ?_
   refine pl_nil ?_
   obtain rfl := some_inj h26
   refine then_n ?_
   exact ⟨true, l49, A51, (c9 - (1 : Int).toNat), rfl, hf.keep ⟨rfl, rfl, rfl, rfl, trivial⟩, hM.pick [0, 1] rfl⟩
  refine cond_f hf rfl hc45 ?_
  refine wp_skip ?_
  obtain rfl := some_inj h26
  refine then_n ?_
  exact ⟨false, list7, A8, c9, rfl, hf.keep ⟨rfl, rfl, rfl, rfl, trivial⟩, hM.pick [0, 0] rfl⟩
 rintro a w56 ⟨t20, l22, A23, c24, rfl, hf, hM⟩
 try dsimp only at h
 obtain ⟨x68, h69, h⟩ := bind_some h
 refine seq_join (fun a w => ∃ (s57 : Str) (xs59 : (List Int)) (mp62 : (List (Str × Int))) (xs65 : (List Node)) (A60 : Option Addr) (c61 : Nat) (b63 : Nat) (A66 : Option Addr) (c67 : Nat), (s57, xs59, mp62, xs65) = x68 ∧ Has 74 a [(0, vP b2 (0)), (7, vP b13 (0))] ∧ Mem C w [.row intRep A60 c61 2 xs59 true, .box b13 [.bool (t20), vS (s57), vL A60 (xs59) c61] 47, .box b2 [vL A66 (xs65) c67, vM b63] 109, .row NodeRep A66 c67 47 xs65 true, .obj b63 (mapO fS fI mp62)] [.dat (sliceRep strRep) l22 [vL A23 l22 c24], .dat (sliceRep strRep) list7 [vL A8 list7 c9]] ∧ s57.length ≤ maxLen ∧ MapR mp62) ?_ ?_
 ·refine wp_block ?_
  have hM := hM.nilRow intRep 2
  obtain ⟨x96, h97, h69⟩ := bind_some h69
  refine wp_loopM h97 (fun s a w => ∃ (s70 : Str) (mp72 : (List (Str × Int))) (xs75 : (List Node)) (xs78 : (List Int)) (l81 : (List Str)) (b73 : Nat) (A76 : Option Addr) (c77 : Nat) (A79 : Option Addr) (c80 : Nat) (A82 : Option Addr) (c83 : Nat), (s70, mp72, xs75, xs78, l81) = s ∧ Has 74 a [(0, vP b2 (0)), (1, vL A82 (l81) c83), (2, vI (depth11)), (7, vP b13 (0))] ∧ Mem C w [.row intRep A79 c80 2 xs78 true, .box b13 [.bool (t20), vS (s70), vL A79 (xs78) c80] 47, .box b2 [vL A76 (xs75) c77, vM b73] 109, .row NodeRep A76 c77 47 xs75 true, .obj b73 (mapO fS fI mp72)] [.dat (sliceRep strRep) l81 [vL A82 l81 c83], .dat (sliceRep strRep) l22 [vL A23 l22 c24], .dat (sliceRep strRep) list7 [vL A8 list7 c9]] ∧ s70.length ≤ maxLen ∧ MapR mp72) ?_ ?_
  ·exact ⟨([] : Str), m1.register, m1.nodes, ([] : (List Int)), l22, b5, A3, c4, none, 0, A23, c24, rfl, hf.keep ⟨rfl, rfl, rfl, rfl, trivial⟩, hM.pick [0, 0, 1] rfl, (lit_len rfl), hp6⟩
  rintro s o98 a w84 ⟨s70, mp72, xs75, xs78, l81, b73, A76, c77, A79, c80, A82, c83, rfl, hf, hM, hv71, hv74⟩ h99 hd100
  replace h99 : m_impl_maker_build_l1 depth11 rc s70 mp72 xs75 xs78 l81 = some o98 := h99
  unfold m_impl_maker_build_l1 at h99
  iterate 2 refine wp_seq ?_
  refine region_pl ?_
  refine q_ hf rfl rfl rfl (e_move hf rfl) fun a hf => ?_
  have hl101 := slice_len (hM.dat (k := 0) rfl)
  refine q_ hf rfl rfl rfl (e_lenL hf (x := l81) rfl Tryz.underlying24) fun a hf => ?_
  refine q_ hf rfl rfl rfl (e_gt hf (x := (l81.length : Int)) (y := 0) rfl rfl) fun a hf => ?_
  refine pl_nil ?_
  refine then_n ?_
  rcases cond_some h99 with ⟨hc102, h99⟩ | ⟨hc102, h99⟩
  ·refine cond_t hf rfl hc102 ?_
   refine wp_skip ?_
   refine then_n ?_
   refine wp_block ?_
   refine wp_seq ?_
   refine region_pl ?_
   refine q_ hf rfl rfl rfl (e_move hf rfl) fun a hf => ?_
   obtain ⟨e103, hz104, h99⟩ := bind_some h99
   obtain ⟨b108, o109, _, hA110, h105, h106, hr107, hM⟩ := hM.elem (hM.dat (k := 0) rfl) (n := 1) rfl hz104
   obtain ⟨rfl, hv111⟩ := hr107
   refine q_ hf rfl rfl rfl (e_indexAddr (A := A82) (b := b108) (o := o109) (xs := l81) (i := 0) hf hA110 rfl rfl Tryz.underlying24 Tryz.sizeOf9 h105 h106) fun a hf => ?_
   refine q_ hf rfl rfl rfl (e_load1 hf rfl Tryz.isAgg9 (hM.litCell (k := 0) (j := 0) rfl rfl rfl)) fun a hf => ?_
   refine q_ hf rfl rfl rfl (e_move hf rfl) fun a hf => ?_
   obtain ⟨c112, hz113, h99⟩ := bind_some h99
   refine q_ hf rfl rfl rfl (e_indexS hf (x := e103) rfl rfl Tryz.underlying9 hz113) fun a hf => ?_
   iterate 2 refine q_ hf rfl rfl rfl (e_assign hf rfl) fun a hf => ?_
   refine pl_nil ?_
   refine then_n ?_
   obtain ⟨x116, h117, h99⟩ := bind_some h99
   refine seq_join (fun a w => ∃ (n114 : Int), n114 = x116 ∧ Has 74 a [(0, vP b2 (0)), (1, vL A82 (l81) c83), (2, vI (depth11)), (7, vP b13 (0)), (8, vB (c112)), (9, vI (n114))] ∧ Mem C w [.row intRep A79 c80 2 xs78 true, .box b13 [.bool (t20), vS (s70), vL A79 (xs78) c80] 47, .box b2 [vL A76 (xs75) c77, vM b73] 109, .row NodeRep A76 c77 47 xs75 true, .obj b73 (mapO fS fI mp72)] [.lit b108 (o109 + (0 : Int).toNat * 1) [vS (e103)], .dat (sliceRep strRep) l81 [vL A82 l81 c83], .dat (sliceRep strRep) l22 [vL A23 l22 c24], .dat (sliceRep strRep) list7 [vL A8 list7 c9]] ∧ R64 n114) ?_ ?_
   ·refine wp_block ?_
    obtain ⟨x123, h124, h117⟩ := bind_some h117
    refine wp_loopM h124 (fun s a w => ∃ (n118 : Int), n118 = s ∧ Has 74 a [(0, vP b2 (0)), (1, vL A82 (l81) c83), (2, vI (depth11)), (7, vP b13 (0)), (8, vB (c112)), (9, vI (n118))] ∧ Mem C w [.row intRep A79 c80 2 xs78 true, .box b13 [.bool (t20), vS (s70), vL A79 (xs78) c80] 47, .box b2 [vL A76 (xs75) c77, vM b73] 109, .row NodeRep A76 c77 47 xs75 true, .obj b73 (mapO fS fI mp72)] [.lit b108 (o109 + (0 : Int).toNat * 1) [vS (e103)], .dat (sliceRep strRep) l81 [vL A82 l81 c83], .dat (sliceRep strRep) l22 [vL A23 l22 c24], .dat (sliceRep strRep) list7 [vL A8 list7 c9]] ∧ R64 n118) ?_ ?_
    ·exact ⟨1, rfl, hf.keep ⟨rfl, rfl, rfl, rfl, rfl, rfl, trivial⟩, hM.pick [0, 1, 2, 3] rfl, (R64_lit rfl)⟩
    rintro s o125 a w120 ⟨n118, rfl, hf, hM, hv119⟩ h126 hd127
    replace h126 : m_impl_maker_build_l2 l81 depth11 c112 n118 = some o125 := h126
    unfold m_impl_maker_build_l2 at h126
    refine wp_seq ?_
    obtain ⟨x130, h131, h126⟩ := bind_some h126
    refine seq_join (fun a w => ∃ (t128 : Bool), t128 = x130 ∧ Has 74 a [(0, vP b2 (0)), (1, vL A82 (l81) c83), (2, vI (depth11)), (7, vP b13 (0)), (8, vB (c112)), (9, vI (n118)), (46, .bool (t128))] ∧ Mem C w [.row intRep A79 c80 2 xs78 true, .box b13 [.bool (t20), vS (s70), vL A79 (xs78) c80] 47, .box b2 [vL A76 (xs75) c77, vM b73] 109, .row NodeRep A76 c77 47 xs75 true, .obj b73 (mapO fS fI mp72)] [.lit b108 (o109 + (0 : Int).toNat * 1) [vS (e103)], .dat (sliceRep strRep) l81 [vL A82 l81 c83], .dat (sliceRep strRep) l22 [vL A23 l22 c24], .dat (sliceRep strRep) list7 [vL A8 list7 c9]]) ?_ ?_
    ·refine region_pl ?_
     iterate 2 refine q_ hf rfl rfl rfl (e_move hf rfl) fun a hf => ?_
     have hl132 := slice_len (hM.dat (k := 1) rfl)
     refine q_ hf rfl rfl rfl (e_lenL hf (x := l81) rfl Tryz.underlying24) fun a hf => ?_
     refine q_ hf rfl rfl rfl (e_lt hf (x := n118) (y := (l81.length : Int)) rfl rfl) fun a hf => ?_
     refine q_ hf rfl rfl rfl (e_move hf rfl) fun a hf => ?_
     rcases cond_some h131 with ⟨hc133, h131⟩ | ⟨hc133, h131⟩
     ·iterate 2 refine gq (wanted_t hf rfl rfl rfl rfl hc133) hf rfl rfl (e_move hf rfl) fun a hf => ?_
      obtain ⟨e134, hz135, h131⟩ := bind_some h131
      obtain ⟨b139, o140, _, hA141, h136, h137, hr138, hM⟩ := hM.elem (hM.dat (k := 1) rfl) (n := 1) rfl hz135
      obtain ⟨rfl, hv142⟩ := hr138
      refine gq (wanted_t hf rfl rfl rfl rfl hc133) hf rfl rfl (e_indexAddr (A := A82) (b := b139) (o := o140) (xs := l81) (i := n118) hf hA141 rfl rfl Tryz.underlying24 Tryz.sizeOf9 h136 h137) fun a hf => ?_
      refine gq (wanted_t hf rfl rfl rfl rfl hc133) hf rfl rfl (e_load1 hf rfl Tryz.isAgg9 (hM.litCell (k := 0) (j := 0) rfl rfl rfl)) fun a hf => ?_
      refine gq (wanted_t hf rfl rfl rfl rfl hc133) hf rfl rfl (e_move hf rfl) fun a hf => ?_
      obtain ⟨c143, hz144, h131⟩ := bind_some h131
      refine gq (wanted_t hf rfl rfl rfl rfl hc133) hf rfl rfl (e_indexS hf (x := e134) rfl rfl Tryz.underlying9 hz144) fun a hf => ?_
      refine gq (wanted_t hf rfl rfl rfl rfl hc133) hf rfl rfl (e_move hf rfl) fun a hf => ?_
      refine gq (wanted_t hf rfl rfl rfl rfl hc133) hf rfl rfl (e_eqB hf (x := c143) (y := c112) rfl rfl) fun a hf => ?_
      refine q_ hf rfl rfl rfl (e_pick_t hf rfl hc133 rfl) fun a hf => ?_
      refine pl_nil ?_
      obtain rfl := some_inj h131
      refine then_n ?_
      exact ⟨(c143 == c112), rfl, hf.keep ⟨rfl, rfl, rfl, rfl, rfl, rfl, rfl, trivial⟩, hM.pick [1, 2, 3, 4] rfl⟩
     iterate 8 refine pl_gs (wanted_f hf rfl rfl rfl rfl hc133) hf rfl rfl fun a hf => ?_
     refine q_ hf rfl rfl rfl (e_pick_f hf rfl hc133 rfl) fun a hf => ?_
     refine pl_nil ?_
     obtain rfl := some_inj h131
     refine then_n ?_
     exact ⟨false, rfl, hf.keep ⟨rfl, rfl, rfl, rfl, rfl, rfl, rfl, trivial⟩, hM.pick [0, 1, 2, 3] rfl⟩
    rintro a w147 ⟨t128, rfl, hf, hM⟩
    try dsimp only at h126
    rcases cond_some h126 with ⟨hc148, h126⟩ | ⟨hc148, h126⟩
    ·refine cond_t hf rfl hc148 ?_
     refine wp_skip ?_
     refine then_n ?_
     refine wp_block ?_
     refine region_pl ?_
     refine q_ hf rfl rfl rfl (e_move hf rfl) fun a hf => ?_
     obtain ⟨z149, hz150, h126⟩ := bind_some h126
     refine q_ hf rfl rfl rfl (e_add hf rfl rfl hz150) fun a hf => ?_
     refine q_ hf rfl rfl rfl (e_assign hf rfl) fun a hf => ?_
     refine pl_nil ?_
     refine blk_n ?_
     obtain rfl := some_inj h126
     refine then_n ⟨_, rfl, ?_⟩
     exact ⟨z149, rfl, hf.keep ⟨rfl, rfl, rfl, rfl, rfl, rfl, trivial⟩, hM.pick [0, 1, 2, 3] rfl, (chk_R hz150)⟩
    refine cond_f hf rfl hc148 ?_
    refine wp_exit ?_
    refine then_x ?_
    obtain rfl := some_inj h126
    obtain rfl := hd127 _ rfl
    try dsimp only at h117
    refine then_x ?_
    refine exit_hit ?_
    obtain rfl := some_inj h117
    refine then_n ?_
    exact ⟨n118, rfl, hf.keep ⟨rfl, rfl, rfl, rfl, rfl, rfl, trivial⟩, hM.pick [0, 1, 2, 3] rfl, hv119⟩
   rintro a w156 ⟨n114, rfl, hf, hM, hv115⟩
   try dsimp only at h99
   refine wp_seq ?_
   refine region_pl ?_
   refine q_ hf rfl rfl rfl (e_field hf rfl Tryz.underlying47 rfl Tryz.sizeOf9 (o' := 1) rfl) fun a hf => ?_
   refine q_ hf rfl rfl rfl (e_load1 hf rfl Tryz.isAgg9 (hM.boxCell (k := 1) rfl rfl)) fun a hf => ?_
   refine q_ hf rfl rfl rfl (e_move hf rfl) fun a hf => ?_
   refine q_ hf rfl rfl rfl (e_convBR hf (x := c112) rfl Tryz.underlying5 Tryz.underlying21) fun a hf => ?_
   obtain ⟨s157, hz158, h99⟩ := bind_some h99
   refine q_ hf rfl rfl rfl (e_convRS hf rfl Tryz.underlying21 Tryz.underlying9 hz158) fun a hf => ?_
   obtain ⟨s159, hz160, h99⟩ := bind_some h99
   refine q_ hf rfl rfl rfl (e_cat hf (x := s70) (y := s157) rfl rfl hz160) fun a hf => ?_
   refine q_ hf rfl rfl rfl (e_field hf rfl Tryz.underlying47 rfl Tryz.sizeOf9 (o' := 1) rfl) fun a hf => ?_
   refine pl_0 hf rfl rfl (w_store hf hM (us := [vS (s159)]) (cs' := [.bool (t20), vS (s159), vL A79 (xs78) c80]) rfl rfl (k := 1) rfl rfl Tryz.sizeOf9 rfl rfl rfl fun w161 hM => ?_)
   dsimp only [List.set] at hM
   refine pl_nil ?_
   refine then_n ?_
   refine wp_seq ?_
   obtain ⟨w164, hw⟩ : ∃ x, x = w161.drew := ⟨_, rfl⟩
   refine region_pi (.q 0 (.q 1 (.q 2 (.q 3 (.q 4 (.q 5 (.q 6 (.q 7 (.l 8 (.l 9 (.l 10 (.q 11 (.l 12 (.nil)))))))))))))) (ExtM [some b2, A76.map (·.block), some b73] w164) rfl (by kernel_rfl) ?_
   have hM := hM.drew
   rw [← hw] at hM ⊢
   clear hw
   refine pi_q hf rfl rfl rfl rfl (ExtM.refl _ _) (e_field hf rfl Tryz.underlying47 rfl Tryz.sizeOf45 (o' := 2) rfl) fun a hf => ?_
   refine pi_q hf rfl rfl rfl rfl (ExtM.refl _ _) (e_load1M hf rfl Tryz.isAgg45 (hM.boxCell (k := 1) rfl rfl) (hM.apart (js := [2, 3, 4]) rfl (k := 1) rfl rfl rfl)) fun a hf => ?_
   iterate 3 refine pi_q hf rfl rfl rfl rfl (ExtM.refl _ _) (e_move hf rfl) fun a hf => ?_
   obtain ⟨l165, hz166, h99⟩ := bind_some h99
   obtain ⟨A167, hd168, hA169⟩ := sub_rep (hM.dat (k := 1) rfl) hz166
   have hM := hM.add (y := .dat (sliceRep strRep) l165 [vL A167 l165 (c83 - (0 : Int).toNat)]) hd168
   refine pi_q hf rfl rfl rfl rfl (ExtM.refl _ _) (e_subLh hf (xs := l81) rfl rfl Tryz.underlying24 Tryz.sizeOf9 (slice_cap (hM.dat (k := 2) rfl)) hz166 hA169) fun a hf => ?_
   refine pi_q hf rfl rfl rfl rfl (ExtM.refl _ _) (e_move hf rfl) fun a hf => ?_
   obtain ⟨z170, hz171, h99⟩ := bind_some h99
   refine pi_q hf rfl rfl rfl rfl (ExtM.refl _ _) (e_add hf rfl rfl hz171) fun a hf => ?_
   refine pi_one ?_
   have hM := hM.front (k := 4) rfl
   dsimp only [List.eraseIdx] at hM
   have hM := hM.front (k := 4) rfl
   dsimp only [List.eraseIdx] at hM
   have hM := hM.front (k := 4) rfl
   dsimp only [List.eraseIdx] at hM
   have hM : Mem C _ ([.box b2 [vL A76 (xs75) c77, vM b73] 109, .row NodeRep A76 c77 47 xs75 true, .obj b73 (mapO fS fI mp72)] ++ [.row intRep A79 c80 2 xs78 true, .box b13 [.bool (t20), vS (s159), vL A79 (xs78) c80] 47]) _ := hM
   obtain ⟨y172, hz173, h99⟩ := bind_some h99
   refine pi_l hf rfl rfl rfl rfl (w_call hf Tryz.call60 rfl (ih ⟨_, Sh C _ _, ownB _, hM.sh_lt, sub_dis, C.G, hM.g_lt, hM.g_own, hM.tabs⟩ (⟨xs75, mp72⟩ : maker) _ _ _ _ hv74 l165 _ _ (hM.dat (k := 0) rfl) z170 (chk_R hz171) hM.sub sub_dis _ hz173) ?_)
   rintro _ w179 ⟨A174, c175, b176, rfl, hM2, hv177, hv178⟩
   have hxm182 := ExtM.ofChg (bs := [some b2, A76.map (·.block), some b73]) hM2.chg ⟨List.mem_of_getElem? (i := 0) rfl, List.mem_of_getElem? (i := 1) rfl, List.mem_of_getElem? (i := 2) rfl, trivial⟩
   have hsz183 := hM2.chg.size
   obtain ⟨hM, hup181⟩ := hM.backG hM2
   dsimp only [List.cons_append, List.nil_append] at hM hup181
   clear hM2
   refine ⟨_, rfl, Ext w179, fun _ h => ExtM.last hxm182 hsz183 h, Ext.refl _, fun a hf => ?_⟩
   refine pi_one ?_
   refine pi_l hf rfl rfl rfl rfl (w_slice hf hM (K := intRep) (xs := ([y172.1] : (List Int))) (os := [.tmp 64]) Tryz.underlying45 ei_2 rfl rfl rfl rfl rfl ⟨⟨[vI (y172.1)], rfl, ⟨rfl, hv178⟩⟩, trivial⟩ rfl fun b184 w185 hx186 hM => ⟨Ext w185, fun _ h => Ext.trans hx186 h, Ext.refl _, fun a hf => ?_⟩)
   refine pi_one ?_
   obtain ⟨xs187, hz188, h99⟩ := bind_some h99
   refine pi_z hf rfl rfl rfl rfl (by kernel_rfl) (w_append hf hM Tryz.underlying45 ei_2 rfl rfl rfl (k := 4) rfl (hM.srcRow (k := 0) rfl) hz188 fun A189 c190 w191 hM a hf => ?_)
   dsimp only [List.set] at hM
   refine pi_q hf rfl rfl rfl rfl (Ext.refl _) (e_field hf rfl Tryz.underlying47 rfl Tryz.sizeOf45 (o' := 2) rfl) fun a hf => ?_
   refine pi_one ?_
   refine pi_z0 hf rfl rfl rfl (by kernel_rfl) (w_store hf hM (us := [vL A189 (xs187) c190]) (cs' := [.bool (t20), vS (s159), vL A189 (xs187) c190]) rfl rfl (k := 5) rfl rfl Tryz.sizeOf45 rfl rfl rfl fun w194 hM => ?_)
   dsimp only [List.set] at hM
   refine pi_nil ?_
   refine then_n ?_
   refine region_pl ?_
   iterate 2 refine q_ hf rfl rfl rfl (e_move hf rfl) fun a hf => ?_
   obtain ⟨l197, hz198, h99⟩ := bind_some h99
   obtain ⟨A199, hd200, hA201⟩ := sub_rep (hM.dat (k := 2) rfl) hz198
   have hM := hM.add (y := .dat (sliceRep strRep) l197 [vL A199 l197 (c83 - (n114 : Int).toNat)]) hd200
   refine q_ hf rfl rfl rfl (e_subLl hf (xs := l81) rfl rfl Tryz.underlying24 Tryz.sizeOf9 (slice_cap (hM.dat (k := 3) rfl)) hz198 hA201) fun a hf => ?_
   refine q_ hf rfl rfl rfl (e_assign hf rfl) fun a hf => ?_
   refine pl_nil ?_
   refine blk_n ?_
   obtain rfl := some_inj h99
   refine then_n ⟨_, rfl, ?_⟩
   have hM := hM.front (k := 3) rfl
   dsimp only [List.eraseIdx] at hM
   have hM := hM.front (k := 3) rfl
   dsimp only [List.eraseIdx] at hM
   have hM := hM.front (k := 3) rfl
   dsimp only [List.eraseIdx] at hM
   have hM := hM.front (k := 5) rfl
   dsimp only [List.eraseIdx] at hM
   have hM := hM.front (k := 5) rfl
   dsimp only [List.eraseIdx] at hM
   exact ⟨s159, y172.2.register, y172.2.nodes, xs187, l197, b176, A174, c175, A189, c190, A199, (c83 - (n114 : Int).toNat), rfl, hf.keep ⟨rfl, rfl, rfl, rfl, trivial⟩, (hM.drop (.cons_cons _ (.cons_cons _ (.cons_cons _ (.cons_cons _ (.cons_cons _ (.cons _ .slnil))))))).pick [0, 4, 5] rfl, (cat_len hz160), hv177⟩
  refine cond_f hf rfl hc102 ?_
  refine wp_exit ?_
  refine then_x ?_
  obtain rfl := some_inj h99
  obtain rfl := hd100 _ rfl
  try dsimp only at h69
  refine then_x ?_
  refine exit_hit ?_
  obtain rfl := some_inj h69
  refine then_n ?_
  exact ⟨s70, xs78, mp72, xs75, A79, c80, b73, A76, c77, rfl, hf.keep ⟨rfl, rfl, trivial⟩, hM.pick [1, 2] rfl, hv71, hv74⟩
 rintro a w207 ⟨s57, xs59, mp62, xs65, A60, c61, b63, A66, c67, rfl, hf, hM, hv58, hv64⟩
 try dsimp only at h
 refine wp_seq ?_
 refine region_pl ?_
 refine q_ hf rfl rfl rfl (e_move hf rfl) fun a hf => ?_
 refine q_ hf rfl rfl rfl (e_loadA hf (us := [.bool (t20), vS (s57), vL A60 (xs59) c61]) rfl ⟨Tryz.isAgg47, Tryz.sizeOf47⟩ rfl (hM.boxSub (k := 1) (us := [.bool (t20), vS (s57), vL A60 (xs59) c61]) (o := 0) rfl rfl)) fun a hf => ?_
 have hM := hM.freezeRow (k := 0) rfl rfl
 dsimp only [List.eraseIdx] at hM
 have hM := hM.front (k := 3) rfl
 dsimp only [List.eraseIdx] at hM
 have hM := hM.front (k := 3) rfl
 dsimp only [List.eraseIdx] at hM
 have hM := hM.front (k := 3) rfl
 dsimp only [List.eraseIdx] at hM
 have hM : Mem C _ ([.box b2 [vL A66 (xs65) c67, vM b63] 109, .row NodeRep A66 c67 47 xs65 true, .obj b63 (mapO fS fI mp62)] ++ [.box b13 [.bool (t20), vS (s57), vL A60 (xs59) c61] 47]) _ := hM
 obtain ⟨y208, hz209, h⟩ := bind_some h
 refine pl_l hf rfl rfl rfl (w_call hf Tryz.call90 rfl (r_impl_maker_node ⟨_, Sh C _ _, ownB _, hM.sh_lt, sub_dis, C.G, hM.g_lt, hM.g_own, hM.tabs⟩ (⟨xs65, mp62⟩ : maker) _ _ _ _ hv64 (⟨t20, s57, xs59⟩ : Node) hv58 _ _ (hM.dat (k := 0) rfl) hM.sub sub_dis _ hz209) ?_)
 rintro _ w215 ⟨A210, c211, b212, rfl, hM2, hv213, hv214⟩
 obtain ⟨hM, hup217⟩ := hM.backG hM2
 dsimp only [List.cons_append, List.nil_append] at hM hup217
 clear hM2
 refine ⟨_, rfl, fun a hf => ?_⟩
 refine q_ hf rfl rfl rfl (e_assign hf rfl) fun a hf => ?_
 refine pl_nil ?_
 refine then_n ?_
 refine wp_ret ?_
 obtain rfl := some_inj h
 have hM := hM.outs (own' := [.box b2 [vL A210 (y208.2.nodes) c211, vM b212] 109, .row NodeRep A210 c211 47 y208.2.nodes true, .obj b212 (mapO fS fI y208.2.register)]) 3 rfl
 exact leave1 hf rfl rfl ⟨A210, c211, b212, rfl, hM.fin, hv213, hv214⟩

theorem r_impl_maker_build_n : ∀ n, Ct_impl_maker_build (m_impl_maker_build_n n)
  | 0 => fun C m1 b2 A3 c4 b5 hp6 list7 A8 c9 hp10 depth11 hp12 hO hd r h => by cases h
  | n + 1 => r_impl_maker_build_b _ (r_impl_maker_build_n n)

theorem r_impl_maker_build : Ct_impl_maker_build (m_impl_maker_build) := r_impl_maker_build_n fuelN

def Ct_impl_maker_numbered_1 (rc : Int → (List (Int × Int)) → Dawg → maker → Option (Int × (List (Int × Int)) × Dawg)) : Prop := ∀ (C : Cx) (k1 : Int) (hp2 : R64 k1) (p3 : (List (Int × Int))) (b4 : Nat) (b5 : Nat) (hp6 : MapR p3) (p7 : Dawg) (b8 : Nat) (A9 : Option Addr) (c10 : Nat) (p11 : maker) (b12 : Nat) (o13 : Nat) (hp14 : (ptrRep (ptrRep makerRep)).R C.w0 C.S0 p11 [vP b12 o13]) (b16 : Nat) (o17 : Nat) (hp18 : Shr.good C.w0 C.S0 (.lit b16 (o17) [.func (.func 89) #[] #[vP b4 (0), vP b8 (0), vP b12 (o13), vP b16 (o17)]])) (hO : Mem C C.w0 [.box b4 [vM b5] 139, .obj b5 (mapO fI fI p3), .box b8 [vL A9 (p7.Nodes) c10] 31, .row NodeRep A9 c10 47 p7.Nodes true] []) (hd : ∀ b, C.S0 b → ¬ ownB [.box b4 [vM b5] 139, .obj b5 (mapO fI fI p3), .box b8 [vL A9 (p7.Nodes) c10] 31, .row NodeRep A9 c10 47 p7.Nodes true] b) (r : (Int × (List (Int × Int)) × Dawg)) (h : rc k1 p3 p7 p11 = some r),
    Calls Tryz.prog 89 #[vI (k1), vP b4 (0), vP b8 (0), vP b12 (o13), vP b16 (o17)] C.w0 fun e w => ∃ (b_1 : Nat), ∃ (A_1 : Option Addr), ∃ (c_1 : Nat), e = .returned (vI (r.1)) ∧ Mem C w [.box b4 [vM b_1] 139, .obj b_1 (mapO fI fI r.2.1), .box b8 [vL A_1 (r.2.2.Nodes) c_1] 31, .row NodeRep A_1 c_1 47 r.2.2.Nodes true] [] ∧ MapR r.2.1 ∧ R64 r.1

set_option maxRecDepth 100000 in
set_option maxHeartbeats 4000000 in
theorem r_impl_maker_numbered_1_b (rc : Int → (List (Int × Int)) → Dawg → maker → Option (Int × (List (Int × Int)) × Dawg)) (ih : Ct_impl_maker_numbered_1 rc) : Ct_impl_maker_numbered_1 (m_impl_maker_numbered_1_b rc) := by
 intro C k1 hp2 p3 b4 b5 hp6 p7 b8 A9 c10 p11 b12 o13 hp14 b16 o17 hp18 hO hd r h
 have hM := hO
 have hM := hM.addIn hd (y := .dat (ptrRep (ptrRep makerRep)) p11 [vP b12 o13]) hp14
 have hM := hM.addIn hd (y := .lit b16 (o17) [.func (.func 89) #[] #[vP b4 (0), vP b8 (0), vP b12 (o13), vP b16 (o17)]]) hp18
 refine enter Tryz.func89 rfl Tryz.ntmps89 rfl fun a hf => ?_
 unfold m_impl_maker_numbered_1_b at h
 refine wp_seq ?_
 refine region_pl ?_
 refine q_ hf rfl rfl rfl (e_assign hf rfl) fun a hf => ?_
 refine pl_nil ?_
 refine then_n ?_
 iterate 2 refine wp_seq ?_
 refine region_pl ?_
 refine q_ hf rfl rfl rfl (e_load1 hf rfl Tryz.isAgg139 (hM.boxCell (k := 0) rfl rfl)) fun a hf => ?_
 refine q_ hf rfl rfl rfl (e_move hf rfl) fun a hf => ?_
 refine q_ hf rfl rfl rfl (e_lookupOk (fk := fI) (fv := fI) hf (keyI Tryz.underlying2) Tryz.underlying139 (k := k1) (z := 0) rfl rfl Tryz.zeroValue2 (hM.ownAt (k := 1) rfl)) fun a hf => ?_
 refine q_ hf rfl rfl rfl (e_move hf rfl) fun a hf => ?_
 iterate 2 refine q_ hf rfl rfl rfl (e_extract hf rfl rfl) fun a hf => ?_
 iterate 2 refine q_ hf rfl rfl rfl (e_assign hf rfl) fun a hf => ?_
 refine pl_nil ?_
 refine then_n ?_
 refine wp_seq ?_
 refine region_pl ?_
 refine q_ hf rfl rfl rfl (e_move hf rfl) fun a hf => ?_
 refine pl_nil ?_
 refine then_n ?_
 rcases cond_some h with ⟨hc19, h⟩ | ⟨hc19, h⟩
 ·refine cond_t hf rfl hc19 ?_
  refine wp_seq ?_
  refine region_pl ?_
  refine q_ hf rfl rfl rfl (e_move hf rfl) fun a hf => ?_
  refine q_ hf rfl rfl rfl (e_assign hf rfl) fun a hf => ?_
  refine pl_nil ?_
  refine then_n ?_
  refine wp_ret ?_
  refine then_r ?_
  obtain rfl := some_inj h
  exact leave1 hf rfl rfl ⟨b5, A9, c10, rfl, hM.fin, hp6, (hp6.get _)⟩
 refine cond_f hf rfl hc19 ?_
 refine wp_skip ?_
 refine then_n ?_
 refine wp_seq ?_
 refine region_pl ?_
 refine q_ hf rfl rfl rfl (e_field hf rfl Tryz.underlying31 rfl Tryz.sizeOf29 (o' := 0) rfl) fun a hf => ?_
 refine q_ hf rfl rfl rfl (e_load1 hf rfl Tryz.isAgg29 (hM.boxCell (k := 2) rfl rfl)) fun a hf => ?_
 have hl20 := row_len (hM.ownAt (k := 3) rfl)
 refine q_ hf rfl rfl rfl (e_lenL hf (x := p7.Nodes) rfl Tryz.underlying29) fun a hf => ?_
 refine q_ hf rfl rfl rfl (e_assign hf rfl) fun a hf => ?_
 refine pl_nil ?_
 refine then_n ?_
 refine wp_seq ?_
 refine region_pl ?_
 refine q_ hf rfl rfl rfl (e_load1 hf rfl Tryz.isAgg139 (hM.boxCell (k := 0) rfl rfl)) fun a hf => ?_
 iterate 2 refine q_ hf rfl rfl rfl (e_move hf rfl) fun a hf => ?_
 refine pl_0 hf rfl rfl (w_mapUpdate (fk := fI) (fv := fI) hf hM (keyI Tryz.underlying2) Tryz.underlying139 (k := k1) (v := (p7.Nodes.length : Int)) rfl rfl rfl (n := 1) rfl fun w21 hM => ?_)
 dsimp only [List.set] at hM
 refine pl_nil ?_
 refine then_n ?_
 refine wp_seq ?_
 refine region_pl ?_
 obtain ⟨_, hr22, hM⟩ := hM.deref (hM.dat (k := 1) rfl)
 obtain ⟨b23, o24, rfl, hv25⟩ := ptr_form hr22
 have hM := hM.add (y := .dat (ptrRep makerRep) p11 [vP b23 o24]) hv25
 refine q_ hf rfl rfl rfl (e_load1 hf rfl Tryz.isAgg106 (hM.litCell (k := 1) (j := 0) rfl rfl rfl)) fun a hf => ?_
 refine q_ hf rfl rfl rfl (e_nil hf rfl) fun a hf => ?_
 obtain ⟨_, hr26, hM⟩ := hM.deref (hM.dat (k := 0) rfl)
 obtain ⟨A27, c28, b30, o31, rfl, hv29, hv32⟩ := makerRep_open hr26
 have hM := hM.add (y := .dat (sliceRep NodeRep) p11.nodes [vL A27 p11.nodes c28]) hv29
 have hM := hM.add (y := .dat (mapRep fS fI) p11.register [vM b30]) hv32
 refine q_ hf rfl rfl rfl (e_field hf rfl Tryz.underlying109 rfl Tryz.sizeOf29 (o' := o24 + 0) rfl) fun a hf => ?_
 refine q_ hf rfl rfl rfl (e_load1 hf rfl Tryz.isAgg29 (hM.litCell (k := 2) (j := 0) rfl rfl rfl)) fun a hf => ?_
 refine q_ hf rfl rfl rfl (e_move hf rfl) fun a hf => ?_
 obtain ⟨e33, hz34, h⟩ := bind_some h
 obtain ⟨b38, o39, _, hA40, h35, h36, hr37, hM⟩ := hM.elem (hM.dat (k := 1) rfl) (n := 3) rfl hz34
 obtain ⟨A42, c43, rfl, hv41, hv44⟩ := NodeRep_open hr37
 have hM := hM.add (y := .dat (sliceRep intRep) e33.Next [vL A42 e33.Next c43]) hv44
 refine q_ hf rfl rfl rfl (e_indexAddr (A := A27) (b := b38) (o := o39) (xs := p11.nodes) (i := k1) hf hA40 rfl rfl Tryz.underlying29 Tryz.sizeOf47 h35 h36) fun a hf => ?_
 refine q_ hf rfl rfl rfl (e_loadA hf (us := [.bool (e33.Final), vS (e33.Letters), vL A42 (e33.Next) c43]) rfl ⟨Tryz.isAgg47, Tryz.sizeOf47⟩ rfl (hM.litSub (k := 1) (d := 0) (us := [.bool (e33.Final), vS (e33.Letters), vL A42 (e33.Next) c43]) rfl rfl rfl)) fun a hf => ?_
 refine pl_l hf rfl rfl rfl (w_alloc hM (cs := [.bool (false), vS (([] : Str)), vL none (([] : (List Int))) 0]) Tryz.zeroValue47 rfl fun b45 w46 hx47 hM a hf => ?_)
 refine pl_0 hf rfl rfl (w_store hf hM (us := [.bool (e33.Final), vS (e33.Letters), vL A42 (e33.Next) c43]) (cs' := [.bool (e33.Final), vS (e33.Letters), vL A42 (e33.Next) c43]) rfl rfl (k := 0) rfl rfl Tryz.sizeOf47 rfl rfl rfl fun w49 hM => ?_)
 dsimp only [List.set] at hM
 refine pl_nil ?_
 refine then_n ?_
 refine wp_seq ?_
 refine region_pl ?_
 refine q_ hf rfl rfl rfl (e_field hf rfl Tryz.underlying31 rfl Tryz.sizeOf29 (o' := 0) rfl) fun a hf => ?_
 refine q_ hf rfl rfl rfl (e_load1 hf rfl Tryz.isAgg29 (hM.boxCell (k := 3) rfl rfl)) fun a hf => ?_
 refine q_ hf rfl rfl rfl (e_field hf rfl Tryz.underlying47 rfl Tryz.sizeOf4 (o' := 0) rfl) fun a hf => ?_
 refine q_ hf rfl rfl rfl (e_load1 hf rfl Tryz.isAgg4 (hM.boxCell (k := 0) rfl rfl)) fun a hf => ?_
 refine q_ hf rfl rfl rfl (e_field hf rfl Tryz.underlying47 rfl Tryz.sizeOf9 (o' := 1) rfl) fun a hf => ?_
 refine q_ hf rfl rfl rfl (e_load1 hf rfl Tryz.isAgg9 (hM.boxCell (k := 0) rfl rfl)) fun a hf => ?_
 refine q_ hf rfl rfl rfl (e_build hf Tryz.zeroValue47 Tryz.underlying47 (bp_47 _ Tryz.underlying47.symm) rfl (cs := #[.bool (e33.Final), vS (e33.Letters), vL none (([] : (List Int))) 0]) (by kernel_rfl)) fun a hf => ?_
 have hM := hM.add (y := .dat (sliceRep intRep) ([] : (List Int)) [vL none ([] : (List Int)) 0]) (nil_slice _ _ _)
 refine pl_l hf rfl rfl rfl (w_slice hf hM (K := NodeRep) (xs := ([(⟨e33.Final, e33.Letters, ([] : (List Int))⟩ : Node)] : (List Node))) (os := [.tmp 41]) Tryz.underlying29 ei_47 rfl rfl rfl rfl rfl ⟨⟨[.bool (e33.Final), vS (e33.Letters), vL none (([] : (List Int))) 0], rfl, (NodeRep_mk (x := (⟨e33.Final, e33.Letters, ([] : (List Int))⟩ : Node)) hv41 (hM.dat (k := 0) rfl))⟩, trivial⟩ rfl fun b52 w53 hx54 hM a hf => ?_)
 obtain ⟨xs55, hz56, h⟩ := bind_some h
 refine pl_l hf rfl rfl rfl (w_append hf hM Tryz.underlying29 ei_47 rfl rfl rfl (k := 5) rfl (hM.srcRow (k := 0) rfl) hz56 fun A57 c58 w59 hM a hf => ?_)
 dsimp only [List.set] at hM
 refine q_ hf rfl rfl rfl (e_field hf rfl Tryz.underlying31 rfl Tryz.sizeOf29 (o' := 0) rfl) fun a hf => ?_
 refine pl_0 hf rfl rfl (w_store hf hM (us := [vL A57 (xs55) c58]) (cs' := [vL A57 (xs55) c58]) rfl rfl (k := 4) rfl rfl Tryz.sizeOf29 rfl rfl rfl fun w62 hM => ?_)
 dsimp only [List.set] at hM
 refine pl_nil ?_
 refine then_n ?_
 refine wp_seq ?_
 refine region_pl ?_
 refine pl_l hf rfl rfl rfl (w_slice0 (K := intRep) hM Tryz.underlying45 ei_2 fun b65 w66 hx67 hM a hf => ?_)
 refine q_ hf rfl rfl rfl (e_assign hf rfl) fun a hf => ?_
 refine pl_nil ?_
 refine then_n ?_
 obtain ⟨x77, h78, h⟩ := bind_some h
 refine seq_join (fun a w => ∃ (mp68 : (List (Int × Int))) (xs71 : (List Node)) (xs74 : (List Int)) (b69 : Nat) (A72 : Option Addr) (c73 : Nat) (A75 : Option Addr) (c76 : Nat), (mp68, xs71, xs74) = x77 ∧ Has 67 a [(2, vP b8 (0)), (9, vI ((p7.Nodes.length : Int))), (11, vL A75 (xs74) c76)] ∧ Mem C w [.row intRep A75 c76 2 xs74 true, .row NodeRep (some ⟨b52, 0, none⟩) 1 47 ([(⟨e33.Final, e33.Letters, ([] : (List Int))⟩ : Node)] : (List Node)) true, .box b45 [.bool (e33.Final), vS (e33.Letters), vL A42 (e33.Next) c43] 47, .box b4 [vM b69] 139, .obj b69 (mapO fI fI mp68), .box b8 [vL A72 (xs71) c73] 31, .row NodeRep A72 c73 47 xs71 true] [.dat (sliceRep intRep) ([] : (List Int)) [vL none ([] : (List Int)) 0], .dat (sliceRep intRep) e33.Next [vL A42 e33.Next c43], .lit b38 (o39 + (k1 : Int).toNat * 3) [.bool (e33.Final), vS (e33.Letters), vL A42 (e33.Next) c43], .dat (mapRep fS fI) p11.register [vM b30], .dat (sliceRep NodeRep) p11.nodes [vL A27 p11.nodes c28], .lit b23 (o24) [vL A27 (p11.nodes) c28, vM b30], .dat (ptrRep makerRep) p11 [vP b23 o24], .lit b12 (o13) [vP b23 (o24)], .lit b16 (o17) [.func (.func 89) #[] #[vP b4 (0), vP b8 (0), vP b12 (o13), vP b16 (o17)]], .dat (ptrRep (ptrRep makerRep)) p11 [vP b12 o13]] ∧ MapR mp68) ?_ ?_
 ·refine wp_seq ?_
  refine region_pl ?_
  refine q_ hf rfl rfl rfl (e_field hf rfl Tryz.underlying47 rfl Tryz.sizeOf45 (o' := 2) rfl) fun a hf => ?_
  refine q_ hf rfl rfl rfl (e_load1 hf rfl Tryz.isAgg45 (hM.boxCell (k := 2) rfl rfl)) fun a hf => ?_
  have hl79 := slice_len (hM.dat (k := 1) rfl)
  refine q_ hf rfl rfl rfl (e_lenL hf (x := e33.Next) rfl Tryz.underlying45) fun a hf => ?_
  refine q_ hf rfl rfl rfl (e_move hf rfl) fun a hf => ?_
  refine pl_nil ?_
  refine then_n ?_
  refine wp_block ?_
  obtain ⟨x101, h102, h78⟩ := bind_some h78
  refine wp_loopM h102 (fun s a w => ∃ (mp80 : (List (Int × Int))) (xs83 : (List Node)) (xs86 : (List Int)) (n89 : Int) (b81 : Nat) (A84 : Option Addr) (c85 : Nat) (A87 : Option Addr) (c88 : Nat), (mp80, xs83, xs86, n89) = s ∧ Has 67 a [(2, vP b8 (0)), (4, vP b16 (o17)), (9, vI ((p7.Nodes.length : Int))), (11, vL A87 (xs86) c88), (47, vL A42 (e33.Next) c43), (48, vI ((e33.Next.length : Int))), (49, vI (n89))] ∧ Mem C w [.row intRep A87 c88 2 xs86 true, .row NodeRep (some ⟨b52, 0, none⟩) 1 47 ([(⟨e33.Final, e33.Letters, ([] : (List Int))⟩ : Node)] : (List Node)) true, .box b45 [.bool (e33.Final), vS (e33.Letters), vL A42 (e33.Next) c43] 47, .box b4 [vM b81] 139, .obj b81 (mapO fI fI mp80), .box b8 [vL A84 (xs83) c85] 31, .row NodeRep A84 c85 47 xs83 true] [.dat (sliceRep intRep) ([] : (List Int)) [vL none ([] : (List Int)) 0], .dat (sliceRep intRep) e33.Next [vL A42 e33.Next c43], .lit b38 (o39 + (k1 : Int).toNat * 3) [.bool (e33.Final), vS (e33.Letters), vL A42 (e33.Next) c43], .dat (mapRep fS fI) p11.register [vM b30], .dat (sliceRep NodeRep) p11.nodes [vL A27 p11.nodes c28], .lit b23 (o24) [vL A27 (p11.nodes) c28, vM b30], .dat (ptrRep makerRep) p11 [vP b23 o24], .lit b12 (o13) [vP b23 (o24)], .lit b16 (o17) [.func (.func 89) #[] #[vP b4 (0), vP b8 (0), vP b12 (o13), vP b16 (o17)]], .dat (ptrRep (ptrRep makerRep)) p11 [vP b12 o13]] ∧ MapR mp80 ∧ R64 n89) ?_ ?_
  ·exact ⟨(putM p3 k1 (p7.Nodes.length : Int)), xs55, ([] : (List Int)), 0, b5, A57, c58, (some ⟨b65, 0, none⟩), 0, rfl, hf.keep ⟨rfl, rfl, rfl, rfl, rfl, rfl, rfl, trivial⟩, hM.pick [0, 1, 2, 3, 4, 5, 6, 7, 8, 9] rfl, (hp6.put (R64_len hl20)), (R64_lit rfl)⟩
  rintro s o103 a w91 ⟨mp80, xs83, xs86, n89, b81, A84, c85, A87, c88, rfl, hf, hM, hv82, hv90⟩ h104 hd105
  replace h104 : m_impl_maker_numbered_1_l1 e33 rc p11 mp80 xs83 xs86 n89 = some o103 := h104
  unfold m_impl_maker_numbered_1_l1 at h104
  refine wp_seq ?_
  refine region_pl ?_
  refine q_ hf rfl rfl rfl (e_lt hf (x := n89) (y := (e33.Next.length : Int)) rfl rfl) fun a hf => ?_
  refine pl_nil ?_
  refine then_n ?_
  refine wp_seq ?_
  rcases cond_some h104 with ⟨hc106, h104⟩ | ⟨hc106, h104⟩
  ·refine cond_t hf rfl hc106 ?_
   refine wp_skip ?_
   refine then_n ?_
   refine wp_seq ?_
   refine wp_block ?_
   refine wp_seq ?_
   refine region_pl ?_
   obtain ⟨e107, hz108, h104⟩ := bind_some h104
   obtain ⟨b112, o113, _, hA114, h109, h110, hr111, hM⟩ := hM.elem (hM.dat (k := 1) rfl) (n := 1) rfl hz108
   obtain ⟨rfl, hv115⟩ := hr111
   refine q_ hf rfl rfl rfl (e_indexAddr (A := A42) (b := b112) (o := o113) (xs := e33.Next) (i := n89) hf hA114 rfl rfl Tryz.underlying45 Tryz.sizeOf2 h109 h110) fun a hf => ?_
   refine q_ hf rfl rfl rfl (e_load1 hf rfl Tryz.isAgg2 (hM.litCell (k := 0) (j := 0) rfl rfl rfl)) fun a hf => ?_
   refine q_ hf rfl rfl rfl (e_assign hf rfl) fun a hf => ?_
   refine pl_nil ?_
   refine then_n ?_
   refine region_pl ?_
   refine q_ hf rfl rfl rfl (e_move hf rfl) fun a hf => ?_
   refine q_ hf rfl rfl rfl (e_load1 hf rfl Tryz.isAgg101 (hM.litCell (k := 9) (j := 0) rfl rfl rfl)) fun a hf => ?_
   refine q_ hf rfl rfl rfl (e_move hf rfl) fun a hf => ?_
   have hM := hM.front (k := 6) rfl
   dsimp only [List.eraseIdx] at hM
   have hM := hM.front (k := 6) rfl
   dsimp only [List.eraseIdx] at hM
   have hM := hM.front (k := 6) rfl
   dsimp only [List.eraseIdx] at hM
   have hM := hM.front (k := 6) rfl
   dsimp only [List.eraseIdx] at hM
   have hM : Mem C _ ([.box b4 [vM b81] 139, .obj b81 (mapO fI fI mp80), .box b8 [vL A84 (xs83) c85] 31, .row NodeRep A84 c85 47 xs83 true] ++ [.row intRep A87 c88 2 xs86 true, .row NodeRep (some ⟨b52, 0, none⟩) 1 47 ([(⟨e33.Final, e33.Letters, ([] : (List Int))⟩ : Node)] : (List Node)) true, .box b45 [.bool (e33.Final), vS (e33.Letters), vL A42 (e33.Next) c43] 47]) _ := hM
   obtain ⟨y116, hz117, h104⟩ := bind_some h104
   refine pl_l hf rfl rfl rfl (w_callV hf (fk := 89) (fc := [vP b4 (0), vP b8 (0), vP b12 (o13), vP b16 (o17)]) rfl Tryz.call89 rfl (ih ⟨_, Sh C _ _, ownB _, hM.sh_lt, sub_dis, C.G, hM.g_lt, hM.g_own, hM.tabs⟩ e107 hv115 mp80 _ _ hv82 (⟨xs83⟩ : Dawg) _ _ _ p11 _ _ (hM.dat (k := 10) rfl) _ _ (hM.at_ (k := 9) rfl) hM.sub sub_dis _ hz117) ?_)
   rintro _ w123 ⟨b118, A120, c121, rfl, hM2, hv119, hv122⟩
   obtain ⟨hM, hup125⟩ := hM.backG hM2
   dsimp only [List.cons_append, List.nil_append] at hM hup125
   clear hM2
   refine ⟨_, rfl, fun a hf => ?_⟩
   refine pl_l hf rfl rfl rfl (w_slice hf hM (K := intRep) (xs := ([y116.1] : (List Int))) (os := [.tmp 56]) Tryz.underlying45 ei_2 rfl rfl rfl rfl rfl ⟨⟨[vI (y116.1)], rfl, ⟨rfl, hv122⟩⟩, trivial⟩ rfl fun b126 w127 hx128 hM a hf => ?_)
   obtain ⟨xs129, hz130, h104⟩ := bind_some h104
   refine pl_l hf rfl rfl rfl (w_append hf hM Tryz.underlying45 ei_2 rfl rfl rfl (k := 5) rfl (hM.srcRow (k := 0) rfl) hz130 fun A131 c132 w133 hM a hf => ?_)
   dsimp only [List.set] at hM
   refine q_ hf rfl rfl rfl (e_assign hf rfl) fun a hf => ?_
   refine pl_nil ?_
   refine blk_n ?_
   refine then_n ?_
   refine region_pl ?_
   obtain ⟨z136, hz137, h104⟩ := bind_some h104
   refine q_ hf rfl rfl rfl (e_add hf rfl rfl hz137) fun a hf => ?_
   refine q_ hf rfl rfl rfl (e_move hf rfl) fun a hf => ?_
   refine pl_nil ?_
   obtain rfl := some_inj h104
   refine then_n ⟨_, rfl, ?_⟩
   have hM := hM.front (k := 4) rfl
   dsimp only [List.eraseIdx] at hM
   have hM := hM.front (k := 4) rfl
   dsimp only [List.eraseIdx] at hM
   have hM := hM.front (k := 4) rfl
   dsimp only [List.eraseIdx] at hM
   have hM := hM.front (k := 4) rfl
   dsimp only [List.eraseIdx] at hM
   have hM := hM.front (k := 7) rfl
   dsimp only [List.eraseIdx] at hM
   have hM := hM.front (k := 7) rfl
   dsimp only [List.eraseIdx] at hM
   have hM := hM.front (k := 7) rfl
   dsimp only [List.eraseIdx] at hM
   exact ⟨y116.2.1, y116.2.2.Nodes, xs129, z136, b118, A120, c121, A131, c132, rfl, hf.keep ⟨rfl, rfl, rfl, rfl, rfl, rfl, rfl, trivial⟩, (hM.drop (.cons_cons _ (.cons_cons _ (.cons_cons _ (.cons_cons _ (.cons_cons _ (.cons_cons _ (.cons_cons _ (.cons _ .slnil))))))))).pick [1, 2, 3, 4, 5, 6, 7, 8, 9, 10] rfl, hv119, (chk_R hz137)⟩
  refine cond_f hf rfl hc106 ?_
  refine wp_exit ?_
  refine then_x ?_
  obtain rfl := some_inj h104
  obtain rfl := hd105 _ rfl
  try dsimp only at h78
  refine then_x ?_
  refine exit_hit ?_
  obtain rfl := some_inj h78
  refine then_n ?_
  exact ⟨mp80, xs83, xs86, b81, A84, c85, A87, c88, rfl, hf.keep ⟨rfl, rfl, rfl, trivial⟩, hM.pick [0, 1, 2, 3, 4, 5, 6, 7, 8, 9] rfl, hv82⟩
 rintro a w143 ⟨mp68, xs71, xs74, b69, A72, c73, A75, c76, rfl, hf, hM, hv70⟩
 try dsimp only at h
 refine wp_seq ?_
 refine region_pl ?_
 refine q_ hf rfl rfl rfl (e_field hf rfl Tryz.underlying31 rfl Tryz.sizeOf29 (o' := 0) rfl) fun a hf => ?_
 refine q_ hf rfl rfl rfl (e_load1 hf rfl Tryz.isAgg29 (hM.boxCell (k := 5) rfl rfl)) fun a hf => ?_
 iterate 2 refine q_ hf rfl rfl rfl (e_move hf rfl) fun a hf => ?_
 obtain ⟨e144, hz145, h⟩ := bind_some h
 obtain ⟨b150, _, hA151, h146, h147, hr148, hcell149⟩ := hM.rowElemN (k := 6) rfl (n := 3) rfl hz145
 obtain ⟨A153, c154, rfl, hv152, hv155⟩ := NodeRep_open hr148
 have hM := hM.add (y := .dat (sliceRep intRep) e144.Next [vL A153 e144.Next c154]) hv155
 refine q_ hf rfl rfl rfl (e_indexAddr (A := A72) (b := b150) (o := 0) (xs := xs71) (i := (p7.Nodes.length : Int)) hf hA151 rfl rfl Tryz.underlying29 Tryz.sizeOf47 h146 h147) fun a hf => ?_
 refine q_ hf rfl rfl rfl (e_field hf rfl Tryz.underlying47 rfl Tryz.sizeOf45 (o' := (0 + ((p7.Nodes.length : Int) : Int).toNat * 3) + 2) rfl) fun a hf => ?_
 have hM := hM.freezeRow (k := 0) rfl rfl
 dsimp only [List.eraseIdx] at hM
 obtain ⟨xs157, hz158, h⟩ := bind_some h
 refine pl_0 hf rfl rfl (w_storePart hf hM (x := (⟨e144.Final, e144.Letters, xs74⟩ : Node)) (us := [vL A75 (xs74) c76]) (row := [.bool (e144.Final), vS (e144.Letters), vL A153 (e144.Next) c154]) (i := (p7.Nodes.length : Int)) (d := 2) rfl rfl rfl hA151 (k := 5) rfl rfl Tryz.sizeOf45 hcell149 (NodeRep_mk (x := (⟨e144.Final, e144.Letters, xs74⟩ : Node)) hv152 (hM.dat (k := 0) rfl)) hz158 rfl rfl fun w156 hM => ?_)
 dsimp only [List.set] at hM
 have hf := hf.alter (d := 61) (v := vL A72 (xs157) c73) rfl (vL_len (setL_len hz158))
 rw [vL_len (A := A72) (c := c73) (setL_len hz158)] at hM
 refine pl_nil ?_
 refine then_n ?_
 refine wp_seq ?_
 refine region_pl ?_
 refine q_ hf rfl rfl rfl (e_move hf rfl) fun a hf => ?_
 refine q_ hf rfl rfl rfl (e_assign hf rfl) fun a hf => ?_
 refine pl_nil ?_
 refine then_n ?_
 refine wp_ret ?_
 obtain rfl := some_inj h
 have hM := hM.front (k := 5) rfl
 dsimp only [List.eraseIdx] at hM
 have hM := hM.front (k := 5) rfl
 dsimp only [List.eraseIdx] at hM
 have hM := hM.front (k := 5) rfl
 dsimp only [List.eraseIdx] at hM
 have hM := hM.front (k := 5) rfl
 dsimp only [List.eraseIdx] at hM
 have hM := hM.outs (own' := [.box b4 [vM b69] 139, .obj b69 (mapO fI fI mp68), .box b8 [vL A72 (xs157) c73] 31, .row NodeRep A72 c73 47 xs157 true]) 4 rfl
 exact leave1 hf rfl rfl ⟨b69, A72, c73, rfl, hM.fin, hv70, (R64_len hl20)⟩

theorem r_impl_maker_numbered_1_n : ∀ n, Ct_impl_maker_numbered_1 (m_impl_maker_numbered_1_n n)
  | 0 => fun C k1 hp2 p3 b4 b5 hp6 p7 b8 A9 c10 p11 b12 o13 hp14 b16 o17 hp18 hO hd r h => by cases h
  | n + 1 => r_impl_maker_numbered_1_b _ (r_impl_maker_numbered_1_n n)

theorem r_impl_maker_numbered_1 : Ct_impl_maker_numbered_1 (m_impl_maker_numbered_1) := r_impl_maker_numbered_1_n fuelN

set_option maxRecDepth 100000 in
set_option maxHeartbeats 4000000 in
theorem r_impl_maker_numbered (C : Cx) (m1 : maker) (b2 : Nat) (o3 : Nat) (hp4 : (ptrRep makerRep).R C.w0 C.S0 m1 [vP b2 o3]) (root5 : Int) (hp6 : R64 root5) (r : Dawg) (h : m_impl_maker_numbered m1 root5 = some r) :
    Calls Tryz.prog 59 #[vP b2 (o3), vI (root5)] C.w0 fun e w => ∃ (A_1 : Option Addr), ∃ (c_1 : Nat), e = .returned (.agg #[vL A_1 (r.Nodes) c_1]) ∧ Mem C w [.row NodeRep A_1 c_1 47 r.Nodes true] [] := by
 have hM := Mem.begin C [.dat (ptrRep makerRep) m1 [vP b2 o3]] ⟨hp4, trivial⟩
 refine enter Tryz.func59 rfl Tryz.ntmps59 rfl fun a hf => ?_
 unfold m_impl_maker_numbered at h
 refine wp_seq ?_
 refine region_pl ?_
 refine pl_l hf rfl rfl rfl (w_box hf hM (cs := [vP b2 (o3)]) rfl rfl fun b7 w8 hx9 hM a hf => ?_)
 refine pl_l hf rfl rfl rfl (w_alloc hM (cs := [vL none (([] : (List Node))) 0]) Tryz.zeroValue31 rfl fun b11 w12 hx13 hM a hf => ?_)
 refine pl_nil ?_
 refine then_n ?_
 refine wp_seq ?_
 refine region_pl ?_
 refine q_ hf rfl rfl rfl (e_build hf Tryz.zeroValue31 Tryz.underlying31 (bp_31 _ Tryz.underlying31.symm) rfl (cs := #[vL none (([] : (List Node))) 0]) (by kernel_rfl)) fun a hf => ?_
 refine pl_l hf rfl rfl rfl (w_makeMap fI fI hM fun b15 w16 hx17 hM a hf => ?_)
 refine pl_l hf rfl rfl rfl (w_alloc hM (cs := [vL none (([] : (List Node))) 0]) Tryz.zeroValue31 rfl fun b18 w19 hx20 hM a hf => ?_)
 refine pl_l hf rfl rfl rfl (w_alloc hM (cs := [.map none]) Tryz.zeroValue139 rfl fun b22 w23 hx24 hM a hf => ?_)
 refine pl_0 hf rfl rfl (w_store hf hM (us := [vL none (([] : (List Node))) 0]) (cs' := [vL none (([] : (List Node))) 0]) rfl rfl (k := 1) rfl rfl Tryz.sizeOf31 rfl rfl rfl fun w26 hM => ?_)
 dsimp only [List.set] at hM
 refine pl_0 hf rfl rfl (w_store hf hM (us := [vM b15]) (cs' := [vM b15]) rfl rfl (k := 0) rfl rfl Tryz.sizeOf139 rfl rfl rfl fun w29 hM => ?_)
 dsimp only [List.set] at hM
 refine pl_nil ?_
 refine then_n ?_
 refine wp_seq ?_
 refine region_pl ?_
 refine pl_l hf rfl rfl rfl (w_alloc hM (cs := [.nilFunc]) Tryz.zeroValue101 rfl fun b32 w33 hx34 hM a hf => ?_)
 refine pl_nil ?_
 refine then_n ?_
 refine wp_seq ?_
 refine region_pl ?_
 refine q_ hf rfl rfl rfl (w_makeFunc hf rfl) fun a hf => ?_
 refine pl_0 hf rfl rfl (w_store hf hM (us := [.func (.func 89) #[] #[vP b22 (0), vP b18 (0), vP b7 (0), vP b32 (0)]]) (cs' := [.func (.func 89) #[] #[vP b22 (0), vP b18 (0), vP b7 (0), vP b32 (0)]]) rfl rfl (k := 0) rfl rfl Tryz.sizeOf101 rfl rfl rfl fun w36 hM => ?_)
 dsimp only [List.set] at hM
 refine pl_nil ?_
 refine then_n ?_
 refine wp_seq ?_
 refine region_pl ?_
 refine q_ hf rfl rfl rfl (e_load1 hf rfl Tryz.isAgg101 (hM.boxCell (k := 0) rfl rfl)) fun a hf => ?_
 refine q_ hf rfl rfl rfl (e_move hf rfl) fun a hf => ?_
 have hM := hM.freezeBox (k := 0) rfl rfl
 dsimp only [List.eraseIdx] at hM
 have hM := hM.nilRow NodeRep 47
 have hM := hM.freezeBox (k := 5) rfl rfl
 dsimp only [List.eraseIdx] at hM
 have hM := hM.front (k := 0) rfl
 dsimp only [List.eraseIdx] at hM
 have hM := hM.front (k := 2) rfl
 dsimp only [List.eraseIdx] at hM
 have hM := hM.front (k := 3) rfl
 dsimp only [List.eraseIdx] at hM
 have hM := hM.front (k := 3) rfl
 dsimp only [List.eraseIdx] at hM
 have hM : Mem C _ ([.box b22 [vM b15] 139, .obj b15 (mapO fI fI ([] : (List (Int × Int)))), .box b18 [vL none (([] : (List Node))) 0] 31, .row NodeRep none 0 47 ([] : (List Node)) true] ++ [.box b11 [vL none (([] : (List Node))) 0] 31]) _ := hM
 obtain ⟨y39, hz40, h⟩ := bind_some h
 refine pl_l hf rfl rfl rfl (w_callV hf (fk := 89) (fc := [vP b22 (0), vP b18 (0), vP b7 (0), vP b32 (0)]) rfl Tryz.call89 rfl (r_impl_maker_numbered_1 ⟨_, Sh C _ _, ownB _, hM.sh_lt, sub_dis, C.G, hM.g_lt, hM.g_own, hM.tabs⟩ root5 hp6 ([] : (List (Int × Int))) _ _ MapR.nil (⟨([] : (List Node))⟩ : Dawg) _ _ _ m1 _ _ (hM.litPtr (k := 0) (d := 0) (us := [vP b2 (o3)]) rfl rfl rfl (hM.dat (k := 2) rfl)) _ _ (hM.at_ (k := 1) rfl) hM.sub sub_dis _ hz40) ?_)
 rintro _ w46 ⟨b41, A43, c44, rfl, hM2, hv42, hv45⟩
 obtain ⟨hM, hup48⟩ := hM.backG hM2
 dsimp only [List.cons_append, List.nil_append] at hM hup48
 clear hM2
 refine ⟨_, rfl, fun a hf => ?_⟩
 refine pl_nil ?_
 refine then_n ?_
 refine wp_seq ?_
 refine region_pl ?_
 refine q_ hf rfl rfl rfl (e_loadA hf (us := [vL A43 (y39.2.2.Nodes) c44]) rfl ⟨Tryz.isAgg31, Tryz.sizeOf31⟩ rfl (hM.boxSub (k := 2) (us := [vL A43 (y39.2.2.Nodes) c44]) (o := 0) rfl rfl)) fun a hf => ?_
 refine pl_0 hf rfl rfl (w_store hf hM (us := [vL A43 (y39.2.2.Nodes) c44]) (cs' := [vL A43 (y39.2.2.Nodes) c44]) rfl rfl (k := 4) rfl rfl Tryz.sizeOf31 rfl rfl rfl fun w49 hM => ?_)
 dsimp only [List.set] at hM
 refine pl_nil ?_
 refine then_n ?_
 refine wp_ret ?_
 obtain rfl := some_inj h
 have hres52 := leaveV1 (P := Tryz.prog) (w := w49) Tryz.results59 (res_agg hf rfl ⟨Tryz.isAgg31, Tryz.sizeOf31⟩ (us := [vL A43 (y39.2.2.Nodes) c44]) rfl (hM.boxSub (k := 4) (o := 0) rfl rfl))
 have hM := hM.front (k := 3) rfl
 dsimp only [List.eraseIdx] at hM
 have hM := hM.outs (own' := [.row NodeRep A43 c44 47 y39.2.2.Nodes true]) 1 rfl
 exact bodyPost_ret hres52 hf.defers ⟨A43, c44, rfl, hM.fin⟩

set_option maxRecDepth 100000 in
set_option maxHeartbeats 4000000 in
theorem r_impl_dawgOf (C : Cx) (list1 : (List Str)) (A2 : Option Addr) (c3 : Nat) (hp4 : (sliceRep strRep).R C.w0 C.S0 list1 [vL A2 list1 c3]) (r : (Dawg × Int)) (h : m_impl_dawgOf list1 = some r) :
    Calls Tryz.prog 30 #[vL A2 (list1) c3] C.w0 fun e w => ∃ (A_1 : Option Addr), ∃ (c_1 : Nat), e = .returned (.tuple #[.agg #[vL A_1 (r.1.Nodes) c_1], vI (r.2)]) ∧ Mem C w [.row NodeRep A_1 c_1 47 r.1.Nodes true] [] ∧ R64 r.2 := by
 have hM := Mem.begin C [.dat (sliceRep strRep) list1 [vL A2 list1 c3]] ⟨hp4, trivial⟩
 refine enter Tryz.func30 rfl Tryz.ntmps30 rfl fun a hf => ?_
 unfold m_impl_dawgOf at h
 refine wp_seq ?_
 refine region_pl ?_
 refine pl_l hf rfl rfl rfl (w_alloc hM (cs := [vL none (([] : (List Node))) 0]) Tryz.zeroValue31 rfl fun b5 w6 hx7 hM a hf => ?_)
 refine q_ hf rfl rfl rfl (e_assign hf rfl) fun a hf => ?_
 refine pl_nil ?_
 refine then_n ?_
 iterate 2 refine wp_seq ?_
 refine region_pl ?_
 refine q_ hf rfl rfl rfl (e_move hf rfl) fun a hf => ?_
 have hl9 := slice_len (hM.dat (k := 0) rfl)
 refine q_ hf rfl rfl rfl (e_lenL hf (x := list1) rfl Tryz.underlying24) fun a hf => ?_
 refine q_ hf rfl rfl rfl (e_gt hf (x := (list1.length : Int)) (y := 3000) rfl rfl) fun a hf => ?_
 refine pl_nil ?_
 refine then_n ?_
 rcases cond_some h with ⟨hc10, h⟩ | ⟨hc10, h⟩
 ·refine cond_t hf rfl hc10 ?_
  refine wp_seq ?_
  refine region_pl ?_
  refine q_ hf rfl rfl rfl (e_build hf Tryz.zeroValue31 Tryz.underlying31 (bp_31 _ Tryz.underlying31.symm) rfl (cs := #[vL none (([] : (List Node))) 0]) (by kernel_rfl)) fun a hf => ?_
  refine pl_0 hf rfl rfl (w_store hf hM (us := [vL none (([] : (List Node))) 0]) (cs' := [vL none (([] : (List Node))) 0]) rfl rfl (k := 0) rfl rfl Tryz.sizeOf31 rfl rfl rfl fun w11 hM => ?_)
  dsimp only [List.set] at hM
  refine q_ hf rfl rfl rfl (e_assign hf rfl) fun a hf => ?_
  refine pl_nil ?_
  refine then_n ?_
  refine wp_ret ?_
  refine then_r ?_
  obtain rfl := some_inj h
  have hres14 := leaveV2 (P := Tryz.prog) (w := w11) Tryz.results30 (res_agg hf rfl ⟨Tryz.isAgg31, Tryz.sizeOf31⟩ (us := [vL none (([] : (List Node))) 0]) rfl (hM.boxSub (k := 0) (o := 0) rfl rfl)) (res_tmp hf rfl)
  have hM := hM.nilRow NodeRep 47
  have hM := hM.outs (own' := [.row NodeRep none 0 47 ([] : (List Node)) true]) 1 rfl
  exact bodyPost_ret hres14 hf.defers ⟨none, 0, rfl, hM.fin, (R64_lit rfl)⟩
 refine cond_f hf rfl hc10 ?_
 refine wp_skip ?_
 refine then_n ?_
 refine wp_seq ?_
 refine region_pl ?_
 refine pl_l hf rfl rfl rfl (w_makeMap fS fI hM fun b15 w16 hx17 hM a hf => ?_)
 refine q_ hf rfl rfl rfl (e_build hf Tryz.zeroValue109 Tryz.underlying109 (bp_109 _ Tryz.underlying109.symm) rfl (cs := #[vL none (([] : (List Node))) 0, vM b15]) (by kernel_rfl)) fun a hf => ?_
 refine pl_l hf rfl rfl rfl (w_box hf hM (cs := [vL none (([] : (List Node))) 0, vM b15]) rfl rfl fun b18 w19 hx20 hM a hf => ?_)
 refine q_ hf rfl rfl rfl (e_assign hf rfl) fun a hf => ?_
 refine pl_nil ?_
 refine then_n ?_
 refine wp_seq ?_
 refine region_pl ?_
 iterate 3 refine q_ hf rfl rfl rfl (e_move hf rfl) fun a hf => ?_
 have hM := hM.nilRow NodeRep 47
 have hM := hM.front (k := 2) rfl
 dsimp only [List.eraseIdx] at hM
 have hM := hM.front (k := 1) rfl
 dsimp only [List.eraseIdx] at hM
 have hM := hM.front (k := 2) rfl
 dsimp only [List.eraseIdx] at hM
 have hM : Mem C _ ([.box b18 [vL none (([] : (List Node))) 0, vM b15] 109, .row NodeRep none 0 47 ([] : (List Node)) true, .obj b15 (mapO fS fI ([] : (List (Str × Int))))] ++ [.box b5 [vL none (([] : (List Node))) 0] 31]) _ := hM
 obtain ⟨y22, hz23, h⟩ := bind_some h
 refine pl_l hf rfl rfl rfl (w_call hf Tryz.call60 rfl (r_impl_maker_build ⟨_, Sh C _ _, ownB _, hM.sh_lt, sub_dis, C.G, hM.g_lt, hM.g_own, hM.tabs⟩ (⟨([] : (List Node)), ([] : (List (Str × Int)))⟩ : maker) _ _ _ _ MapR.nil list1 _ _ (hM.dat (k := 0) rfl) 0 (R64_lit rfl) hM.sub sub_dis _ hz23) ?_)
 rintro _ w29 ⟨A24, c25, b26, rfl, hM2, hv27, hv28⟩
 obtain ⟨hM, hup31⟩ := hM.backG hM2
 dsimp only [List.cons_append, List.nil_append] at hM hup31
 clear hM2
 refine ⟨_, rfl, fun a hf => ?_⟩
 have hM := hM.freezeRow (k := 1) rfl rfl
 dsimp only [List.eraseIdx] at hM
 have hM := hM.freezeMap (k := 1) rfl
 dsimp only [List.eraseIdx] at hM
 have hM := hM.freezeBox (k := 0) rfl rfl
 dsimp only [List.eraseIdx] at hM
 obtain ⟨y32, hz33, h⟩ := bind_some h
 refine pl_l hf rfl rfl rfl (w_call hf Tryz.call59 rfl (r_impl_maker_numbered ⟨_, Sh C _ _, none_, hM.sh_lt, none_not, C.G, hM.g_lt, g_none, hM.tabs⟩ y22.2 _ _ (hM.litPtr (k := 0) (d := 0) (us := [vL A24 (y22.2.nodes) c25, vM b26]) rfl rfl rfl (makerRep_mk (x := y22.2) (hM.dat (k := 2) rfl) (hM.dat (k := 1) rfl))) y22.1 hv28 _ hz33) ?_)
 rintro _ w36 ⟨A34, c35, rfl, hM2⟩
 obtain ⟨hM, hx37, hup38⟩ := hM.back hM2
 dsimp only [List.cons_append, List.nil_append] at hM hup38
 clear hM2
 refine ⟨_, rfl, fun a hf => ?_⟩
 refine pl_l hf rfl rfl rfl (w_alloc hM (cs := [vL none (([] : (List Node))) 0]) Tryz.zeroValue31 rfl fun b39 w40 hx41 hM a hf => ?_)
 refine pl_0 hf rfl rfl (w_store hf hM (us := [vL A34 (y32.Nodes) c35]) (cs' := [vL A34 (y32.Nodes) c35]) rfl rfl (k := 0) rfl rfl Tryz.sizeOf31 rfl rfl rfl fun w43 hM => ?_)
 dsimp only [List.set] at hM
 refine pl_nil ?_
 refine then_n ?_
 iterate 2 refine wp_seq ?_
 refine region_pl ?_
 refine q_ hf rfl rfl rfl (e_field hf rfl Tryz.underlying31 rfl Tryz.sizeOf29 (o' := 0) rfl) fun a hf => ?_
 refine q_ hf rfl rfl rfl (e_load1 hf rfl Tryz.isAgg29 (hM.boxCell (k := 0) rfl rfl)) fun a hf => ?_
 have hl46 := row_len (hM.ownAt (k := 1) rfl)
 refine q_ hf rfl rfl rfl (e_lenL hf (x := y32.Nodes) rfl Tryz.underlying29) fun a hf => ?_
 refine q_ hf rfl rfl rfl (e_gt hf (x := (y32.Nodes.length : Int)) (y := 3000) rfl rfl) fun a hf => ?_
 refine pl_nil ?_
 refine then_n ?_
 rcases cond_some h with ⟨hc47, h⟩ | ⟨hc47, h⟩
 ·refine cond_t hf rfl hc47 ?_
  refine wp_seq ?_
  refine region_pl ?_
  refine q_ hf rfl rfl rfl (e_build hf Tryz.zeroValue31 Tryz.underlying31 (bp_31 _ Tryz.underlying31.symm) rfl (cs := #[vL none (([] : (List Node))) 0]) (by kernel_rfl)) fun a hf => ?_
  refine pl_0 hf rfl rfl (w_store hf hM (us := [vL none (([] : (List Node))) 0]) (cs' := [vL none (([] : (List Node))) 0]) rfl rfl (k := 2) rfl rfl Tryz.sizeOf31 rfl rfl rfl fun w48 hM => ?_)
  dsimp only [List.set] at hM
  refine q_ hf rfl rfl rfl (e_assign hf rfl) fun a hf => ?_
  refine pl_nil ?_
  refine then_n ?_
  refine wp_ret ?_
  refine then_r ?_
  obtain rfl := some_inj h
  have hres51 := leaveV2 (P := Tryz.prog) (w := w48) Tryz.results30 (res_agg hf rfl ⟨Tryz.isAgg31, Tryz.sizeOf31⟩ (us := [vL none (([] : (List Node))) 0]) rfl (hM.boxSub (k := 2) (o := 0) rfl rfl)) (res_tmp hf rfl)
  have hM := hM.nilRow NodeRep 47
  have hM := hM.outs (own' := [.row NodeRep none 0 47 ([] : (List Node)) true]) 1 rfl
  exact bodyPost_ret hres51 hf.defers ⟨none, 0, rfl, hM.fin, (R64_lit rfl)⟩
 refine cond_f hf rfl hc47 ?_
 refine wp_skip ?_
 refine then_n ?_
 refine wp_seq ?_
 refine region_pl ?_
 refine q_ hf rfl rfl rfl (e_loadA hf (us := [vL A34 (y32.Nodes) c35]) rfl ⟨Tryz.isAgg31, Tryz.sizeOf31⟩ rfl (hM.boxSub (k := 0) (us := [vL A34 (y32.Nodes) c35]) (o := 0) rfl rfl)) fun a hf => ?_
 refine pl_0 hf rfl rfl (w_store hf hM (us := [vL A34 (y32.Nodes) c35]) (cs' := [vL A34 (y32.Nodes) c35]) rfl rfl (k := 2) rfl rfl Tryz.sizeOf31 rfl rfl rfl fun w52 hM => ?_)
 dsimp only [List.set] at hM
 refine q_ hf rfl rfl rfl (e_assign hf rfl) fun a hf => ?_
 refine pl_nil ?_
 refine then_n ?_
 refine wp_ret ?_
 obtain rfl := some_inj h
 have hres55 := leaveV2 (P := Tryz.prog) (w := w52) Tryz.results30 (res_agg hf rfl ⟨Tryz.isAgg31, Tryz.sizeOf31⟩ (us := [vL A34 (y32.Nodes) c35]) rfl (hM.boxSub (k := 2) (o := 0) rfl rfl)) (res_tmp hf rfl)
 have hM := hM.front (k := 1) rfl
 dsimp only [List.eraseIdx] at hM
 have hM := hM.outs (own' := [.row NodeRep A34 c35 47 y32.Nodes true]) 1 rfl
 exact bodyPost_ret hres55 hf.defers ⟨A34, c35, rfl, hM.fin, (R64_lit rfl)⟩

set_option maxRecDepth 100000 in
set_option maxHeartbeats 4000000 in
theorem r_impl_BuildDawg (C : Cx) (l1 : Lexicon) (A2 : Option Addr) (c3 : Nat) (hp4 : (sliceRep strRep).R C.w0 C.S0 l1.Words [vL A2 l1.Words c3]) (r : (Dawg × Int)) (h : m_impl_BuildDawg l1 = some r) :
    Calls Tryz.prog 8 #[.agg #[vL A2 (l1.Words) c3]] C.w0 fun e w => ∃ (A_1 : Option Addr), ∃ (c_1 : Nat), e = .returned (.tuple #[.agg #[vL A_1 (r.1.Nodes) c_1], vI (r.2)]) ∧ Mem C w [.row NodeRep A_1 c_1 47 r.1.Nodes true] [] ∧ R64 r.2 := by
 have hM := Mem.begin C [.dat (sliceRep strRep) l1.Words [vL A2 l1.Words c3]] ⟨hp4, trivial⟩
 refine enter Tryz.func8 rfl Tryz.ntmps8 rfl fun a hf => ?_
 unfold m_impl_BuildDawg at h
 refine wp_seq ?_
 refine region_pl ?_
 refine pl_l hf rfl rfl rfl (w_box hf hM (cs := [vL A2 (l1.Words) c3]) rfl rfl fun b5 w6 hx7 hM a hf => ?_)
 refine pl_l hf rfl rfl rfl (w_alloc hM (cs := [vL none (([] : (List Node))) 0]) Tryz.zeroValue31 rfl fun b9 w10 hx11 hM a hf => ?_)
 refine q_ hf rfl rfl rfl (e_assign hf rfl) fun a hf => ?_
 refine pl_nil ?_
 refine then_n ?_
 iterate 2 refine wp_seq ?_
 refine region_pl ?_
 refine q_ hf rfl rfl rfl (e_loadA hf (us := [vL A2 (l1.Words) c3]) rfl ⟨Tryz.isAgg26, Tryz.sizeOf26⟩ rfl (hM.boxSub (k := 1) (us := [vL A2 (l1.Words) c3]) (o := 0) rfl rfl)) fun a hf => ?_
 obtain ⟨y13, hz14, h⟩ := bind_some h
 refine pl_l hf rfl rfl rfl (w_call hf Tryz.call29 rfl (r_impl_ValidLexicon ⟨_, Sh C _ _, none_, hM.sh_lt, none_not, C.G, hM.g_lt, g_none, hM.tabs⟩ l1 _ _ (hM.dat (k := 0) rfl) _ hz14) ?_)
 rintro _ w15 ⟨rfl, hM2⟩
 obtain ⟨hM, hx16, hup17⟩ := hM.back hM2
 dsimp only [List.cons_append, List.nil_append] at hM hup17
 clear hM2
 refine ⟨_, rfl, fun a hf => ?_⟩
 refine q_ hf rfl rfl rfl (e_not hf rfl) fun a hf => ?_
 refine pl_nil ?_
 refine then_n ?_
 rcases cond_some h with ⟨hc18, h⟩ | ⟨hc18, h⟩
 ·refine cond_t hf rfl hc18 ?_
  refine wp_seq ?_
  refine region_pl ?_
  refine q_ hf rfl rfl rfl (e_build hf Tryz.zeroValue31 Tryz.underlying31 (bp_31 _ Tryz.underlying31.symm) rfl (cs := #[vL none (([] : (List Node))) 0]) (by kernel_rfl)) fun a hf => ?_
  refine pl_0 hf rfl rfl (w_store hf hM (us := [vL none (([] : (List Node))) 0]) (cs' := [vL none (([] : (List Node))) 0]) rfl rfl (k := 0) rfl rfl Tryz.sizeOf31 rfl rfl rfl fun w19 hM => ?_)
  dsimp only [List.set] at hM
  refine q_ hf rfl rfl rfl (e_assign hf rfl) fun a hf => ?_
  refine pl_nil ?_
  refine then_n ?_
  refine wp_ret ?_
  refine then_r ?_
  obtain rfl := some_inj h
  have hres22 := leaveV2 (P := Tryz.prog) (w := w19) Tryz.results8 (res_agg hf rfl ⟨Tryz.isAgg31, Tryz.sizeOf31⟩ (us := [vL none (([] : (List Node))) 0]) rfl (hM.boxSub (k := 0) (o := 0) rfl rfl)) (res_tmp hf rfl)
  have hM := hM.nilRow NodeRep 47
  have hM := hM.outs (own' := [.row NodeRep none 0 47 ([] : (List Node)) true]) 1 rfl
  exact bodyPost_ret hres22 hf.defers ⟨none, 0, rfl, hM.fin, (R64_lit rfl)⟩
 refine cond_f hf rfl hc18 ?_
 refine wp_skip ?_
 refine then_n ?_
 refine wp_seq ?_
 refine region_pl ?_
 refine q_ hf rfl rfl rfl (e_field hf rfl Tryz.underlying26 rfl Tryz.sizeOf24 (o' := 0) rfl) fun a hf => ?_
 refine q_ hf rfl rfl rfl (e_load1 hf rfl Tryz.isAgg24 (hM.boxCell (k := 1) rfl rfl)) fun a hf => ?_
 obtain ⟨y23, hz24, h⟩ := bind_some h
 refine pl_l hf rfl rfl rfl (w_call hf Tryz.call30 rfl (r_impl_dawgOf ⟨_, Sh C _ _, none_, hM.sh_lt, none_not, C.G, hM.g_lt, g_none, hM.tabs⟩ l1.Words _ _ (hM.dat (k := 0) rfl) _ hz24) ?_)
 rintro _ w28 ⟨A25, c26, rfl, hM2, hv27⟩
 obtain ⟨hM, hx29, hup30⟩ := hM.back hM2
 dsimp only [List.cons_append, List.nil_append] at hM hup30
 clear hM2
 refine ⟨_, rfl, fun a hf => ?_⟩
 iterate 2 refine q_ hf rfl rfl rfl (e_extract hf rfl rfl) fun a hf => ?_
 refine pl_0 hf rfl rfl (w_store hf hM (us := [vL A25 (y23.1.Nodes) c26]) (cs' := [vL A25 (y23.1.Nodes) c26]) rfl rfl (k := 1) rfl rfl Tryz.sizeOf31 rfl rfl rfl fun w31 hM => ?_)
 dsimp only [List.set] at hM
 refine q_ hf rfl rfl rfl (e_assign hf rfl) fun a hf => ?_
 refine pl_nil ?_
 refine then_n ?_
 refine wp_ret ?_
 obtain rfl := some_inj h
 have hres34 := leaveV2 (P := Tryz.prog) (w := w31) Tryz.results8 (res_agg hf rfl ⟨Tryz.isAgg31, Tryz.sizeOf31⟩ (us := [vL A25 (y23.1.Nodes) c26]) rfl (hM.boxSub (k := 1) (o := 0) rfl rfl)) (res_tmp hf rfl)
 have hM := hM.outs (own' := [.row NodeRep A25 c26 47 y23.1.Nodes true]) 1 rfl
 exact bodyPost_ret hres34 hf.defers ⟨A25, c26, rfl, hM.fin, hv27⟩

set_option maxRecDepth 100000 in
set_option maxHeartbeats 4000000 in
theorem r_impl_formByte (C : Cx) (c1 : UInt8) (r : Bool) (h : m_impl_formByte c1 = some r) :
    Calls Tryz.prog 69 #[vB (c1)] C.w0 fun e w => e = .returned (.bool (r)) ∧ Mem C w [] [] := by
 have hM := Mem.begin C [] trivial
 refine enter Tryz.func69 rfl Tryz.ntmps69 rfl fun a hf => ?_
 unfold m_impl_formByte at h
 refine wp_seq ?_
 refine region_pl ?_
 refine q_ hf rfl rfl rfl (e_assign hf rfl) fun a hf => ?_
 refine pl_nil ?_
 refine then_n ?_
 obtain ⟨x4, h5, h⟩ := bind_some h
 refine seq_join (fun a w => ∃ (t2 : Bool), t2 = x4 ∧ Has 9 a [(2, .bool (t2))] ∧ Mem C w [] []) ?_ ?_
 ·refine region_pl ?_
  refine q_ hf rfl rfl rfl (e_move hf rfl) fun a hf => ?_
  obtain ⟨y6, hz7, h5⟩ := bind_some h5
  refine pl_l hf rfl rfl rfl (w_call hf Tryz.call100 rfl (r_impl_small ⟨_, Sh C _ _, none_, hM.sh_lt, none_not, C.G, hM.g_lt, g_none, hM.tabs⟩ c1 _ hz7) ?_)
  rintro _ w8 ⟨rfl, hM2⟩
  obtain ⟨hM, hx9, hup10⟩ := hM.back hM2
  dsimp only [List.cons_append, List.nil_append] at hM hup10
  clear hM2
  refine ⟨_, rfl, fun a hf => ?_⟩
  refine q_ hf rfl rfl rfl (e_move hf rfl) fun a hf => ?_
  rcases cond_some h5 with ⟨hc11, h5⟩ | ⟨hc11, h5⟩
  ·iterate 2 refine pl_gs (wanted_f hf rfl rfl rfl rfl hc11) hf rfl rfl fun a hf => ?_
   refine q_ hf rfl rfl rfl (e_pick_t hf rfl hc11 rfl) fun a hf => ?_
   refine q_ hf rfl rfl rfl (e_assign hf rfl) fun a hf => ?_
   refine pl_nil ?_
   obtain rfl := some_inj h5
   refine then_n ?_
   exact ⟨true, rfl, hf.keep ⟨rfl, trivial⟩, hM.pick [] rfl⟩
  refine gq (wanted_t hf rfl rfl rfl rfl hc11) hf rfl rfl (e_move hf rfl) fun a hf => ?_
  refine gq (wanted_t hf rfl rfl rfl rfl hc11) hf rfl rfl (e_eqB hf (x := c1) (y := 62) rfl rfl) fun a hf => ?_
  refine q_ hf rfl rfl rfl (e_pick_f hf rfl hc11 rfl) fun a hf => ?_
  refine q_ hf rfl rfl rfl (e_assign hf rfl) fun a hf => ?_
  refine pl_nil ?_
  obtain rfl := some_inj h5
  refine then_n ?_
  exact ⟨(c1 == 62), rfl, hf.keep ⟨rfl, trivial⟩, hM.pick [] rfl⟩
 rintro a w14 ⟨t2, rfl, hf, hM⟩
 try dsimp only at h
 refine wp_ret ?_
 obtain rfl := some_inj h
 exact leave1 hf rfl rfl ⟨rfl, hM.fin⟩

set_option maxRecDepth 100000 in
set_option maxHeartbeats 4000000 in
theorem r_impl_within (C : Cx) (x1 : Int) (hp2 : R64 x1) (low3 : Int) (hp4 : R64 low3) (high5 : Int) (hp6 : R64 high5) (r : Bool) (h : m_impl_within x1 low3 high5 = some r) :
    Calls Tryz.prog 70 #[vI (x1), vI (low3), vI (high5)] C.w0 fun e w => e = .returned (.bool (r)) ∧ Mem C w [] [] := by
 have hM := Mem.begin C [] trivial
 refine enter Tryz.func70 rfl Tryz.ntmps70 rfl fun a hf => ?_
 unfold m_impl_within at h
 refine wp_seq ?_
 refine region_pl ?_
 refine q_ hf rfl rfl rfl (e_assign hf rfl) fun a hf => ?_
 refine pl_nil ?_
 refine then_n ?_
 obtain ⟨x9, h10, h⟩ := bind_some h
 refine seq_join (fun a w => ∃ (t7 : Bool), t7 = x9 ∧ Has 15 a [(6, .bool (t7))] ∧ Mem C w [] []) ?_ ?_
 ·refine region_pl ?_
  iterate 2 refine q_ hf rfl rfl rfl (e_move hf rfl) fun a hf => ?_
  refine q_ hf rfl rfl rfl (e_le hf (x := low3) (y := x1) rfl rfl) fun a hf => ?_
  refine q_ hf rfl rfl rfl (e_move hf rfl) fun a hf => ?_
  rcases cond_some h10 with ⟨hc11, h10⟩ | ⟨hc11, h10⟩
  ·iterate 2 refine gq (wanted_t hf rfl rfl rfl rfl hc11) hf rfl rfl (e_move hf rfl) fun a hf => ?_
   refine gq (wanted_t hf rfl rfl rfl rfl hc11) hf rfl rfl (e_le hf (x := x1) (y := high5) rfl rfl) fun a hf => ?_
   refine q_ hf rfl rfl rfl (e_pick_t hf rfl hc11 rfl) fun a hf => ?_
   refine q_ hf rfl rfl rfl (e_assign hf rfl) fun a hf => ?_
   refine pl_nil ?_
   obtain rfl := some_inj h10
   refine then_n ?_
   exact ⟨(decide (x1 ≤ high5)), rfl, hf.keep ⟨rfl, trivial⟩, hM.pick [] rfl⟩
  iterate 3 refine pl_gs (wanted_f hf rfl rfl rfl rfl hc11) hf rfl rfl fun a hf => ?_
  refine q_ hf rfl rfl rfl (e_pick_f hf rfl hc11 rfl) fun a hf => ?_
  refine q_ hf rfl rfl rfl (e_assign hf rfl) fun a hf => ?_
  refine pl_nil ?_
  obtain rfl := some_inj h10
  refine then_n ?_
  exact ⟨false, rfl, hf.keep ⟨rfl, trivial⟩, hM.pick [] rfl⟩
 rintro a w14 ⟨t7, rfl, hf, hM⟩
 try dsimp only at h
 refine wp_ret ?_
 obtain rfl := some_inj h
 exact leave1 hf rfl rfl ⟨rfl, hM.fin⟩

set_option maxRecDepth 100000 in
set_option maxHeartbeats 4000000 in
theorem r_impl_nodesOk (C : Cx) (d1 : Dawg) (A2 : Option Addr) (c3 : Nat) (hp4 : (sliceRep NodeRep).R C.w0 C.S0 d1.Nodes [vL A2 d1.Nodes c3]) (r : Bool) (h : m_impl_nodesOk d1 = some r) :
    Calls Tryz.prog 41 #[.agg #[vL A2 (d1.Nodes) c3]] C.w0 fun e w => e = .returned (.bool (r)) ∧ Mem C w [] [] := by
 have hM := Mem.begin C [.dat (sliceRep NodeRep) d1.Nodes [vL A2 d1.Nodes c3]] ⟨hp4, trivial⟩
 refine enter Tryz.func41 rfl Tryz.ntmps41 rfl fun a hf => ?_
 unfold m_impl_nodesOk at h
 refine wp_seq ?_
 refine region_pl ?_
 refine pl_l hf rfl rfl rfl (w_box hf hM (cs := [vL A2 (d1.Nodes) c3]) rfl rfl fun b5 w6 hx7 hM a hf => ?_)
 refine q_ hf rfl rfl rfl (e_assign hf rfl) fun a hf => ?_
 refine pl_nil ?_
 refine then_n ?_
 refine wp_seq ?_
 obtain ⟨x11, h12, h⟩ := bind_some h
 refine seq_join (fun a w => ∃ (t9 : Bool), t9 = x11 ∧ Has 72 a [(1, vP b5 (0)), (16, .bool (t9))] ∧ Mem C w [.box b5 [vL A2 (d1.Nodes) c3] 31] [.dat (sliceRep NodeRep) d1.Nodes [vL A2 d1.Nodes c3]]) ?_ ?_
 ·refine region_pl ?_
  refine q_ hf rfl rfl rfl (e_field hf rfl Tryz.underlying31 rfl Tryz.sizeOf29 (o' := 0) rfl) fun a hf => ?_
  refine q_ hf rfl rfl rfl (e_load1 hf rfl Tryz.isAgg29 (hM.boxCell (k := 0) rfl rfl)) fun a hf => ?_
  have hl13 := slice_len (hM.dat (k := 0) rfl)
  refine q_ hf rfl rfl rfl (e_lenL hf (x := d1.Nodes) rfl Tryz.underlying29) fun a hf => ?_
  refine q_ hf rfl rfl rfl (e_lt hf (x := (d1.Nodes.length : Int)) (y := 1) rfl rfl) fun a hf => ?_
  refine q_ hf rfl rfl rfl (e_move hf rfl) fun a hf => ?_
  rcases cond_some h12 with ⟨hc14, h12⟩ | ⟨hc14, h12⟩
  ·iterate 4 refine pl_gs (wanted_f hf rfl rfl rfl rfl hc14) hf rfl rfl fun a hf => ?_
   refine q_ hf rfl rfl rfl (e_pick_t hf rfl hc14 rfl) fun a hf => ?_
   refine pl_nil ?_
   obtain rfl := some_inj h12
   refine then_n ?_
   exact ⟨true, rfl, hf.keep ⟨rfl, rfl, trivial⟩, hM.pick [0] rfl⟩
  refine gq (wanted_t hf rfl rfl rfl rfl hc14) hf rfl rfl (e_field hf rfl Tryz.underlying31 rfl Tryz.sizeOf29 (o' := 0) rfl) fun a hf => ?_
  refine gq (wanted_t hf rfl rfl rfl rfl hc14) hf rfl rfl (e_load1 hf rfl Tryz.isAgg29 (hM.boxCell (k := 0) rfl rfl)) fun a hf => ?_
  have hl16 := slice_len (hM.dat (k := 0) rfl)
  refine gq (wanted_t hf rfl rfl rfl rfl hc14) hf rfl rfl (e_lenL hf (x := d1.Nodes) rfl Tryz.underlying29) fun a hf => ?_
  refine gq (wanted_t hf rfl rfl rfl rfl hc14) hf rfl rfl (e_gt hf (x := (d1.Nodes.length : Int)) (y := 3000) rfl rfl) fun a hf => ?_
  refine q_ hf rfl rfl rfl (e_pick_f hf rfl hc14 rfl) fun a hf => ?_
  refine pl_nil ?_
  obtain rfl := some_inj h12
  refine then_n ?_
  exact ⟨(decide (3000 < (d1.Nodes.length : Int))), rfl, hf.keep ⟨rfl, rfl, trivial⟩, hM.pick [0] rfl⟩
 rintro a w18 ⟨t9, rfl, hf, hM⟩
 try dsimp only at h
 rcases cond_some h with ⟨hc19, h⟩ | ⟨hc19, h⟩
 ·refine cond_t hf rfl hc19 ?_
  refine wp_seq ?_
  refine region_pl ?_
  refine q_ hf rfl rfl rfl (e_assign hf rfl) fun a hf => ?_
  refine pl_nil ?_
  refine then_n ?_
  refine wp_ret ?_
  refine then_r ?_
  obtain rfl := some_inj h
  have hM := hM.outs (own' := []) 0 rfl
  exact leave1 hf rfl rfl ⟨rfl, hM.fin⟩
 refine cond_f hf rfl hc19 ?_
 refine wp_skip ?_
 refine then_n ?_
 obtain ⟨x20, h21, h⟩ := bind_some h
 refine seq_join (fun a w => (.inl ()) = x20 ∧ Has 72 a [] ∧ Mem C w [.box b5 [vL A2 (d1.Nodes) c3] 31] [.dat (sliceRep NodeRep) d1.Nodes [vL A2 d1.Nodes c3]]) ?_ ?_
 ·refine wp_seq ?_
  refine region_pl ?_
  refine q_ hf rfl rfl rfl (e_field hf rfl Tryz.underlying31 rfl Tryz.sizeOf29 (o' := 0) rfl) fun a hf => ?_
  refine q_ hf rfl rfl rfl (e_load1 hf rfl Tryz.isAgg29 (hM.boxCell (k := 0) rfl rfl)) fun a hf => ?_
  have hl22 := slice_len (hM.dat (k := 0) rfl)
  refine q_ hf rfl rfl rfl (e_lenL hf (x := d1.Nodes) rfl Tryz.underlying29) fun a hf => ?_
  refine q_ hf rfl rfl rfl (e_move hf rfl) fun a hf => ?_
  refine pl_nil ?_
  refine then_n ?_
  refine wp_block ?_
  obtain ⟨x26, h27, h21⟩ := bind_some h21
  refine wp_loopM h27 (fun s a w => ∃ (n23 : Int), n23 = s ∧ Has 72 a [(1, vP b5 (0)), (18, vL A2 (d1.Nodes) c3), (19, vI ((d1.Nodes.length : Int))), (20, vI (n23))] ∧ Mem C w [.box b5 [vL A2 (d1.Nodes) c3] 31] [.dat (sliceRep NodeRep) d1.Nodes [vL A2 d1.Nodes c3]] ∧ R64 n23) ?_ ?_
  ·exact ⟨0, rfl, hf.keep ⟨rfl, rfl, rfl, rfl, trivial⟩, hM.pick [0] rfl, (R64_lit rfl)⟩
  rintro s o28 a w25 ⟨n23, rfl, hf, hM, hv24⟩ h29 hd30
  replace h29 : m_impl_nodesOk_l1 d1 n23 = some o28 := h29
  unfold m_impl_nodesOk_l1 at h29
  refine wp_seq ?_
  refine region_pl ?_
  refine q_ hf rfl rfl rfl (e_lt hf (x := n23) (y := (d1.Nodes.length : Int)) rfl rfl) fun a hf => ?_
  refine pl_nil ?_
  refine then_n ?_
  refine wp_seq ?_
  rcases cond_some h29 with ⟨hc31, h29⟩ | ⟨hc31, h29⟩
  ·refine cond_t hf rfl hc31 ?_
   refine wp_skip ?_
   refine then_n ?_
   obtain ⟨x32, h33, h29⟩ := bind_some h29
   refine seq_join (fun a w => (.inl ()) = x32 ∧ Has 72 a [(1, vP b5 (0)), (18, vL A2 (d1.Nodes) c3), (19, vI ((d1.Nodes.length : Int))), (20, vI (n23))] ∧ Mem C w [.box b5 [vL A2 (d1.Nodes) c3] 31] [.dat (sliceRep NodeRep) d1.Nodes [vL A2 d1.Nodes c3]]) ?_ ?_
   ·refine wp_block ?_
    refine wp_seq ?_
    refine region_pl ?_
    obtain ⟨e34, hz35, h33⟩ := bind_some h33
    obtain ⟨b39, o40, _, hA41, h36, h37, hr38, hM⟩ := hM.elem (hM.dat (k := 0) rfl) (n := 3) rfl hz35
    obtain ⟨A43, c44, rfl, hv42, hv45⟩ := NodeRep_open hr38
    have hM := hM.add (y := .dat (sliceRep intRep) e34.Next [vL A43 e34.Next c44]) hv45
    refine q_ hf rfl rfl rfl (e_indexAddr (A := A2) (b := b39) (o := o40) (xs := d1.Nodes) (i := n23) hf hA41 rfl rfl Tryz.underlying29 Tryz.sizeOf47 h36 h37) fun a hf => ?_
    refine q_ hf rfl rfl rfl (e_loadA hf (us := [.bool (e34.Final), vS (e34.Letters), vL A43 (e34.Next) c44]) rfl ⟨Tryz.isAgg47, Tryz.sizeOf47⟩ rfl (hM.litSub (k := 1) (d := 0) (us := [.bool (e34.Final), vS (e34.Letters), vL A43 (e34.Next) c44]) rfl rfl rfl)) fun a hf => ?_
    refine pl_l hf rfl rfl rfl (w_alloc hM (cs := [.bool (false), vS (([] : Str)), vL none (([] : (List Int))) 0]) Tryz.zeroValue47 rfl fun b46 w47 hx48 hM a hf => ?_)
    refine pl_0 hf rfl rfl (w_store hf hM (us := [.bool (e34.Final), vS (e34.Letters), vL A43 (e34.Next) c44]) (cs' := [.bool (e34.Final), vS (e34.Letters), vL A43 (e34.Next) c44]) rfl rfl (k := 0) rfl rfl Tryz.sizeOf47 rfl rfl rfl fun w50 hM => ?_)
    dsimp only [List.set] at hM
    refine pl_nil ?_
    refine then_n ?_
    iterate 2 refine wp_seq ?_
    refine region_pl ?_
    refine q_ hf rfl rfl rfl (e_field hf rfl Tryz.underlying47 rfl Tryz.sizeOf9 (o' := 1) rfl) fun a hf => ?_
    refine q_ hf rfl rfl rfl (e_load1 hf rfl Tryz.isAgg9 (hM.boxCell (k := 0) rfl rfl)) fun a hf => ?_
    refine q_ hf rfl rfl rfl (e_lenS hf (x := e34.Letters) rfl Tryz.underlying9) fun a hf => ?_
    refine q_ hf rfl rfl rfl (e_field hf rfl Tryz.underlying47 rfl Tryz.sizeOf45 (o' := 2) rfl) fun a hf => ?_
    refine q_ hf rfl rfl rfl (e_load1 hf rfl Tryz.isAgg45 (hM.boxCell (k := 0) rfl rfl)) fun a hf => ?_
    have hl53 := slice_len (hM.dat (k := 0) rfl)
    refine q_ hf rfl rfl rfl (e_lenL hf (x := e34.Next) rfl Tryz.underlying45) fun a hf => ?_
    refine q_ hf rfl rfl rfl (e_ne hf (x := (e34.Letters.length : Int)) (y := (e34.Next.length : Int)) rfl rfl) fun a hf => ?_
    refine pl_nil ?_
    refine then_n ?_
    rcases cond_some h33 with ⟨hc54, h33⟩ | ⟨hc54, h33⟩
    ·refine cond_t hf rfl hc54 ?_
     refine wp_seq ?_
     refine region_pl ?_
     refine q_ hf rfl rfl rfl (e_assign hf rfl) fun a hf => ?_
     refine pl_nil ?_
     refine then_n ?_
     refine wp_ret ?_
     refine then_r ?_
     refine blk_r ?_
     obtain rfl := some_inj h33
     try dsimp only at h29
     refine then_r ?_
     obtain rfl := some_inj h29
     obtain rfl := hd30 _ rfl
     try dsimp only at h21
     refine then_r ?_
     refine blk_r ?_
     obtain rfl := some_inj h21
     try dsimp only at h
     refine then_r ?_
     obtain rfl := some_inj h
     have hM := hM.outs (own' := []) 0 rfl
     exact leave1 hf rfl rfl ⟨rfl, hM.fin⟩
    refine cond_f hf rfl hc54 ?_
    refine wp_skip ?_
    refine then_n ?_
    refine wp_seq ?_
    refine region_pl ?_
    refine q_ hf rfl rfl rfl (e_field hf rfl Tryz.underlying47 rfl Tryz.sizeOf45 (o' := 2) rfl) fun a hf => ?_
    refine q_ hf rfl rfl rfl (e_load1 hf rfl Tryz.isAgg45 (hM.boxCell (k := 0) rfl rfl)) fun a hf => ?_
    have hl55 := slice_len (hM.dat (k := 0) rfl)
    refine q_ hf rfl rfl rfl (e_lenL hf (x := e34.Next) rfl Tryz.underlying45) fun a hf => ?_
    refine q_ hf rfl rfl rfl (e_move hf rfl) fun a hf => ?_
    refine pl_nil ?_
    refine then_n ?_
    refine wp_block ?_
    obtain ⟨x59, h60, h33⟩ := bind_some h33
    refine wp_loopM h60 (fun s a w => ∃ (n56 : Int), n56 = s ∧ Has 72 a [(1, vP b5 (0)), (4, vP b46 (0)), (18, vL A2 (d1.Nodes) c3), (19, vI ((d1.Nodes.length : Int))), (20, vI (n23)), (32, vL A43 (e34.Next) c44), (33, vI ((e34.Next.length : Int))), (34, vI (n56))] ∧ Mem C w [.box b46 [.bool (e34.Final), vS (e34.Letters), vL A43 (e34.Next) c44] 47, .box b5 [vL A2 (d1.Nodes) c3] 31] [.dat (sliceRep intRep) e34.Next [vL A43 e34.Next c44], .lit b39 (o40 + (n23 : Int).toNat * 3) [.bool (e34.Final), vS (e34.Letters), vL A43 (e34.Next) c44], .dat (sliceRep NodeRep) d1.Nodes [vL A2 d1.Nodes c3]] ∧ R64 n56) ?_ ?_
    ·exact ⟨0, rfl, hf.keep ⟨rfl, rfl, rfl, rfl, rfl, rfl, rfl, rfl, trivial⟩, hM.pick [0, 1, 2] rfl, (R64_lit rfl)⟩
    rintro s o61 a w58 ⟨n56, rfl, hf, hM, hv57⟩ h62 hd63
    replace h62 : m_impl_nodesOk_l2 e34 d1 n56 = some o61 := h62
    unfold m_impl_nodesOk_l2 at h62
    refine wp_seq ?_
    refine region_pl ?_
    refine q_ hf rfl rfl rfl (e_lt hf (x := n56) (y := (e34.Next.length : Int)) rfl rfl) fun a hf => ?_
    refine pl_nil ?_
    refine then_n ?_
    refine wp_seq ?_
    rcases cond_some h62 with ⟨hc64, h62⟩ | ⟨hc64, h62⟩
    ·refine cond_t hf rfl hc64 ?_
     refine wp_skip ?_
     refine then_n ?_
     refine wp_seq ?_
     refine wp_block ?_
     refine wp_seq ?_
     refine region_pl ?_
     refine q_ hf rfl rfl rfl (e_move hf rfl) fun a hf => ?_
     obtain ⟨e65, hz66, h62⟩ := bind_some h62
     obtain ⟨b70, o71, _, hA72, h67, h68, hr69, hM⟩ := hM.elem (hM.dat (k := 0) rfl) (n := 1) rfl hz66
     obtain ⟨rfl, hv73⟩ := hr69
     refine q_ hf rfl rfl rfl (e_indexAddr (A := A43) (b := b70) (o := o71) (xs := e34.Next) (i := n56) hf hA72 rfl rfl Tryz.underlying45 Tryz.sizeOf2 h67 h68) fun a hf => ?_
     refine q_ hf rfl rfl rfl (e_load1 hf rfl Tryz.isAgg2 (hM.litCell (k := 0) (j := 0) rfl rfl rfl)) fun a hf => ?_
     iterate 2 refine q_ hf rfl rfl rfl (e_assign hf rfl) fun a hf => ?_
     refine pl_nil ?_
     refine then_n ?_
     obtain ⟨x76, h77, h62⟩ := bind_some h62
     refine seq_join (fun a w => ∃ (t74 : Bool), t74 = x76 ∧ Has 72 a [(1, vP b5 (0)), (4, vP b46 (0)), (18, vL A2 (d1.Nodes) c3), (19, vI ((d1.Nodes.length : Int))), (20, vI (n23)), (32, vL A43 (e34.Next) c44), (33, vI ((e34.Next.length : Int))), (34, vI (n56)), (69, .bool (t74))] ∧ Mem C w [.box b46 [.bool (e34.Final), vS (e34.Letters), vL A43 (e34.Next) c44] 47, .box b5 [vL A2 (d1.Nodes) c3] 31] [.lit b70 (o71 + (n56 : Int).toNat * 1) [vI (e65)], .dat (sliceRep intRep) e34.Next [vL A43 e34.Next c44], .lit b39 (o40 + (n23 : Int).toNat * 3) [.bool (e34.Final), vS (e34.Letters), vL A43 (e34.Next) c44], .dat (sliceRep NodeRep) d1.Nodes [vL A2 d1.Nodes c3]]) ?_ ?_
     ·obtain ⟨w78, hw⟩ : ∃ x, x = w58.drew := ⟨_, rfl⟩
      refine region_pi (.q 0 (.q 1 (.q 2 (.q 3 (.l 4 (.q 5 (.q 6 (.q 7 (.q 8 (.q 9 (.q 10 (.q 11 (.q 12 (.q 13 (.q 14 (.q 15 (.q 16 (.q 17 (.q 18 (.q 19 (.q 20 (.q 21 (.q 22 (.q 23 (.q 24 (.q 25 (.q 26 (.q 27 (.l 28 (.q 29 (.q 30 (.nil)))))))))))))))))))))))))))))))) (Ext w78) rfl (by kernel_rfl) ?_
      have hM := hM.drew
      rw [← hw] at hM ⊢
      clear hw
      refine pi_q hf rfl rfl rfl rfl (Ext.refl _) (e_field hf rfl Tryz.underlying47 rfl Tryz.sizeOf9 (o' := 1) rfl) fun a hf => ?_
      refine pi_q hf rfl rfl rfl rfl (Ext.refl _) (e_load1 hf rfl Tryz.isAgg9 (hM.boxCell (k := 0) rfl rfl)) fun a hf => ?_
      refine pi_q hf rfl rfl rfl rfl (Ext.refl _) (e_move hf rfl) fun a hf => ?_
      obtain ⟨c79, hz80, h77⟩ := bind_some h77
      refine pi_q hf rfl rfl rfl rfl (Ext.refl _) (e_indexS hf (x := e34.Letters) rfl rfl Tryz.underlying9 hz80) fun a hf => ?_
      refine pi_one ?_
      obtain ⟨y81, hz82, h77⟩ := bind_some h77
      refine pi_l hf rfl rfl rfl rfl (w_call hf Tryz.call69 rfl (r_impl_formByte ⟨_, Sh C _ _, none_, hM.sh_lt, none_not, C.G, hM.g_lt, g_none, hM.tabs⟩ c79 _ hz82) ?_)
      rintro _ w83 ⟨rfl, hM2⟩
      obtain ⟨hM, hx84, hup85⟩ := hM.back hM2
      dsimp only [List.cons_append, List.nil_append] at hM hup85
      clear hM2
      refine ⟨_, rfl, Ext w83, fun _ h => Ext.trans hx84 h, Ext.refl _, fun a hf => ?_⟩
      refine pi_q hf rfl rfl rfl rfl (Ext.refl _) (e_not hf rfl) fun a hf => ?_
      refine pi_q hf rfl rfl rfl rfl (Ext.refl _) (e_move hf rfl) fun a hf => ?_
      rcases cond_some h77 with ⟨hc86, h77⟩ | ⟨hc86, h77⟩
      ·iterate 3 refine pi_gs hf rfl (wanted_f hf rfl rfl rfl rfl hc86) rfl rfl (Ext.refl _) fun a hf => ?_
       iterate 10 refine pi_gs hf rfl (wanted_u hf rfl rfl rfl rfl) rfl rfl (Ext.refl _) fun a hf => ?_
       refine pi_gs hf rfl (wanted_f hf rfl rfl rfl rfl hc86) rfl rfl (Ext.refl _) fun a hf => ?_
       refine pi_q hf rfl rfl rfl rfl (Ext.refl _) (e_pick_t hf rfl hc86 rfl) fun a hf => ?_
       refine pi_q hf rfl rfl rfl rfl (Ext.refl _) (e_move hf rfl) fun a hf => ?_
       iterate 5 refine pi_gs hf rfl (wanted_f hf rfl rfl rfl rfl rfl) rfl rfl (Ext.refl _) fun a hf => ?_
       refine pi_one ?_
       refine pi_ls hf rfl (wanted_f hf rfl rfl rfl rfl rfl) rfl rfl (Ext.refl _) fun a hf => ?_
       refine pi_gs hf rfl (wanted_f hf rfl rfl rfl rfl rfl) rfl rfl (Ext.refl _) fun a hf => ?_
       refine pi_q hf rfl rfl rfl rfl (Ext.refl _) (e_pick_t hf rfl rfl rfl) fun a hf => ?_
       refine pi_nil ?_
       obtain rfl := some_inj h77
       refine then_n ?_
       exact ⟨true, rfl, hf.keep ⟨rfl, rfl, rfl, rfl, rfl, rfl, rfl, rfl, rfl, trivial⟩, hM.pick [0, 1, 2, 3] rfl⟩
      refine pi_gq hf rfl (wanted_t hf rfl rfl rfl rfl hc86) rfl rfl (Ext.refl _) (e_move hf rfl) fun a hf => ?_
      refine pi_gq hf rfl (wanted_t hf rfl rfl rfl rfl hc86) rfl rfl (Ext.refl _) (e_gt hf (x := n56) (y := 0) rfl rfl) fun a hf => ?_
      refine pi_gq hf rfl (wanted_t hf rfl rfl rfl rfl hc86) rfl rfl (Ext.refl _) (e_move hf rfl) fun a hf => ?_
      rcases cond_some h77 with ⟨hc88, h77⟩ | ⟨hc88, h77⟩
      ·refine pi_gq hf rfl (wanted_t hf rfl rfl rfl rfl hc88) rfl rfl (Ext.refl _) (e_field hf rfl Tryz.underlying47 rfl Tryz.sizeOf9 (o' := 1) rfl) fun a hf => ?_
       refine pi_gq hf rfl (wanted_t hf rfl rfl rfl rfl hc88) rfl rfl (Ext.refl _) (e_load1 hf rfl Tryz.isAgg9 (hM.boxCell (k := 0) rfl rfl)) fun a hf => ?_
       refine pi_gq hf rfl (wanted_t hf rfl rfl rfl rfl hc88) rfl rfl (Ext.refl _) (e_move hf rfl) fun a hf => ?_
       obtain ⟨z89, hz90, h77⟩ := bind_some h77
       refine pi_gq hf rfl (wanted_t hf rfl rfl rfl rfl hc88) rfl rfl (Ext.refl _) (e_sub hf rfl rfl hz90) fun a hf => ?_
       obtain ⟨c91, hz92, h77⟩ := bind_some h77
       refine pi_gq hf rfl (wanted_t hf rfl rfl rfl rfl hc88) rfl rfl (Ext.refl _) (e_indexS hf (x := e34.Letters) rfl rfl Tryz.underlying9 hz92) fun a hf => ?_
       refine pi_gq hf rfl (wanted_t hf rfl rfl rfl rfl hc88) rfl rfl (Ext.refl _) (e_field hf rfl Tryz.underlying47 rfl Tryz.sizeOf9 (o' := 1) rfl) fun a hf => ?_
       refine pi_gq hf rfl (wanted_t hf rfl rfl rfl rfl hc88) rfl rfl (Ext.refl _) (e_load1 hf rfl Tryz.isAgg9 (hM.boxCell (k := 0) rfl rfl)) fun a hf => ?_
       refine pi_gq hf rfl (wanted_t hf rfl rfl rfl rfl hc88) rfl rfl (Ext.refl _) (e_move hf rfl) fun a hf => ?_
       obtain ⟨c93, hz94, h77⟩ := bind_some h77
       refine pi_gq hf rfl (wanted_t hf rfl rfl rfl rfl hc88) rfl rfl (Ext.refl _) (e_indexS hf (x := e34.Letters) rfl rfl Tryz.underlying9 hz94) fun a hf => ?_
       refine pi_gq hf rfl (wanted_t hf rfl rfl rfl rfl hc88) rfl rfl (Ext.refl _) (e_geB hf (x := c91) (y := c93) rfl rfl) fun a hf => ?_
       refine pi_gq hf rfl (wanted_t hf rfl rfl rfl rfl hc86) rfl rfl (Ext.refl _) (e_pick_t hf rfl hc88 rfl) fun a hf => ?_
       refine pi_q hf rfl rfl rfl rfl (Ext.refl _) (e_pick_f hf rfl hc86 rfl) fun a hf => ?_
       refine pi_q hf rfl rfl rfl rfl (Ext.refl _) (e_move hf rfl) fun a hf => ?_
       rcases cond_some h77 with ⟨hc95, h77⟩ | ⟨hc95, h77⟩
       ·iterate 5 refine pi_gs hf rfl (wanted_f hf rfl rfl rfl rfl hc95) rfl rfl (Ext.refl _) fun a hf => ?_
        refine pi_one ?_
        refine pi_ls hf rfl (wanted_f hf rfl rfl rfl rfl hc95) rfl rfl (Ext.refl _) fun a hf => ?_
        refine pi_gs hf rfl (wanted_f hf rfl rfl rfl rfl hc95) rfl rfl (Ext.refl _) fun a hf => ?_
        refine pi_q hf rfl rfl rfl rfl (Ext.refl _) (e_pick_t hf rfl hc95 rfl) fun a hf => ?_
        refine pi_nil ?_
        obtain rfl := some_inj h77
        refine then_n ?_
        exact ⟨true, rfl, hf.keep ⟨rfl, rfl, rfl, rfl, rfl, rfl, rfl, rfl, rfl, trivial⟩, hM.pick [0, 1, 2, 3] rfl⟩
       refine pi_gq hf rfl (wanted_t hf rfl rfl rfl rfl hc95) rfl rfl (Ext.refl _) (e_move hf rfl) fun a hf => ?_
       refine pi_gq hf rfl (wanted_t hf rfl rfl rfl rfl hc95) rfl rfl (Ext.refl _) (e_field hf rfl Tryz.underlying31 rfl Tryz.sizeOf29 (o' := 0) rfl) fun a hf => ?_
       refine pi_gq hf rfl (wanted_t hf rfl rfl rfl rfl hc95) rfl rfl (Ext.refl _) (e_load1 hf rfl Tryz.isAgg29 (hM.boxCell (k := 1) rfl rfl)) fun a hf => ?_
       have hl97 := slice_len (hM.dat (k := 3) rfl)
       refine pi_gq hf rfl (wanted_t hf rfl rfl rfl rfl hc95) rfl rfl (Ext.refl _) (e_lenL hf (x := d1.Nodes) rfl Tryz.underlying29) fun a hf => ?_
       obtain ⟨z98, hz99, h77⟩ := bind_some h77
       refine pi_gq hf rfl (wanted_t hf rfl rfl rfl rfl hc95) rfl rfl (Ext.refl _) (e_sub hf rfl rfl hz99) fun a hf => ?_
       refine pi_one ?_
       obtain ⟨y100, hz101, h77⟩ := bind_some h77
       refine pi_gl hf rfl (wanted_t hf rfl rfl rfl rfl hc95) rfl rfl (w_call hf Tryz.call70 rfl (r_impl_within ⟨_, Sh C _ _, none_, hM.sh_lt, none_not, C.G, hM.g_lt, g_none, hM.tabs⟩ e65 hv73 0 (R64_lit rfl) z98 (chk_R hz99) _ hz101) ?_)
       rintro _ w102 ⟨rfl, hM2⟩
       obtain ⟨hM, hx103, hup104⟩ := hM.back hM2
       dsimp only [List.cons_append, List.nil_append] at hM hup104
       clear hM2
       refine ⟨_, rfl, Ext w102, fun _ h => Ext.trans hx103 h, Ext.refl _, fun a hf => ?_⟩
       refine pi_gq hf rfl (wanted_t hf rfl rfl rfl rfl hc95) rfl rfl (Ext.refl _) (e_not hf rfl) fun a hf => ?_
       refine pi_q hf rfl rfl rfl rfl (Ext.refl _) (e_pick_f hf rfl hc95 rfl) fun a hf => ?_
       refine pi_nil ?_
       obtain rfl := some_inj h77
       refine then_n ?_
       exact ⟨(!y100), rfl, hf.keep ⟨rfl, rfl, rfl, rfl, rfl, rfl, rfl, rfl, rfl, trivial⟩, hM.pick [0, 1, 2, 3] rfl⟩
      iterate 10 refine pi_gs hf rfl (wanted_f hf rfl rfl rfl rfl hc88) rfl rfl (Ext.refl _) fun a hf => ?_
      refine pi_gq hf rfl (wanted_t hf rfl rfl rfl rfl hc86) rfl rfl (Ext.refl _) (e_pick_f hf rfl hc88 rfl) fun a hf => ?_
      refine pi_q hf rfl rfl rfl rfl (Ext.refl _) (e_pick_f hf rfl hc86 rfl) fun a hf => ?_
      refine pi_q hf rfl rfl rfl rfl (Ext.refl _) (e_move hf rfl) fun a hf => ?_
      refine pi_gq hf rfl (wanted_t hf rfl rfl rfl rfl rfl) rfl rfl (Ext.refl _) (e_move hf rfl) fun a hf => ?_
      refine pi_gq hf rfl (wanted_t hf rfl rfl rfl rfl rfl) rfl rfl (Ext.refl _) (e_field hf rfl Tryz.underlying31 rfl Tryz.sizeOf29 (o' := 0) rfl) fun a hf => ?_
      refine pi_gq hf rfl (wanted_t hf rfl rfl rfl rfl rfl) rfl rfl (Ext.refl _) (e_load1 hf rfl Tryz.isAgg29 (hM.boxCell (k := 1) rfl rfl)) fun a hf => ?_
      have hl106 := slice_len (hM.dat (k := 3) rfl)
      refine pi_gq hf rfl (wanted_t hf rfl rfl rfl rfl rfl) rfl rfl (Ext.refl _) (e_lenL hf (x := d1.Nodes) rfl Tryz.underlying29) fun a hf => ?_
      obtain ⟨z107, hz108, h77⟩ := bind_some h77
      refine pi_gq hf rfl (wanted_t hf rfl rfl rfl rfl rfl) rfl rfl (Ext.refl _) (e_sub hf rfl rfl hz108) fun a hf => ?_
      refine pi_one ?_
      obtain ⟨y109, hz110, h77⟩ := bind_some h77
      refine pi_gl hf rfl (wanted_t hf rfl rfl rfl rfl rfl) rfl rfl (w_call hf Tryz.call70 rfl (r_impl_within ⟨_, Sh C _ _, none_, hM.sh_lt, none_not, C.G, hM.g_lt, g_none, hM.tabs⟩ e65 hv73 0 (R64_lit rfl) z107 (chk_R hz108) _ hz110) ?_)
      rintro _ w111 ⟨rfl, hM2⟩
      obtain ⟨hM, hx112, hup113⟩ := hM.back hM2
      dsimp only [List.cons_append, List.nil_append] at hM hup113
      clear hM2
      refine ⟨_, rfl, Ext w111, fun _ h => Ext.trans hx112 h, Ext.refl _, fun a hf => ?_⟩
      refine pi_gq hf rfl (wanted_t hf rfl rfl rfl rfl rfl) rfl rfl (Ext.refl _) (e_not hf rfl) fun a hf => ?_
      refine pi_q hf rfl rfl rfl rfl (Ext.refl _) (e_pick_f hf rfl rfl rfl) fun a hf => ?_
      refine pi_nil ?_
      obtain rfl := some_inj h77
      refine then_n ?_
      exact ⟨(!y109), rfl, hf.keep ⟨rfl, rfl, rfl, rfl, rfl, rfl, rfl, rfl, rfl, trivial⟩, hM.pick [0, 1, 2, 3] rfl⟩
     rintro a w115 ⟨t74, rfl, hf, hM⟩
     try dsimp only at h62
     rcases cond_some h62 with ⟨hc116, h62⟩ | ⟨hc116, h62⟩
     ·refine cond_t hf rfl hc116 ?_
      refine wp_seq ?_
      refine region_pl ?_
      refine q_ hf rfl rfl rfl (e_assign hf rfl) fun a hf => ?_
      refine pl_nil ?_
      refine then_n ?_
      refine wp_ret ?_
      refine blk_r ?_
      refine then_r ?_
      obtain rfl := some_inj h62
      obtain rfl := hd63 _ rfl
      try dsimp only at h33
      refine then_r ?_
      iterate 2 refine blk_r ?_
      obtain rfl := some_inj h33
      try dsimp only at h29
      refine then_r ?_
      obtain rfl := some_inj h29
      obtain rfl := hd30 _ rfl
      try dsimp only at h21
      refine then_r ?_
      refine blk_r ?_
      obtain rfl := some_inj h21
      try dsimp only at h
      refine then_r ?_
      obtain rfl := some_inj h
      have hM := hM.outs (own' := []) 0 rfl
      exact leave1 hf rfl rfl ⟨rfl, hM.fin⟩
     refine cond_f hf rfl hc116 ?_
     refine wp_skip ?_
     refine blk_n ?_
     refine then_n ?_
     refine region_pl ?_
     obtain ⟨z117, hz118, h62⟩ := bind_some h62
     refine q_ hf rfl rfl rfl (e_add hf rfl rfl hz118) fun a hf => ?_
     refine q_ hf rfl rfl rfl (e_move hf rfl) fun a hf => ?_
     refine pl_nil ?_
     obtain rfl := some_inj h62
     refine then_n ⟨_, rfl, ?_⟩
     exact ⟨z117, rfl, hf.keep ⟨rfl, rfl, rfl, rfl, rfl, rfl, rfl, rfl, trivial⟩, hM.pick [1, 2, 3] rfl, (chk_R hz118)⟩
    refine cond_f hf rfl hc64 ?_
    refine wp_exit ?_
    refine then_x ?_
    obtain rfl := some_inj h62
    obtain rfl := hd63 _ rfl
    try dsimp only at h33
    refine then_x ?_
    refine exit_hit ?_
    refine blk_n ?_
    obtain rfl := some_inj h33
    refine then_n ?_
    exact ⟨rfl, hf.keep ⟨rfl, rfl, rfl, rfl, trivial⟩, (hM.drop (.cons _ (.cons_cons _ .slnil))).pick [2] rfl⟩
   rintro a w125 ⟨rfl, hf, hM⟩
   try dsimp only at h29
   refine region_pl ?_
   obtain ⟨z126, hz127, h29⟩ := bind_some h29
   refine q_ hf rfl rfl rfl (e_add hf rfl rfl hz127) fun a hf => ?_
   refine q_ hf rfl rfl rfl (e_move hf rfl) fun a hf => ?_
   refine pl_nil ?_
   obtain rfl := some_inj h29
   refine then_n ⟨_, rfl, ?_⟩
   exact ⟨z126, rfl, hf.keep ⟨rfl, rfl, rfl, rfl, trivial⟩, hM.pick [0] rfl, (chk_R hz127)⟩
  refine cond_f hf rfl hc31 ?_
  refine wp_exit ?_
  refine then_x ?_
  obtain rfl := some_inj h29
  obtain rfl := hd30 _ rfl
  try dsimp only at h21
  refine then_x ?_
  refine exit_hit ?_
  obtain rfl := some_inj h21
  refine then_n ?_
  exact ⟨rfl, hf.keep trivial, hM.pick [0] rfl⟩
 rintro a w135 ⟨rfl, hf, hM⟩
 try dsimp only at h
 refine wp_seq ?_
 refine region_pl ?_
 refine q_ hf rfl rfl rfl (e_assign hf rfl) fun a hf => ?_
 refine pl_nil ?_
 refine then_n ?_
 refine wp_ret ?_
 obtain rfl := some_inj h
 have hM := hM.outs (own' := []) 0 rfl
 exact leave1 hf rfl rfl ⟨rfl, hM.fin⟩

end Go.Proofs.YtdaoecpkgobelaaGreatDoor
