/- The functions that this law reaches do what their models say. Printed by gen.py. -/
import Derived.Test.YtdaoecpkgobelaaGreatDoorMod
import Derived.Test.YtdaoecpkgobelaaGreatDoorLib
import Derived.Test.YtdaoecpkgobelaaGreatDoorErrIs
namespace Go.Proofs.YtdaoecpkgobelaaGreatDoor
open Go Go.RowKit
set_option linter.unusedSimpArgs false
set_option linter.unusedVariables false
set_option maxRecDepth 100000
set_option maxHeartbeats 4000000
def FnC_Str_to_Bool (fk : FuncId) (fa fc : List Value) (f : Str → Option Bool) (C : Cx) : Prop := ∀ (x0 : Str) (hp1 : x0.length ≤ maxLen) (r : Bool) (h : f x0 = some r),
    Calls Tryz.prog fk ((fa ++ ([vS (x0)] : List Value)) ++ fc).toArray C.w0 fun e w => e = .returned (.bool (r)) ∧ Mem C w [] []
theorem meth_193 : ∀ (v : Value) (w : World), (method (Tryz.prog.types.size + Made.depth) 96 v "loop.example/g00911/impl.has").run Tryz.prog w = .ok (193, v) w := by
 intro v w
 kernel_rfl
theorem ei_2 : ElemInfo Tryz.prog 2 1 := elemInfo (by kernel_rfl)
theorem ei_3 : ElemInfo Tryz.prog 3 1 := elemInfo (by kernel_rfl)
theorem ei_4 : ElemInfo Tryz.prog 4 1 := elemInfo (by kernel_rfl)
theorem ei_5 : ElemInfo Tryz.prog 5 1 := elemInfo (by kernel_rfl)
theorem ei_9 : ElemInfo Tryz.prog 9 1 := elemInfo (by kernel_rfl)
theorem ei_47 : ElemInfo Tryz.prog 47 3 := elemInfo (by kernel_rfl)
theorem bp_26 : ∀ (fs : Array Field), some (TypeDesc.struct fs) = Tryz.prog.underlying 26 → ∀ w, (fs.mapM fun (f : Field) => do pure (f.offset, ← sizeOf f.type)).run Tryz.prog w = .ok #[(0, 1)] w := by
 intro fs h w
 rw [Tryz.underlying26] at h
 cases h
 simp
theorem bp_31 : ∀ (fs : Array Field), some (TypeDesc.struct fs) = Tryz.prog.underlying 31 → ∀ w, (fs.mapM fun (f : Field) => do pure (f.offset, ← sizeOf f.type)).run Tryz.prog w = .ok #[(0, 1)] w := by
 intro fs h w
 rw [Tryz.underlying31] at h
 cases h
 simp
theorem bp_47 : ∀ (fs : Array Field), some (TypeDesc.struct fs) = Tryz.prog.underlying 47 → ∀ w, (fs.mapM fun (f : Field) => do pure (f.offset, ← sizeOf f.type)).run Tryz.prog w = .ok #[(0, 1), (1, 1), (2, 1)] w := by
 intro fs h w
 rw [Tryz.underlying47] at h
 cases h
 simp
theorem bp_83 : ∀ (fs : Array Field), some (TypeDesc.struct fs) = Tryz.prog.underlying 83 → ∀ w, (fs.mapM fun (f : Field) => do pure (f.offset, ← sizeOf f.type)).run Tryz.prog w = .ok #[(0, 1), (1, 1), (2, 1), (3, 1), (4, 1)] w := by
 intro fs h w
 rw [Tryz.underlying83] at h
 cases h
 simp
theorem bp_96 : ∀ (fs : Array Field), some (TypeDesc.struct fs) = Tryz.prog.underlying 96 → ∀ w, (fs.mapM fun (f : Field) => do pure (f.offset, ← sizeOf f.type)).run Tryz.prog w = .ok #[(0, 1), (1, 1)] w := by
 intro fs h w
 rw [Tryz.underlying96] at h
 cases h
 simp
theorem bp_105 : ∀ (fs : Array Field), some (TypeDesc.struct fs) = Tryz.prog.underlying 105 → ∀ w, (fs.mapM fun (f : Field) => do pure (f.offset, ← sizeOf f.type)).run Tryz.prog w = .ok #[(0, 1), (1, 1), (2, 1)] w := by
 intro fs h w
 rw [Tryz.underlying105] at h
 cases h
 simp
theorem bp_109 : ∀ (fs : Array Field), some (TypeDesc.struct fs) = Tryz.prog.underlying 109 → ∀ w, (fs.mapM fun (f : Field) => do pure (f.offset, ← sizeOf f.type)).run Tryz.prog w = .ok #[(0, 1), (1, 1)] w := by
 intro fs h w
 rw [Tryz.underlying109] at h
 cases h
 simp
theorem bp_151 : ∀ (fs : Array Field), some (TypeDesc.struct fs) = Tryz.prog.underlying 151 → ∀ w, (fs.mapM fun (f : Field) => do pure (f.offset, ← sizeOf f.type)).run Tryz.prog w = .ok #[(0, 1)] w := by
 intro fs h w
 rw [Tryz.underlying151] at h
 cases h
 simp
theorem bp_156 : ∀ (fs : Array Field), some (TypeDesc.struct fs) = Tryz.prog.underlying 156 → ∀ w, (fs.mapM fun (f : Field) => do pure (f.offset, ← sizeOf f.type)).run Tryz.prog w = .ok #[(0, 1), (1, 1), (2, 1)] w := by
 intro fs h w
 rw [Tryz.underlying156] at h
 cases h
 simp
theorem bp_184 : ∀ (fs : Array Field), some (TypeDesc.struct fs) = Tryz.prog.underlying 184 → ∀ w, (fs.mapM fun (f : Field) => do pure (f.offset, ← sizeOf f.type)).run Tryz.prog w = .ok #[(0, 1), (1, 1), (2, 1)] w := by
 intro fs h w
 rw [Tryz.underlying184] at h
 cases h
 simp
theorem r_laws_a2Long (C : Cx) (code1 : Str) (A2 : Option Addr) (c3 : Nat) (hp4 : (sliceRep byteRep).R C.w0 C.S0 code1 [vL A2 code1 c3]) (more5 : Str) (A6 : Option Addr) (c7 : Nat) (hp8 : (sliceRep byteRep).R C.w0 C.S0 more5 [vL A6 more5 c7]) (r : Bool) (h : m_laws_a2Long code1 more5 = some r) :
    Calls Tryz.prog 5 #[vL A2 (code1) c3, vL A6 (more5) c7] C.w0 fun e w => e = .returned (.bool (r)) ∧ Mem C w [] [] := by
 have hM := Mem.begin C [.dat (sliceRep byteRep) more5 [vL A6 more5 c7], .dat (sliceRep byteRep) code1 [vL A2 code1 c3]] ⟨hp8, hp4, trivial⟩
 refine enter Tryz.func5 rfl Tryz.ntmps5 rfl fun a hf => ?_
 unfold m_laws_a2Long at h
 refine wp_seq ?_
 refine region_pl ?_
 refine q_ hf rfl rfl rfl (e_assign hf rfl) fun a hf => ?_
 refine pl_nil ?_
 refine then_n ?_
 obtain ⟨x11, h12, h⟩ := bind_some h
 refine seq_join (fun a w => ∃ (t9 : Bool), t9 = x11 ∧ Has 13 a [(4, .bool (t9))] ∧ Mem C w [] [.dat (sliceRep byteRep) more5 [vL A6 more5 c7], .dat (sliceRep byteRep) code1 [vL A2 code1 c3]]) ?_ ?_
 ·refine region_pl ?_
  refine q_ hf rfl rfl rfl (e_move hf rfl) fun a hf => ?_
  have hl13 := slice_len (hM.dat (k := 1) rfl)
  refine q_ hf rfl rfl rfl (e_lenL hf (x := code1) rfl Tryz.underlying22) fun a hf => ?_
  refine q_ hf rfl rfl rfl (e_gt hf (x := (code1.length : Int)) (y := 3000) rfl rfl) fun a hf => ?_
  refine q_ hf rfl rfl rfl (e_move hf rfl) fun a hf => ?_
  rcases cond_some h12 with ⟨hc14, h12⟩ | ⟨hc14, h12⟩
  ·iterate 3 refine pl_gs (wanted_f hf rfl rfl rfl rfl hc14) hf rfl rfl fun a hf => ?_
   refine q_ hf rfl rfl rfl (e_pick_t hf rfl hc14 rfl) fun a hf => ?_
   refine q_ hf rfl rfl rfl (e_assign hf rfl) fun a hf => ?_
   refine pl_nil ?_
   obtain rfl := some_inj h12
   refine then_n ?_
   exact ⟨true, rfl, hf.keep ⟨rfl, trivial⟩, hM.pick [0, 1] rfl⟩
  refine gq (wanted_t hf rfl rfl rfl rfl hc14) hf rfl rfl (e_move hf rfl) fun a hf => ?_
  have hl16 := slice_len (hM.dat (k := 0) rfl)
  refine gq (wanted_t hf rfl rfl rfl rfl hc14) hf rfl rfl (e_lenL hf (x := more5) rfl Tryz.underlying22) fun a hf => ?_
  refine gq (wanted_t hf rfl rfl rfl rfl hc14) hf rfl rfl (e_gt hf (x := (more5.length : Int)) (y := 3000) rfl rfl) fun a hf => ?_
  refine q_ hf rfl rfl rfl (e_pick_f hf rfl hc14 rfl) fun a hf => ?_
  refine q_ hf rfl rfl rfl (e_assign hf rfl) fun a hf => ?_
  refine pl_nil ?_
  obtain rfl := some_inj h12
  refine then_n ?_
  exact ⟨(decide (3000 < (more5.length : Int))), rfl, hf.keep ⟨rfl, trivial⟩, hM.pick [0, 1] rfl⟩
 rintro a w18 ⟨t9, rfl, hf, hM⟩
 try dsimp only at h
 refine wp_ret ?_
 obtain rfl := some_inj h
 exact leave1 hf rfl rfl ⟨rfl, hM.fin⟩
theorem r_spec_l00From (C : Cx) (code1 : Str) (A2 : Option Addr) (c3 : Nat) (hp4 : (sliceRep byteRep).R C.w0 C.S0 code1 [vL A2 code1 c3]) (r : l00Src) (h : m_spec_l00From code1 = some r) :
    Calls Tryz.prog 26 #[vL A2 (code1) c3] C.w0 fun e w => ∃ (b_1 : Nat), ∃ (A_1 : Option Addr), ∃ (c_1 : Nat), e = .returned (vP b_1 (0)) ∧ Mem C w [.box b_1 [vL A_1 (r.code) c_1, vI (r.at_), vW (r.seed)] 105] [] ∧ (sliceRep byteRep).R w (Sh C [.box b_1 [vL A_1 (r.code) c_1, vI (r.at_), vW (r.seed)] 105] w) r.code [vL A_1 r.code c_1] ∧ R64 r.at_ ∧ U64 r.seed := by
 have hM := Mem.begin C [.dat (sliceRep byteRep) code1 [vL A2 code1 c3]] ⟨hp4, trivial⟩
 refine enter Tryz.func26 rfl Tryz.ntmps26 rfl fun a hf => ?_
 unfold m_spec_l00From at h
 refine wp_seq ?_
 refine region_pl ?_
 refine q_ hf rfl rfl rfl (e_assign hf rfl) fun a hf => ?_
 refine pl_nil ?_
 refine then_n ?_
 refine wp_seq ?_
 refine region_pl ?_
 refine q_ hf rfl rfl rfl (e_move hf rfl) fun a hf => ?_
 refine q_ hf rfl rfl rfl (e_build hf Tryz.zeroValue105 Tryz.underlying105 (bp_105 _ Tryz.underlying105.symm) rfl (cs := #[vL A2 (code1) c3, vI (0), vW (0)]) (by kernel_rfl)) fun a hf => ?_
 refine pl_l hf rfl rfl rfl (w_box hf hM (cs := [vL A2 (code1) c3, vI (0), vW (0)]) rfl rfl fun b5 w6 hx7 hM a hf => ?_)
 refine q_ hf rfl rfl rfl (e_assign hf rfl) fun a hf => ?_
 refine pl_nil ?_
 refine then_n ?_
 refine wp_ret ?_
 obtain rfl := some_inj h
 exact leave1 hf rfl rfl ⟨b5, A2, c3, rfl, hM.fin, (hM.dat (k := 0) rfl), (R64_lit rfl), (U64_lit rfl)⟩
theorem r_spec_l05Some (C : Cx)  (r : (List Str)) (h : m_spec_l05Some = some r) :
    Calls Tryz.prog 28 #[] C.w0 fun e w => ∃ (A_1 : Option Addr), ∃ (c_1 : Nat), e = .returned (vL A_1 (r) c_1) ∧ Mem C w [.row strRep A_1 c_1 9 r true] [] := by
 have hM := Mem.begin C [] trivial
 refine enter Tryz.func28 rfl Tryz.ntmps28 rfl fun a hf => ?_
 unfold m_spec_l05Some at h
 refine wp_seq ?_
 refine region_pl ?_
 refine q_ hf rfl rfl rfl (e_assign hf rfl) fun a hf => ?_
 refine pl_nil ?_
 refine then_n ?_
 refine wp_seq ?_
 refine region_pl ?_
 refine pl_l hf rfl rfl rfl (w_slice hf hM (K := strRep) (xs := ((([97, 110] : Str) :: ([97, 116] : Str) :: ([97, 116, 101] : Str) :: ([101, 97, 114] : Str) :: ([101, 97, 114, 110] : Str) :: ([101, 97, 114, 115] : Str) :: ([101, 97, 115, 116] : Str) :: ([101, 97, 116] : Str) :: ([101, 97, 116, 101, 110] : Str) :: ([101, 97, 116, 115] : Str) :: ([101, 110] : Str) :: ([97, 110, 116] : Str) :: ([97, 110, 116, 115] : Str) :: ([97, 114, 101] : Str) :: ([97, 114, 101, 110, 97] : Str) :: ([97, 114, 116] : Str) :: ([97, 114, 116, 115] : Str) :: ([97, 115] : Str) :: ([101, 114] : Str) :: ([101, 115] : Str) :: ([105, 110] : Str) :: ([105, 115] : Str) :: ([110, 97] : Str) :: ([110, 101] : Str) :: ([110, 101, 97, 114] : Str) :: ([110, 101, 97, 116] : Str) :: ([110, 101, 115, 116] : Str) :: ([110, 101, 115, 116, 115] : Str) :: ([110, 101, 116] : Str) :: ([114, 97, 116] : Str) :: ([114, 97, 116, 101] : Str) :: ([114, 97, 116, 101, 115] : Str) :: ([114, 101] : Str) :: ([114, 101, 115, 116] : Str) :: ([115, 97, 116] : Str) :: ([115, 101, 97] : Str) :: ([115, 101, 97, 116] : Str) :: ([115, 101, 116] : Str) :: ([116, 97] : Str) :: ([116, 97, 114] : Str) :: ([116, 97, 114, 115] : Str) :: ([116, 97, 114, 116] : Str) :: ([116, 101, 97] : Str) :: ([116, 101, 97, 114] : Str) :: ([116, 101, 97, 115] : Str) :: ([116, 101, 110] : Str) :: ([116, 101, 114, 110] : Str) :: ([116, 101, 115, 116] : Str) :: ([116, 101, 115, 116, 115] : Str) :: ([116, 114, 101, 101, 115] : Str) :: ([98, 97, 110, 97, 110, 97] : Str) :: ([98, 101, 101] : Str) :: ([98, 101, 101, 110] : Str) :: ([98, 101, 101, 115] : Str) :: ([115, 116, 97, 114] : Str) :: ([115, 116, 97, 114, 101] : Str) :: ([115, 116, 97, 114, 116] : Str) :: ([116, 114, 101, 101] : Str) :: ([115, 116, 97, 114, 115] : Str) :: ([116, 114, 101, 97, 116, 115] : Str) :: []) : (List Str))) (os := ((.const (.string ⟨#[97, 110]⟩)) :: (.const (.string ⟨#[97, 116]⟩)) :: (.const (.string ⟨#[97, 116, 101]⟩)) :: (.const (.string ⟨#[101, 97, 114]⟩)) :: (.const (.string ⟨#[101, 97, 114, 110]⟩)) :: (.const (.string ⟨#[101, 97, 114, 115]⟩)) :: (.const (.string ⟨#[101, 97, 115, 116]⟩)) :: (.const (.string ⟨#[101, 97, 116]⟩)) :: (.const (.string ⟨#[101, 97, 116, 101, 110]⟩)) :: (.const (.string ⟨#[101, 97, 116, 115]⟩)) :: (.const (.string ⟨#[101, 110]⟩)) :: (.const (.string ⟨#[97, 110, 116]⟩)) :: (.const (.string ⟨#[97, 110, 116, 115]⟩)) :: (.const (.string ⟨#[97, 114, 101]⟩)) :: (.const (.string ⟨#[97, 114, 101, 110, 97]⟩)) :: (.const (.string ⟨#[97, 114, 116]⟩)) :: (.const (.string ⟨#[97, 114, 116, 115]⟩)) :: (.const (.string ⟨#[97, 115]⟩)) :: (.const (.string ⟨#[101, 114]⟩)) :: (.const (.string ⟨#[101, 115]⟩)) :: (.const (.string ⟨#[105, 110]⟩)) :: (.const (.string ⟨#[105, 115]⟩)) :: (.const (.string ⟨#[110, 97]⟩)) :: (.const (.string ⟨#[110, 101]⟩)) :: (.const (.string ⟨#[110, 101, 97, 114]⟩)) :: (.const (.string ⟨#[110, 101, 97, 116]⟩)) :: (.const (.string ⟨#[110, 101, 115, 116]⟩)) :: (.const (.string ⟨#[110, 101, 115, 116, 115]⟩)) :: (.const (.string ⟨#[110, 101, 116]⟩)) :: (.const (.string ⟨#[114, 97, 116]⟩)) :: (.const (.string ⟨#[114, 97, 116, 101]⟩)) :: (.const (.string ⟨#[114, 97, 116, 101, 115]⟩)) :: (.const (.string ⟨#[114, 101]⟩)) :: (.const (.string ⟨#[114, 101, 115, 116]⟩)) :: (.const (.string ⟨#[115, 97, 116]⟩)) :: (.const (.string ⟨#[115, 101, 97]⟩)) :: (.const (.string ⟨#[115, 101, 97, 116]⟩)) :: (.const (.string ⟨#[115, 101, 116]⟩)) :: (.const (.string ⟨#[116, 97]⟩)) :: (.const (.string ⟨#[116, 97, 114]⟩)) :: (.const (.string ⟨#[116, 97, 114, 115]⟩)) :: (.const (.string ⟨#[116, 97, 114, 116]⟩)) :: (.const (.string ⟨#[116, 101, 97]⟩)) :: (.const (.string ⟨#[116, 101, 97, 114]⟩)) :: (.const (.string ⟨#[116, 101, 97, 115]⟩)) :: (.const (.string ⟨#[116, 101, 110]⟩)) :: (.const (.string ⟨#[116, 101, 114, 110]⟩)) :: (.const (.string ⟨#[116, 101, 115, 116]⟩)) :: (.const (.string ⟨#[116, 101, 115, 116, 115]⟩)) :: (.const (.string ⟨#[116, 114, 101, 101, 115]⟩)) :: (.const (.string ⟨#[98, 97, 110, 97, 110, 97]⟩)) :: (.const (.string ⟨#[98, 101, 101]⟩)) :: (.const (.string ⟨#[98, 101, 101, 110]⟩)) :: (.const (.string ⟨#[98, 101, 101, 115]⟩)) :: (.const (.string ⟨#[115, 116, 97, 114]⟩)) :: (.const (.string ⟨#[115, 116, 97, 114, 101]⟩)) :: (.const (.string ⟨#[115, 116, 97, 114, 116]⟩)) :: (.const (.string ⟨#[116, 114, 101, 101]⟩)) :: (.const (.string ⟨#[115, 116, 97, 114, 115]⟩)) :: (.const (.string ⟨#[116, 114, 101, 97, 116, 115]⟩)) :: [])) Tryz.underlying24 ei_9 rfl rfl rfl rfl rfl (VRows.cons ⟨[vS (([97, 110] : Str))], rfl, ⟨rfl, (lit_len rfl)⟩⟩ (VRows.cons ⟨[vS (([97, 116] : Str))], rfl, ⟨rfl, (lit_len rfl)⟩⟩ (VRows.cons ⟨[vS (([97, 116, 101] : Str))], rfl, ⟨rfl, (lit_len rfl)⟩⟩ (VRows.cons ⟨[vS (([101, 97, 114] : Str))], rfl, ⟨rfl, (lit_len rfl)⟩⟩ (VRows.cons ⟨[vS (([101, 97, 114, 110] : Str))], rfl, ⟨rfl, (lit_len rfl)⟩⟩ (VRows.cons ⟨[vS (([101, 97, 114, 115] : Str))], rfl, ⟨rfl, (lit_len rfl)⟩⟩ (VRows.cons ⟨[vS (([101, 97, 115, 116] : Str))], rfl, ⟨rfl, (lit_len rfl)⟩⟩ (VRows.cons ⟨[vS (([101, 97, 116] : Str))], rfl, ⟨rfl, (lit_len rfl)⟩⟩ (VRows.cons ⟨[vS (([101, 97, 116, 101, 110] : Str))], rfl, ⟨rfl, (lit_len rfl)⟩⟩ (VRows.cons ⟨[vS (([101, 97, 116, 115] : Str))], rfl, ⟨rfl, (lit_len rfl)⟩⟩ (VRows.cons ⟨[vS (([101, 110] : Str))], rfl, ⟨rfl, (lit_len rfl)⟩⟩ (VRows.cons ⟨[vS (([97, 110, 116] : Str))], rfl, ⟨rfl, (lit_len rfl)⟩⟩ (VRows.cons ⟨[vS (([97, 110, 116, 115] : Str))], rfl, ⟨rfl, (lit_len rfl)⟩⟩ (VRows.cons ⟨[vS (([97, 114, 101] : Str))], rfl, ⟨rfl, (lit_len rfl)⟩⟩ (VRows.cons ⟨[vS (([97, 114, 101, 110, 97] : Str))], rfl, ⟨rfl, (lit_len rfl)⟩⟩ (VRows.cons ⟨[vS (([97, 114, 116] : Str))], rfl, ⟨rfl, (lit_len rfl)⟩⟩ (VRows.cons ⟨[vS (([97, 114, 116, 115] : Str))], rfl, ⟨rfl, (lit_len rfl)⟩⟩ (VRows.cons ⟨[vS (([97, 115] : Str))], rfl, ⟨rfl, (lit_len rfl)⟩⟩ (VRows.cons ⟨[vS (([101, 114] : Str))], rfl, ⟨rfl, (lit_len rfl)⟩⟩ (VRows.cons ⟨[vS (([101, 115] : Str))], rfl, ⟨rfl, (lit_len rfl)⟩⟩ (VRows.cons ⟨[vS (([105, 110] : Str))], rfl, ⟨rfl, (lit_len rfl)⟩⟩ (VRows.cons ⟨[vS (([105, 115] : Str))], rfl, ⟨rfl, (lit_len rfl)⟩⟩ (VRows.cons ⟨[vS (([110, 97] : Str))], rfl, ⟨rfl, (lit_len rfl)⟩⟩ (VRows.cons ⟨[vS (([110, 101] : Str))], rfl, ⟨rfl, (lit_len rfl)⟩⟩ (VRows.cons ⟨[vS (([110, 101, 97, 114] : Str))], rfl, ⟨rfl, (lit_len rfl)⟩⟩ (VRows.cons ⟨[vS (([110, 101, 97, 116] : Str))], rfl, ⟨rfl, (lit_len rfl)⟩⟩ (VRows.cons ⟨[vS (([110, 101, 115, 116] : Str))], rfl, ⟨rfl, (lit_len rfl)⟩⟩ (VRows.cons ⟨[vS (([110, 101, 115, 116, 115] : Str))], rfl, ⟨rfl, (lit_len rfl)⟩⟩ (VRows.cons ⟨[vS (([110, 101, 116] : Str))], rfl, ⟨rfl, (lit_len rfl)⟩⟩ (VRows.cons ⟨[vS (([114, 97, 116] : Str))], rfl, ⟨rfl, (lit_len rfl)⟩⟩ (VRows.cons ⟨[vS (([114, 97, 116, 101] : Str))], rfl, ⟨rfl, (lit_len rfl)⟩⟩ (VRows.cons ⟨[vS (([114, 97, 116, 101, 115] : Str))], rfl, ⟨rfl, (lit_len rfl)⟩⟩ (VRows.cons ⟨[vS (([114, 101] : Str))], rfl, ⟨rfl, (lit_len rfl)⟩⟩ (VRows.cons ⟨[vS (([114, 101, 115, 116] : Str))], rfl, ⟨rfl, (lit_len rfl)⟩⟩ (VRows.cons ⟨[vS (([115, 97, 116] : Str))], rfl, ⟨rfl, (lit_len rfl)⟩⟩ (VRows.cons ⟨[vS (([115, 101, 97] : Str))], rfl, ⟨rfl, (lit_len rfl)⟩⟩ (VRows.cons ⟨[vS (([115, 101, 97, 116] : Str))], rfl, ⟨rfl, (lit_len rfl)⟩⟩ (VRows.cons ⟨[vS (([115, 101, 116] : Str))], rfl, ⟨rfl, (lit_len rfl)⟩⟩ (VRows.cons ⟨[vS (([116, 97] : Str))], rfl, ⟨rfl, (lit_len rfl)⟩⟩ (VRows.cons ⟨[vS (([116, 97, 114] : Str))], rfl, ⟨rfl, (lit_len rfl)⟩⟩ (VRows.cons ⟨[vS (([116, 97, 114, 115] : Str))], rfl, ⟨rfl, (lit_len rfl)⟩⟩ (VRows.cons ⟨[vS (([116, 97, 114, 116] : Str))], rfl, ⟨rfl, (lit_len rfl)⟩⟩ (VRows.cons ⟨[vS (([116, 101, 97] : Str))], rfl, ⟨rfl, (lit_len rfl)⟩⟩ (VRows.cons ⟨[vS (([116, 101, 97, 114] : Str))], rfl, ⟨rfl, (lit_len rfl)⟩⟩ (VRows.cons ⟨[vS (([116, 101, 97, 115] : Str))], rfl, ⟨rfl, (lit_len rfl)⟩⟩ (VRows.cons ⟨[vS (([116, 101, 110] : Str))], rfl, ⟨rfl, (lit_len rfl)⟩⟩ (VRows.cons ⟨[vS (([116, 101, 114, 110] : Str))], rfl, ⟨rfl, (lit_len rfl)⟩⟩ (VRows.cons ⟨[vS (([116, 101, 115, 116] : Str))], rfl, ⟨rfl, (lit_len rfl)⟩⟩ (VRows.cons ⟨[vS (([116, 101, 115, 116, 115] : Str))], rfl, ⟨rfl, (lit_len rfl)⟩⟩ (VRows.cons ⟨[vS (([116, 114, 101, 101, 115] : Str))], rfl, ⟨rfl, (lit_len rfl)⟩⟩ (VRows.cons ⟨[vS (([98, 97, 110, 97, 110, 97] : Str))], rfl, ⟨rfl, (lit_len rfl)⟩⟩ (VRows.cons ⟨[vS (([98, 101, 101] : Str))], rfl, ⟨rfl, (lit_len rfl)⟩⟩ (VRows.cons ⟨[vS (([98, 101, 101, 110] : Str))], rfl, ⟨rfl, (lit_len rfl)⟩⟩ (VRows.cons ⟨[vS (([98, 101, 101, 115] : Str))], rfl, ⟨rfl, (lit_len rfl)⟩⟩ (VRows.cons ⟨[vS (([115, 116, 97, 114] : Str))], rfl, ⟨rfl, (lit_len rfl)⟩⟩ (VRows.cons ⟨[vS (([115, 116, 97, 114, 101] : Str))], rfl, ⟨rfl, (lit_len rfl)⟩⟩ (VRows.cons ⟨[vS (([115, 116, 97, 114, 116] : Str))], rfl, ⟨rfl, (lit_len rfl)⟩⟩ (VRows.cons ⟨[vS (([116, 114, 101, 101] : Str))], rfl, ⟨rfl, (lit_len rfl)⟩⟩ (VRows.cons ⟨[vS (([115, 116, 97, 114, 115] : Str))], rfl, ⟨rfl, (lit_len rfl)⟩⟩ (VRows.cons ⟨[vS (([116, 114, 101, 97, 116, 115] : Str))], rfl, ⟨rfl, (lit_len rfl)⟩⟩ trivial)))))))))))))))))))))))))))))))))))))))))))))))))))))))))))) rfl fun b1 w2 hx3 hM a hf => ?_)
 refine q_ hf rfl rfl rfl (e_assign hf rfl) fun a hf => ?_
 refine pl_nil ?_
 refine then_n ?_
 refine wp_ret ?_
 obtain rfl := some_inj h
 exact leave1 hf rfl rfl ⟨(some ⟨b1, 0, none⟩), 60, rfl, hM.fin⟩
theorem r_spec_l00Src_next (C : Cx) (s1 : l00Src) (b2 : Nat) (A3 : Option Addr) (c4 : Nat) (hp5 : (sliceRep byteRep).R C.w0 C.S0 s1.code [vL A3 s1.code c4]) (hp6 : R64 s1.at_) (hp7 : U64 s1.seed) (hO : Mem C C.w0 [.box b2 [vL A3 (s1.code) c4, vI (s1.at_), vW (s1.seed)] 105] []) (hd : ∀ b, C.S0 b → ¬ ownB [.box b2 [vL A3 (s1.code) c4, vI (s1.at_), vW (s1.seed)] 105] b) (r : (Int × l00Src)) (h : m_spec_l00Src_next s1 = some r) :
    Calls Tryz.prog 87 #[vP b2 (0)] C.w0 fun e w => e = .returned (vI (r.1)) ∧ Mem C w [.box b2 [vL A3 (s1.code) c4, vI (r.2.at_), vW (r.2.seed)] 105] [] ∧ R64 r.2.at_ ∧ U64 r.2.seed ∧ R64 r.1 := by
 have hM := hO
 have hM := hM.addIn hd (y := .dat (sliceRep byteRep) s1.code [vL A3 s1.code c4]) hp5
 refine enter Tryz.func87 rfl Tryz.ntmps87 rfl fun a hf => ?_
 unfold m_spec_l00Src_next at h
 refine wp_seq ?_
 refine region_pl ?_
 refine q_ hf rfl rfl rfl (e_assign hf rfl) fun a hf => ?_
 refine pl_nil ?_
 refine then_n ?_
 refine wp_seq ?_
 refine region_pl ?_
 refine q_ hf rfl rfl rfl (e_assign hf rfl) fun a hf => ?_
 refine pl_nil ?_
 refine then_n ?_
 obtain ⟨x10, h11, h⟩ := bind_some h
 refine seq_join (fun a w => ∃ (n8 : Int), n8 = x10 ∧ Has 62 a [(0, vP b2 (0)), (3, vI (n8))] ∧ Mem C w [.box b2 [vL A3 (s1.code) c4, vI (s1.at_), vW (s1.seed)] 105] [.dat (sliceRep byteRep) s1.code [vL A3 s1.code c4]] ∧ R64 n8) ?_ ?_
 ·refine wp_seq ?_
  obtain ⟨w12, hw⟩ : ∃ x, x = C.w0.drew := ⟨_, rfl⟩
  refine region_pi (.q 0 (.q 1 (.q 2 (.q 3 (.q 4 (.q 5 (.q 6 (.q 7 (.q 8 (.q 9 (.nil))))))))))) (Ext w12) rfl (by kernel_rfl) ?_
  have hM := hM.drew
  rw [← hw] at hM ⊢
  clear hw
  refine pi_q hf rfl rfl rfl rfl (Ext.refl _) (e_move hf rfl) fun a hf => ?_
  refine pi_q hf rfl rfl rfl rfl (Ext.refl _) (e_nil hf rfl) fun a hf => ?_
  refine pi_q hf rfl rfl rfl rfl (Ext.refl _) (e_field hf rfl Tryz.underlying105 rfl Tryz.sizeOf3 (o' := 1) rfl) fun a hf => ?_
  refine pi_q hf rfl rfl rfl rfl (Ext.refl _) (e_load1 hf rfl Tryz.isAgg3 (hM.boxCell (k := 0) rfl rfl)) fun a hf => ?_
  refine pi_q hf rfl rfl rfl rfl (Ext.refl _) (e_move hf rfl) fun a hf => ?_
  refine pi_q hf rfl rfl rfl rfl (Ext.refl _) (e_nil hf rfl) fun a hf => ?_
  refine pi_q hf rfl rfl rfl rfl (Ext.refl _) (e_field hf rfl Tryz.underlying105 rfl Tryz.sizeOf22 (o' := 0) rfl) fun a hf => ?_
  refine pi_q hf rfl rfl rfl rfl (Ext.refl _) (e_load1 hf rfl Tryz.isAgg22 (hM.boxCell (k := 0) rfl rfl)) fun a hf => ?_
  have hl13 := slice_len (hM.dat (k := 0) rfl)
  refine pi_q hf rfl rfl rfl rfl (Ext.refl _) (e_lenL hf (x := s1.code) rfl Tryz.underlying22) fun a hf => ?_
  refine pi_q hf rfl rfl rfl rfl (Ext.refl _) (e_lt hf (x := s1.at_) (y := (s1.code.length : Int)) rfl rfl) fun a hf => ?_
  refine pi_nil ?_
  refine then_n ?_
  rcases cond_some h11 with ⟨hc14, h11⟩ | ⟨hc14, h11⟩
  ·refine cond_t hf rfl hc14 ?_
   obtain ⟨w15, hw⟩ : ∃ x, x = w12.drew := ⟨_, rfl⟩
   refine region_pi (.q 0 (.q 1 (.q 2 (.q 3 (.q 4 (.q 5 (.q 6 (.q 7 (.q 8 (.q 9 (.q 10 (.q 11 (.nil))))))))))))) (Ext w15) rfl (by kernel_rfl) ?_
   have hM := hM.drew
   rw [← hw] at hM ⊢
   clear hw
   refine pi_q hf rfl rfl rfl rfl (Ext.refl _) (e_move hf rfl) fun a hf => ?_
   refine pi_q hf rfl rfl rfl rfl (Ext.refl _) (e_nil hf rfl) fun a hf => ?_
   refine pi_q hf rfl rfl rfl rfl (Ext.refl _) (e_field hf rfl Tryz.underlying105 rfl Tryz.sizeOf22 (o' := 0) rfl) fun a hf => ?_
   refine pi_q hf rfl rfl rfl rfl (Ext.refl _) (e_load1 hf rfl Tryz.isAgg22 (hM.boxCell (k := 0) rfl rfl)) fun a hf => ?_
   refine pi_q hf rfl rfl rfl rfl (Ext.refl _) (e_move hf rfl) fun a hf => ?_
   refine pi_q hf rfl rfl rfl rfl (Ext.refl _) (e_nil hf rfl) fun a hf => ?_
   refine pi_q hf rfl rfl rfl rfl (Ext.refl _) (e_field hf rfl Tryz.underlying105 rfl Tryz.sizeOf3 (o' := 1) rfl) fun a hf => ?_
   refine pi_q hf rfl rfl rfl rfl (Ext.refl _) (e_load1 hf rfl Tryz.isAgg3 (hM.boxCell (k := 0) rfl rfl)) fun a hf => ?_
   obtain ⟨e16, hz17, h11⟩ := bind_some h11
   obtain ⟨b21, o22, _, hA23, h18, h19, hr20, hM⟩ := hM.elem (hM.dat (k := 0) rfl) (n := 1) rfl hz17
   obtain rfl : _ = _ := hr20
   refine pi_q hf rfl rfl rfl rfl (Ext.refl _) (e_indexAddr (A := A3) (b := b21) (o := o22) (xs := s1.code) (i := s1.at_) hf hA23 rfl rfl Tryz.underlying22 Tryz.sizeOf5 h18 h19) fun a hf => ?_
   refine pi_q hf rfl rfl rfl rfl (Ext.refl _) (e_load1 hf rfl Tryz.isAgg5 (hM.litCell (k := 0) (j := 0) rfl rfl rfl)) fun a hf => ?_
   refine pi_q hf rfl rfl rfl rfl (Ext.refl _) (e_convBI hf (x := e16) rfl Tryz.underlying5 Tryz.underlying3) fun a hf => ?_
   refine pi_q hf rfl rfl rfl rfl (Ext.refl _) (e_assign hf rfl) fun a hf => ?_
   refine pi_nil ?_
   obtain rfl := some_inj h11
   refine then_n ?_
   exact ⟨(e16.toNat : Int), rfl, hf.keep ⟨rfl, rfl, trivial⟩, hM.pick [1] rfl, (R64_byte _)⟩
  refine cond_f hf rfl hc14 ?_
  refine wp_skip ?_
  obtain rfl := some_inj h11
  refine then_n ?_
  exact ⟨0, rfl, hf.keep ⟨rfl, rfl, trivial⟩, hM.pick [0] rfl, (R64_lit rfl)⟩
 rintro a w26 ⟨n8, rfl, hf, hM, hv9⟩
 try dsimp only at h
 refine wp_seq ?_
 refine region_pl ?_
 refine q_ hf rfl rfl rfl (e_move hf rfl) fun a hf => ?_
 refine q_ hf rfl rfl rfl (e_nil hf rfl) fun a hf => ?_
 refine q_ hf rfl rfl rfl (e_field hf rfl Tryz.underlying105 rfl Tryz.sizeOf3 (o' := 1) rfl) fun a hf => ?_
 refine q_ hf rfl rfl rfl (e_load1 hf rfl Tryz.isAgg3 (hM.boxCell (k := 0) rfl rfl)) fun a hf => ?_
 obtain ⟨z27, hz28, h⟩ := bind_some h
 refine q_ hf rfl rfl rfl (e_add hf rfl rfl hz28) fun a hf => ?_
 refine q_ hf rfl rfl rfl (e_nil hf rfl) fun a hf => ?_
 refine q_ hf rfl rfl rfl (e_field hf rfl Tryz.underlying105 rfl Tryz.sizeOf3 (o' := 1) rfl) fun a hf => ?_
 refine pl_0 hf rfl rfl (w_store hf hM (us := [vI (z27)]) (cs' := [vL A3 (s1.code) c4, vI (z27), vW (s1.seed)]) rfl rfl (k := 0) rfl rfl Tryz.sizeOf3 rfl rfl rfl fun w29 hM => ?_)
 dsimp only [List.set] at hM
 refine pl_nil ?_
 refine then_n ?_
 refine wp_seq ?_
 refine region_pl ?_
 iterate 2 refine q_ hf rfl rfl rfl (e_move hf rfl) fun a hf => ?_
 refine q_ hf rfl rfl rfl (e_nil hf rfl) fun a hf => ?_
 refine q_ hf rfl rfl rfl (e_field hf rfl Tryz.underlying105 rfl Tryz.sizeOf103 (o' := 2) rfl) fun a hf => ?_
 refine q_ hf rfl rfl rfl (e_load1 hf rfl Tryz.isAgg103 (hM.boxCell (k := 0) rfl rfl)) fun a hf => ?_
 refine q_ hf rfl rfl rfl (e_mulW hf rfl rfl) fun a hf => ?_
 refine q_ hf rfl rfl rfl (e_move hf rfl) fun a hf => ?_
 refine q_ hf rfl rfl rfl (e_convIW hf rfl Tryz.underlying3 Tryz.underlying103) fun a hf => ?_
 iterate 2 refine q_ hf rfl rfl rfl (e_addW hf rfl rfl) fun a hf => ?_
 refine q_ hf rfl rfl rfl (e_nil hf rfl) fun a hf => ?_
 refine q_ hf rfl rfl rfl (e_field hf rfl Tryz.underlying105 rfl Tryz.sizeOf103 (o' := 2) rfl) fun a hf => ?_
 refine pl_0 hf rfl rfl (w_store hf hM (us := [vW ((((((s1.seed * 6364136223846793005) % 18446744073709551616) + (n8 % 18446744073709551616)) % 18446744073709551616) + 1442695040888963407) % 18446744073709551616)]) (cs' := [vL A3 (s1.code) c4, vI (z27), vW ((((((s1.seed * 6364136223846793005) % 18446744073709551616) + (n8 % 18446744073709551616)) % 18446744073709551616) + 1442695040888963407) % 18446744073709551616)]) rfl rfl (k := 0) rfl rfl Tryz.sizeOf103 rfl rfl rfl fun w32 hM => ?_)
 dsimp only [List.set] at hM
 refine pl_nil ?_
 refine then_n ?_
 iterate 2 refine wp_seq ?_
 obtain ⟨w35, hw⟩ : ∃ x, x = w32.drew := ⟨_, rfl⟩
 refine region_pi (.q 0 (.q 1 (.q 2 (.q 3 (.q 4 (.q 5 (.q 6 (.q 7 (.q 8 (.q 9 (.nil))))))))))) (Ext w35) rfl (by kernel_rfl) ?_
 have hM := hM.drew
 rw [← hw] at hM ⊢
 clear hw
 refine pi_q hf rfl rfl rfl rfl (Ext.refl _) (e_move hf rfl) fun a hf => ?_
 refine pi_q hf rfl rfl rfl rfl (Ext.refl _) (e_nil hf rfl) fun a hf => ?_
 refine pi_q hf rfl rfl rfl rfl (Ext.refl _) (e_field hf rfl Tryz.underlying105 rfl Tryz.sizeOf3 (o' := 1) rfl) fun a hf => ?_
 refine pi_q hf rfl rfl rfl rfl (Ext.refl _) (e_load1 hf rfl Tryz.isAgg3 (hM.boxCell (k := 0) rfl rfl)) fun a hf => ?_
 refine pi_q hf rfl rfl rfl rfl (Ext.refl _) (e_move hf rfl) fun a hf => ?_
 refine pi_q hf rfl rfl rfl rfl (Ext.refl _) (e_nil hf rfl) fun a hf => ?_
 refine pi_q hf rfl rfl rfl rfl (Ext.refl _) (e_field hf rfl Tryz.underlying105 rfl Tryz.sizeOf22 (o' := 0) rfl) fun a hf => ?_
 refine pi_q hf rfl rfl rfl rfl (Ext.refl _) (e_load1 hf rfl Tryz.isAgg22 (hM.boxCell (k := 0) rfl rfl)) fun a hf => ?_
 have hl36 := slice_len (hM.dat (k := 0) rfl)
 refine pi_q hf rfl rfl rfl rfl (Ext.refl _) (e_lenL hf (x := s1.code) rfl Tryz.underlying22) fun a hf => ?_
 refine pi_q hf rfl rfl rfl rfl (Ext.refl _) (e_le hf (x := z27) (y := (s1.code.length : Int)) rfl rfl) fun a hf => ?_
 refine pi_nil ?_
 refine then_n ?_
 rcases cond_some h with ⟨hc37, h⟩ | ⟨hc37, h⟩
 ·refine cond_t hf rfl hc37 ?_
  refine wp_seq ?_
  refine region_pl ?_
  refine q_ hf rfl rfl rfl (e_move hf rfl) fun a hf => ?_
  refine q_ hf rfl rfl rfl (e_assign hf rfl) fun a hf => ?_
  refine pl_nil ?_
  refine then_n ?_
  refine wp_ret ?_
  refine then_r ?_
  obtain rfl := some_inj h
  exact leave1 hf rfl rfl ⟨rfl, hM.fin, (chk_R hz28), (U64_mod _), hv9⟩
 refine cond_f hf rfl hc37 ?_
 refine wp_skip ?_
 refine then_n ?_
 refine wp_seq ?_
 refine region_pl ?_
 refine q_ hf rfl rfl rfl (e_move hf rfl) fun a hf => ?_
 refine q_ hf rfl rfl rfl (e_nil hf rfl) fun a hf => ?_
 refine q_ hf rfl rfl rfl (e_field hf rfl Tryz.underlying105 rfl Tryz.sizeOf103 (o' := 2) rfl) fun a hf => ?_
 refine q_ hf rfl rfl rfl (e_load1 hf rfl Tryz.isAgg103 (hM.boxCell (k := 0) rfl rfl)) fun a hf => ?_
 refine q_ hf rfl rfl rfl (e_shrW hf (k := 40) rfl rfl rfl rfl (m := 1099511627776) rfl (U64_mod _)) fun a hf => ?_
 refine q_ hf rfl rfl rfl (e_andW hf (k := 8) rfl rfl rfl rfl (m := 256) rfl (U64_div (U64_mod _) (by decide))) fun a hf => ?_
 obtain ⟨z38, hz39, h⟩ := bind_some h
 refine q_ hf rfl rfl rfl (e_convWI hf rfl Tryz.underlying103 Tryz.underlying2 hz39) fun a hf => ?_
 refine q_ hf rfl rfl rfl (e_assign hf rfl) fun a hf => ?_
 refine pl_nil ?_
 refine then_n ?_
 refine wp_ret ?_
 obtain rfl := some_inj h
 exact leave1 hf rfl rfl ⟨rfl, hM.fin, (chk_R hz28), (U64_mod _), (chk_R hz39)⟩
theorem r_spec_l00Src_pick (C : Cx) (s1 : l00Src) (b2 : Nat) (A3 : Option Addr) (c4 : Nat) (hp5 : (sliceRep byteRep).R C.w0 C.S0 s1.code [vL A3 s1.code c4]) (hp6 : R64 s1.at_) (hp7 : U64 s1.seed) (n8 : Int) (hp9 : R64 n8) (hO : Mem C C.w0 [.box b2 [vL A3 (s1.code) c4, vI (s1.at_), vW (s1.seed)] 105] []) (hd : ∀ b, C.S0 b → ¬ ownB [.box b2 [vL A3 (s1.code) c4, vI (s1.at_), vW (s1.seed)] 105] b) (r : (Int × l00Src)) (h : m_spec_l00Src_pick s1 n8 = some r) :
    Calls Tryz.prog 55 #[vP b2 (0), vI (n8)] C.w0 fun e w => e = .returned (vI (r.1)) ∧ Mem C w [.box b2 [vL A3 (s1.code) c4, vI (r.2.at_), vW (r.2.seed)] 105] [] ∧ R64 r.2.at_ ∧ U64 r.2.seed ∧ R64 r.1 := by
 have hM := hO
 have hM := hM.addIn hd (y := .dat (sliceRep byteRep) s1.code [vL A3 s1.code c4]) hp5
 refine enter Tryz.func55 rfl Tryz.ntmps55 rfl fun a hf => ?_
 unfold m_spec_l00Src_pick at h
 refine wp_seq ?_
 refine region_pl ?_
 refine q_ hf rfl rfl rfl (e_assign hf rfl) fun a hf => ?_
 refine pl_nil ?_
 refine then_n ?_
 iterate 2 refine wp_seq ?_
 refine region_pl ?_
 refine q_ hf rfl rfl rfl (e_move hf rfl) fun a hf => ?_
 refine q_ hf rfl rfl rfl (e_le hf (x := n8) (y := 1) rfl rfl) fun a hf => ?_
 refine pl_nil ?_
 refine then_n ?_
 rcases cond_some h with ⟨hc10, h⟩ | ⟨hc10, h⟩
 ·refine cond_t hf rfl hc10 ?_
  refine wp_seq ?_
  refine region_pl ?_
  refine q_ hf rfl rfl rfl (e_assign hf rfl) fun a hf => ?_
  refine pl_nil ?_
  refine then_n ?_
  refine wp_ret ?_
  refine then_r ?_
  obtain rfl := some_inj h
  exact leave1 hf rfl rfl ⟨rfl, hM.fin, hp6, hp7, (R64_lit rfl)⟩
 refine cond_f hf rfl hc10 ?_
 refine wp_skip ?_
 refine then_n ?_
 refine wp_seq ?_
 refine region_pl ?_
 refine q_ hf rfl rfl rfl (e_move hf rfl) fun a hf => ?_
 have hM : Mem C _ ([.box b2 [vL A3 (s1.code) c4, vI (s1.at_), vW (s1.seed)] 105] ++ []) _ := hM
 obtain ⟨y11, hz12, h⟩ := bind_some h
 refine pl_l hf rfl rfl rfl (w_call hf Tryz.call87 rfl (r_spec_l00Src_next ⟨_, Sh C _ _, ownB _, hM.sh_lt, sub_dis, C.G, hM.g_lt, hM.g_own, hM.tabs⟩ s1 _ _ _ (hM.dat (k := 0) rfl) hp6 hp7 hM.sub sub_dis _ hz12) ?_)
 rintro _ w16 ⟨rfl, hM2, hv13, hv14, hv15⟩
 obtain ⟨hM, hup18⟩ := hM.backG hM2
 dsimp only [List.cons_append, List.nil_append] at hM hup18
 clear hM2
 refine ⟨_, rfl, fun a hf => ?_⟩
 refine q_ hf rfl rfl rfl (e_assign hf rfl) fun a hf => ?_
 refine pl_nil ?_
 refine then_n ?_
 obtain ⟨x25, h26, h⟩ := bind_some h
 refine seq_join (fun a w => ∃ (n19 : Int) (n21 : Int) (n23 : Int), (n19, n21, n23) = x25 ∧ Has 20 a [(1, vI (n8)), (5, vI (n23))] ∧ Mem C w [.box b2 [vL A3 (s1.code) c4, vI (n19), vW (n21)] 105] [.dat (sliceRep byteRep) s1.code [vL A3 s1.code c4]] ∧ R64 n19 ∧ U64 n21 ∧ R64 n23) ?_ ?_
 ·refine wp_seq ?_
  refine region_pl ?_
  refine q_ hf rfl rfl rfl (e_move hf rfl) fun a hf => ?_
  refine q_ hf rfl rfl rfl (e_gt hf (x := n8) (y := 200) rfl rfl) fun a hf => ?_
  refine pl_nil ?_
  refine then_n ?_
  rcases cond_some h26 with ⟨hc27, h26⟩ | ⟨hc27, h26⟩
  ·refine cond_t hf rfl hc27 ?_
   refine region_pl ?_
   refine q_ hf rfl rfl rfl (e_move hf rfl) fun a hf => ?_
   obtain ⟨z28, hz29, h26⟩ := bind_some h26
   refine q_ hf rfl rfl rfl (e_mul hf rfl rfl hz29) fun a hf => ?_
   refine q_ hf rfl rfl rfl (e_move hf rfl) fun a hf => ?_
   have hM : Mem C _ ([.box b2 [vL A3 (s1.code) c4, vI (y11.2.at_), vW (y11.2.seed)] 105] ++ []) _ := hM
   obtain ⟨y30, hz31, h26⟩ := bind_some h26
   refine pl_l hf rfl rfl rfl (w_call hf Tryz.call87 rfl (r_spec_l00Src_next ⟨_, Sh C _ _, ownB _, hM.sh_lt, sub_dis, C.G, hM.g_lt, hM.g_own, hM.tabs⟩ (⟨s1.code, y11.2.at_, y11.2.seed⟩ : l00Src) _ _ _ (hM.dat (k := 0) rfl) hv13 hv14 hM.sub sub_dis _ hz31) ?_)
   rintro _ w35 ⟨rfl, hM2, hv32, hv33, hv34⟩
   obtain ⟨hM, hup37⟩ := hM.backG hM2
   dsimp only [List.cons_append, List.nil_append] at hM hup37
   clear hM2
   refine ⟨_, rfl, fun a hf => ?_⟩
   obtain ⟨z38, hz39, h26⟩ := bind_some h26
   refine q_ hf rfl rfl rfl (e_add hf rfl rfl hz39) fun a hf => ?_
   refine q_ hf rfl rfl rfl (e_assign hf rfl) fun a hf => ?_
   refine pl_nil ?_
   obtain rfl := some_inj h26
   refine then_n ?_
   exact ⟨y30.2.at_, y30.2.seed, z38, rfl, hf.keep ⟨rfl, rfl, trivial⟩, hM.pick [0] rfl, hv32, hv33, (chk_R hz39)⟩
  refine cond_f hf rfl hc27 ?_
  refine wp_skip ?_
  obtain rfl := some_inj h26
  refine then_n ?_
  exact ⟨y11.2.at_, y11.2.seed, y11.1, rfl, hf.keep ⟨rfl, rfl, trivial⟩, hM.pick [0] rfl, hv13, hv14, hv15⟩
 rintro a w42 ⟨n19, n21, n23, rfl, hf, hM, hv20, hv22, hv24⟩
 try dsimp only at h
 refine wp_seq ?_
 refine region_pl ?_
 iterate 2 refine q_ hf rfl rfl rfl (e_move hf rfl) fun a hf => ?_
 obtain ⟨z43, hz44, h⟩ := bind_some h
 refine q_ hf rfl rfl rfl (e_rem hf rfl rfl hz44) fun a hf => ?_
 refine q_ hf rfl rfl rfl (e_assign hf rfl) fun a hf => ?_
 refine pl_nil ?_
 refine then_n ?_
 refine wp_ret ?_
 obtain rfl := some_inj h
 exact leave1 hf rfl rfl ⟨rfl, hM.fin, hv20, hv22, (remI_R hz44 hv24)⟩
theorem r_spec_l03Insert (C : Cx) (list1 : (List Str)) (A2 : Option Addr) (c3 : Nat) (t4 : Str) (hp5 : t4.length ≤ maxLen) (hO : Mem C C.w0 [.row strRep A2 c3 9 list1 true] []) (hd : ∀ b, C.S0 b → ¬ ownB [.row strRep A2 c3 9 list1 true] b) (r : (List Str)) (h : m_spec_l03Insert list1 t4 = some r) :
    Calls Tryz.prog 56 #[vL A2 (list1) c3, vS (t4)] C.w0 fun e w => ∃ (A_1 : Option Addr), ∃ (c_1 : Nat), e = .returned (vL A_1 (r) c_1) ∧ Mem C w [.row strRep A_1 c_1 9 r true] [] := by
 have hM := hO
 refine enter Tryz.func56 rfl Tryz.ntmps56 rfl fun a hf => ?_
 unfold m_spec_l03Insert at h
 refine wp_seq ?_
 refine region_pl ?_
 refine q_ hf rfl rfl rfl (e_assign hf rfl) fun a hf => ?_
 refine pl_nil ?_
 refine then_n ?_
 refine wp_seq ?_
 refine region_pl ?_
 refine q_ hf rfl rfl rfl (e_move hf rfl) fun a hf => ?_
 have hl6 := row_len (hM.ownAt (k := 0) rfl)
 refine q_ hf rfl rfl rfl (e_lenL hf (x := list1) rfl Tryz.underlying24) fun a hf => ?_
 refine q_ hf rfl rfl rfl (e_assign hf rfl) fun a hf => ?_
 refine pl_nil ?_
 refine then_n ?_
 obtain ⟨x9, h10, h⟩ := bind_some h
 refine seq_join (fun a w => ∃ (n7 : Int), n7 = x9 ∧ Has 48 a [(0, vL A2 (list1) c3), (1, vS (t4)), (5, vI (n7))] ∧ Mem C w [.row strRep A2 c3 9 list1 true] [] ∧ R64 n7) ?_ ?_
 ·refine wp_block ?_
  obtain ⟨x16, h17, h10⟩ := bind_some h10
  refine wp_loopM h17 (fun s a w => ∃ (n11 : Int), n11 = s ∧ Has 48 a [(0, vL A2 (list1) c3), (1, vS (t4)), (5, vI (n11))] ∧ Mem C w [.row strRep A2 c3 9 list1 true] [] ∧ R64 n11) ?_ ?_
  ·exact ⟨(list1.length : Int), rfl, hf.keep ⟨rfl, rfl, rfl, trivial⟩, hM.pick [] rfl, (R64_len hl6)⟩
  rintro s o18 a w13 ⟨n11, rfl, hf, hM, hv12⟩ h19 hd20
  replace h19 : m_spec_l03Insert_l1 list1 t4 n11 = some o18 := h19
  unfold m_spec_l03Insert_l1 at h19
  refine wp_seq ?_
  obtain ⟨x23, h24, h19⟩ := bind_some h19
  refine seq_join (fun a w => ∃ (t21 : Bool), t21 = x23 ∧ Has 48 a [(0, vL A2 (list1) c3), (1, vS (t4)), (5, vI (n11)), (19, .bool (t21))] ∧ Mem C w [.row strRep A2 c3 9 list1 true] []) ?_ ?_
  ·refine region_pl ?_
   refine q_ hf rfl rfl rfl (e_move hf rfl) fun a hf => ?_
   refine q_ hf rfl rfl rfl (e_gt hf (x := n11) (y := 0) rfl rfl) fun a hf => ?_
   refine q_ hf rfl rfl rfl (e_move hf rfl) fun a hf => ?_
   rcases cond_some h24 with ⟨hc25, h24⟩ | ⟨hc25, h24⟩
   ·iterate 2 refine gq (wanted_t hf rfl rfl rfl rfl hc25) hf rfl rfl (e_move hf rfl) fun a hf => ?_
    obtain ⟨z26, hz27, h24⟩ := bind_some h24
    refine gq (wanted_t hf rfl rfl rfl rfl hc25) hf rfl rfl (e_sub hf rfl rfl hz27) fun a hf => ?_
    obtain ⟨e28, hz29, h24⟩ := bind_some h24
    obtain ⟨b34, _, hA35, h30, h31, hr32, hcell33⟩ := hM.rowElemN (k := 0) rfl (n := 1) rfl hz29
    obtain ⟨rfl, hv36⟩ := hr32
    refine gq (wanted_t hf rfl rfl rfl rfl hc25) hf rfl rfl (e_indexAddr (A := A2) (b := b34) (o := 0) (xs := list1) (i := z26) hf hA35 rfl rfl Tryz.underlying24 Tryz.sizeOf9 h30 h31) fun a hf => ?_
    refine gq (wanted_t hf rfl rfl rfl rfl hc25) hf rfl rfl (e_load1 hf rfl Tryz.isAgg9 (hcell33 0 _ rfl)) fun a hf => ?_
    refine gq (wanted_t hf rfl rfl rfl rfl hc25) hf rfl rfl (e_move hf rfl) fun a hf => ?_
    refine gq (wanted_t hf rfl rfl rfl rfl hc25) hf rfl rfl (e_gtS hf (x := e28) (y := t4) rfl rfl) fun a hf => ?_
    refine q_ hf rfl rfl rfl (e_pick_t hf rfl hc25 rfl) fun a hf => ?_
    refine pl_nil ?_
    obtain rfl := some_inj h24
    refine then_n ?_
    exact ⟨(!(ltS e28 t4 || e28 == t4)), rfl, hf.keep ⟨rfl, rfl, rfl, rfl, trivial⟩, hM.pick [] rfl⟩
   iterate 7 refine pl_gs (wanted_f hf rfl rfl rfl rfl hc25) hf rfl rfl fun a hf => ?_
   refine q_ hf rfl rfl rfl (e_pick_f hf rfl hc25 rfl) fun a hf => ?_
   refine pl_nil ?_
   obtain rfl := some_inj h24
   refine then_n ?_
   exact ⟨false, rfl, hf.keep ⟨rfl, rfl, rfl, rfl, trivial⟩, hM.pick [] rfl⟩
  rintro a w39 ⟨t21, rfl, hf, hM⟩
  try dsimp only at h19
  rcases cond_some h19 with ⟨hc40, h19⟩ | ⟨hc40, h19⟩
  ·refine cond_t hf rfl hc40 ?_
   refine wp_skip ?_
   refine then_n ?_
   refine wp_block ?_
   refine region_pl ?_
   refine q_ hf rfl rfl rfl (e_move hf rfl) fun a hf => ?_
   obtain ⟨z41, hz42, h19⟩ := bind_some h19
   refine q_ hf rfl rfl rfl (e_sub hf rfl rfl hz42) fun a hf => ?_
   refine q_ hf rfl rfl rfl (e_assign hf rfl) fun a hf => ?_
   refine pl_nil ?_
   refine blk_n ?_
   obtain rfl := some_inj h19
   refine then_n ⟨_, rfl, ?_⟩
   exact ⟨z41, rfl, hf.keep ⟨rfl, rfl, rfl, trivial⟩, hM.pick [] rfl, (chk_R hz42)⟩
  refine cond_f hf rfl hc40 ?_
  refine wp_exit ?_
  refine then_x ?_
  obtain rfl := some_inj h19
  obtain rfl := hd20 _ rfl
  try dsimp only at h10
  refine then_x ?_
  refine exit_hit ?_
  obtain rfl := some_inj h10
  refine then_n ?_
  exact ⟨n11, rfl, hf.keep ⟨rfl, rfl, rfl, trivial⟩, hM.pick [] rfl, hv12⟩
 rintro a w48 ⟨n7, rfl, hf, hM, hv8⟩
 try dsimp only at h
 refine wp_seq ?_
 obtain ⟨x51, h52, h⟩ := bind_some h
 refine seq_join (fun a w => ∃ (t49 : Bool), t49 = x51 ∧ Has 48 a [(0, vL A2 (list1) c3), (1, vS (t4)), (5, vI (n7)), (32, .bool (t49))] ∧ Mem C w [.row strRep A2 c3 9 list1 true] []) ?_ ?_
 ·refine region_pl ?_
  refine q_ hf rfl rfl rfl (e_move hf rfl) fun a hf => ?_
  refine q_ hf rfl rfl rfl (e_gt hf (x := n7) (y := 0) rfl rfl) fun a hf => ?_
  refine q_ hf rfl rfl rfl (e_move hf rfl) fun a hf => ?_
  rcases cond_some h52 with ⟨hc53, h52⟩ | ⟨hc53, h52⟩
  ·iterate 2 refine gq (wanted_t hf rfl rfl rfl rfl hc53) hf rfl rfl (e_move hf rfl) fun a hf => ?_
   obtain ⟨z54, hz55, h52⟩ := bind_some h52
   refine gq (wanted_t hf rfl rfl rfl rfl hc53) hf rfl rfl (e_sub hf rfl rfl hz55) fun a hf => ?_
   obtain ⟨e56, hz57, h52⟩ := bind_some h52
   obtain ⟨b62, _, hA63, h58, h59, hr60, hcell61⟩ := hM.rowElemN (k := 0) rfl (n := 1) rfl hz57
   obtain ⟨rfl, hv64⟩ := hr60
   refine gq (wanted_t hf rfl rfl rfl rfl hc53) hf rfl rfl (e_indexAddr (A := A2) (b := b62) (o := 0) (xs := list1) (i := z54) hf hA63 rfl rfl Tryz.underlying24 Tryz.sizeOf9 h58 h59) fun a hf => ?_
   refine gq (wanted_t hf rfl rfl rfl rfl hc53) hf rfl rfl (e_load1 hf rfl Tryz.isAgg9 (hcell61 0 _ rfl)) fun a hf => ?_
   refine gq (wanted_t hf rfl rfl rfl rfl hc53) hf rfl rfl (e_move hf rfl) fun a hf => ?_
   refine gq (wanted_t hf rfl rfl rfl rfl hc53) hf rfl rfl (e_eqS hf (x := e56) (y := t4) rfl rfl) fun a hf => ?_
   refine q_ hf rfl rfl rfl (e_pick_t hf rfl hc53 rfl) fun a hf => ?_
   refine pl_nil ?_
   obtain rfl := some_inj h52
   refine then_n ?_
   exact ⟨(e56 == t4), rfl, hf.keep ⟨rfl, rfl, rfl, rfl, trivial⟩, hM.pick [] rfl⟩
  iterate 7 refine pl_gs (wanted_f hf rfl rfl rfl rfl hc53) hf rfl rfl fun a hf => ?_
  refine q_ hf rfl rfl rfl (e_pick_f hf rfl hc53 rfl) fun a hf => ?_
  refine pl_nil ?_
  obtain rfl := some_inj h52
  refine then_n ?_
  exact ⟨false, rfl, hf.keep ⟨rfl, rfl, rfl, rfl, trivial⟩, hM.pick [] rfl⟩
 rintro a w67 ⟨t49, rfl, hf, hM⟩
 try dsimp only at h
 rcases cond_some h with ⟨hc68, h⟩ | ⟨hc68, h⟩
 ·refine cond_t hf rfl hc68 ?_
  refine wp_seq ?_
  refine region_pl ?_
  refine q_ hf rfl rfl rfl (e_move hf rfl) fun a hf => ?_
  refine q_ hf rfl rfl rfl (e_assign hf rfl) fun a hf => ?_
  refine pl_nil ?_
  refine then_n ?_
  refine wp_ret ?_
  refine then_r ?_
  obtain rfl := some_inj h
  exact leave1 hf rfl rfl ⟨A2, c3, rfl, hM.fin⟩
 refine cond_f hf rfl hc68 ?_
 refine wp_skip ?_
 refine then_n ?_
 refine wp_seq ?_
 refine region_pl ?_
 refine pl_l hf rfl rfl rfl (w_slice0 (K := strRep) hM Tryz.underlying24 ei_9 fun b69 w70 hx71 hM a hf => ?_)
 iterate 2 refine q_ hf rfl rfl rfl (e_move hf rfl) fun a hf => ?_
 have hM := hM.freezeRow (k := 1) rfl rfl
 dsimp only [List.eraseIdx] at hM
 obtain ⟨l72, hz73, h⟩ := bind_some h
 obtain ⟨A74, hd75, hA76⟩ := sub_rep (hM.dat (k := 0) rfl) hz73
 have hM := hM.add (y := .dat (sliceRep strRep) l72 [vL A74 l72 (c3 - (0 : Int).toNat)]) hd75
 refine q_ hf rfl rfl rfl (e_subLh hf (xs := list1) rfl rfl Tryz.underlying24 Tryz.sizeOf9 (slice_cap (hM.dat (k := 1) rfl)) hz73 hA76) fun a hf => ?_
 obtain ⟨xs77, hz78, h⟩ := bind_some h
 refine pl_l hf rfl rfl rfl (w_appendD hf hM Tryz.underlying24 ei_9 rfl rfl rfl (k := 0) rfl (hM.dat (k := 0) rfl) hz78 fun A79 c80 w81 hM a hf => ?_)
 dsimp only [List.set] at hM
 refine q_ hf rfl rfl rfl (e_assign hf rfl) fun a hf => ?_
 refine pl_nil ?_
 refine then_n ?_
 refine wp_seq ?_
 refine region_pl ?_
 iterate 2 refine q_ hf rfl rfl rfl (e_move hf rfl) fun a hf => ?_
 refine pl_l hf rfl rfl rfl (w_slice hf hM (K := strRep) (xs := ([t4] : (List Str))) (os := [.tmp 40]) Tryz.underlying24 ei_9 rfl rfl rfl rfl rfl ⟨⟨[vS (t4)], rfl, ⟨rfl, hp5⟩⟩, trivial⟩ rfl fun b84 w85 hx86 hM a hf => ?_)
 obtain ⟨xs87, hz88, h⟩ := bind_some h
 refine pl_l hf rfl rfl rfl (w_append hf hM Tryz.underlying24 ei_9 rfl rfl rfl (k := 1) rfl (hM.srcRow (k := 0) rfl) hz88 fun A89 c90 w91 hM a hf => ?_)
 dsimp only [List.set] at hM
 refine q_ hf rfl rfl rfl (e_assign hf rfl) fun a hf => ?_
 refine pl_nil ?_
 refine then_n ?_
 refine wp_seq ?_
 refine region_pl ?_
 iterate 3 refine q_ hf rfl rfl rfl (e_move hf rfl) fun a hf => ?_
 obtain ⟨l94, hz95, h⟩ := bind_some h
 obtain ⟨A96, hd97, hA98⟩ := sub_rep (hM.dat (k := 1) rfl) hz95
 have hM := hM.add (y := .dat (sliceRep strRep) l94 [vL A96 l94 (c3 - (n7 : Int).toNat)]) hd97
 refine q_ hf rfl rfl rfl (e_subLl hf (xs := list1) rfl rfl Tryz.underlying24 Tryz.sizeOf9 (slice_cap (hM.dat (k := 2) rfl)) hz95 hA98) fun a hf => ?_
 obtain ⟨xs99, hz100, h⟩ := bind_some h
 refine pl_l hf rfl rfl rfl (w_appendD hf hM Tryz.underlying24 ei_9 rfl rfl rfl (k := 1) rfl (hM.dat (k := 0) rfl) hz100 fun A101 c102 w103 hM a hf => ?_)
 dsimp only [List.set] at hM
 refine q_ hf rfl rfl rfl (e_assign hf rfl) fun a hf => ?_
 refine pl_nil ?_
 refine then_n ?_
 refine wp_ret ?_
 obtain rfl := some_inj h
 have hM := hM.front (k := 1) rfl
 dsimp only [List.eraseIdx] at hM
 have hM := hM.outs (own' := [.row strRep A101 c102 9 xs99 true]) 1 rfl
 exact leave1 hf rfl rfl ⟨A101, c102, rfl, hM.fin⟩
theorem r_spec_l05Draw (C : Cx) (s1 : l00Src) (b2 : Nat) (A3 : Option Addr) (c4 : Nat) (hp5 : (sliceRep byteRep).R C.w0 C.S0 s1.code [vL A3 s1.code c4]) (hp6 : R64 s1.at_) (hp7 : U64 s1.seed) (most8 : Int) (hp9 : R64 most8) (hO : Mem C C.w0 [.box b2 [vL A3 (s1.code) c4, vI (s1.at_), vW (s1.seed)] 105] []) (hd : ∀ b, C.S0 b → ¬ ownB [.box b2 [vL A3 (s1.code) c4, vI (s1.at_), vW (s1.seed)] 105] b) (r : (Lexicon × l00Src)) (h : m_spec_l05Draw s1 most8 = some r) :
    Calls Tryz.prog 25 #[vP b2 (0), vI (most8)] C.w0 fun e w => ∃ (A_1 : Option Addr), ∃ (c_1 : Nat), e = .returned (.agg #[vL A_1 (r.1.Words) c_1]) ∧ Mem C w [.box b2 [vL A3 (s1.code) c4, vI (r.2.at_), vW (r.2.seed)] 105, .row strRep A_1 c_1 9 r.1.Words true] [] ∧ R64 r.2.at_ ∧ U64 r.2.seed := by
 have hM := hO
 have hM := hM.addIn hd (y := .dat (sliceRep byteRep) s1.code [vL A3 s1.code c4]) hp5
 refine enter Tryz.func25 rfl Tryz.ntmps25 rfl fun a hf => ?_
 unfold m_spec_l05Draw at h
 refine wp_seq ?_
 refine region_pl ?_
 refine pl_l hf rfl rfl rfl (w_alloc hM (cs := [vL none (([] : (List Str))) 0]) Tryz.zeroValue26 rfl fun b10 w11 hx12 hM a hf => ?_)
 refine pl_nil ?_
 refine then_n ?_
 refine wp_seq ?_
 refine region_pl ?_
 obtain ⟨y14, hz15, h⟩ := bind_some h
 refine pl_l hf rfl rfl rfl (w_call hf Tryz.call28 rfl (r_spec_l05Some ⟨_, Sh C _ _, none_, hM.sh_lt, none_not, C.G, hM.g_lt, g_none, hM.tabs⟩ _ hz15) ?_)
 rintro _ w18 ⟨A16, c17, rfl, hM2⟩
 obtain ⟨hM, hx19, hup20⟩ := hM.back hM2
 dsimp only [List.cons_append, List.nil_append] at hM hup20
 clear hM2
 refine ⟨_, rfl, fun a hf => ?_⟩
 refine q_ hf rfl rfl rfl (e_assign hf rfl) fun a hf => ?_
 refine pl_nil ?_
 refine then_n ?_
 refine wp_seq ?_
 refine region_pl ?_
 refine pl_l hf rfl rfl rfl (w_slice0 (K := strRep) hM Tryz.underlying24 ei_9 fun b21 w22 hx23 hM a hf => ?_)
 refine q_ hf rfl rfl rfl (e_assign hf rfl) fun a hf => ?_
 refine pl_nil ?_
 refine then_n ?_
 obtain ⟨x31, h32, h⟩ := bind_some h
 refine seq_join (fun a w => ∃ (n24 : Int) (n26 : Int) (xs28 : (List Str)) (A29 : Option Addr) (c30 : Nat), (n24, n26, xs28) = x31 ∧ Has 29 a [(4, vP b10 (0)), (6, vL A29 (xs28) c30)] ∧ Mem C w [.row strRep A29 c30 9 xs28 true, .row strRep A16 c17 9 y14 true, .box b10 [vL none (([] : (List Str))) 0] 26, .box b2 [vL A3 (s1.code) c4, vI (n24), vW (n26)] 105] [.dat (sliceRep byteRep) s1.code [vL A3 s1.code c4]] ∧ R64 n24 ∧ U64 n26) ?_ ?_
 ·refine wp_seq ?_
  refine region_pl ?_
  iterate 2 refine q_ hf rfl rfl rfl (e_move hf rfl) fun a hf => ?_
  obtain ⟨z33, hz34, h32⟩ := bind_some h32
  refine q_ hf rfl rfl rfl (e_add hf rfl rfl hz34) fun a hf => ?_
  have hM := hM.front (k := 3) rfl
  dsimp only [List.eraseIdx] at hM
  have hM : Mem C _ ([.box b2 [vL A3 (s1.code) c4, vI (s1.at_), vW (s1.seed)] 105] ++ [.row strRep (some ⟨b21, 0, none⟩) 0 9 ([] : (List Str)) true, .row strRep A16 c17 9 y14 true, .box b10 [vL none (([] : (List Str))) 0] 26]) _ := hM
  obtain ⟨y35, hz36, h32⟩ := bind_some h32
  refine pl_l hf rfl rfl rfl (w_call hf Tryz.call55 rfl (r_spec_l00Src_pick ⟨_, Sh C _ _, ownB _, hM.sh_lt, sub_dis, C.G, hM.g_lt, hM.g_own, hM.tabs⟩ s1 _ _ _ (hM.dat (k := 0) rfl) hp6 hp7 z33 (chk_R hz34) hM.sub sub_dis _ hz36) ?_)
  rintro _ w40 ⟨rfl, hM2, hv37, hv38, hv39⟩
  obtain ⟨hM, hup42⟩ := hM.backG hM2
  dsimp only [List.cons_append, List.nil_append] at hM hup42
  clear hM2
  refine ⟨_, rfl, fun a hf => ?_⟩
  refine q_ hf rfl rfl rfl (e_assign hf rfl) fun a hf => ?_
  refine pl_nil ?_
  refine then_n ?_
  refine wp_block ?_
  obtain ⟨x60, h61, h32⟩ := bind_some h32
  refine wp_loopM h61 (fun s a w => ∃ (n43 : Int) (n45 : Int) (xs47 : (List Str)) (n50 : Int) (A48 : Option Addr) (c49 : Nat), (n43, n45, xs47, n50) = s ∧ Has 29 a [(0, vP b2 (0)), (4, vP b10 (0)), (5, vL A16 (y14) c17), (6, vL A48 (xs47) c49), (7, vI (n50))] ∧ Mem C w [.row strRep A48 c49 9 xs47 true, .box b2 [vL A3 (s1.code) c4, vI (n43), vW (n45)] 105, .row strRep A16 c17 9 y14 true, .box b10 [vL none (([] : (List Str))) 0] 26] [.dat (sliceRep byteRep) s1.code [vL A3 s1.code c4]] ∧ R64 n43 ∧ U64 n45 ∧ R64 n50) ?_ ?_
  ·have hM := hM.front (k := 3) rfl
   dsimp only [List.eraseIdx] at hM
   have hM := hM.front (k := 3) rfl
   dsimp only [List.eraseIdx] at hM
   have hM := hM.front (k := 2) rfl
   dsimp only [List.eraseIdx] at hM
   have hM := hM.front (k := 3) rfl
   dsimp only [List.eraseIdx] at hM
   exact ⟨y35.2.at_, y35.2.seed, ([] : (List Str)), y35.1, (some ⟨b21, 0, none⟩), 0, rfl, hf.keep ⟨rfl, rfl, rfl, rfl, rfl, trivial⟩, hM.pick [0] rfl, hv37, hv38, hv39⟩
  rintro s o62 a w52 ⟨n43, n45, xs47, n50, A48, c49, rfl, hf, hM, hv44, hv46, hv51⟩ h63 hd64
  replace h63 : m_spec_l05Draw_l1 s1 y14 n43 n45 xs47 n50 = some o62 := h63
  unfold m_spec_l05Draw_l1 at h63
  iterate 2 refine wp_seq ?_
  refine region_pl ?_
  refine q_ hf rfl rfl rfl (e_move hf rfl) fun a hf => ?_
  refine q_ hf rfl rfl rfl (e_gt hf (x := n50) (y := 0) rfl rfl) fun a hf => ?_
  refine pl_nil ?_
  refine then_n ?_
  rcases cond_some h63 with ⟨hc65, h63⟩ | ⟨hc65, h63⟩
  ·refine cond_t hf rfl hc65 ?_
   refine wp_skip ?_
   refine then_n ?_
   refine wp_seq ?_
   refine wp_block ?_
   refine region_pl ?_
   iterate 4 refine q_ hf rfl rfl rfl (e_move hf rfl) fun a hf => ?_
   have hl66 := row_len (hM.ownAt (k := 2) rfl)
   refine q_ hf rfl rfl rfl (e_lenL hf (x := y14) rfl Tryz.underlying24) fun a hf => ?_
   have hM := hM.front (k := 1) rfl
   dsimp only [List.eraseIdx] at hM
   have hM : Mem C _ ([.box b2 [vL A3 (s1.code) c4, vI (n43), vW (n45)] 105] ++ [.row strRep A48 c49 9 xs47 true, .row strRep A16 c17 9 y14 true, .box b10 [vL none (([] : (List Str))) 0] 26]) _ := hM
   obtain ⟨y67, hz68, h63⟩ := bind_some h63
   refine pl_l hf rfl rfl rfl (w_call hf Tryz.call55 rfl (r_spec_l00Src_pick ⟨_, Sh C _ _, ownB _, hM.sh_lt, sub_dis, C.G, hM.g_lt, hM.g_own, hM.tabs⟩ (⟨s1.code, n43, n45⟩ : l00Src) _ _ _ (hM.dat (k := 0) rfl) hv44 hv46 (y14.length : Int) (R64_len hl66) hM.sub sub_dis _ hz68) ?_)
   rintro _ w72 ⟨rfl, hM2, hv69, hv70, hv71⟩
   obtain ⟨hM, hup74⟩ := hM.backG hM2
   dsimp only [List.cons_append, List.nil_append] at hM hup74
   clear hM2
   refine ⟨_, rfl, fun a hf => ?_⟩
   obtain ⟨e75, hz76, h63⟩ := bind_some h63
   obtain ⟨b81, _, hA82, h77, h78, hr79, hcell80⟩ := hM.rowElemN (k := 2) rfl (n := 1) rfl hz76
   obtain ⟨rfl, hv83⟩ := hr79
   refine q_ hf rfl rfl rfl (e_indexAddr (A := A16) (b := b81) (o := 0) (xs := y14) (i := y67.1) hf hA82 rfl rfl Tryz.underlying24 Tryz.sizeOf9 h77 h78) fun a hf => ?_
   refine q_ hf rfl rfl rfl (e_load1 hf rfl Tryz.isAgg9 (hcell80 0 _ rfl)) fun a hf => ?_
   have hM := hM.front (k := 1) rfl
   dsimp only [List.eraseIdx] at hM
   have hM : Mem C _ ([.row strRep A48 c49 9 xs47 true] ++ [.box b2 [vL A3 (s1.code) c4, vI (y67.2.at_), vW (y67.2.seed)] 105, .row strRep A16 c17 9 y14 true, .box b10 [vL none (([] : (List Str))) 0] 26]) _ := hM
   obtain ⟨y84, hz85, h63⟩ := bind_some h63
   refine pl_l hf rfl rfl rfl (w_call hf Tryz.call56 rfl (r_spec_l03Insert ⟨_, Sh C _ _, ownB _, hM.sh_lt, sub_dis, C.G, hM.g_lt, hM.g_own, hM.tabs⟩ xs47 _ _ e75 hv83 hM.sub sub_dis _ hz85) ?_)
   rintro _ w88 ⟨A86, c87, rfl, hM2⟩
   obtain ⟨hM, hup90⟩ := hM.backG hM2
   dsimp only [List.cons_append, List.nil_append] at hM hup90
   clear hM2
   refine ⟨_, rfl, fun a hf => ?_⟩
   refine q_ hf rfl rfl rfl (e_assign hf rfl) fun a hf => ?_
   refine pl_nil ?_
   refine blk_n ?_
   refine then_n ?_
   refine region_pl ?_
   refine q_ hf rfl rfl rfl (e_move hf rfl) fun a hf => ?_
   obtain ⟨z91, hz92, h63⟩ := bind_some h63
   refine q_ hf rfl rfl rfl (e_sub hf rfl rfl hz92) fun a hf => ?_
   refine q_ hf rfl rfl rfl (e_assign hf rfl) fun a hf => ?_
   refine pl_nil ?_
   obtain rfl := some_inj h63
   refine then_n ⟨_, rfl, ?_⟩
   exact ⟨y67.2.at_, y67.2.seed, y84, z91, A86, c87, rfl, hf.keep ⟨rfl, rfl, rfl, rfl, rfl, trivial⟩, hM.pick [0] rfl, hv69, hv70, (chk_R hz92)⟩
  refine cond_f hf rfl hc65 ?_
  refine wp_exit ?_
  refine then_x ?_
  obtain rfl := some_inj h63
  obtain rfl := hd64 _ rfl
  try dsimp only at h32
  refine then_x ?_
  refine exit_hit ?_
  obtain rfl := some_inj h32
  refine then_n ?_
  have hM := hM.front (k := 1) rfl
  dsimp only [List.eraseIdx] at hM
  have hM := hM.front (k := 3) rfl
  dsimp only [List.eraseIdx] at hM
  have hM := hM.front (k := 3) rfl
  dsimp only [List.eraseIdx] at hM
  have hM := hM.front (k := 3) rfl
  dsimp only [List.eraseIdx] at hM
  exact ⟨n43, n45, xs47, A48, c49, rfl, hf.keep ⟨rfl, rfl, trivial⟩, hM.pick [0] rfl, hv44, hv46⟩
 rintro a w98 ⟨n24, n26, xs28, A29, c30, rfl, hf, hM, hv25, hv27⟩
 try dsimp only at h
 refine wp_seq ?_
 refine region_pl ?_
 refine q_ hf rfl rfl rfl (e_move hf rfl) fun a hf => ?_
 refine q_ hf rfl rfl rfl (e_build hf Tryz.zeroValue26 Tryz.underlying26 (bp_26 _ Tryz.underlying26.symm) rfl (cs := #[vL A29 (xs28) c30]) (by kernel_rfl)) fun a hf => ?_
 refine pl_0 hf rfl rfl (w_store hf hM (us := [vL A29 (xs28) c30]) (cs' := [vL A29 (xs28) c30]) rfl rfl (k := 2) rfl rfl Tryz.sizeOf26 rfl rfl rfl fun w99 hM => ?_)
 dsimp only [List.set] at hM
 refine pl_nil ?_
 refine then_n ?_
 refine wp_ret ?_
 obtain rfl := some_inj h
 have hres102 := leaveV1 (P := Tryz.prog) (w := w99) Tryz.results25 (res_agg hf rfl ⟨Tryz.isAgg26, Tryz.sizeOf26⟩ (us := [vL A29 (xs28) c30]) rfl (hM.boxSub (k := 2) (o := 0) rfl rfl))
 have hM := hM.front (k := 0) rfl
 dsimp only [List.eraseIdx] at hM
 have hM := hM.front (k := 3) rfl
 dsimp only [List.eraseIdx] at hM
 have hM := hM.outs (own' := [.box b2 [vL A3 (s1.code) c4, vI (n24), vW (n26)] 105, .row strRep A29 c30 9 xs28 true]) 2 rfl
 exact bodyPost_ret hres102 hf.defers ⟨A29, c30, rfl, hM.fin, hv25, hv27⟩
theorem r_spec_l06Tails (C : Cx) (list1 : (List Str)) (A2 : Option Addr) (c3 : Nat) (hp4 : (sliceRep strRep).R C.w0 C.S0 list1 [vL A2 list1 c3]) (from_5 : Int) (hp6 : R64 from_5) (r : ((List Str) × Int)) (h : m_spec_l06Tails list1 from_5 = some r) :
    Calls Tryz.prog 131 #[vL A2 (list1) c3, vI (from_5)] C.w0 fun e w => ∃ (A_1 : Option Addr), ∃ (c_1 : Nat), e = .returned (.tuple #[vL A_1 (r.1) c_1, vI (r.2)]) ∧ Mem C w [.row strRep A_1 c_1 9 r.1 true] [] ∧ R64 r.2 := by
 have hM := Mem.begin C [.dat (sliceRep strRep) list1 [vL A2 list1 c3]] ⟨hp4, trivial⟩
 refine enter Tryz.func131 rfl Tryz.ntmps131 rfl fun a hf => ?_
 unfold m_spec_l06Tails at h
 refine wp_seq ?_
 refine region_pl ?_
 iterate 2 refine q_ hf rfl rfl rfl (e_assign hf rfl) fun a hf => ?_
 refine pl_nil ?_
 refine then_n ?_
 refine wp_seq ?_
 refine region_pl ?_
 refine pl_l hf rfl rfl rfl (w_slice0 (K := strRep) hM Tryz.underlying24 ei_9 fun b7 w8 hx9 hM a hf => ?_)
 refine q_ hf rfl rfl rfl (e_assign hf rfl) fun a hf => ?_
 refine pl_nil ?_
 refine then_n ?_
 refine wp_seq ?_
 refine region_pl ?_
 iterate 2 refine q_ hf rfl rfl rfl (e_move hf rfl) fun a hf => ?_
 obtain ⟨e10, hz11, h⟩ := bind_some h
 obtain ⟨b15, o16, _, hA17, h12, h13, hr14, hM⟩ := hM.elem (hM.dat (k := 0) rfl) (n := 1) rfl hz11
 obtain ⟨rfl, hv18⟩ := hr14
 refine q_ hf rfl rfl rfl (e_indexAddr (A := A2) (b := b15) (o := o16) (xs := list1) (i := from_5) hf hA17 rfl rfl Tryz.underlying24 Tryz.sizeOf9 h12 h13) fun a hf => ?_
 refine q_ hf rfl rfl rfl (e_load1 hf rfl Tryz.isAgg9 (hM.litCell (k := 0) (j := 0) rfl rfl rfl)) fun a hf => ?_
 obtain ⟨c19, hz20, h⟩ := bind_some h
 refine q_ hf rfl rfl rfl (e_indexS hf (x := e10) rfl rfl Tryz.underlying9 hz20) fun a hf => ?_
 refine q_ hf rfl rfl rfl (e_assign hf rfl) fun a hf => ?_
 refine pl_nil ?_
 refine then_n ?_
 refine wp_seq ?_
 refine region_pl ?_
 refine q_ hf rfl rfl rfl (e_move hf rfl) fun a hf => ?_
 refine q_ hf rfl rfl rfl (e_assign hf rfl) fun a hf => ?_
 refine pl_nil ?_
 refine then_n ?_
 obtain ⟨x26, h27, h⟩ := bind_some h
 refine seq_join (fun a w => ∃ (xs21 : (List Str)) (n24 : Int) (A22 : Option Addr) (c23 : Nat), (xs21, n24) = x26 ∧ Has 41 a [(6, vL A22 (xs21) c23), (8, vI (n24))] ∧ Mem C w [.row strRep A22 c23 9 xs21 true] [.lit b15 (o16 + (from_5 : Int).toNat * 1) [vS (e10)], .dat (sliceRep strRep) list1 [vL A2 list1 c3]] ∧ R64 n24) ?_ ?_
 ·refine wp_block ?_
  obtain ⟨x39, h40, h27⟩ := bind_some h27
  refine wp_loopM h40 (fun s a w => ∃ (xs28 : (List Str)) (n31 : Int) (A29 : Option Addr) (c30 : Nat), (xs28, n31) = s ∧ Has 41 a [(0, vL A2 (list1) c3), (6, vL A29 (xs28) c30), (7, vB (c19)), (8, vI (n31))] ∧ Mem C w [.row strRep A29 c30 9 xs28 true] [.lit b15 (o16 + (from_5 : Int).toNat * 1) [vS (e10)], .dat (sliceRep strRep) list1 [vL A2 list1 c3]] ∧ R64 n31) ?_ ?_
  ·exact ⟨([] : (List Str)), from_5, (some ⟨b7, 0, none⟩), 0, rfl, hf.keep ⟨rfl, rfl, rfl, rfl, trivial⟩, hM.pick [0, 1] rfl, hp6⟩
  rintro s o41 a w33 ⟨xs28, n31, A29, c30, rfl, hf, hM, hv32⟩ h42 hd43
  replace h42 : m_spec_l06Tails_l1 list1 c19 xs28 n31 = some o41 := h42
  unfold m_spec_l06Tails_l1 at h42
  refine wp_seq ?_
  obtain ⟨x46, h47, h42⟩ := bind_some h42
  refine seq_join (fun a w => ∃ (t44 : Bool), t44 = x46 ∧ Has 41 a [(0, vL A2 (list1) c3), (6, vL A29 (xs28) c30), (7, vB (c19)), (8, vI (n31)), (28, .bool (t44))] ∧ Mem C w [.row strRep A29 c30 9 xs28 true] [.lit b15 (o16 + (from_5 : Int).toNat * 1) [vS (e10)], .dat (sliceRep strRep) list1 [vL A2 list1 c3]]) ?_ ?_
  ·refine region_pl ?_
   iterate 2 refine q_ hf rfl rfl rfl (e_move hf rfl) fun a hf => ?_
   have hl48 := slice_len (hM.dat (k := 1) rfl)
   refine q_ hf rfl rfl rfl (e_lenL hf (x := list1) rfl Tryz.underlying24) fun a hf => ?_
   refine q_ hf rfl rfl rfl (e_lt hf (x := n31) (y := (list1.length : Int)) rfl rfl) fun a hf => ?_
   refine q_ hf rfl rfl rfl (e_move hf rfl) fun a hf => ?_
   rcases cond_some h47 with ⟨hc49, h47⟩ | ⟨hc49, h47⟩
   ·iterate 2 refine gq (wanted_t hf rfl rfl rfl rfl hc49) hf rfl rfl (e_move hf rfl) fun a hf => ?_
    obtain ⟨e50, hz51, h47⟩ := bind_some h47
    obtain ⟨b55, o56, _, hA57, h52, h53, hr54, hM⟩ := hM.elem (hM.dat (k := 1) rfl) (n := 1) rfl hz51
    obtain ⟨rfl, hv58⟩ := hr54
    refine gq (wanted_t hf rfl rfl rfl rfl hc49) hf rfl rfl (e_indexAddr (A := A2) (b := b55) (o := o56) (xs := list1) (i := n31) hf hA57 rfl rfl Tryz.underlying24 Tryz.sizeOf9 h52 h53) fun a hf => ?_
    refine gq (wanted_t hf rfl rfl rfl rfl hc49) hf rfl rfl (e_load1 hf rfl Tryz.isAgg9 (hM.litCell (k := 0) (j := 0) rfl rfl rfl)) fun a hf => ?_
    obtain ⟨c59, hz60, h47⟩ := bind_some h47
    refine gq (wanted_t hf rfl rfl rfl rfl hc49) hf rfl rfl (e_indexS hf (x := e50) rfl rfl Tryz.underlying9 hz60) fun a hf => ?_
    refine gq (wanted_t hf rfl rfl rfl rfl hc49) hf rfl rfl (e_move hf rfl) fun a hf => ?_
    refine gq (wanted_t hf rfl rfl rfl rfl hc49) hf rfl rfl (e_eqB hf (x := c59) (y := c19) rfl rfl) fun a hf => ?_
    refine q_ hf rfl rfl rfl (e_pick_t hf rfl hc49 rfl) fun a hf => ?_
    refine pl_nil ?_
    obtain rfl := some_inj h47
    refine then_n ?_
    exact ⟨(c59 == c19), rfl, hf.keep ⟨rfl, rfl, rfl, rfl, rfl, trivial⟩, hM.pick [1, 2] rfl⟩
   iterate 7 refine pl_gs (wanted_f hf rfl rfl rfl rfl hc49) hf rfl rfl fun a hf => ?_
   refine q_ hf rfl rfl rfl (e_pick_f hf rfl hc49 rfl) fun a hf => ?_
   refine pl_nil ?_
   obtain rfl := some_inj h47
   refine then_n ?_
   exact ⟨false, rfl, hf.keep ⟨rfl, rfl, rfl, rfl, rfl, trivial⟩, hM.pick [0, 1] rfl⟩
  rintro a w63 ⟨t44, rfl, hf, hM⟩
  try dsimp only at h42
  rcases cond_some h42 with ⟨hc64, h42⟩ | ⟨hc64, h42⟩
  ·refine cond_t hf rfl hc64 ?_
   refine wp_skip ?_
   refine then_n ?_
   refine wp_block ?_
   refine wp_seq ?_
   refine region_pl ?_
   iterate 3 refine q_ hf rfl rfl rfl (e_move hf rfl) fun a hf => ?_
   obtain ⟨e65, hz66, h42⟩ := bind_some h42
   obtain ⟨b70, o71, _, hA72, h67, h68, hr69, hM⟩ := hM.elem (hM.dat (k := 1) rfl) (n := 1) rfl hz66
   obtain ⟨rfl, hv73⟩ := hr69
   refine q_ hf rfl rfl rfl (e_indexAddr (A := A2) (b := b70) (o := o71) (xs := list1) (i := n31) hf hA72 rfl rfl Tryz.underlying24 Tryz.sizeOf9 h67 h68) fun a hf => ?_
   refine q_ hf rfl rfl rfl (e_load1 hf rfl Tryz.isAgg9 (hM.litCell (k := 0) (j := 0) rfl rfl rfl)) fun a hf => ?_
   obtain ⟨s74, hz75, h42⟩ := bind_some h42
   refine q_ hf rfl rfl rfl (e_subSl hf (x := e65) rfl rfl Tryz.underlying9 hz75) fun a hf => ?_
   refine pl_l hf rfl rfl rfl (w_slice hf hM (K := strRep) (xs := ([s74] : (List Str))) (os := [.tmp 34]) Tryz.underlying24 ei_9 rfl rfl rfl rfl rfl ⟨⟨[vS (s74)], rfl, ⟨rfl, (sub_len hz75 hv73)⟩⟩, trivial⟩ rfl fun b76 w77 hx78 hM a hf => ?_)
   obtain ⟨xs79, hz80, h42⟩ := bind_some h42
   refine pl_l hf rfl rfl rfl (w_append hf hM Tryz.underlying24 ei_9 rfl rfl rfl (k := 1) rfl (hM.srcRow (k := 0) rfl) hz80 fun A81 c82 w83 hM a hf => ?_)
   dsimp only [List.set] at hM
   refine q_ hf rfl rfl rfl (e_assign hf rfl) fun a hf => ?_
   refine pl_nil ?_
   refine then_n ?_
   refine region_pl ?_
   refine q_ hf rfl rfl rfl (e_move hf rfl) fun a hf => ?_
   obtain ⟨z86, hz87, h42⟩ := bind_some h42
   refine q_ hf rfl rfl rfl (e_add hf rfl rfl hz87) fun a hf => ?_
   refine q_ hf rfl rfl rfl (e_assign hf rfl) fun a hf => ?_
   refine pl_nil ?_
   refine blk_n ?_
   obtain rfl := some_inj h42
   refine then_n ⟨_, rfl, ?_⟩
   exact ⟨xs79, z86, A81, c82, rfl, hf.keep ⟨rfl, rfl, rfl, rfl, trivial⟩, (hM.drop (.cons _ (.cons_cons _ .slnil))).pick [1, 2] rfl, (chk_R hz87)⟩
  refine cond_f hf rfl hc64 ?_
  refine wp_exit ?_
  refine then_x ?_
  obtain rfl := some_inj h42
  obtain rfl := hd43 _ rfl
  try dsimp only at h27
  refine then_x ?_
  refine exit_hit ?_
  obtain rfl := some_inj h27
  refine then_n ?_
  exact ⟨xs28, n31, A29, c30, rfl, hf.keep ⟨rfl, rfl, trivial⟩, hM.pick [0, 1] rfl, hv32⟩
 rintro a w93 ⟨xs21, n24, A22, c23, rfl, hf, hM, hv25⟩
 try dsimp only at h
 refine wp_seq ?_
 refine region_pl ?_
 iterate 2 refine q_ hf rfl rfl rfl (e_move hf rfl) fun a hf => ?_
 iterate 2 refine q_ hf rfl rfl rfl (e_assign hf rfl) fun a hf => ?_
 refine pl_nil ?_
 refine then_n ?_
 refine wp_ret ?_
 obtain rfl := some_inj h
 exact leave2 hf rfl rfl rfl ⟨A22, c23, rfl, hM.fin, hv25⟩
theorem r_spec_l00Same (C : Cx) (a1 : (List Int)) (A2 : Option Addr) (c3 : Nat) (hp4 : (sliceRep intRep).R C.w0 C.S0 a1 [vL A2 a1 c3]) (b5 : (List Int)) (A6 : Option Addr) (c7 : Nat) (hp8 : (sliceRep intRep).R C.w0 C.S0 b5 [vL A6 b5 c7]) (r : Bool) (h : m_spec_l00Same a1 b5 = some r) :
    Calls Tryz.prog 99 #[vL A2 (a1) c3, vL A6 (b5) c7] C.w0 fun e w => e = .returned (.bool (r)) ∧ Mem C w [] [] := by
 have hM := Mem.begin C [.dat (sliceRep intRep) b5 [vL A6 b5 c7], .dat (sliceRep intRep) a1 [vL A2 a1 c3]] ⟨hp8, hp4, trivial⟩
 refine enter Tryz.func99 rfl Tryz.ntmps99 rfl fun a hf => ?_
 unfold m_spec_l00Same at h
 refine wp_seq ?_
 refine region_pl ?_
 refine q_ hf rfl rfl rfl (e_assign hf rfl) fun a hf => ?_
 refine pl_nil ?_
 refine then_n ?_
 iterate 2 refine wp_seq ?_
 refine region_pl ?_
 refine q_ hf rfl rfl rfl (e_move hf rfl) fun a hf => ?_
 have hl9 := slice_len (hM.dat (k := 1) rfl)
 refine q_ hf rfl rfl rfl (e_lenL hf (x := a1) rfl Tryz.underlying45) fun a hf => ?_
 refine q_ hf rfl rfl rfl (e_move hf rfl) fun a hf => ?_
 have hl10 := slice_len (hM.dat (k := 0) rfl)
 refine q_ hf rfl rfl rfl (e_lenL hf (x := b5) rfl Tryz.underlying45) fun a hf => ?_
 refine q_ hf rfl rfl rfl (e_ne hf (x := (a1.length : Int)) (y := (b5.length : Int)) rfl rfl) fun a hf => ?_
 refine pl_nil ?_
 refine then_n ?_
 rcases cond_some h with ⟨hc11, h⟩ | ⟨hc11, h⟩
 ·refine cond_t hf rfl hc11 ?_
  refine wp_seq ?_
  refine region_pl ?_
  refine q_ hf rfl rfl rfl (e_assign hf rfl) fun a hf => ?_
  refine pl_nil ?_
  refine then_n ?_
  refine wp_ret ?_
  refine then_r ?_
  obtain rfl := some_inj h
  exact leave1 hf rfl rfl ⟨rfl, hM.fin⟩
 refine cond_f hf rfl hc11 ?_
 refine wp_skip ?_
 refine then_n ?_
 obtain ⟨x12, h13, h⟩ := bind_some h
 refine seq_join (fun a w => (.inl ()) = x12 ∧ Has 26 a [] ∧ Mem C w [] [.dat (sliceRep intRep) b5 [vL A6 b5 c7], .dat (sliceRep intRep) a1 [vL A2 a1 c3]]) ?_ ?_
 ·refine wp_seq ?_
  refine region_pl ?_
  refine q_ hf rfl rfl rfl (e_assign hf rfl) fun a hf => ?_
  refine pl_nil ?_
  refine then_n ?_
  refine wp_block ?_
  obtain ⟨x17, h18, h13⟩ := bind_some h13
  refine wp_loopM h18 (fun s a w => ∃ (n14 : Int), n14 = s ∧ Has 26 a [(0, vL A2 (a1) c3), (1, vL A6 (b5) c7), (5, vI (n14))] ∧ Mem C w [] [.dat (sliceRep intRep) b5 [vL A6 b5 c7], .dat (sliceRep intRep) a1 [vL A2 a1 c3]] ∧ R64 n14) ?_ ?_
  ·exact ⟨0, rfl, hf.keep ⟨rfl, rfl, rfl, trivial⟩, hM.pick [0, 1] rfl, (R64_lit rfl)⟩
  rintro s o19 a w16 ⟨n14, rfl, hf, hM, hv15⟩ h20 hd21
  replace h20 : m_spec_l00Same_l1 a1 b5 n14 = some o19 := h20
  unfold m_spec_l00Same_l1 at h20
  iterate 2 refine wp_seq ?_
  refine region_pl ?_
  iterate 2 refine q_ hf rfl rfl rfl (e_move hf rfl) fun a hf => ?_
  have hl22 := slice_len (hM.dat (k := 1) rfl)
  refine q_ hf rfl rfl rfl (e_lenL hf (x := a1) rfl Tryz.underlying45) fun a hf => ?_
  refine q_ hf rfl rfl rfl (e_lt hf (x := n14) (y := (a1.length : Int)) rfl rfl) fun a hf => ?_
  refine pl_nil ?_
  refine then_n ?_
  rcases cond_some h20 with ⟨hc23, h20⟩ | ⟨hc23, h20⟩
  ·refine cond_t hf rfl hc23 ?_
   refine wp_skip ?_
   refine then_n ?_
   refine wp_seq ?_
   refine wp_block ?_
   refine wp_seq ?_
   obtain ⟨w24, hw⟩ : ∃ x, x = w16.drew := ⟨_, rfl⟩
   refine region_pi (.q 0 (.q 1 (.q 2 (.q 3 (.q 4 (.q 5 (.q 6 (.q 7 (.q 8 (.nil)))))))))) (Ext w24) rfl (by kernel_rfl) ?_
   have hM := hM.drew
   rw [← hw] at hM ⊢
   clear hw
   iterate 2 refine pi_q hf rfl rfl rfl rfl (Ext.refl _) (e_move hf rfl) fun a hf => ?_
   obtain ⟨e25, hz26, h20⟩ := bind_some h20
   obtain ⟨b30, o31, _, hA32, h27, h28, hr29, hM⟩ := hM.elem (hM.dat (k := 1) rfl) (n := 1) rfl hz26
   obtain ⟨rfl, hv33⟩ := hr29
   refine pi_q hf rfl rfl rfl rfl (Ext.refl _) (e_indexAddr (A := A2) (b := b30) (o := o31) (xs := a1) (i := n14) hf hA32 rfl rfl Tryz.underlying45 Tryz.sizeOf2 h27 h28) fun a hf => ?_
   refine pi_q hf rfl rfl rfl rfl (Ext.refl _) (e_load1 hf rfl Tryz.isAgg2 (hM.litCell (k := 0) (j := 0) rfl rfl rfl)) fun a hf => ?_
   iterate 2 refine pi_q hf rfl rfl rfl rfl (Ext.refl _) (e_move hf rfl) fun a hf => ?_
   obtain ⟨e34, hz35, h20⟩ := bind_some h20
   obtain ⟨b39, o40, _, hA41, h36, h37, hr38, hM⟩ := hM.elem (hM.dat (k := 1) rfl) (n := 1) rfl hz35
   obtain ⟨rfl, hv42⟩ := hr38
   refine pi_q hf rfl rfl rfl rfl (Ext.refl _) (e_indexAddr (A := A6) (b := b39) (o := o40) (xs := b5) (i := n14) hf hA41 rfl rfl Tryz.underlying45 Tryz.sizeOf2 h36 h37) fun a hf => ?_
   refine pi_q hf rfl rfl rfl rfl (Ext.refl _) (e_load1 hf rfl Tryz.isAgg2 (hM.litCell (k := 0) (j := 0) rfl rfl rfl)) fun a hf => ?_
   refine pi_q hf rfl rfl rfl rfl (Ext.refl _) (e_ne hf (x := e25) (y := e34) rfl rfl) fun a hf => ?_
   refine pi_nil ?_
   refine then_n ?_
   rcases cond_some h20 with ⟨hc43, h20⟩ | ⟨hc43, h20⟩
   ·refine cond_t hf rfl hc43 ?_
    refine wp_seq ?_
    refine region_pl ?_
    refine q_ hf rfl rfl rfl (e_assign hf rfl) fun a hf => ?_
    refine pl_nil ?_
    refine then_n ?_
    refine wp_ret ?_
    refine blk_r ?_
    refine then_r ?_
    obtain rfl := some_inj h20
    obtain rfl := hd21 _ rfl
    try dsimp only at h13
    refine then_r ?_
    refine blk_r ?_
    obtain rfl := some_inj h13
    try dsimp only at h
    refine then_r ?_
    obtain rfl := some_inj h
    exact leave1 hf rfl rfl ⟨rfl, hM.fin⟩
   refine cond_f hf rfl hc43 ?_
   refine wp_skip ?_
   refine blk_n ?_
   refine then_n ?_
   refine region_pl ?_
   refine q_ hf rfl rfl rfl (e_move hf rfl) fun a hf => ?_
   obtain ⟨z44, hz45, h20⟩ := bind_some h20
   refine q_ hf rfl rfl rfl (e_add hf rfl rfl hz45) fun a hf => ?_
   refine q_ hf rfl rfl rfl (e_assign hf rfl) fun a hf => ?_
   refine pl_nil ?_
   obtain rfl := some_inj h20
   refine then_n ⟨_, rfl, ?_⟩
   exact ⟨z44, rfl, hf.keep ⟨rfl, rfl, rfl, trivial⟩, hM.pick [2, 3] rfl, (chk_R hz45)⟩
  refine cond_f hf rfl hc23 ?_
  refine wp_exit ?_
  refine then_x ?_
  obtain rfl := some_inj h20
  obtain rfl := hd21 _ rfl
  try dsimp only at h13
  refine then_x ?_
  refine exit_hit ?_
  obtain rfl := some_inj h13
  refine then_n ?_
  exact ⟨rfl, hf.keep trivial, hM.pick [0, 1] rfl⟩
 rintro a w52 ⟨rfl, hf, hM⟩
 try dsimp only at h
 refine wp_seq ?_
 refine region_pl ?_
 refine q_ hf rfl rfl rfl (e_assign hf rfl) fun a hf => ?_
 refine pl_nil ?_
 refine then_n ?_
 refine wp_ret ?_
 obtain rfl := some_inj h
 exact leave1 hf rfl rfl ⟨rfl, hM.fin⟩
theorem r_spec_l06Equal (C : Cx) (a1 : Node) (b2 : Nat) (o3 : Nat) (hp4 : (ptrRep NodeRep).R C.w0 C.S0 a1 [vP b2 o3]) (b5 : Node) (b6 : Nat) (o7 : Nat) (hp8 : (ptrRep NodeRep).R C.w0 C.S0 b5 [vP b6 o7]) (r : Bool) (h : m_spec_l06Equal a1 b5 = some r) :
    Calls Tryz.prog 68 #[vP b2 (o3), vP b6 (o7)] C.w0 fun e w => e = .returned (.bool (r)) ∧ Mem C w [] [] := by
 have hM := Mem.begin C [.dat (ptrRep NodeRep) b5 [vP b6 o7], .dat (ptrRep NodeRep) a1 [vP b2 o3]] ⟨hp8, hp4, trivial⟩
 refine enter Tryz.func68 rfl Tryz.ntmps68 rfl fun a hf => ?_
 unfold m_spec_l06Equal at h
 refine wp_seq ?_
 refine region_pl ?_
 refine q_ hf rfl rfl rfl (e_assign hf rfl) fun a hf => ?_
 refine pl_nil ?_
 refine then_n ?_
 obtain ⟨x11, h12, h⟩ := bind_some h
 refine seq_join (fun a w => ∃ (t9 : Bool), t9 = x11 ∧ Has 36 a [(4, .bool (t9))] ∧ Mem C w [] [.dat (ptrRep NodeRep) b5 [vP b6 o7], .dat (ptrRep NodeRep) a1 [vP b2 o3]]) ?_ ?_
 ·obtain ⟨w13, hw⟩ : ∃ x, x = C.w0.drew := ⟨_, rfl⟩
  refine region_pi (.q 0 (.q 1 (.q 2 (.q 3 (.q 4 (.q 5 (.q 6 (.q 7 (.q 8 (.q 9 (.q 10 (.q 11 (.q 12 (.q 13 (.q 14 (.q 15 (.q 16 (.q 17 (.q 18 (.q 19 (.q 20 (.q 21 (.q 22 (.q 23 (.q 24 (.q 25 (.q 26 (.q 27 (.q 28 (.l 29 (.q 30 (.q 31 (.nil))))))))))))))))))))))))))))))))) (Ext w13) rfl (by kernel_rfl) ?_
  have hM := hM.drew
  rw [← hw] at hM ⊢
  clear hw
  refine pi_q hf rfl rfl rfl rfl (Ext.refl _) (e_move hf rfl) fun a hf => ?_
  refine pi_q hf rfl rfl rfl rfl (Ext.refl _) (e_nil hf rfl) fun a hf => ?_
  obtain ⟨_, hr14, hM⟩ := hM.deref (hM.dat (k := 1) rfl)
  obtain ⟨A16, c17, rfl, hv15, hv18⟩ := NodeRep_open hr14
  have hM := hM.add (y := .dat (sliceRep intRep) a1.Next [vL A16 a1.Next c17]) hv18
  refine pi_q hf rfl rfl rfl rfl (Ext.refl _) (e_field hf rfl Tryz.underlying47 rfl Tryz.sizeOf4 (o' := o3 + 0) rfl) fun a hf => ?_
  refine pi_q hf rfl rfl rfl rfl (Ext.refl _) (e_load1 hf rfl Tryz.isAgg4 (hM.litCell (k := 1) (j := 0) rfl rfl rfl)) fun a hf => ?_
  refine pi_q hf rfl rfl rfl rfl (Ext.refl _) (e_move hf rfl) fun a hf => ?_
  refine pi_q hf rfl rfl rfl rfl (Ext.refl _) (e_nil hf rfl) fun a hf => ?_
  obtain ⟨_, hr19, hM⟩ := hM.deref (hM.dat (k := 2) rfl)
  obtain ⟨A21, c22, rfl, hv20, hv23⟩ := NodeRep_open hr19
  have hM := hM.add (y := .dat (sliceRep intRep) b5.Next [vL A21 b5.Next c22]) hv23
  refine pi_q hf rfl rfl rfl rfl (Ext.refl _) (e_field hf rfl Tryz.underlying47 rfl Tryz.sizeOf4 (o' := o7 + 0) rfl) fun a hf => ?_
  refine pi_q hf rfl rfl rfl rfl (Ext.refl _) (e_load1 hf rfl Tryz.isAgg4 (hM.litCell (k := 1) (j := 0) rfl rfl rfl)) fun a hf => ?_
  refine pi_q hf rfl rfl rfl rfl (Ext.refl _) (e_eqT hf rfl rfl Tryz.underlying4) fun a hf => ?_
  refine pi_q hf rfl rfl rfl rfl (Ext.refl _) (e_move hf rfl) fun a hf => ?_
  rcases cond_some h12 with ⟨hc24, h12⟩ | ⟨hc24, h12⟩
  ·refine pi_gq hf rfl (wanted_t hf rfl rfl rfl rfl hc24) rfl rfl (Ext.refl _) (e_move hf rfl) fun a hf => ?_
   refine pi_gq hf rfl (wanted_t hf rfl rfl rfl rfl hc24) rfl rfl (Ext.refl _) (e_nil hf rfl) fun a hf => ?_
   refine pi_gq hf rfl (wanted_t hf rfl rfl rfl rfl hc24) rfl rfl (Ext.refl _) (e_field hf rfl Tryz.underlying47 rfl Tryz.sizeOf9 (o' := o3 + 1) rfl) fun a hf => ?_
   refine pi_gq hf rfl (wanted_t hf rfl rfl rfl rfl hc24) rfl rfl (Ext.refl _) (e_load1 hf rfl Tryz.isAgg9 (hM.litCell (k := 3) (j := 1) rfl rfl rfl)) fun a hf => ?_
   refine pi_gq hf rfl (wanted_t hf rfl rfl rfl rfl hc24) rfl rfl (Ext.refl _) (e_move hf rfl) fun a hf => ?_
   refine pi_gq hf rfl (wanted_t hf rfl rfl rfl rfl hc24) rfl rfl (Ext.refl _) (e_nil hf rfl) fun a hf => ?_
   refine pi_gq hf rfl (wanted_t hf rfl rfl rfl rfl hc24) rfl rfl (Ext.refl _) (e_field hf rfl Tryz.underlying47 rfl Tryz.sizeOf9 (o' := o7 + 1) rfl) fun a hf => ?_
   refine pi_gq hf rfl (wanted_t hf rfl rfl rfl rfl hc24) rfl rfl (Ext.refl _) (e_load1 hf rfl Tryz.isAgg9 (hM.litCell (k := 1) (j := 1) rfl rfl rfl)) fun a hf => ?_
   refine pi_gq hf rfl (wanted_t hf rfl rfl rfl rfl hc24) rfl rfl (Ext.refl _) (e_eqS hf (x := a1.Letters) (y := b5.Letters) rfl rfl) fun a hf => ?_
   refine pi_q hf rfl rfl rfl rfl (Ext.refl _) (e_pick_t hf rfl hc24 rfl) fun a hf => ?_
   refine pi_q hf rfl rfl rfl rfl (Ext.refl _) (e_move hf rfl) fun a hf => ?_
   rcases cond_some h12 with ⟨hc25, h12⟩ | ⟨hc25, h12⟩
   ·refine pi_gq hf rfl (wanted_t hf rfl rfl rfl rfl hc25) rfl rfl (Ext.refl _) (e_move hf rfl) fun a hf => ?_
    refine pi_gq hf rfl (wanted_t hf rfl rfl rfl rfl hc25) rfl rfl (Ext.refl _) (e_nil hf rfl) fun a hf => ?_
    refine pi_gq hf rfl (wanted_t hf rfl rfl rfl rfl hc25) rfl rfl (Ext.refl _) (e_field hf rfl Tryz.underlying47 rfl Tryz.sizeOf45 (o' := o3 + 2) rfl) fun a hf => ?_
    refine pi_gq hf rfl (wanted_t hf rfl rfl rfl rfl hc25) rfl rfl (Ext.refl _) (e_load1 hf rfl Tryz.isAgg45 (hM.litCell (k := 3) (j := 2) rfl rfl rfl)) fun a hf => ?_
    refine pi_gq hf rfl (wanted_t hf rfl rfl rfl rfl hc25) rfl rfl (Ext.refl _) (e_move hf rfl) fun a hf => ?_
    refine pi_gq hf rfl (wanted_t hf rfl rfl rfl rfl hc25) rfl rfl (Ext.refl _) (e_nil hf rfl) fun a hf => ?_
    refine pi_gq hf rfl (wanted_t hf rfl rfl rfl rfl hc25) rfl rfl (Ext.refl _) (e_field hf rfl Tryz.underlying47 rfl Tryz.sizeOf45 (o' := o7 + 2) rfl) fun a hf => ?_
    refine pi_gq hf rfl (wanted_t hf rfl rfl rfl rfl hc25) rfl rfl (Ext.refl _) (e_load1 hf rfl Tryz.isAgg45 (hM.litCell (k := 1) (j := 2) rfl rfl rfl)) fun a hf => ?_
    refine pi_one ?_
    obtain ⟨y26, hz27, h12⟩ := bind_some h12
    refine pi_gl hf rfl (wanted_t hf rfl rfl rfl rfl hc25) rfl rfl (w_call hf Tryz.call99 rfl (r_spec_l00Same ⟨_, Sh C _ _, none_, hM.sh_lt, none_not, C.G, hM.g_lt, g_none, hM.tabs⟩ a1.Next _ _ (hM.dat (k := 2) rfl) b5.Next _ _ (hM.dat (k := 0) rfl) _ hz27) ?_)
    rintro _ w28 ⟨rfl, hM2⟩
    obtain ⟨hM, hx29, hup30⟩ := hM.back hM2
    dsimp only [List.cons_append, List.nil_append] at hM hup30
    clear hM2
    refine ⟨_, rfl, Ext w28, fun _ h => Ext.trans hx29 h, Ext.refl _, fun a hf => ?_⟩
    refine pi_q hf rfl rfl rfl rfl (Ext.refl _) (e_pick_t hf rfl hc25 rfl) fun a hf => ?_
    refine pi_q hf rfl rfl rfl rfl (Ext.refl _) (e_assign hf rfl) fun a hf => ?_
    refine pi_nil ?_
    obtain rfl := some_inj h12
    refine then_n ?_
    exact ⟨y26, rfl, hf.keep ⟨rfl, trivial⟩, hM.pick [4, 5] rfl⟩
   iterate 8 refine pi_gs hf rfl (wanted_f hf rfl rfl rfl rfl hc25) rfl rfl (Ext.refl _) fun a hf => ?_
   refine pi_one ?_
   refine pi_ls hf rfl (wanted_f hf rfl rfl rfl rfl hc25) rfl rfl (Ext.refl _) fun a hf => ?_
   refine pi_q hf rfl rfl rfl rfl (Ext.refl _) (e_pick_f hf rfl hc25 rfl) fun a hf => ?_
   refine pi_q hf rfl rfl rfl rfl (Ext.refl _) (e_assign hf rfl) fun a hf => ?_
   refine pi_nil ?_
   obtain rfl := some_inj h12
   refine then_n ?_
   exact ⟨false, rfl, hf.keep ⟨rfl, trivial⟩, hM.pick [4, 5] rfl⟩
  iterate 9 refine pi_gs hf rfl (wanted_f hf rfl rfl rfl rfl hc24) rfl rfl (Ext.refl _) fun a hf => ?_
  refine pi_q hf rfl rfl rfl rfl (Ext.refl _) (e_pick_f hf rfl hc24 rfl) fun a hf => ?_
  refine pi_q hf rfl rfl rfl rfl (Ext.refl _) (e_move hf rfl) fun a hf => ?_
  iterate 8 refine pi_gs hf rfl (wanted_f hf rfl rfl rfl rfl rfl) rfl rfl (Ext.refl _) fun a hf => ?_
  refine pi_one ?_
  refine pi_ls hf rfl (wanted_f hf rfl rfl rfl rfl rfl) rfl rfl (Ext.refl _) fun a hf => ?_
  refine pi_q hf rfl rfl rfl rfl (Ext.refl _) (e_pick_f hf rfl rfl rfl) fun a hf => ?_
  refine pi_q hf rfl rfl rfl rfl (Ext.refl _) (e_assign hf rfl) fun a hf => ?_
  refine pi_nil ?_
  obtain rfl := some_inj h12
  refine then_n ?_
  exact ⟨false, rfl, hf.keep ⟨rfl, trivial⟩, hM.pick [4, 5] rfl⟩
 rintro a w34 ⟨t9, rfl, hf, hM⟩
 try dsimp only at h
 refine wp_ret ?_
 obtain rfl := some_inj h
 exact leave1 hf rfl rfl ⟨rfl, hM.fin⟩
def Ct_spec_l06B_build (rc : l06B → (List Str) → Option (Int × l06B)) : Prop := ∀ (C : Cx) (b1 : l06B) (b2 : Nat) (A3 : Option Addr) (c4 : Nat) (list5 : (List Str)) (A6 : Option Addr) (c7 : Nat) (hp8 : (sliceRep strRep).R C.w0 C.S0 list5 [vL A6 list5 c7]) (hO : Mem C C.w0 [.box b2 [vL A3 (b1.nodes) c4] 151, .row NodeRep A3 c4 47 b1.nodes true] []) (hd : ∀ b, C.S0 b → ¬ ownB [.box b2 [vL A3 (b1.nodes) c4] 151, .row NodeRep A3 c4 47 b1.nodes true] b) (r : (Int × l06B)) (h : rc b1 list5 = some r),
    Calls Tryz.prog 103 #[vP b2 (0), vL A6 (list5) c7] C.w0 fun e w => ∃ (A_1 : Option Addr), ∃ (c_1 : Nat), e = .returned (vI (r.1)) ∧ Mem C w [.box b2 [vL A_1 (r.2.nodes) c_1] 151, .row NodeRep A_1 c_1 47 r.2.nodes true] [] ∧ R64 r.1
theorem r_spec_l06B_build_b (rc : l06B → (List Str) → Option (Int × l06B)) (ih : Ct_spec_l06B_build rc) : Ct_spec_l06B_build (m_spec_l06B_build_b rc) := by
 intro C b1 b2 A3 c4 list5 A6 c7 hp8 hO hd r h
 have hM := hO
 have hM := hM.addIn hd (y := .dat (sliceRep strRep) list5 [vL A6 list5 c7]) hp8
 refine enter Tryz.func103 rfl Tryz.ntmps103 rfl fun a hf => ?_
 unfold m_spec_l06B_build_b at h
 refine wp_seq ?_
 refine region_pl ?_
 refine q_ hf rfl rfl rfl (e_assign hf rfl) fun a hf => ?_
 refine pl_nil ?_
 refine then_n ?_
 refine wp_seq ?_
 refine region_pl ?_
 refine q_ hf rfl rfl rfl (e_build hf Tryz.zeroValue47 Tryz.underlying47 (bp_47 _ Tryz.underlying47.symm) rfl (cs := #[.bool (false), vS (([] : Str)), vL none (([] : (List Int))) 0]) (by kernel_rfl)) fun a hf => ?_
 refine pl_l hf rfl rfl rfl (w_alloc hM (cs := [.bool (false), vS (([] : Str)), vL none (([] : (List Int))) 0]) Tryz.zeroValue47 rfl fun b9 w10 hx11 hM a hf => ?_)
 refine pl_0 hf rfl rfl (w_store hf hM (us := [.bool (false), vS (([] : Str)), vL none (([] : (List Int))) 0]) (cs' := [.bool (false), vS (([] : Str)), vL none (([] : (List Int))) 0]) rfl rfl (k := 0) rfl rfl Tryz.sizeOf47 rfl rfl rfl fun w13 hM => ?_)
 dsimp only [List.set] at hM
 refine pl_nil ?_
 refine then_n ?_
 refine wp_seq ?_
 refine region_pl ?_
 refine q_ hf rfl rfl rfl (e_assign hf rfl) fun a hf => ?_
 refine pl_nil ?_
 refine then_n ?_
 obtain ⟨x20, h21, h⟩ := bind_some h
 refine seq_join (fun a w => ∃ (t16 : Bool) (next18 : Int), (t16, next18) = x20 ∧ Has 82 a [(0, vP b2 (0)), (1, vL A6 (list5) c7), (5, vP b9 (0)), (6, vI (next18))] ∧ Mem C w [.box b9 [.bool (t16), vS (([] : Str)), vL none (([] : (List Int))) 0] 47, .box b2 [vL A3 (b1.nodes) c4] 151, .row NodeRep A3 c4 47 b1.nodes true] [.dat (sliceRep strRep) list5 [vL A6 list5 c7]] ∧ R64 next18) ?_ ?_
 ·obtain ⟨x24, h25, h21⟩ := bind_some h21
  refine seq_join (fun a w => ∃ (t22 : Bool), t22 = x24 ∧ Has 82 a [(0, vP b2 (0)), (1, vL A6 (list5) c7), (5, vP b9 (0)), (6, vI (0)), (19, .bool (t22))] ∧ Mem C w [.box b9 [.bool (false), vS (([] : Str)), vL none (([] : (List Int))) 0] 47, .box b2 [vL A3 (b1.nodes) c4] 151, .row NodeRep A3 c4 47 b1.nodes true] [.dat (sliceRep strRep) list5 [vL A6 list5 c7]]) ?_ ?_
  ·refine region_pl ?_
   refine q_ hf rfl rfl rfl (e_move hf rfl) fun a hf => ?_
   have hl26 := slice_len (hM.dat (k := 0) rfl)
   refine q_ hf rfl rfl rfl (e_lenL hf (x := list5) rfl Tryz.underlying24) fun a hf => ?_
   refine q_ hf rfl rfl rfl (e_gt hf (x := (list5.length : Int)) (y := 0) rfl rfl) fun a hf => ?_
   refine q_ hf rfl rfl rfl (e_move hf rfl) fun a hf => ?_
   rcases cond_some h25 with ⟨hc27, h25⟩ | ⟨hc27, h25⟩
   ·refine gq (wanted_t hf rfl rfl rfl rfl hc27) hf rfl rfl (e_move hf rfl) fun a hf => ?_
    obtain ⟨e28, hz29, h25⟩ := bind_some h25
    obtain ⟨b33, o34, _, hA35, h30, h31, hr32, hM⟩ := hM.elem (hM.dat (k := 0) rfl) (n := 1) rfl hz29
    obtain ⟨rfl, hv36⟩ := hr32
    refine gq (wanted_t hf rfl rfl rfl rfl hc27) hf rfl rfl (e_indexAddr (A := A6) (b := b33) (o := o34) (xs := list5) (i := 0) hf hA35 rfl rfl Tryz.underlying24 Tryz.sizeOf9 h30 h31) fun a hf => ?_
    refine gq (wanted_t hf rfl rfl rfl rfl hc27) hf rfl rfl (e_load1 hf rfl Tryz.isAgg9 (hM.litCell (k := 0) (j := 0) rfl rfl rfl)) fun a hf => ?_
    refine gq (wanted_t hf rfl rfl rfl rfl hc27) hf rfl rfl (e_eqS hf (x := e28) (y := ([] : Str)) rfl rfl) fun a hf => ?_
    refine q_ hf rfl rfl rfl (e_pick_t hf rfl hc27 rfl) fun a hf => ?_
    refine pl_nil ?_
    obtain rfl := some_inj h25
    refine then_n ?_
    exact ⟨(e28 == ([] : Str)), rfl, hf.keep ⟨rfl, rfl, rfl, rfl, rfl, trivial⟩, hM.pick [1] rfl⟩
   iterate 4 refine pl_gs (wanted_f hf rfl rfl rfl rfl hc27) hf rfl rfl fun a hf => ?_
   refine q_ hf rfl rfl rfl (e_pick_f hf rfl hc27 rfl) fun a hf => ?_
   refine pl_nil ?_
   obtain rfl := some_inj h25
   refine then_n ?_
   exact ⟨false, rfl, hf.keep ⟨rfl, rfl, rfl, rfl, rfl, trivial⟩, hM.pick [0] rfl⟩
  rintro a w39 ⟨t22, rfl, hf, hM⟩
  try dsimp only at h21
  rcases cond_some h21 with ⟨hc40, h21⟩ | ⟨hc40, h21⟩
  ·refine cond_t hf rfl hc40 ?_
   refine wp_seq ?_
   refine region_pl ?_
   refine q_ hf rfl rfl rfl (e_field hf rfl Tryz.underlying47 rfl Tryz.sizeOf4 (o' := 0) rfl) fun a hf => ?_
   refine pl_0 hf rfl rfl (w_store hf hM (us := [.bool (true)]) (cs' := [.bool (true), vS (([] : Str)), vL none (([] : (List Int))) 0]) rfl rfl (k := 0) rfl rfl Tryz.sizeOf4 rfl rfl rfl fun w41 hM => ?_)
   dsimp only [List.set] at hM
   refine pl_nil ?_
   refine then_n ?_
   refine region_pl ?_
   refine q_ hf rfl rfl rfl (e_assign hf rfl) fun a hf => ?_
   refine pl_nil ?_
   obtain rfl := some_inj h21
   refine then_n ?_
   exact ⟨true, 1, rfl, hf.keep ⟨rfl, rfl, rfl, rfl, trivial⟩, hM.pick [0] rfl, (R64_lit rfl)⟩
  refine cond_f hf rfl hc40 ?_
  refine wp_skip ?_
  obtain rfl := some_inj h21
  refine then_n ?_
  exact ⟨false, 0, rfl, hf.keep ⟨rfl, rfl, rfl, rfl, trivial⟩, hM.pick [0] rfl, (R64_lit rfl)⟩
 rintro a w46 ⟨t16, next18, rfl, hf, hM, hv19⟩
 try dsimp only at h
 obtain ⟨x55, h56, h⟩ := bind_some h
 refine seq_join (fun a w => ∃ (s47 : Str) (xs49 : (List Int)) (xs52 : (List Node)) (A50 : Option Addr) (c51 : Nat) (A53 : Option Addr) (c54 : Nat), (s47, xs49, xs52) = x55 ∧ Has 82 a [(0, vP b2 (0)), (5, vP b9 (0))] ∧ Mem C w [.row intRep A50 c51 2 xs49 true, .box b9 [.bool (t16), vS (s47), vL A50 (xs49) c51] 47, .box b2 [vL A53 (xs52) c54] 151, .row NodeRep A53 c54 47 xs52 true] [.dat (sliceRep strRep) list5 [vL A6 list5 c7]] ∧ s47.length ≤ maxLen) ?_ ?_
 ·refine wp_block ?_
  have hM := hM.nilRow intRep 2
  obtain ⟨x76, h77, h56⟩ := bind_some h56
  refine wp_loopM h77 (fun s a w => ∃ (s57 : Str) (xs59 : (List Node)) (xs62 : (List Int)) (next65 : Int) (A60 : Option Addr) (c61 : Nat) (A63 : Option Addr) (c64 : Nat), (s57, xs59, xs62, next65) = s ∧ Has 82 a [(0, vP b2 (0)), (1, vL A6 (list5) c7), (5, vP b9 (0)), (6, vI (next65))] ∧ Mem C w [.row intRep A63 c64 2 xs62 true, .box b9 [.bool (t16), vS (s57), vL A63 (xs62) c64] 47, .box b2 [vL A60 (xs59) c61] 151, .row NodeRep A60 c61 47 xs59 true] [.dat (sliceRep strRep) list5 [vL A6 list5 c7]] ∧ s57.length ≤ maxLen ∧ R64 next65) ?_ ?_
  ·exact ⟨([] : Str), b1.nodes, ([] : (List Int)), next18, A3, c4, none, 0, rfl, hf.keep ⟨rfl, rfl, rfl, rfl, trivial⟩, hM.pick [0] rfl, (lit_len rfl), hv19⟩
  rintro s o78 a w67 ⟨s57, xs59, xs62, next65, A60, c61, A63, c64, rfl, hf, hM, hv58, hv66⟩ h79 hd80
  replace h79 : m_spec_l06B_build_l1 list5 rc s57 xs59 xs62 next65 = some o78 := h79
  unfold m_spec_l06B_build_l1 at h79
  iterate 2 refine wp_seq ?_
  refine region_pl ?_
  iterate 2 refine q_ hf rfl rfl rfl (e_move hf rfl) fun a hf => ?_
  have hl81 := slice_len (hM.dat (k := 0) rfl)
  refine q_ hf rfl rfl rfl (e_lenL hf (x := list5) rfl Tryz.underlying24) fun a hf => ?_
  refine q_ hf rfl rfl rfl (e_lt hf (x := next65) (y := (list5.length : Int)) rfl rfl) fun a hf => ?_
  refine pl_nil ?_
  refine then_n ?_
  rcases cond_some h79 with ⟨hc82, h79⟩ | ⟨hc82, h79⟩
  ·refine cond_t hf rfl hc82 ?_
   refine wp_skip ?_
   refine then_n ?_
   refine wp_block ?_
   refine wp_seq ?_
   refine region_pl ?_
   iterate 2 refine q_ hf rfl rfl rfl (e_move hf rfl) fun a hf => ?_
   obtain ⟨y83, hz84, h79⟩ := bind_some h79
   refine pl_l hf rfl rfl rfl (w_call hf Tryz.call131 rfl (r_spec_l06Tails ⟨_, Sh C _ _, none_, hM.sh_lt, none_not, C.G, hM.g_lt, g_none, hM.tabs⟩ list5 _ _ (hM.dat (k := 0) rfl) next65 hv66 _ hz84) ?_)
   rintro _ w88 ⟨A85, c86, rfl, hM2, hv87⟩
   obtain ⟨hM, hx89, hup90⟩ := hM.back hM2
   dsimp only [List.cons_append, List.nil_append] at hM hup90
   clear hM2
   refine ⟨_, rfl, fun a hf => ?_⟩
   refine q_ hf rfl rfl rfl (e_move hf rfl) fun a hf => ?_
   iterate 2 refine q_ hf rfl rfl rfl (e_extract hf rfl rfl) fun a hf => ?_
   iterate 2 refine q_ hf rfl rfl rfl (e_assign hf rfl) fun a hf => ?_
   refine pl_nil ?_
   refine then_n ?_
   refine wp_seq ?_
   obtain ⟨w91, hw⟩ : ∃ x, x = w88.drew := ⟨_, rfl⟩
   refine region_pi (.q 0 (.q 1 (.q 2 (.q 3 (.q 4 (.q 5 (.q 6 (.q 7 (.q 8 (.l 9 (.nil))))))))))) (Ext w91) rfl (by kernel_rfl) ?_
   have hM := hM.drew
   rw [← hw] at hM ⊢
   clear hw
   refine pi_q hf rfl rfl rfl rfl (Ext.refl _) (e_field hf rfl Tryz.underlying47 rfl Tryz.sizeOf9 (o' := 1) rfl) fun a hf => ?_
   refine pi_q hf rfl rfl rfl rfl (Ext.refl _) (e_load1 hf rfl Tryz.isAgg9 (hM.boxCell (k := 2) rfl rfl)) fun a hf => ?_
   iterate 2 refine pi_q hf rfl rfl rfl rfl (Ext.refl _) (e_move hf rfl) fun a hf => ?_
   obtain ⟨e92, hz93, h79⟩ := bind_some h79
   obtain ⟨b97, o98, _, hA99, h94, h95, hr96, hM⟩ := hM.elem (hM.dat (k := 0) rfl) (n := 1) rfl hz93
   obtain ⟨rfl, hv100⟩ := hr96
   refine pi_q hf rfl rfl rfl rfl (Ext.refl _) (e_indexAddr (A := A6) (b := b97) (o := o98) (xs := list5) (i := next65) hf hA99 rfl rfl Tryz.underlying24 Tryz.sizeOf9 h94 h95) fun a hf => ?_
   refine pi_q hf rfl rfl rfl rfl (Ext.refl _) (e_load1 hf rfl Tryz.isAgg9 (hM.litCell (k := 0) (j := 0) rfl rfl rfl)) fun a hf => ?_
   obtain ⟨s101, hz102, h79⟩ := bind_some h79
   refine pi_q hf rfl rfl rfl rfl (Ext.refl _) (e_subSh hf (x := e92) rfl rfl Tryz.underlying9 hz102) fun a hf => ?_
   obtain ⟨s103, hz104, h79⟩ := bind_some h79
   refine pi_q hf rfl rfl rfl rfl (Ext.refl _) (e_cat hf (x := s57) (y := s101) rfl rfl hz104) fun a hf => ?_
   refine pi_q hf rfl rfl rfl rfl (Ext.refl _) (e_field hf rfl Tryz.underlying47 rfl Tryz.sizeOf9 (o' := 1) rfl) fun a hf => ?_
   refine pi_one ?_
   refine pi_z0 hf rfl rfl rfl (by kernel_rfl) (w_store hf hM (us := [vS (s103)]) (cs' := [.bool (t16), vS (s103), vL A63 (xs62) c64]) rfl rfl (k := 2) rfl rfl Tryz.sizeOf9 rfl rfl rfl fun w105 hM => ?_)
   dsimp only [List.set] at hM
   refine pi_nil ?_
   refine then_n ?_
   refine wp_seq ?_
   obtain ⟨w108, hw⟩ : ∃ x, x = w105.drew := ⟨_, rfl⟩
   refine region_pi (.q 0 (.q 1 (.q 2 (.q 3 (.l 4 (.l 5 (.l 6 (.q 7 (.l 8 (.nil)))))))))) (ExtM [some b2, A60.map (·.block)] w108) rfl (by kernel_rfl) ?_
   have hM := hM.drew
   rw [← hw] at hM ⊢
   clear hw
   refine pi_q hf rfl rfl rfl rfl (ExtM.refl _ _) (e_field hf rfl Tryz.underlying47 rfl Tryz.sizeOf45 (o' := 2) rfl) fun a hf => ?_
   refine pi_q hf rfl rfl rfl rfl (ExtM.refl _ _) (e_load1M hf rfl Tryz.isAgg45 (hM.boxCell (k := 2) rfl rfl) (hM.apart (js := [3, 4]) rfl (k := 2) rfl rfl rfl)) fun a hf => ?_
   iterate 2 refine pi_q hf rfl rfl rfl rfl (ExtM.refl _ _) (e_move hf rfl) fun a hf => ?_
   refine pi_one ?_
   have hM := hM.freezeRow (k := 0) rfl rfl
   dsimp only [List.eraseIdx] at hM
   have hM := hM.front (k := 3) rfl
   dsimp only [List.eraseIdx] at hM
   have hM := hM.front (k := 3) rfl
   dsimp only [List.eraseIdx] at hM
   have hM : Mem C _ ([.box b2 [vL A60 (xs59) c61] 151, .row NodeRep A60 c61 47 xs59 true] ++ [.row intRep A63 c64 2 xs62 true, .box b9 [.bool (t16), vS (s103), vL A63 (xs62) c64] 47]) _ := hM
   obtain ⟨y109, hz110, h79⟩ := bind_some h79
   refine pi_l hf rfl rfl rfl rfl (w_call hf Tryz.call103 rfl (ih ⟨_, Sh C _ _, ownB _, hM.sh_lt, sub_dis, C.G, hM.g_lt, hM.g_own, hM.tabs⟩ (⟨xs59⟩ : l06B) _ _ _ y83.1 _ _ (hM.dat (k := 0) rfl) hM.sub sub_dis _ hz110) ?_)
   rintro _ w114 ⟨A111, c112, rfl, hM2, hv113⟩
   have hxm117 := ExtM.ofChg (bs := [some b2, A60.map (·.block)]) hM2.chg ⟨List.mem_of_getElem? (i := 0) rfl, List.mem_of_getElem? (i := 1) rfl, trivial⟩
   have hsz118 := hM2.chg.size
   obtain ⟨hM, hup116⟩ := hM.backG hM2
   dsimp only [List.cons_append, List.nil_append] at hM hup116
   clear hM2
   refine ⟨_, rfl, Ext w114, fun _ h => ExtM.last hxm117 hsz118 h, Ext.refl _, fun a hf => ?_⟩
   refine pi_one ?_
   refine pi_l hf rfl rfl rfl rfl (w_slice hf hM (K := intRep) (xs := ([y109.1] : (List Int))) (os := [.tmp 44]) Tryz.underlying45 ei_2 rfl rfl rfl rfl rfl ⟨⟨[vI (y109.1)], rfl, ⟨rfl, hv113⟩⟩, trivial⟩ rfl fun b119 w120 hx121 hM => ⟨Ext w120, fun _ h => Ext.trans hx121 h, Ext.refl _, fun a hf => ?_⟩)
   refine pi_one ?_
   obtain ⟨xs122, hz123, h79⟩ := bind_some h79
   refine pi_z hf rfl rfl rfl rfl (by kernel_rfl) (w_append hf hM Tryz.underlying45 ei_2 rfl rfl rfl (k := 3) rfl (hM.srcRow (k := 0) rfl) hz123 fun A124 c125 w126 hM a hf => ?_)
   dsimp only [List.set] at hM
   refine pi_q hf rfl rfl rfl rfl (Ext.refl _) (e_field hf rfl Tryz.underlying47 rfl Tryz.sizeOf45 (o' := 2) rfl) fun a hf => ?_
   refine pi_one ?_
   refine pi_z0 hf rfl rfl rfl (by kernel_rfl) (w_store hf hM (us := [vL A124 (xs122) c125]) (cs' := [.bool (t16), vS (s103), vL A124 (xs122) c125]) rfl rfl (k := 4) rfl rfl Tryz.sizeOf45 rfl rfl rfl fun w129 hM => ?_)
   dsimp only [List.set] at hM
   refine pi_nil ?_
   refine then_n ?_
   refine region_pl ?_
   refine q_ hf rfl rfl rfl (e_move hf rfl) fun a hf => ?_
   refine q_ hf rfl rfl rfl (e_assign hf rfl) fun a hf => ?_
   refine pl_nil ?_
   refine blk_n ?_
   obtain rfl := some_inj h79
   refine then_n ⟨_, rfl, ?_⟩
   have hM := hM.front (k := 2) rfl
   dsimp only [List.eraseIdx] at hM
   have hM := hM.front (k := 2) rfl
   dsimp only [List.eraseIdx] at hM
   have hM := hM.front (k := 4) rfl
   dsimp only [List.eraseIdx] at hM
   have hM := hM.front (k := 4) rfl
   dsimp only [List.eraseIdx] at hM
   exact ⟨s103, y109.2.nodes, xs122, y83.2, A111, c112, A124, c125, rfl, hf.keep ⟨rfl, rfl, rfl, rfl, trivial⟩, (hM.drop (.cons_cons _ (.cons_cons _ (.cons_cons _ (.cons_cons _ (.cons _ .slnil)))))).pick [2] rfl, (cat_len hz104), hv87⟩
  refine cond_f hf rfl hc82 ?_
  refine wp_exit ?_
  refine then_x ?_
  obtain rfl := some_inj h79
  obtain rfl := hd80 _ rfl
  try dsimp only at h56
  refine then_x ?_
  refine exit_hit ?_
  obtain rfl := some_inj h56
  refine then_n ?_
  exact ⟨s57, xs62, xs59, A63, c64, A60, c61, rfl, hf.keep ⟨rfl, rfl, trivial⟩, hM.pick [0] rfl, hv58⟩
 rintro a w137 ⟨s47, xs49, xs52, A50, c51, A53, c54, rfl, hf, hM, hv48⟩
 try dsimp only at h
 obtain ⟨x138, h139, h⟩ := bind_some h
 refine seq_join (fun a w => (.inl ()) = x138 ∧ Has 82 a [(0, vP b2 (0)), (5, vP b9 (0))] ∧ Mem C w [.row intRep A50 c51 2 xs49 true, .box b9 [.bool (t16), vS (s47), vL A50 (xs49) c51] 47, .box b2 [vL A53 (xs52) c54] 151, .row NodeRep A53 c54 47 xs52 true] [.dat (sliceRep strRep) list5 [vL A6 list5 c7]]) ?_ ?_
 ·refine wp_seq ?_
  refine region_pl ?_
  refine q_ hf rfl rfl rfl (e_assign hf rfl) fun a hf => ?_
  refine pl_nil ?_
  refine then_n ?_
  refine wp_block ?_
  obtain ⟨x143, h144, h139⟩ := bind_some h139
  refine wp_loopM h144 (fun s a w => ∃ (n140 : Int), n140 = s ∧ Has 82 a [(0, vP b2 (0)), (5, vP b9 (0)), (9, vI (n140))] ∧ Mem C w [.row intRep A50 c51 2 xs49 true, .box b9 [.bool (t16), vS (s47), vL A50 (xs49) c51] 47, .box b2 [vL A53 (xs52) c54] 151, .row NodeRep A53 c54 47 xs52 true] [.dat (sliceRep strRep) list5 [vL A6 list5 c7]] ∧ R64 n140) ?_ ?_
  ·exact ⟨0, rfl, hf.keep ⟨rfl, rfl, rfl, trivial⟩, hM.pick [0] rfl, (R64_lit rfl)⟩
  rintro s o145 a w142 ⟨n140, rfl, hf, hM, hv141⟩ h146 hd147
  replace h146 : m_spec_l06B_build_l2 xs52 t16 s47 xs49 n140 = some o145 := h146
  unfold m_spec_l06B_build_l2 at h146
  iterate 2 refine wp_seq ?_
  refine region_pl ?_
  iterate 2 refine q_ hf rfl rfl rfl (e_move hf rfl) fun a hf => ?_
  refine q_ hf rfl rfl rfl (e_nil hf rfl) fun a hf => ?_
  refine q_ hf rfl rfl rfl (e_field hf rfl Tryz.underlying151 rfl Tryz.sizeOf29 (o' := 0) rfl) fun a hf => ?_
  refine q_ hf rfl rfl rfl (e_load1 hf rfl Tryz.isAgg29 (hM.boxCell (k := 2) rfl rfl)) fun a hf => ?_
  have hl148 := row_len (hM.ownAt (k := 3) rfl)
  refine q_ hf rfl rfl rfl (e_lenL hf (x := xs52) rfl Tryz.underlying29) fun a hf => ?_
  refine q_ hf rfl rfl rfl (e_lt hf (x := n140) (y := (xs52.length : Int)) rfl rfl) fun a hf => ?_
  refine pl_nil ?_
  refine then_n ?_
  rcases cond_some h146 with ⟨hc149, h146⟩ | ⟨hc149, h146⟩
  ·refine cond_t hf rfl hc149 ?_
   refine wp_skip ?_
   refine then_n ?_
   refine wp_seq ?_
   refine wp_block ?_
   refine wp_seq ?_
   refine region_pl ?_
   refine q_ hf rfl rfl rfl (e_move hf rfl) fun a hf => ?_
   refine q_ hf rfl rfl rfl (e_nil hf rfl) fun a hf => ?_
   refine q_ hf rfl rfl rfl (e_field hf rfl Tryz.underlying151 rfl Tryz.sizeOf29 (o' := 0) rfl) fun a hf => ?_
   refine q_ hf rfl rfl rfl (e_load1 hf rfl Tryz.isAgg29 (hM.boxCell (k := 2) rfl rfl)) fun a hf => ?_
   refine q_ hf rfl rfl rfl (e_move hf rfl) fun a hf => ?_
   obtain ⟨e150, hz151, h146⟩ := bind_some h146
   obtain ⟨b156, _, hA157, h152, h153, hr154, hcell155⟩ := hM.rowElemN (k := 3) rfl (n := 3) rfl hz151
   obtain ⟨A159, c160, rfl, hv158, hv161⟩ := NodeRep_open hr154
   have hM := hM.add (y := .dat (sliceRep intRep) e150.Next [vL A159 e150.Next c160]) hv161
   refine q_ hf rfl rfl rfl (e_indexAddr (A := A53) (b := b156) (o := 0) (xs := xs52) (i := n140) hf hA157 rfl rfl Tryz.underlying29 Tryz.sizeOf47 h152 h153) fun a hf => ?_
   obtain ⟨y162, hz163, h146⟩ := bind_some h146
   refine pl_l hf rfl rfl rfl (w_call hf Tryz.call68 rfl (r_spec_l06Equal ⟨_, All C _ _, none_, hM.all_lt, none_not, C.G, hM.g_lt, g_none, hM.tabs⟩ e150 _ _ (hM.lendElem hA157 (k := 3) rfl (n := 3) rfl hz151) (⟨t16, s47, xs49⟩ : Node) _ _ (hM.lendBox (k := 1) rfl (NodeRep_mk (x := (⟨t16, s47, xs49⟩ : Node)) hv48 (hM.lendRow (k := 0) rfl))) _ hz163) ?_)
   rintro _ w164 ⟨rfl, hM2⟩
   obtain ⟨hM, hx165⟩ := hM.backA hM2
   clear hM2
   refine ⟨_, rfl, fun a hf => ?_⟩
   refine pl_nil ?_
   refine then_n ?_
   rcases cond_some h146 with ⟨hc167, h146⟩ | ⟨hc167, h146⟩
   ·refine cond_t hf rfl hc167 ?_
    refine wp_seq ?_
    refine region_pl ?_
    refine q_ hf rfl rfl rfl (e_move hf rfl) fun a hf => ?_
    refine q_ hf rfl rfl rfl (e_assign hf rfl) fun a hf => ?_
    refine pl_nil ?_
    refine then_n ?_
    refine wp_ret ?_
    refine blk_r ?_
    refine then_r ?_
    obtain rfl := some_inj h146
    obtain rfl := hd147 _ rfl
    try dsimp only at h139
    refine then_r ?_
    refine blk_r ?_
    obtain rfl := some_inj h139
    try dsimp only at h
    refine then_r ?_
    obtain rfl := some_inj h
    have hM := hM.front (k := 3) rfl
    dsimp only [List.eraseIdx] at hM
    have hM := hM.front (k := 3) rfl
    dsimp only [List.eraseIdx] at hM
    have hM := hM.outs (own' := [.box b2 [vL A53 (xs52) c54] 151, .row NodeRep A53 c54 47 xs52 true]) 2 rfl
    exact leave1 hf rfl rfl ⟨A53, c54, rfl, hM.fin, hv141⟩
   refine cond_f hf rfl hc167 ?_
   refine wp_skip ?_
   refine blk_n ?_
   refine then_n ?_
   refine region_pl ?_
   refine q_ hf rfl rfl rfl (e_move hf rfl) fun a hf => ?_
   obtain ⟨z168, hz169, h146⟩ := bind_some h146
   refine q_ hf rfl rfl rfl (e_add hf rfl rfl hz169) fun a hf => ?_
   refine q_ hf rfl rfl rfl (e_assign hf rfl) fun a hf => ?_
   refine pl_nil ?_
   obtain rfl := some_inj h146
   refine then_n ⟨_, rfl, ?_⟩
   exact ⟨z168, rfl, hf.keep ⟨rfl, rfl, rfl, trivial⟩, hM.pick [1] rfl, (chk_R hz169)⟩
  refine cond_f hf rfl hc149 ?_
  refine wp_exit ?_
  refine then_x ?_
  obtain rfl := some_inj h146
  obtain rfl := hd147 _ rfl
  try dsimp only at h139
  refine then_x ?_
  refine exit_hit ?_
  obtain rfl := some_inj h139
  refine then_n ?_
  exact ⟨rfl, hf.keep ⟨rfl, rfl, trivial⟩, hM.pick [0] rfl⟩
 rintro a w176 ⟨rfl, hf, hM⟩
 try dsimp only at h
 refine wp_seq ?_
 obtain ⟨w177, hw⟩ : ∃ x, x = w176.drew := ⟨_, rfl⟩
 refine region_pi (.q 0 (.q 1 (.q 2 (.q 3 (.q 4 (.q 5 (.l 6 (.l 7 (.q 8 (.q 9 (.l 10 (.nil)))))))))))) (ExtM [A53.map (·.block)] w177) rfl (by kernel_rfl) ?_
 have hM := hM.drew
 rw [← hw] at hM ⊢
 clear hw
 iterate 2 refine pi_q hf rfl rfl rfl rfl (ExtM.refl _ _) (e_move hf rfl) fun a hf => ?_
 refine pi_q hf rfl rfl rfl rfl (ExtM.refl _ _) (e_nil hf rfl) fun a hf => ?_
 refine pi_q hf rfl rfl rfl rfl (ExtM.refl _ _) (e_field hf rfl Tryz.underlying151 rfl Tryz.sizeOf29 (o' := 0) rfl) fun a hf => ?_
 refine pi_q hf rfl rfl rfl rfl (ExtM.refl _ _) (e_load1M hf rfl Tryz.isAgg29 (hM.boxCell (k := 2) rfl rfl) (hM.apart (js := [3]) rfl (k := 2) rfl rfl rfl)) fun a hf => ?_
 refine pi_q hf rfl rfl rfl rfl (ExtM.refl _ _) (e_loadAM hf (us := [.bool (t16), vS (s47), vL A50 (xs49) c51]) rfl ⟨Tryz.isAgg47, Tryz.sizeOf47⟩ rfl (hM.boxSub (k := 1) (us := [.bool (t16), vS (s47), vL A50 (xs49) c51]) (o := 0) rfl rfl) (hM.apart (js := [3]) rfl (k := 1) rfl rfl rfl)) fun a hf => ?_
 refine pi_one ?_
 have hM := hM.freezeRow (k := 0) rfl rfl
 dsimp only [List.eraseIdx] at hM
 refine pi_l hf rfl rfl rfl rfl (w_slice hf hM (K := NodeRep) (xs := ([(⟨t16, s47, xs49⟩ : Node)] : (List Node))) (os := [.tmp 71]) Tryz.underlying29 ei_47 rfl rfl rfl rfl rfl ⟨⟨[.bool (t16), vS (s47), vL A50 (xs49) c51], rfl, (NodeRep_mk (x := (⟨t16, s47, xs49⟩ : Node)) hv48 (hM.dat (k := 0) rfl))⟩, trivial⟩ rfl fun b178 w179 hx180 hM => ⟨ExtM [A53.map (·.block)] w179, fun _ h => ExtM.trans hx180 h, ExtM.refl _ _, fun a hf => ?_⟩)
 refine pi_one ?_
 obtain ⟨xs181, hz182, h⟩ := bind_some h
 refine pi_l hf rfl rfl rfl rfl (w_appendX hf hM Tryz.underlying29 ei_47 rfl rfl rfl (k := 3) rfl (hM.srcRow (k := 0) rfl) hz182 fun A183 c184 w185 hsz187 hold186 hM => ⟨Ext w185, fun _ h => ExtM.last (ExtM.ofRow (List.mem_of_getElem? (i := 0) rfl) hold186) hsz187 h, Ext.refl _, fun a hf => ?_⟩)
 dsimp only [List.set] at hM
 refine pi_q hf rfl rfl rfl rfl (Ext.refl _) (e_nil hf rfl) fun a hf => ?_
 refine pi_q hf rfl rfl rfl rfl (Ext.refl _) (e_field hf rfl Tryz.underlying151 rfl Tryz.sizeOf29 (o' := 0) rfl) fun a hf => ?_
 refine pi_one ?_
 refine pi_z0 hf rfl rfl rfl (by kernel_rfl) (w_store hf hM (us := [vL A183 (xs181) c184]) (cs' := [vL A183 (xs181) c184]) rfl rfl (k := 2) rfl rfl Tryz.sizeOf29 rfl rfl rfl fun w188 hM => ?_)
 dsimp only [List.set] at hM
 refine pi_nil ?_
 refine then_n ?_
 refine wp_seq ?_
 refine region_pl ?_
 refine q_ hf rfl rfl rfl (e_move hf rfl) fun a hf => ?_
 refine q_ hf rfl rfl rfl (e_nil hf rfl) fun a hf => ?_
 refine q_ hf rfl rfl rfl (e_field hf rfl Tryz.underlying151 rfl Tryz.sizeOf29 (o' := 0) rfl) fun a hf => ?_
 refine q_ hf rfl rfl rfl (e_load1 hf rfl Tryz.isAgg29 (hM.boxCell (k := 2) rfl rfl)) fun a hf => ?_
 have hl191 := row_len (hM.ownAt (k := 3) rfl)
 refine q_ hf rfl rfl rfl (e_lenL hf (x := xs181) rfl Tryz.underlying29) fun a hf => ?_
 obtain ⟨z192, hz193, h⟩ := bind_some h
 refine q_ hf rfl rfl rfl (e_sub hf rfl rfl hz193) fun a hf => ?_
 refine q_ hf rfl rfl rfl (e_assign hf rfl) fun a hf => ?_
 refine pl_nil ?_
 refine then_n ?_
 refine wp_ret ?_
 obtain rfl := some_inj h
 have hM := hM.front (k := 3) rfl
 dsimp only [List.eraseIdx] at hM
 have hM := hM.front (k := 3) rfl
 dsimp only [List.eraseIdx] at hM
 have hM := hM.outs (own' := [.box b2 [vL A183 (xs181) c184] 151, .row NodeRep A183 c184 47 xs181 true]) 2 rfl
 exact leave1 hf rfl rfl ⟨A183, c184, rfl, hM.fin, (chk_R hz193)⟩
theorem r_spec_l06B_build_n : ∀ n, Ct_spec_l06B_build (m_spec_l06B_build_n n)
  | 0 => fun C b1 b2 A3 c4 list5 A6 c7 hp8 hO hd r h => by cases h
  | n + 1 => r_spec_l06B_build_b _ (r_spec_l06B_build_n n)
theorem r_spec_l06B_build : Ct_spec_l06B_build (m_spec_l06B_build) := r_spec_l06B_build_n fuelN
def Ct_spec_l06R_visit (rc : l06R → Int → Option l06R) : Prop := ∀ (C : Cx) (r1 : l06R) (b2 : Nat) (A3 : Option Addr) (c4 : Nat) (hp5 : (sliceRep NodeRep).R C.w0 C.S0 r1.old [vL A3 r1.old c4]) (A6 : Option Addr) (c7 : Nat) (A8 : Option Addr) (c9 : Nat) (k10 : Int) (hp11 : R64 k10) (hO : Mem C C.w0 [.box b2 [vL A3 (r1.old) c4, vL A6 (r1.place) c7, vL A8 (r1.out) c9] 184, .row intRep A6 c7 2 r1.place true, .row NodeNilRep A8 c9 47 r1.out true] []) (hd : ∀ b, C.S0 b → ¬ ownB [.box b2 [vL A3 (r1.old) c4, vL A6 (r1.place) c7, vL A8 (r1.out) c9] 184, .row intRep A6 c7 2 r1.place true, .row NodeNilRep A8 c9 47 r1.out true] b) (r : l06R) (h : rc r1 k10 = some r),
    Calls Tryz.prog 132 #[vP b2 (0), vI (k10)] C.w0 fun e w => ∃ (A_1 : Option Addr), ∃ (c_1 : Nat), ∃ (A_2 : Option Addr), ∃ (c_2 : Nat), e = .returned (.tuple #[]) ∧ Mem C w [.box b2 [vL A3 (r1.old) c4, vL A_1 (r.place) c_1, vL A_2 (r.out) c_2] 184, .row intRep A_1 c_1 2 r.place true, .row NodeNilRep A_2 c_2 47 r.out true] []
theorem r_spec_l06R_visit_b (rc : l06R → Int → Option l06R) (ih : Ct_spec_l06R_visit rc) : Ct_spec_l06R_visit (m_spec_l06R_visit_b rc) := by
 intro C r1 b2 A3 c4 hp5 A6 c7 A8 c9 k10 hp11 hO hd r h
 have hM := hO
 have hM := hM.addIn hd (y := .dat (sliceRep NodeRep) r1.old [vL A3 r1.old c4]) hp5
 refine enter Tryz.func132 rfl Tryz.ntmps132 rfl fun a hf => ?_
 unfold m_spec_l06R_visit_b at h
 refine wp_seq ?_
 obtain ⟨w12, hw⟩ : ∃ x, x = C.w0.drew := ⟨_, rfl⟩
 refine region_pi (.q 0 (.q 1 (.q 2 (.q 3 (.q 4 (.q 5 (.q 6 (.q 7 (.q 8 (.q 9 (.q 10 (.l 11 (.nil))))))))))))) (Ext w12) rfl (by kernel_rfl) ?_
 have hM := hM.drew
 rw [← hw] at hM ⊢
 clear hw
 refine pi_q hf rfl rfl rfl rfl (Ext.refl _) (e_move hf rfl) fun a hf => ?_
 refine pi_q hf rfl rfl rfl rfl (Ext.refl _) (e_nil hf rfl) fun a hf => ?_
 refine pi_q hf rfl rfl rfl rfl (Ext.refl _) (e_field hf rfl Tryz.underlying184 rfl Tryz.sizeOf45 (o' := 1) rfl) fun a hf => ?_
 refine pi_q hf rfl rfl rfl rfl (Ext.refl _) (e_load1 hf rfl Tryz.isAgg45 (hM.boxCell (k := 0) rfl rfl)) fun a hf => ?_
 iterate 2 refine pi_q hf rfl rfl rfl rfl (Ext.refl _) (e_move hf rfl) fun a hf => ?_
 refine pi_q hf rfl rfl rfl rfl (Ext.refl _) (e_nil hf rfl) fun a hf => ?_
 refine pi_q hf rfl rfl rfl rfl (Ext.refl _) (e_field hf rfl Tryz.underlying184 rfl Tryz.sizeOf29 (o' := 2) rfl) fun a hf => ?_
 refine pi_q hf rfl rfl rfl rfl (Ext.refl _) (e_load1 hf rfl Tryz.isAgg29 (hM.boxCell (k := 0) rfl rfl)) fun a hf => ?_
 have hl13 := row_len (hM.ownAt (k := 2) rfl)
 refine pi_q hf rfl rfl rfl rfl (Ext.refl _) (e_lenL hf (x := r1.out) rfl Tryz.underlying29) fun a hf => ?_
 obtain ⟨e14, hz15, h⟩ := bind_some h
 obtain ⟨b20, _, hA21, h16, h17, hr18, hcell19⟩ := hM.rowElemN (k := 1) rfl (n := 1) rfl hz15
 obtain ⟨rfl, hv22⟩ := hr18
 refine pi_q hf rfl rfl rfl rfl (Ext.refl _) (e_indexAddr (A := A6) (b := b20) (o := 0) (xs := r1.place) (i := k10) hf hA21 rfl rfl Tryz.underlying45 Tryz.sizeOf2 h16 h17) fun a hf => ?_
 refine pi_one ?_
 obtain ⟨xs24, hz25, h⟩ := bind_some h
 refine pi_z0 hf rfl rfl rfl (by kernel_rfl) (w_storeElem hf hM (x := (r1.out.length : Int)) (row := [vI ((r1.out.length : Int))]) (i := k10) rfl rfl rfl hA21 (k := 1) rfl rfl Tryz.sizeOf2 ⟨rfl, (R64_len hl13)⟩ hz25 fun w23 hM => ?_)
 dsimp only [List.set] at hM
 have hf := hf.alter (d := 9) (v := vL A6 (xs24) c7) rfl (vL_len (setL_len hz25))
 rw [vL_len (A := A6) (c := c7) (setL_len hz25)] at hM
 refine pi_nil ?_
 refine then_n ?_
 refine wp_seq ?_
 obtain ⟨w28, hw⟩ : ∃ x, x = w23.drew := ⟨_, rfl⟩
 refine region_pi (.q 0 (.q 1 (.q 2 (.q 3 (.q 4 (.q 5 (.q 6 (.q 7 (.q 8 (.q 9 (.q 10 (.q 11 (.q 12 (.q 13 (.q 14 (.q 15 (.q 16 (.q 17 (.q 18 (.q 19 (.q 20 (.q 21 (.l 22 (.l 23 (.q 24 (.q 25 (.l 26 (.nil)))))))))))))))))))))))))))) (ExtM [A8.map (·.block)] w28) rfl (by kernel_rfl) ?_
 have hM := hM.drew
 rw [← hw] at hM ⊢
 clear hw
 iterate 2 refine pi_q hf rfl rfl rfl rfl (ExtM.refl _ _) (e_move hf rfl) fun a hf => ?_
 refine pi_q hf rfl rfl rfl rfl (ExtM.refl _ _) (e_nil hf rfl) fun a hf => ?_
 refine pi_q hf rfl rfl rfl rfl (ExtM.refl _ _) (e_field hf rfl Tryz.underlying184 rfl Tryz.sizeOf29 (o' := 2) rfl) fun a hf => ?_
 refine pi_q hf rfl rfl rfl rfl (ExtM.refl _ _) (e_load1M hf rfl Tryz.isAgg29 (hM.boxCell (k := 0) rfl rfl) (hM.apart (js := [2]) rfl (k := 0) rfl rfl rfl)) fun a hf => ?_
 refine pi_q hf rfl rfl rfl rfl (ExtM.refl _ _) (e_move hf rfl) fun a hf => ?_
 refine pi_q hf rfl rfl rfl rfl (ExtM.refl _ _) (e_nil hf rfl) fun a hf => ?_
 refine pi_q hf rfl rfl rfl rfl (ExtM.refl _ _) (e_field hf rfl Tryz.underlying184 rfl Tryz.sizeOf29 (o' := 0) rfl) fun a hf => ?_
 refine pi_q hf rfl rfl rfl rfl (ExtM.refl _ _) (e_load1M hf rfl Tryz.isAgg29 (hM.boxCell (k := 0) rfl rfl) (hM.apart (js := [2]) rfl (k := 0) rfl rfl rfl)) fun a hf => ?_
 refine pi_q hf rfl rfl rfl rfl (ExtM.refl _ _) (e_move hf rfl) fun a hf => ?_
 obtain ⟨e29, hz30, h⟩ := bind_some h
 obtain ⟨b34, o35, _, hA36, h31, h32, hr33, hM⟩ := hM.elem (hM.dat (k := 0) rfl) (n := 3) rfl hz30
 obtain ⟨A38, c39, rfl, hv37, hv40⟩ := NodeRep_open hr33
 have hM := hM.add (y := .dat (sliceRep intRep) e29.Next [vL A38 e29.Next c39]) hv40
 refine pi_q hf rfl rfl rfl rfl (ExtM.refl _ _) (e_indexAddr (A := A3) (b := b34) (o := o35) (xs := r1.old) (i := k10) hf hA36 rfl rfl Tryz.underlying29 Tryz.sizeOf47 h31 h32) fun a hf => ?_
 refine pi_q hf rfl rfl rfl rfl (ExtM.refl _ _) (e_field hf rfl Tryz.underlying47 rfl Tryz.sizeOf4 (o' := (o35 + (k10 : Int).toNat * 3) + 0) rfl) fun a hf => ?_
 refine pi_q hf rfl rfl rfl rfl (ExtM.refl _ _) (e_load1M hf rfl Tryz.isAgg4 (hM.litCell (k := 1) (j := 0) rfl rfl rfl) (hM.apartS (js := [2]) rfl (hM.at_ (k := 1) rfl).1)) fun a hf => ?_
 refine pi_q hf rfl rfl rfl rfl (ExtM.refl _ _) (e_move hf rfl) fun a hf => ?_
 refine pi_q hf rfl rfl rfl rfl (ExtM.refl _ _) (e_nil hf rfl) fun a hf => ?_
 refine pi_q hf rfl rfl rfl rfl (ExtM.refl _ _) (e_field hf rfl Tryz.underlying184 rfl Tryz.sizeOf29 (o' := 0) rfl) fun a hf => ?_
 refine pi_q hf rfl rfl rfl rfl (ExtM.refl _ _) (e_load1M hf rfl Tryz.isAgg29 (hM.boxCell (k := 0) rfl rfl) (hM.apart (js := [2]) rfl (k := 0) rfl rfl rfl)) fun a hf => ?_
 refine pi_q hf rfl rfl rfl rfl (ExtM.refl _ _) (e_move hf rfl) fun a hf => ?_
 obtain ⟨e41, hz42, h⟩ := bind_some h
 obtain ⟨b46, o47, _, hA48, h43, h44, hr45, hM⟩ := hM.elem (hM.dat (k := 2) rfl) (n := 3) rfl hz42
 obtain ⟨A50, c51, rfl, hv49, hv52⟩ := NodeRep_open hr45
 have hM := hM.add (y := .dat (sliceRep intRep) e41.Next [vL A50 e41.Next c51]) hv52
 refine pi_q hf rfl rfl rfl rfl (ExtM.refl _ _) (e_indexAddr (A := A3) (b := b46) (o := o47) (xs := r1.old) (i := k10) hf hA48 rfl rfl Tryz.underlying29 Tryz.sizeOf47 h43 h44) fun a hf => ?_
 refine pi_q hf rfl rfl rfl rfl (ExtM.refl _ _) (e_field hf rfl Tryz.underlying47 rfl Tryz.sizeOf9 (o' := (o47 + (k10 : Int).toNat * 3) + 1) rfl) fun a hf => ?_
 refine pi_q hf rfl rfl rfl rfl (ExtM.refl _ _) (e_load1M hf rfl Tryz.isAgg9 (hM.litCell (k := 1) (j := 1) rfl rfl rfl) (hM.apartS (js := [2]) rfl (hM.at_ (k := 1) rfl).1)) fun a hf => ?_
 refine pi_q hf rfl rfl rfl rfl (ExtM.refl _ _) (e_build hf Tryz.zeroValue47 Tryz.underlying47 (bp_47 _ Tryz.underlying47.symm) rfl (cs := #[.bool (e29.Final), vS (e41.Letters), vL none (([] : (List Int))) 0]) (by kernel_rfl)) fun a hf => ?_
 refine pi_one ?_
 refine pi_l hf rfl rfl rfl rfl (w_slice hf hM (K := NodeNilRep) (xs := ([(⟨e29.Final, e41.Letters, ([] : (List Int))⟩ : Node)] : (List Node))) (os := [.tmp 38]) Tryz.underlying29 ei_47 rfl rfl rfl rfl rfl ⟨⟨[.bool (e29.Final), vS (e41.Letters), vL none (([] : (List Int))) 0], rfl, (NodeNilRep_mk (x := (⟨e29.Final, e41.Letters, ([] : (List Int))⟩ : Node)) hv49)⟩, trivial⟩ rfl fun b53 w54 hx55 hM => ⟨ExtM [A8.map (·.block)] w54, fun _ h => ExtM.trans hx55 h, ExtM.refl _ _, fun a hf => ?_⟩)
 refine pi_one ?_
 obtain ⟨xs56, hz57, h⟩ := bind_some h
 refine pi_l hf rfl rfl rfl rfl (w_appendX hf hM Tryz.underlying29 ei_47 rfl rfl rfl (k := 3) rfl (hM.srcRow (k := 0) rfl) hz57 fun A58 c59 w60 hsz62 hold61 hM => ⟨Ext w60, fun _ h => ExtM.last (ExtM.ofRow (List.mem_of_getElem? (i := 0) rfl) hold61) hsz62 h, Ext.refl _, fun a hf => ?_⟩)
 dsimp only [List.set] at hM
 refine pi_q hf rfl rfl rfl rfl (Ext.refl _) (e_nil hf rfl) fun a hf => ?_
 refine pi_q hf rfl rfl rfl rfl (Ext.refl _) (e_field hf rfl Tryz.underlying184 rfl Tryz.sizeOf29 (o' := 2) rfl) fun a hf => ?_
 refine pi_one ?_
 refine pi_z0 hf rfl rfl rfl (by kernel_rfl) (w_store hf hM (us := [vL A58 (xs56) c59]) (cs' := [vL A3 (r1.old) c4, vL A6 (xs24) c7, vL A58 (xs56) c59]) rfl rfl (k := 1) rfl rfl Tryz.sizeOf29 rfl rfl rfl fun w63 hM => ?_)
 dsimp only [List.set] at hM
 refine pi_nil ?_
 refine then_n ?_
 refine wp_seq ?_
 refine region_pl ?_
 refine q_ hf rfl rfl rfl (e_assign hf rfl) fun a hf => ?_
 refine pl_nil ?_
 refine then_n ?_
 refine wp_block ?_
 obtain ⟨x81, h82, h⟩ := bind_some h
 refine wp_loopM h82 (fun s a w => ∃ (xs66 : (List Int)) (xs69 : (List Node)) (n72 : Int) (A67 : Option Addr) (c68 : Nat) (A70 : Option Addr) (c71 : Nat), (xs66, xs69, n72) = s ∧ Has 78 a [(0, vP b2 (0)), (1, vI (k10)), (4, vI (n72))] ∧ Mem C w [.row NodeNilRep (some ⟨b53, 0, none⟩) 1 47 ([(⟨e29.Final, e41.Letters, ([] : (List Int))⟩ : Node)] : (List Node)) true, .box b2 [vL A3 (r1.old) c4, vL A67 (xs66) c68, vL A70 (xs69) c71] 184, .row intRep A67 c68 2 xs66 true, .row NodeNilRep A70 c71 47 xs69 true] [.dat (sliceRep intRep) e41.Next [vL A50 e41.Next c51], .lit b46 (o47 + (k10 : Int).toNat * 3) [.bool (e41.Final), vS (e41.Letters), vL A50 (e41.Next) c51], .dat (sliceRep intRep) e29.Next [vL A38 e29.Next c39], .lit b34 (o35 + (k10 : Int).toNat * 3) [.bool (e29.Final), vS (e29.Letters), vL A38 (e29.Next) c39], .dat (sliceRep NodeRep) r1.old [vL A3 r1.old c4]] ∧ R64 n72) ?_ ?_
 ·exact ⟨xs24, xs56, 0, A6, c7, A58, c59, rfl, hf.keep ⟨rfl, rfl, rfl, trivial⟩, hM.pick [0, 1, 2, 3, 4] rfl, (R64_lit rfl)⟩
 rintro s o83 a w74 ⟨xs66, xs69, n72, A67, c68, A70, c71, rfl, hf, hM, hv73⟩ h84 hd85
 replace h84 : m_spec_l06R_visit_l1 r1 k10 rc xs66 xs69 n72 = some o83 := h84
 unfold m_spec_l06R_visit_l1 at h84
 iterate 2 refine wp_seq ?_
 refine region_pl ?_
 iterate 2 refine q_ hf rfl rfl rfl (e_move hf rfl) fun a hf => ?_
 refine q_ hf rfl rfl rfl (e_nil hf rfl) fun a hf => ?_
 refine q_ hf rfl rfl rfl (e_field hf rfl Tryz.underlying184 rfl Tryz.sizeOf29 (o' := 0) rfl) fun a hf => ?_
 refine q_ hf rfl rfl rfl (e_load1 hf rfl Tryz.isAgg29 (hM.boxCell (k := 1) rfl rfl)) fun a hf => ?_
 refine q_ hf rfl rfl rfl (e_move hf rfl) fun a hf => ?_
 obtain ⟨e86, hz87, h84⟩ := bind_some h84
 obtain ⟨b91, o92, _, hA93, h88, h89, hr90, hM⟩ := hM.elem (hM.dat (k := 4) rfl) (n := 3) rfl hz87
 obtain ⟨A95, c96, rfl, hv94, hv97⟩ := NodeRep_open hr90
 have hM := hM.add (y := .dat (sliceRep intRep) e86.Next [vL A95 e86.Next c96]) hv97
 refine q_ hf rfl rfl rfl (e_indexAddr (A := A3) (b := b91) (o := o92) (xs := r1.old) (i := k10) hf hA93 rfl rfl Tryz.underlying29 Tryz.sizeOf47 h88 h89) fun a hf => ?_
 refine q_ hf rfl rfl rfl (e_field hf rfl Tryz.underlying47 rfl Tryz.sizeOf45 (o' := (o92 + (k10 : Int).toNat * 3) + 2) rfl) fun a hf => ?_
 refine q_ hf rfl rfl rfl (e_load1 hf rfl Tryz.isAgg45 (hM.litCell (k := 1) (j := 2) rfl rfl rfl)) fun a hf => ?_
 have hl98 := slice_len (hM.dat (k := 0) rfl)
 refine q_ hf rfl rfl rfl (e_lenL hf (x := e86.Next) rfl Tryz.underlying45) fun a hf => ?_
 refine q_ hf rfl rfl rfl (e_lt hf (x := n72) (y := (e86.Next.length : Int)) rfl rfl) fun a hf => ?_
 refine pl_nil ?_
 refine then_n ?_
 rcases cond_some h84 with ⟨hc99, h84⟩ | ⟨hc99, h84⟩
 ·refine cond_t hf rfl hc99 ?_
  refine wp_skip ?_
  refine then_n ?_
  obtain ⟨x106, h107, h84⟩ := bind_some h84
  refine seq_join (fun a w => ∃ (xs100 : (List Int)) (xs103 : (List Node)) (A101 : Option Addr) (c102 : Nat) (A104 : Option Addr) (c105 : Nat), (xs100, xs103) = x106 ∧ Has 78 a [(0, vP b2 (0)), (1, vI (k10)), (4, vI (n72))] ∧ Mem C w [.row NodeNilRep (some ⟨b53, 0, none⟩) 1 47 ([(⟨e29.Final, e41.Letters, ([] : (List Int))⟩ : Node)] : (List Node)) true, .box b2 [vL A3 (r1.old) c4, vL A101 (xs100) c102, vL A104 (xs103) c105] 184, .row intRep A101 c102 2 xs100 true, .row NodeNilRep A104 c105 47 xs103 true] [.dat (sliceRep intRep) e86.Next [vL A95 e86.Next c96], .lit b91 (o92 + (k10 : Int).toNat * 3) [.bool (e86.Final), vS (e86.Letters), vL A95 (e86.Next) c96], .dat (sliceRep intRep) e41.Next [vL A50 e41.Next c51], .lit b46 (o47 + (k10 : Int).toNat * 3) [.bool (e41.Final), vS (e41.Letters), vL A50 (e41.Next) c51], .dat (sliceRep intRep) e29.Next [vL A38 e29.Next c39], .lit b34 (o35 + (k10 : Int).toNat * 3) [.bool (e29.Final), vS (e29.Letters), vL A38 (e29.Next) c39], .dat (sliceRep NodeRep) r1.old [vL A3 r1.old c4]]) ?_ ?_
  ·refine wp_block ?_
   refine wp_seq ?_
   refine region_pl ?_
   refine q_ hf rfl rfl rfl (e_move hf rfl) fun a hf => ?_
   refine q_ hf rfl rfl rfl (e_nil hf rfl) fun a hf => ?_
   refine q_ hf rfl rfl rfl (e_field hf rfl Tryz.underlying184 rfl Tryz.sizeOf29 (o' := 0) rfl) fun a hf => ?_
   refine q_ hf rfl rfl rfl (e_load1 hf rfl Tryz.isAgg29 (hM.boxCell (k := 1) rfl rfl)) fun a hf => ?_
   refine q_ hf rfl rfl rfl (e_move hf rfl) fun a hf => ?_
   obtain ⟨e108, hz109, h107⟩ := bind_some h107
   obtain ⟨b113, o114, _, hA115, h110, h111, hr112, hM⟩ := hM.elem (hM.dat (k := 6) rfl) (n := 3) rfl hz109
   obtain ⟨A117, c118, rfl, hv116, hv119⟩ := NodeRep_open hr112
   have hM := hM.add (y := .dat (sliceRep intRep) e108.Next [vL A117 e108.Next c118]) hv119
   refine q_ hf rfl rfl rfl (e_indexAddr (A := A3) (b := b113) (o := o114) (xs := r1.old) (i := k10) hf hA115 rfl rfl Tryz.underlying29 Tryz.sizeOf47 h110 h111) fun a hf => ?_
   refine q_ hf rfl rfl rfl (e_field hf rfl Tryz.underlying47 rfl Tryz.sizeOf45 (o' := (o114 + (k10 : Int).toNat * 3) + 2) rfl) fun a hf => ?_
   refine q_ hf rfl rfl rfl (e_load1 hf rfl Tryz.isAgg45 (hM.litCell (k := 1) (j := 2) rfl rfl rfl)) fun a hf => ?_
   refine q_ hf rfl rfl rfl (e_move hf rfl) fun a hf => ?_
   obtain ⟨e120, hz121, h107⟩ := bind_some h107
   obtain ⟨b125, o126, _, hA127, h122, h123, hr124, hM⟩ := hM.elem (hM.dat (k := 0) rfl) (n := 1) rfl hz121
   obtain ⟨rfl, hv128⟩ := hr124
   refine q_ hf rfl rfl rfl (e_indexAddr (A := A117) (b := b125) (o := o126) (xs := e108.Next) (i := n72) hf hA127 rfl rfl Tryz.underlying45 Tryz.sizeOf2 h122 h123) fun a hf => ?_
   refine q_ hf rfl rfl rfl (e_load1 hf rfl Tryz.isAgg2 (hM.litCell (k := 0) (j := 0) rfl rfl rfl)) fun a hf => ?_
   refine q_ hf rfl rfl rfl (e_assign hf rfl) fun a hf => ?_
   refine pl_nil ?_
   refine then_n ?_
   refine wp_seq ?_
   refine region_pl ?_
   refine q_ hf rfl rfl rfl (e_move hf rfl) fun a hf => ?_
   refine q_ hf rfl rfl rfl (e_nil hf rfl) fun a hf => ?_
   refine q_ hf rfl rfl rfl (e_field hf rfl Tryz.underlying184 rfl Tryz.sizeOf45 (o' := 1) rfl) fun a hf => ?_
   refine q_ hf rfl rfl rfl (e_load1 hf rfl Tryz.isAgg45 (hM.boxCell (k := 1) rfl rfl)) fun a hf => ?_
   refine q_ hf rfl rfl rfl (e_move hf rfl) fun a hf => ?_
   obtain ⟨e129, hz130, h107⟩ := bind_some h107
   obtain ⟨b135, _, hA136, h131, h132, hr133, hcell134⟩ := hM.rowElemN (k := 2) rfl (n := 1) rfl hz130
   obtain ⟨rfl, hv137⟩ := hr133
   refine q_ hf rfl rfl rfl (e_indexAddr (A := A67) (b := b135) (o := 0) (xs := xs66) (i := e120) hf hA136 rfl rfl Tryz.underlying45 Tryz.sizeOf2 h131 h132) fun a hf => ?_
   refine q_ hf rfl rfl rfl (e_load1 hf rfl Tryz.isAgg2 (hcell134 0 _ rfl)) fun a hf => ?_
   refine q_ hf rfl rfl rfl (e_lt hf (x := e129) (y := 0) rfl rfl) fun a hf => ?_
   refine pl_nil ?_
   refine then_n ?_
   rcases cond_some h107 with ⟨hc138, h107⟩ | ⟨hc138, h107⟩
   ·refine cond_t hf rfl hc138 ?_
    refine region_pl ?_
    iterate 2 refine q_ hf rfl rfl rfl (e_move hf rfl) fun a hf => ?_
    have hM := hM.front (k := 3) rfl
    dsimp only [List.eraseIdx] at hM
    have hM := hM.front (k := 3) rfl
    dsimp only [List.eraseIdx] at hM
    have hM := hM.front (k := 3) rfl
    dsimp only [List.eraseIdx] at hM
    have hM : Mem C _ ([.box b2 [vL A3 (r1.old) c4, vL A67 (xs66) c68, vL A70 (xs69) c71] 184, .row intRep A67 c68 2 xs66 true, .row NodeNilRep A70 c71 47 xs69 true] ++ [.row NodeNilRep (some ⟨b53, 0, none⟩) 1 47 ([(⟨e29.Final, e41.Letters, ([] : (List Int))⟩ : Node)] : (List Node)) true]) _ := hM
    obtain ⟨y139, hz140, h107⟩ := bind_some h107
    refine pl_l hf rfl rfl rfl (w_call hf Tryz.call132 rfl (ih ⟨_, Sh C _ _, ownB _, hM.sh_lt, sub_dis, C.G, hM.g_lt, hM.g_own, hM.tabs⟩ (⟨r1.old, xs66, xs69⟩ : l06R) _ _ _ (hM.dat (k := 9) rfl) _ _ _ _ e120 hv128 hM.sub sub_dis _ hz140) ?_)
    rintro _ w145 ⟨A141, c142, A143, c144, rfl, hM2⟩
    obtain ⟨hM, hup147⟩ := hM.backG hM2
    dsimp only [List.cons_append, List.nil_append] at hM hup147
    clear hM2
    refine ⟨_, rfl, fun a hf => ?_⟩
    refine pl_nil ?_
    refine blk_n ?_
    obtain rfl := some_inj h107
    refine then_n ?_
    have hM := hM.front (k := 2) rfl
    dsimp only [List.eraseIdx] at hM
    have hM := hM.front (k := 2) rfl
    dsimp only [List.eraseIdx] at hM
    have hM := hM.front (k := 2) rfl
    dsimp only [List.eraseIdx] at hM
    have hM := hM.front (k := 3) rfl
    dsimp only [List.eraseIdx] at hM
    exact ⟨y139.place, y139.out, A141, c142, A143, c144, rfl, hf.keep ⟨rfl, rfl, rfl, trivial⟩, hM.pick [3, 4, 5, 6, 7, 8, 9] rfl⟩
   refine cond_f hf rfl hc138 ?_
   refine wp_skip ?_
   refine blk_n ?_
   obtain rfl := some_inj h107
   refine then_n ?_
   exact ⟨xs66, xs69, A67, c68, A70, c71, rfl, hf.keep ⟨rfl, rfl, rfl, trivial⟩, hM.pick [3, 4, 5, 6, 7, 8, 9] rfl⟩
  rintro a w150 ⟨xs100, xs103, A101, c102, A104, c105, rfl, hf, hM⟩
  try dsimp only at h84
  refine region_pl ?_
  refine q_ hf rfl rfl rfl (e_move hf rfl) fun a hf => ?_
  obtain ⟨z151, hz152, h84⟩ := bind_some h84
  refine q_ hf rfl rfl rfl (e_add hf rfl rfl hz152) fun a hf => ?_
  refine q_ hf rfl rfl rfl (e_assign hf rfl) fun a hf => ?_
  refine pl_nil ?_
  obtain rfl := some_inj h84
  refine then_n ⟨_, rfl, ?_⟩
  exact ⟨xs100, xs103, z151, A101, c102, A104, c105, rfl, hf.keep ⟨rfl, rfl, rfl, trivial⟩, hM.pick [2, 3, 4, 5, 6] rfl, (chk_R hz152)⟩
 refine cond_f hf rfl hc99 ?_
 refine wp_exit ?_
 refine then_x ?_
 obtain rfl := some_inj h84
 obtain rfl := hd85 _ rfl
 try dsimp only at h
 refine then_x ?_
 refine exit_hit ?_
 obtain rfl := some_inj h
 have hM := hM.front (k := 3) rfl
 dsimp only [List.eraseIdx] at hM
 have hM := hM.front (k := 3) rfl
 dsimp only [List.eraseIdx] at hM
 have hM := hM.front (k := 3) rfl
 dsimp only [List.eraseIdx] at hM
 have hM := hM.outs (own' := [.box b2 [vL A3 (r1.old) c4, vL A67 (xs66) c68, vL A70 (xs69) c71] 184, .row intRep A67 c68 2 xs66 true, .row NodeNilRep A70 c71 47 xs69 true]) 3 rfl
 exact leave0n hf rfl ⟨A67, c68, A70, c71, rfl, hM.fin⟩
theorem r_spec_l06R_visit_n : ∀ n, Ct_spec_l06R_visit (m_spec_l06R_visit_n n)
  | 0 => fun C r1 b2 A3 c4 hp5 A6 c7 A8 c9 k10 hp11 hO hd r h => by cases h
  | n + 1 => r_spec_l06R_visit_b _ (r_spec_l06R_visit_n n)
theorem r_spec_l06R_visit : Ct_spec_l06R_visit (m_spec_l06R_visit) := r_spec_l06R_visit_n fuelN
theorem r_spec_l06Number (C : Cx) (nodes1 : (List Node)) (A2 : Option Addr) (c3 : Nat) (hp4 : (sliceRep NodeRep).R C.w0 C.S0 nodes1 [vL A2 nodes1 c3]) (root5 : Int) (hp6 : R64 root5) (r : (List Node)) (h : m_spec_l06Number nodes1 root5 = some r) :
    Calls Tryz.prog 104 #[vL A2 (nodes1) c3, vI (root5)] C.w0 fun e w => ∃ (A_1 : Option Addr), ∃ (c_1 : Nat), e = .returned (vL A_1 (r) c_1) ∧ Mem C w [] [] ∧ (sliceRep NodeRep).R w (Sh C [] w) r [vL A_1 r c_1] := by
 have hM := Mem.begin C [.dat (sliceRep NodeRep) nodes1 [vL A2 nodes1 c3]] ⟨hp4, trivial⟩
 refine enter Tryz.func104 rfl Tryz.ntmps104 rfl fun a hf => ?_
 unfold m_spec_l06Number at h
 refine wp_seq ?_
 refine region_pl ?_
 refine q_ hf rfl rfl rfl (e_assign hf rfl) fun a hf => ?_
 refine pl_nil ?_
 refine then_n ?_
 refine wp_seq ?_
 refine region_pl ?_
 refine q_ hf rfl rfl rfl (e_move hf rfl) fun a hf => ?_
 refine q_ hf rfl rfl rfl (e_build hf Tryz.zeroValue184 Tryz.underlying184 (bp_184 _ Tryz.underlying184.symm) rfl (cs := #[vL A2 (nodes1) c3, vL none (([] : (List Int))) 0, vL none (([] : (List Node))) 0]) (by kernel_rfl)) fun a hf => ?_
 refine pl_l hf rfl rfl rfl (w_box hf hM (cs := [vL A2 (nodes1) c3, vL none (([] : (List Int))) 0, vL none (([] : (List Node))) 0]) rfl rfl fun b7 w8 hx9 hM a hf => ?_)
 refine q_ hf rfl rfl rfl (e_assign hf rfl) fun a hf => ?_
 refine pl_nil ?_
 refine then_n ?_
 obtain ⟨x17, h18, h⟩ := bind_some h
 refine seq_join (fun a w => ∃ (xs11 : (List Int)) (xs14 : (List Node)) (A12 : Option Addr) (c13 : Nat) (A15 : Option Addr) (c16 : Nat), (xs11, xs14) = x17 ∧ Has 89 a [(0, vL A2 (nodes1) c3), (1, vI (root5)), (5, vP b7 (0))] ∧ Mem C w [.row NodeNilRep A15 c16 47 xs14 true, .row intRep A12 c13 2 xs11 true, .box b7 [vL A2 (nodes1) c3, vL A12 (xs11) c13, vL A15 (xs14) c16] 184] [.dat (sliceRep NodeRep) nodes1 [vL A2 nodes1 c3]]) ?_ ?_
 ·refine wp_seq ?_
  refine region_pl ?_
  refine q_ hf rfl rfl rfl (e_move hf rfl) fun a hf => ?_
  have hl19 := slice_len (hM.dat (k := 0) rfl)
  refine q_ hf rfl rfl rfl (e_lenL hf (x := nodes1) rfl Tryz.underlying29) fun a hf => ?_
  refine q_ hf rfl rfl rfl (e_move hf rfl) fun a hf => ?_
  refine pl_nil ?_
  refine then_n ?_
  refine wp_block ?_
  have hM := hM.nilRow intRep 2
  have hM := hM.nilRow NodeNilRep 47
  obtain ⟨x29, h30, h18⟩ := bind_some h18
  refine wp_loopM h30 (fun s a w => ∃ (xs20 : (List Int)) (n23 : Int) (A21 : Option Addr) (c22 : Nat), (xs20, n23) = s ∧ Has 89 a [(0, vL A2 (nodes1) c3), (1, vI (root5)), (5, vP b7 (0)), (13, vI ((nodes1.length : Int))), (14, vI (n23))] ∧ Mem C w [.row NodeNilRep none 0 47 ([] : (List Node)) true, .row intRep A21 c22 2 xs20 true, .box b7 [vL A2 (nodes1) c3, vL A21 (xs20) c22, vL none (([] : (List Node))) 0] 184] [.dat (sliceRep NodeRep) nodes1 [vL A2 nodes1 c3]] ∧ R64 n23) ?_ ?_
  ·exact ⟨([] : (List Int)), 0, none, 0, rfl, hf.keep ⟨rfl, rfl, rfl, rfl, rfl, trivial⟩, hM.pick [0] rfl, (R64_lit rfl)⟩
  rintro s o31 a w25 ⟨xs20, n23, A21, c22, rfl, hf, hM, hv24⟩ h32 hd33
  replace h32 : m_spec_l06Number_l1 nodes1 xs20 n23 = some o31 := h32
  unfold m_spec_l06Number_l1 at h32
  refine wp_seq ?_
  refine region_pl ?_
  refine q_ hf rfl rfl rfl (e_lt hf (x := n23) (y := (nodes1.length : Int)) rfl rfl) fun a hf => ?_
  refine pl_nil ?_
  refine then_n ?_
  refine wp_seq ?_
  rcases cond_some h32 with ⟨hc34, h32⟩ | ⟨hc34, h32⟩
  ·refine cond_t hf rfl hc34 ?_
   refine wp_skip ?_
   refine then_n ?_
   refine wp_seq ?_
   refine wp_block ?_
   refine region_pl ?_
   iterate 2 refine q_ hf rfl rfl rfl (e_move hf rfl) fun a hf => ?_
   refine q_ hf rfl rfl rfl (e_nil hf rfl) fun a hf => ?_
   refine q_ hf rfl rfl rfl (e_field hf rfl Tryz.underlying184 rfl Tryz.sizeOf45 (o' := 1) rfl) fun a hf => ?_
   refine q_ hf rfl rfl rfl (e_load1 hf rfl Tryz.isAgg45 (hM.boxCell (k := 2) rfl rfl)) fun a hf => ?_
   refine pl_l hf rfl rfl rfl (w_slice hf hM (K := intRep) (xs := ([(-1)] : (List Int))) (os := [.const (.int .i64 (-1))]) Tryz.underlying45 ei_2 rfl rfl rfl rfl rfl ⟨⟨[vI ((-1))], rfl, ⟨rfl, (R64_lit rfl)⟩⟩, trivial⟩ rfl fun b35 w36 hx37 hM a hf => ?_)
   obtain ⟨xs38, hz39, h32⟩ := bind_some h32
   refine pl_l hf rfl rfl rfl (w_append hf hM Tryz.underlying45 ei_2 rfl rfl rfl (k := 2) rfl (hM.srcRow (k := 0) rfl) hz39 fun A40 c41 w42 hM a hf => ?_)
   dsimp only [List.set] at hM
   refine q_ hf rfl rfl rfl (e_nil hf rfl) fun a hf => ?_
   refine q_ hf rfl rfl rfl (e_field hf rfl Tryz.underlying184 rfl Tryz.sizeOf45 (o' := 1) rfl) fun a hf => ?_
   refine pl_0 hf rfl rfl (w_store hf hM (us := [vL A40 (xs38) c41]) (cs' := [vL A2 (nodes1) c3, vL A40 (xs38) c41, vL none (([] : (List Node))) 0]) rfl rfl (k := 3) rfl rfl Tryz.sizeOf45 rfl rfl rfl fun w45 hM => ?_)
   dsimp only [List.set] at hM
   refine pl_nil ?_
   refine blk_n ?_
   refine then_n ?_
   refine region_pl ?_
   obtain ⟨z48, hz49, h32⟩ := bind_some h32
   refine q_ hf rfl rfl rfl (e_add hf rfl rfl hz49) fun a hf => ?_
   refine q_ hf rfl rfl rfl (e_move hf rfl) fun a hf => ?_
   refine pl_nil ?_
   obtain rfl := some_inj h32
   refine then_n ⟨_, rfl, ?_⟩
   exact ⟨xs38, z48, A40, c41, rfl, hf.keep ⟨rfl, rfl, rfl, rfl, rfl, trivial⟩, (hM.drop (.cons _ (.cons_cons _ (.cons_cons _ (.cons_cons _ .slnil))))).pick [0] rfl, (chk_R hz49)⟩
  refine cond_f hf rfl hc34 ?_
  refine wp_exit ?_
  refine then_x ?_
  obtain rfl := some_inj h32
  obtain rfl := hd33 _ rfl
  try dsimp only at h18
  refine then_x ?_
  refine exit_hit ?_
  obtain rfl := some_inj h18
  refine then_n ?_
  exact ⟨xs20, ([] : (List Node)), A21, c22, none, 0, rfl, hf.keep ⟨rfl, rfl, rfl, trivial⟩, hM.pick [0] rfl⟩
 rintro a w55 ⟨xs11, xs14, A12, c13, A15, c16, rfl, hf, hM⟩
 try dsimp only at h
 refine wp_seq ?_
 refine region_pl ?_
 iterate 2 refine q_ hf rfl rfl rfl (e_move hf rfl) fun a hf => ?_
 have hM := hM.front (k := 0) rfl
 dsimp only [List.eraseIdx] at hM
 have hM := hM.front (k := 1) rfl
 dsimp only [List.eraseIdx] at hM
 have hM := hM.front (k := 2) rfl
 dsimp only [List.eraseIdx] at hM
 have hM : Mem C _ ([.box b7 [vL A2 (nodes1) c3, vL A12 (xs11) c13, vL A15 (xs14) c16] 184, .row intRep A12 c13 2 xs11 true, .row NodeNilRep A15 c16 47 xs14 true] ++ []) _ := hM
 obtain ⟨y56, hz57, h⟩ := bind_some h
 refine pl_l hf rfl rfl rfl (w_call hf Tryz.call132 rfl (r_spec_l06R_visit ⟨_, Sh C _ _, ownB _, hM.sh_lt, sub_dis, C.G, hM.g_lt, hM.g_own, hM.tabs⟩ (⟨nodes1, xs11, xs14⟩ : l06R) _ _ _ (hM.dat (k := 0) rfl) _ _ _ _ root5 hp6 hM.sub sub_dis _ hz57) ?_)
 rintro _ w62 ⟨A58, c59, A60, c61, rfl, hM2⟩
 obtain ⟨hM, hup64⟩ := hM.backG hM2
 dsimp only [List.cons_append, List.nil_append] at hM hup64
 clear hM2
 refine ⟨_, rfl, fun a hf => ?_⟩
 refine pl_nil ?_
 refine then_n ?_
 obtain ⟨ws0, hw0, hM⟩ := hM.nest 2
 have hl0 : ws0.length = y56.out.length := by rw [← hw0, List.length_map]
 obtain ⟨x65, h66, h⟩ := bind_some h
 refine seq_join (fun a w => ∃ (xs : List Node) (ws : List NodeW), xs = x65 ∧ ws.map NodeW.to = xs ∧ ws.length = y56.out.length ∧ Has 89 a [(5, vP b7 (0))] ∧ Mem C w ([.box b7 [vL A2 (nodes1) c3, vL A58 (y56.place) c59, vL A60 (y56.out) c61] 184, .row intRep A58 c59 2 y56.place true, .row NodeWRep A60 c61 47 ws true] ++ nestO 2 ws) [.dat (sliceRep NodeRep) nodes1 [vL A2 nodes1 c3]]) ?_ ?_
 ·refine wp_seq ?_
  refine region_pl ?_
  refine q_ hf rfl rfl rfl (e_assign hf rfl) fun a hf => ?_
  refine pl_nil ?_
  refine then_n ?_
  refine wp_block ?_
  refine wp_loopM h66 (fun s a w => ∃ (xs : List Node) (ws : List NodeW) (i67 : Int), (xs, i67) = s ∧ ws.map NodeW.to = xs ∧ ws.length = y56.out.length ∧ Has 89 a [(0, vL A2 (nodes1) c3), (5, vP b7 (0)), (6, vI (i67))] ∧ Mem C w ([.box b7 [vL A2 (nodes1) c3, vL A58 (y56.place) c59, vL A60 (y56.out) c61] 184, .row intRep A58 c59 2 y56.place true, .row NodeWRep A60 c61 47 ws true] ++ nestO 2 ws) [.dat (sliceRep NodeRep) nodes1 [vL A2 nodes1 c3]] ∧ R64 i67) ?_ ?_
  ·exact ⟨y56.out, ws0, 0, rfl, hw0, hl0, hf.keep ⟨rfl, rfl, rfl, trivial⟩, hM.pick [0] rfl, (R64_lit rfl)⟩
  rintro s o72 a w69 ⟨xs, ws, i67, rfl, hw1, hl1, hf, hM, hv68⟩ h73 hd74
  replace h73 : m_spec_l06Number_l2 nodes1 y56.place xs i67 = some o72 := h73
  unfold m_spec_l06Number_l2 at h73
  iterate 2 refine wp_seq ?_
  refine region_pl ?_
  iterate 2 refine q_ hf rfl rfl rfl (e_move hf rfl) fun a hf => ?_
  have hl75 := slice_len (hM.dat (k := 0) rfl)
  refine q_ hf rfl rfl rfl (e_lenL hf (x := nodes1) rfl Tryz.underlying29) fun a hf => ?_
  refine q_ hf rfl rfl rfl (e_lt hf (x := i67) (y := (nodes1.length : Int)) rfl rfl) fun a hf => ?_
  refine pl_nil ?_
  refine then_n ?_
  rcases cond_some h73 with ⟨hc76, h73⟩ | ⟨hc76, h73⟩
  ·refine cond_t hf rfl hc76 ?_
   refine wp_skip ?_
   refine then_n ?_
   obtain ⟨x77, h78, h73⟩ := bind_some h73
   refine seq_join (fun a w => ∃ (xs : List Node) (ws : List NodeW), xs = x77 ∧ ws.map NodeW.to = xs ∧ ws.length = y56.out.length ∧ Has 89 a [(0, vL A2 (nodes1) c3), (5, vP b7 (0)), (6, vI (i67))] ∧ Mem C w ([.box b7 [vL A2 (nodes1) c3, vL A58 (y56.place) c59, vL A60 (y56.out) c61] 184, .row intRep A58 c59 2 y56.place true, .row NodeWRep A60 c61 47 ws true] ++ nestO 2 ws) [.dat (sliceRep NodeRep) nodes1 [vL A2 nodes1 c3]]) ?_ ?_
   ·refine wp_block ?_
    refine wp_seq ?_
    refine region_pl ?_
    refine q_ hf rfl rfl rfl (e_move hf rfl) fun a hf => ?_
    refine q_ hf rfl rfl rfl (e_nil hf rfl) fun a hf => ?_
    refine q_ hf rfl rfl rfl (e_field hf rfl Tryz.underlying184 rfl Tryz.sizeOf45 (o' := 1) rfl) fun a hf => ?_
    refine q_ hf rfl rfl rfl (e_load1 hf rfl Tryz.isAgg45 (hM.boxCell (k := 0) rfl rfl)) fun a hf => ?_
    refine q_ hf rfl rfl rfl (e_move hf rfl) fun a hf => ?_
    obtain ⟨e79, hz80, h78⟩ := bind_some h78
    obtain ⟨b85, _, hA86, h81, h82, hr83, hcell84⟩ := hM.rowElemN (k := 1) rfl (n := 1) rfl hz80
    obtain ⟨rfl, hv87⟩ := hr83
    refine q_ hf rfl rfl rfl (e_indexAddr (A := A58) (b := b85) (o := 0) (xs := y56.place) (i := i67) hf hA86 rfl rfl Tryz.underlying45 Tryz.sizeOf2 h81 h82) fun a hf => ?_
    refine q_ hf rfl rfl rfl (e_load1 hf rfl Tryz.isAgg2 (hcell84 0 _ rfl)) fun a hf => ?_
    refine q_ hf rfl rfl rfl (e_assign hf rfl) fun a hf => ?_
    refine pl_nil ?_
    refine then_n ?_
    iterate 2 refine wp_seq ?_
    refine region_pl ?_
    refine q_ hf rfl rfl rfl (e_move hf rfl) fun a hf => ?_
    refine q_ hf rfl rfl rfl (e_lt hf (x := e79) (y := 0) rfl rfl) fun a hf => ?_
    refine pl_nil ?_
    refine then_n ?_
    rcases cond_some h78 with ⟨hc88, h78⟩ | ⟨hc88, h78⟩
    ·refine cond_t hf rfl hc88 ?_
     refine wp_exit ?_
     refine then_x ?_
     refine exit_hit ?_
     obtain rfl := some_inj h78
     refine then_n ?_
     exact ⟨xs, ws, rfl, hw1, hl1, hf.keep ⟨rfl, rfl, rfl, trivial⟩, hM.pick [0] rfl⟩
    refine cond_f hf rfl hc88 ?_
    refine wp_skip ?_
    refine then_n ?_
    refine wp_seq ?_
    refine region_pl ?_
    refine q_ hf rfl rfl rfl (e_assign hf rfl) fun a hf => ?_
    refine pl_nil ?_
    refine then_n ?_
    refine wp_block ?_
    refine wp_loopM h78 (fun s a w => ∃ (xs : List Node) (ws : List NodeW) (n90 : Int), (xs, n90) = s ∧ ws.map NodeW.to = xs ∧ ws.length = y56.out.length ∧ Has 89 a [(0, vL A2 (nodes1) c3), (5, vP b7 (0)), (6, vI (i67)), (7, vI (e79)), (8, vI (n90))] ∧ Mem C w ([.box b7 [vL A2 (nodes1) c3, vL A58 (y56.place) c59, vL A60 (y56.out) c61] 184, .row intRep A58 c59 2 y56.place true, .row NodeWRep A60 c61 47 ws true] ++ nestO 2 ws) [.dat (sliceRep NodeRep) nodes1 [vL A2 nodes1 c3]] ∧ R64 n90) ?_ ?_
    ·exact ⟨xs, ws, 0, rfl, hw1, hl1, hf.keep ⟨rfl, rfl, rfl, rfl, rfl, trivial⟩, hM.pick [0] rfl, (R64_lit rfl)⟩
    clear hw1 hl1 hM
    rintro s o95 a w92 ⟨xs, ws, n90, rfl, hw1, hl1, hf, hM, hv91⟩ h96 hd97
    replace h96 : m_spec_l06Number_l3 nodes1 y56.place i67 e79 xs n90 = some o95 := h96
    unfold m_spec_l06Number_l3 at h96
    iterate 2 refine wp_seq ?_
    refine region_pl ?_
    iterate 3 refine q_ hf rfl rfl rfl (e_move hf rfl) fun a hf => ?_
    obtain ⟨e98, hz99, h96⟩ := bind_some h96
    obtain ⟨b103, o104, _, hA105, h100, h101, hr102, hM⟩ := hM.elem (hM.dat (k := 0) rfl) (n := 3) rfl hz99
    obtain ⟨A107, c108, rfl, hv106, hv109⟩ := NodeRep_open hr102
    have hM := hM.add (y := .dat (sliceRep intRep) e98.Next [vL A107 e98.Next c108]) hv109
    refine q_ hf rfl rfl rfl (e_indexAddr (A := A2) (b := b103) (o := o104) (xs := nodes1) (i := i67) hf hA105 rfl rfl Tryz.underlying29 Tryz.sizeOf47 h100 h101) fun a hf => ?_
    refine q_ hf rfl rfl rfl (e_field hf rfl Tryz.underlying47 rfl Tryz.sizeOf45 (o' := (o104 + (i67 : Int).toNat * 3) + 2) rfl) fun a hf => ?_
    refine q_ hf rfl rfl rfl (e_load1 hf rfl Tryz.isAgg45 (hM.litCell (k := 1) (j := 2) rfl rfl rfl)) fun a hf => ?_
    have hl110 := slice_len (hM.dat (k := 0) rfl)
    refine q_ hf rfl rfl rfl (e_lenL hf (x := e98.Next) rfl Tryz.underlying45) fun a hf => ?_
    refine q_ hf rfl rfl rfl (e_lt hf (x := n90) (y := (e98.Next.length : Int)) rfl rfl) fun a hf => ?_
    refine pl_nil ?_
    refine then_n ?_
    rcases cond_some h96 with ⟨hc111, h96⟩ | ⟨hc111, h96⟩
    ·refine cond_t hf rfl hc111 ?_
     refine wp_skip ?_
     refine then_n ?_
     refine wp_seq ?_
     refine wp_block ?_
     obtain ⟨e113, hz114, h96⟩ := bind_some h96
     obtain ⟨A122, c123, hzx⟩ := nest_get hw1 hz114
     have hat := nest_at 2 [.box b7 [vL A2 (nodes1) c3, vL A58 (y56.place) c59, vL A60 (y56.out) c61] 184, .row intRep A58 c59 2 y56.place true, .row NodeWRep A60 c61 47 ws true] hzx
     obtain ⟨w112, hw⟩ : ∃ x, x = w92.drew := ⟨_, rfl⟩
     refine region_pi (.q 0 (.q 1 (.q 2 (.q 3 (.q 4 (.q 5 (.q 6 (.q 7 (.q 8 (.q 9 (.q 10 (.q 11 (.q 12 (.q 13 (.q 14 (.q 15 (.q 16 (.q 17 (.q 18 (.q 19 (.q 20 (.q 21 (.q 22 (.q 23 (.q 24 (.q 25 (.q 26 (.l 27 (.l 28 (.q 29 (.q 30 (.l 31 (.nil))))))))))))))))))))))))))))))))) (ExtM [A122.map (·.block)] w112) rfl (by kernel_rfl) ?_
     have hM := hM.drew
     rw [← hw] at hM ⊢
     clear hw
     have hne : ∀ m : Nat, m < 3 → 3 + (e79 : Int).toNat ≠ m := fun m hm => by omega
     have hap0 : ¬ some b7 ∈ [A122.map (·.block)] := apartN hM hat rfl (k := 0) rfl rfl (hne 0 (by decide))
     refine pi_q hf rfl rfl rfl rfl (ExtM.refl _ _) (e_move hf rfl) fun a hf => ?_
     refine pi_q hf rfl rfl rfl rfl (ExtM.refl _ _) (e_nil hf rfl) fun a hf => ?_
     refine pi_q hf rfl rfl rfl rfl (ExtM.refl _ _) (e_field hf rfl Tryz.underlying184 rfl Tryz.sizeOf29 (o' := 2) rfl) fun a hf => ?_
     refine pi_q hf rfl rfl rfl rfl (ExtM.refl _ _) (e_load1M hf rfl Tryz.isAgg29 (hM.boxCell (k := 0) rfl rfl) hap0) fun a hf => ?_
     iterate 2 refine pi_q hf rfl rfl rfl rfl (ExtM.refl _ _) (e_move hf rfl) fun a hf => ?_
     refine pi_q hf rfl rfl rfl rfl (ExtM.refl _ _) (e_nil hf rfl) fun a hf => ?_
     refine pi_q hf rfl rfl rfl rfl (ExtM.refl _ _) (e_field hf rfl Tryz.underlying184 rfl Tryz.sizeOf29 (o' := 2) rfl) fun a hf => ?_
     refine pi_q hf rfl rfl rfl rfl (ExtM.refl _ _) (e_load1M hf rfl Tryz.isAgg29 (hM.boxCell (k := 0) rfl rfl) hap0) fun a hf => ?_
     refine pi_q hf rfl rfl rfl rfl (ExtM.refl _ _) (e_move hf rfl) fun a hf => ?_
     obtain ⟨b119, _, hA120, h115, h116, hr117, hcell118⟩ := hM.rowElemN (k := 2) rfl (n := 3) rfl hzx
     obtain ⟨rfl, hv121⟩ := hr117
     have h116' : (e79 : Int) < y56.out.length := by rw [← hl1]; exact h116
     have hap2 : ¬ some b119 ∈ [A122.map (·.block)] := apartN hM hat rfl (k := 2) rfl (by show A60.map (·.block) = _; rw [hA120]; rfl) (hne 2 (by decide))
     refine pi_q hf rfl rfl rfl rfl (ExtM.refl _ _) (e_indexAddr (A := A60) (b := b119) (o := 0) (xs := y56.out) (i := e79) hf hA120 rfl rfl Tryz.underlying29 Tryz.sizeOf47 h115 h116') fun a hf => ?_
     refine pi_q hf rfl rfl rfl rfl (ExtM.refl _ _) (e_field hf rfl Tryz.underlying47 rfl Tryz.sizeOf45 (o' := (0 + (e79 : Int).toNat * 3) + 2) rfl) fun a hf => ?_
     refine pi_q hf rfl rfl rfl rfl (ExtM.refl _ _) (e_load1M hf rfl Tryz.isAgg45 (hcell118 2 _ rfl) hap2) fun a hf => ?_
     refine pi_q hf rfl rfl rfl rfl (ExtM.refl _ _) (e_move hf rfl) fun a hf => ?_
     refine pi_q hf rfl rfl rfl rfl (ExtM.refl _ _) (e_nil hf rfl) fun a hf => ?_
     refine pi_q hf rfl rfl rfl rfl (ExtM.refl _ _) (e_field hf rfl Tryz.underlying184 rfl Tryz.sizeOf45 (o' := 1) rfl) fun a hf => ?_
     refine pi_q hf rfl rfl rfl rfl (ExtM.refl _ _) (e_load1M hf rfl Tryz.isAgg45 (hM.boxCell (k := 0) rfl rfl) hap0) fun a hf => ?_
     iterate 2 refine pi_q hf rfl rfl rfl rfl (ExtM.refl _ _) (e_move hf rfl) fun a hf => ?_
     obtain ⟨e125, hz126, h96⟩ := bind_some h96
     obtain ⟨b130, o131, _, hA132, h127, h128, hr129, hM⟩ := hM.elem (hM.dat (k := 2) rfl) (n := 3) rfl hz126
     obtain ⟨A134, c135, rfl, hv133, hv136⟩ := NodeRep_open hr129
     have hM := hM.add (y := .dat (sliceRep intRep) e125.Next [vL A134 e125.Next c135]) hv136
     refine pi_q hf rfl rfl rfl rfl (ExtM.refl _ _) (e_indexAddr (A := A2) (b := b130) (o := o131) (xs := nodes1) (i := i67) hf hA132 rfl rfl Tryz.underlying29 Tryz.sizeOf47 h127 h128) fun a hf => ?_
     refine pi_q hf rfl rfl rfl rfl (ExtM.refl _ _) (e_field hf rfl Tryz.underlying47 rfl Tryz.sizeOf45 (o' := (o131 + (i67 : Int).toNat * 3) + 2) rfl) fun a hf => ?_
     refine pi_q hf rfl rfl rfl rfl (ExtM.refl _ _) (e_load1M hf rfl Tryz.isAgg45 (hM.litCell (k := 1) (j := 2) rfl rfl rfl) (apartNS hM hat rfl (hM.at_ (k := 1) rfl).1)) fun a hf => ?_
     refine pi_q hf rfl rfl rfl rfl (ExtM.refl _ _) (e_move hf rfl) fun a hf => ?_
     obtain ⟨e137, hz138, h96⟩ := bind_some h96
     obtain ⟨b142, o143, _, hA144, h139, h140, hr141, hM⟩ := hM.elem (hM.dat (k := 0) rfl) (n := 1) rfl hz138
     obtain ⟨rfl, hv145⟩ := hr141
     refine pi_q hf rfl rfl rfl rfl (ExtM.refl _ _) (e_indexAddr (A := A134) (b := b142) (o := o143) (xs := e125.Next) (i := n90) hf hA144 rfl rfl Tryz.underlying45 Tryz.sizeOf2 h139 h140) fun a hf => ?_
     refine pi_q hf rfl rfl rfl rfl (ExtM.refl _ _) (e_load1M hf rfl Tryz.isAgg2 (hM.litCell (k := 0) (j := 0) rfl rfl rfl) (apartNS hM hat rfl (hM.at_ (k := 0) rfl).1)) fun a hf => ?_
     obtain ⟨e146, hz147, h96⟩ := bind_some h96
     obtain ⟨b152, _, hA153, h148, h149, hr150, hcell151⟩ := hM.rowElemN (k := 1) rfl (n := 1) rfl hz147
     obtain ⟨rfl, hv154⟩ := hr150
     have hap1 : ¬ some b152 ∈ [A122.map (·.block)] := apartN hM hat rfl (k := 1) rfl (by show A58.map (·.block) = _; rw [hA153]; rfl) (hne 1 (by decide))
     refine pi_q hf rfl rfl rfl rfl (ExtM.refl _ _) (e_indexAddr (A := A58) (b := b152) (o := 0) (xs := y56.place) (i := e137) hf hA153 rfl rfl Tryz.underlying45 Tryz.sizeOf2 h148 h149) fun a hf => ?_
     refine pi_q hf rfl rfl rfl rfl (ExtM.refl _ _) (e_load1M hf rfl Tryz.isAgg2 (hcell151 0 _ rfl) hap1) fun a hf => ?_
     refine pi_one ?_
     refine pi_l hf rfl rfl rfl rfl (w_slice hf hM (K := intRep) (xs := ([e146] : (List Int))) (os := [.tmp 80]) Tryz.underlying45 ei_2 rfl rfl rfl rfl rfl ⟨⟨[vI (e146)], rfl, ⟨rfl, hv154⟩⟩, trivial⟩ rfl fun b155 w156 hx157 hM => ⟨ExtM [A122.map (·.block)] w156, fun _ h => ExtM.trans hx157 h, ExtM.refl _ _, fun a hf => ?_⟩)
     refine pi_one ?_
     obtain ⟨ys, hzy, h96⟩ := bind_some h96
     obtain ⟨xs2, hzs, h96⟩ := bind_some h96
     have hat2 := nest_at 2 [.row intRep (some ⟨b155, 0, none⟩) 1 2 ([e146] : (List Int)) true, .box b7 [vL A2 (nodes1) c3, vL A58 (y56.place) c59, vL A60 (y56.out) c61] 184, .row intRep A58 c59 2 y56.place true, .row NodeWRep A60 c61 47 ws true] hzx
     refine pi_l hf rfl rfl rfl rfl (w_appendX hf hM Tryz.underlying45 ei_2 rfl rfl rfl (k := 4 + (e79 : Int).toNat) hat2 (hM.srcRow (k := 0) rfl) hzy fun A40 c41 w158 hsz160 hold159 hM => ⟨Ext w158, fun _ h => ExtM.last (ExtM.ofRow (List.mem_of_getElem? (i := 0) rfl) hold159) hsz160 h, Ext.refl _, fun a hf => ?_⟩)
     have hM : Mem C w158 ([.row intRep (some ⟨b155, 0, none⟩) 1 2 ([e146] : (List Int)) true, .box b7 [vL A2 (nodes1) c3, vL A58 (y56.place) c59, vL A60 (y56.out) c61] 184, .row intRep A58 c59 2 y56.place true, .row NodeWRep A60 c61 47 ws true] ++ nestO 2 (ws.set (e79 : Int).toNat ⟨e113.Final, e113.Letters, A40, c41, ys⟩)) _ := (nest_set 2 [.row intRep (some ⟨b155, 0, none⟩) 1 2 ([e146] : (List Int)) true, .box b7 [vL A2 (nodes1) c3, vL A58 (y56.place) c59, vL A60 (y56.out) c61] 184, .row intRep A58 c59 2 y56.place true, .row NodeWRep A60 c61 47 ws true] (ws := ws) (i := e79) ⟨e113.Final, e113.Letters, A40, c41, ys⟩) ▸ hM
     refine pi_q hf rfl rfl rfl rfl (Ext.refl _) (e_indexAddr (A := A60) (b := b119) (o := 0) (xs := y56.out) (i := e79) hf hA120 rfl rfl Tryz.underlying29 Tryz.sizeOf47 h115 h116') fun a hf => ?_
     refine pi_q hf rfl rfl rfl rfl (Ext.refl _) (e_field hf rfl Tryz.underlying47 rfl Tryz.sizeOf45 (o' := (0 + (e79 : Int).toNat * 3) + 2) rfl) fun a hf => ?_
     refine pi_one ?_
     obtain ⟨_, _, _, hr162, hcell163⟩ := hM.rowElemA hA120 (k := 3) rfl (n := 3) rfl hzx
     obtain ⟨rfl, hv163⟩ := hr162
     refine pi_z0 hf rfl rfl rfl (by kernel_rfl) (w_storePart hf hM (K := NodeWRep) (x := (⟨e113.Final, e113.Letters, A40, c41, ys⟩ : NodeW)) (us := [vL A40 (ys) c41]) (row := [.bool (e113.Final), vS (e113.Letters), vL A122 (e113.Next) c123]) (i := e79) (d := 2) rfl rfl rfl hA120 (k := 3) rfl rfl Tryz.sizeOf45 hcell163 ⟨rfl, hv163⟩ (setL_nest hzx) rfl rfl fun w200 hM => ?_)
     have hM : Mem C w200 ([.row intRep (some ⟨b155, 0, none⟩) 1 2 ([e146] : (List Int)) true, .box b7 [vL A2 (nodes1) c3, vL A58 (y56.place) c59, vL A60 (y56.out) c61] 184, .row intRep A58 c59 2 y56.place true, .row NodeWRep A60 c61 47 (ws.set (e79 : Int).toNat ⟨e113.Final, e113.Letters, A40, c41, ys⟩) true] ++ nestO 2 (ws.set (e79 : Int).toNat ⟨e113.Final, e113.Letters, A40, c41, ys⟩)) _ := hM
     refine pi_nil ?_
     refine blk_n ?_
     refine then_n ?_
     refine region_pl ?_
     refine q_ hf rfl rfl rfl (e_move hf rfl) fun a hf => ?_
     obtain ⟨z170, hz171, h96⟩ := bind_some h96
     refine q_ hf rfl rfl rfl (e_add hf rfl rfl hz171) fun a hf => ?_
     refine q_ hf rfl rfl rfl (e_assign hf rfl) fun a hf => ?_
     refine pl_nil ?_
     obtain rfl := some_inj h96
     refine then_n ⟨_, rfl, ?_⟩
     exact ⟨xs2, ws.set (e79 : Int).toNat ⟨e113.Final, e113.Letters, A40, c41, ys⟩, z170, rfl, nest_to hw1 hzs rfl, by rw [List.length_set]; exact hl1, hf.keep ⟨rfl, rfl, rfl, rfl, rfl, trivial⟩, (hM.drop (.cons _ (List.Sublist.refl _))).pick [5] rfl, (chk_R hz171)⟩
    refine cond_f hf rfl hc111 ?_
    refine wp_exit ?_
    refine then_x ?_
    obtain rfl := some_inj h96
    obtain rfl := hd97 _ rfl
    refine then_x ?_
    refine exit_hit ?_
    refine blk_n ?_
    refine then_n ?_
    exact ⟨xs, ws, rfl, hw1, hl1, hf.keep ⟨rfl, rfl, rfl, trivial⟩, hM.pick [2] rfl⟩
   clear hw1 hl1 hM
   rintro a w177 ⟨xs, ws, rfl, hw1, hl1, hf, hM⟩
   try dsimp only at h73
   refine region_pl ?_
   refine q_ hf rfl rfl rfl (e_move hf rfl) fun a hf => ?_
   obtain ⟨z178, hz179, h73⟩ := bind_some h73
   refine q_ hf rfl rfl rfl (e_add hf rfl rfl hz179) fun a hf => ?_
   refine q_ hf rfl rfl rfl (e_assign hf rfl) fun a hf => ?_
   refine pl_nil ?_
   obtain rfl := some_inj h73
   refine then_n ⟨_, rfl, ?_⟩
   exact ⟨xs, ws, z178, rfl, hw1, hl1, hf.keep ⟨rfl, rfl, rfl, trivial⟩, hM.pick [0] rfl, (chk_R hz179)⟩
  refine cond_f hf rfl hc76 ?_
  refine wp_exit ?_
  refine then_x ?_
  obtain rfl := some_inj h73
  obtain rfl := hd74 _ rfl
  refine then_x ?_
  refine exit_hit ?_
  refine then_n ?_
  exact ⟨xs, ws, rfl, hw1, hl1, hf.keep ⟨rfl, trivial⟩, hM.pick [0] rfl⟩
 clear hM
 rintro a w185 ⟨xs, ws, rfl, hw1, hl1, hf, hM⟩
 try dsimp only at h
 obtain rfl := some_inj h
 refine wp_seq ?_
 refine region_pl ?_
 refine q_ hf rfl rfl rfl (e_move hf rfl) fun a hf => ?_
 refine q_ hf rfl rfl rfl (e_nil hf rfl) fun a hf => ?_
 refine q_ hf rfl rfl rfl (e_field hf rfl Tryz.underlying184 rfl Tryz.sizeOf29 (o' := 2) rfl) fun a hf => ?_
 refine q_ hf rfl rfl rfl (e_load1 hf rfl Tryz.isAgg29 (hM.boxCell (k := 0) rfl rfl)) fun a hf => ?_
 refine q_ hf rfl rfl rfl (e_assign hf rfl) fun a hf => ?_
 refine pl_nil ?_
 refine then_n ?_
 refine wp_ret ?_
 have hM := hM.unnest hw1
 have hlen : vL A60 y56.out c61 = vL A60 xs c61 := by unfold vL; rw [← hl1, ← hw1, List.length_map]
 rw [hlen] at hf
 exact leave1 hf rfl rfl ⟨A60, c61, rfl, hM.fin, (hM.dat (k := 0) rfl)⟩
theorem r_spec_l06Build (C : Cx) (list1 : (List Str)) (A2 : Option Addr) (c3 : Nat) (hp4 : (sliceRep strRep).R C.w0 C.S0 list1 [vL A2 list1 c3]) (r : Dawg) (h : m_spec_l06Build list1 = some r) :
    Calls Tryz.prog 74 #[vL A2 (list1) c3] C.w0 fun e w => ∃ (A_1 : Option Addr), ∃ (c_1 : Nat), e = .returned (.agg #[vL A_1 (r.Nodes) c_1]) ∧ Mem C w [] [] ∧ (sliceRep NodeRep).R w (Sh C [] w) r.Nodes [vL A_1 r.Nodes c_1] := by
 have hM := Mem.begin C [.dat (sliceRep strRep) list1 [vL A2 list1 c3]] ⟨hp4, trivial⟩
 refine enter Tryz.func74 rfl Tryz.ntmps74 rfl fun a hf => ?_
 unfold m_spec_l06Build at h
 refine wp_seq ?_
 refine region_pl ?_
 refine pl_l hf rfl rfl rfl (w_alloc hM (cs := [vL none (([] : (List Node))) 0]) Tryz.zeroValue31 rfl fun b5 w6 hx7 hM a hf => ?_)
 refine pl_nil ?_
 refine then_n ?_
 refine wp_seq ?_
 refine region_pl ?_
 refine q_ hf rfl rfl rfl (e_build hf Tryz.zeroValue151 Tryz.underlying151 (bp_151 _ Tryz.underlying151.symm) rfl (cs := #[vL none (([] : (List Node))) 0]) (by kernel_rfl)) fun a hf => ?_
 refine pl_l hf rfl rfl rfl (w_box hf hM (cs := [vL none (([] : (List Node))) 0]) rfl rfl fun b9 w10 hx11 hM a hf => ?_)
 refine q_ hf rfl rfl rfl (e_assign hf rfl) fun a hf => ?_
 refine pl_nil ?_
 refine then_n ?_
 refine wp_seq ?_
 refine region_pl ?_
 iterate 2 refine q_ hf rfl rfl rfl (e_move hf rfl) fun a hf => ?_
 have hM := hM.nilRow NodeRep 47
 have hM := hM.front (k := 0) rfl
 dsimp only [List.eraseIdx] at hM
 have hM := hM.front (k := 1) rfl
 dsimp only [List.eraseIdx] at hM
 have hM : Mem C _ ([.box b9 [vL none (([] : (List Node))) 0] 151, .row NodeRep none 0 47 ([] : (List Node)) true] ++ [.box b5 [vL none (([] : (List Node))) 0] 31]) _ := hM
 obtain ⟨y13, hz14, h⟩ := bind_some h
 refine pl_l hf rfl rfl rfl (w_call hf Tryz.call103 rfl (r_spec_l06B_build ⟨_, Sh C _ _, ownB _, hM.sh_lt, sub_dis, C.G, hM.g_lt, hM.g_own, hM.tabs⟩ (⟨([] : (List Node))⟩ : l06B) _ _ _ list1 _ _ (hM.dat (k := 0) rfl) hM.sub sub_dis _ hz14) ?_)
 rintro _ w18 ⟨A15, c16, rfl, hM2, hv17⟩
 obtain ⟨hM, hup20⟩ := hM.backG hM2
 dsimp only [List.cons_append, List.nil_append] at hM hup20
 clear hM2
 refine ⟨_, rfl, fun a hf => ?_⟩
 refine q_ hf rfl rfl rfl (e_assign hf rfl) fun a hf => ?_
 refine pl_nil ?_
 refine then_n ?_
 refine wp_seq ?_
 refine region_pl ?_
 refine q_ hf rfl rfl rfl (e_move hf rfl) fun a hf => ?_
 refine q_ hf rfl rfl rfl (e_nil hf rfl) fun a hf => ?_
 refine q_ hf rfl rfl rfl (e_field hf rfl Tryz.underlying151 rfl Tryz.sizeOf29 (o' := 0) rfl) fun a hf => ?_
 refine q_ hf rfl rfl rfl (e_load1 hf rfl Tryz.isAgg29 (hM.boxCell (k := 0) rfl rfl)) fun a hf => ?_
 refine q_ hf rfl rfl rfl (e_move hf rfl) fun a hf => ?_
 have hM := hM.freezeRow (k := 1) rfl rfl
 dsimp only [List.eraseIdx] at hM
 obtain ⟨y21, hz22, h⟩ := bind_some h
 refine pl_l hf rfl rfl rfl (w_call hf Tryz.call104 rfl (r_spec_l06Number ⟨_, Sh C _ _, none_, hM.sh_lt, none_not, C.G, hM.g_lt, g_none, hM.tabs⟩ y13.2.nodes _ _ (hM.dat (k := 0) rfl) y13.1 hv17 _ hz22) ?_)
 rintro _ w26 ⟨A23, c24, rfl, hM2, hv25⟩
 obtain ⟨hM, hx27, hup28⟩ := hM.back hM2
 dsimp only [List.cons_append, List.nil_append] at hM hup28
 clear hM2
 have hM := hM.add (y := .dat (sliceRep NodeRep) y21 [vL A23 y21 c24]) (hup28 hv25)
 refine ⟨_, rfl, fun a hf => ?_⟩
 refine q_ hf rfl rfl rfl (e_build hf Tryz.zeroValue31 Tryz.underlying31 (bp_31 _ Tryz.underlying31.symm) rfl (cs := #[vL A23 (y21) c24]) (by kernel_rfl)) fun a hf => ?_
 refine pl_0 hf rfl rfl (w_store hf hM (us := [vL A23 (y21) c24]) (cs' := [vL A23 (y21) c24]) rfl rfl (k := 1) rfl rfl Tryz.sizeOf31 rfl rfl rfl fun w29 hM => ?_)
 dsimp only [List.set] at hM
 refine pl_nil ?_
 refine then_n ?_
 refine wp_ret ?_
 obtain rfl := some_inj h
 have hres32 := leaveV1 (P := Tryz.prog) (w := w29) Tryz.results74 (res_agg hf rfl ⟨Tryz.isAgg31, Tryz.sizeOf31⟩ (us := [vL A23 (y21) c24]) rfl (hM.boxSub (k := 1) (o := 0) rfl rfl))
 have hM := hM.outs (own' := []) 0 rfl
 exact bodyPost_ret hres32 hf.defers ⟨A23, c24, rfl, hM.fin, (hM.dat (k := 0) rfl)⟩
theorem r_spec_l06Draw (C : Cx) (s1 : l00Src) (b2 : Nat) (A3 : Option Addr) (c4 : Nat) (hp5 : (sliceRep byteRep).R C.w0 C.S0 s1.code [vL A3 s1.code c4]) (hp6 : R64 s1.at_) (hp7 : U64 s1.seed) (most8 : Int) (hp9 : R64 most8) (hO : Mem C C.w0 [.box b2 [vL A3 (s1.code) c4, vI (s1.at_), vW (s1.seed)] 105] []) (hd : ∀ b, C.S0 b → ¬ ownB [.box b2 [vL A3 (s1.code) c4, vI (s1.at_), vW (s1.seed)] 105] b) (r : (Dawg × l00Src)) (h : m_spec_l06Draw s1 most8 = some r) :
    Calls Tryz.prog 47 #[vP b2 (0), vI (most8)] C.w0 fun e w => ∃ (A_1 : Option Addr), ∃ (c_1 : Nat), e = .returned (.agg #[vL A_1 (r.1.Nodes) c_1]) ∧ Mem C w [.box b2 [vL A3 (s1.code) c4, vI (r.2.at_), vW (r.2.seed)] 105] [] ∧ R64 r.2.at_ ∧ U64 r.2.seed ∧ (sliceRep NodeRep).R w (Sh C [.box b2 [vL A3 (s1.code) c4, vI (r.2.at_), vW (r.2.seed)] 105] w) r.1.Nodes [vL A_1 r.1.Nodes c_1] := by
 have hM := hO
 have hM := hM.addIn hd (y := .dat (sliceRep byteRep) s1.code [vL A3 s1.code c4]) hp5
 refine enter Tryz.func47 rfl Tryz.ntmps47 rfl fun a hf => ?_
 unfold m_spec_l06Draw at h
 refine wp_seq ?_
 refine region_pl ?_
 refine pl_l hf rfl rfl rfl (w_alloc hM (cs := [vL none (([] : (List Node))) 0]) Tryz.zeroValue31 rfl fun b10 w11 hx12 hM a hf => ?_)
 refine pl_nil ?_
 refine then_n ?_
 refine wp_seq ?_
 refine region_pl ?_
 iterate 2 refine q_ hf rfl rfl rfl (e_move hf rfl) fun a hf => ?_
 have hM := hM.front (k := 1) rfl
 dsimp only [List.eraseIdx] at hM
 have hM : Mem C _ ([.box b2 [vL A3 (s1.code) c4, vI (s1.at_), vW (s1.seed)] 105] ++ [.box b10 [vL none (([] : (List Node))) 0] 31]) _ := hM
 obtain ⟨y14, hz15, h⟩ := bind_some h
 refine pl_l hf rfl rfl rfl (w_call hf Tryz.call25 rfl (r_spec_l05Draw ⟨_, Sh C _ _, ownB _, hM.sh_lt, sub_dis, C.G, hM.g_lt, hM.g_own, hM.tabs⟩ s1 _ _ _ (hM.dat (k := 0) rfl) hp6 hp7 most8 hp9 hM.sub sub_dis _ hz15) ?_)
 rintro _ w20 ⟨A18, c19, rfl, hM2, hv16, hv17⟩
 obtain ⟨hM, hup22⟩ := hM.backG hM2
 dsimp only [List.cons_append, List.nil_append] at hM hup22
 clear hM2
 refine ⟨_, rfl, fun a hf => ?_⟩
 refine pl_l hf rfl rfl rfl (w_alloc hM (cs := [vL none (([] : (List Str))) 0]) Tryz.zeroValue26 rfl fun b23 w24 hx25 hM a hf => ?_)
 refine pl_0 hf rfl rfl (w_store hf hM (us := [vL A18 (y14.1.Words) c19]) (cs' := [vL A18 (y14.1.Words) c19]) rfl rfl (k := 0) rfl rfl Tryz.sizeOf26 rfl rfl rfl fun w27 hM => ?_)
 dsimp only [List.set] at hM
 refine pl_nil ?_
 refine then_n ?_
 refine wp_seq ?_
 refine region_pl ?_
 refine q_ hf rfl rfl rfl (e_field hf rfl Tryz.underlying26 rfl Tryz.sizeOf24 (o' := 0) rfl) fun a hf => ?_
 refine q_ hf rfl rfl rfl (e_load1 hf rfl Tryz.isAgg24 (hM.boxCell (k := 0) rfl rfl)) fun a hf => ?_
 have hM := hM.freezeRow (k := 2) rfl rfl
 dsimp only [List.eraseIdx] at hM
 obtain ⟨y30, hz31, h⟩ := bind_some h
 refine pl_l hf rfl rfl rfl (w_call hf Tryz.call74 rfl (r_spec_l06Build ⟨_, Sh C _ _, none_, hM.sh_lt, none_not, C.G, hM.g_lt, g_none, hM.tabs⟩ y14.1.Words _ _ (hM.dat (k := 0) rfl) _ hz31) ?_)
 rintro _ w35 ⟨A32, c33, rfl, hM2, hv34⟩
 obtain ⟨hM, hx36, hup37⟩ := hM.back hM2
 dsimp only [List.cons_append, List.nil_append] at hM hup37
 clear hM2
 have hM := hM.add (y := .dat (sliceRep NodeRep) y30.Nodes [vL A32 y30.Nodes c33]) (hup37 hv34)
 refine ⟨_, rfl, fun a hf => ?_⟩
 refine pl_0 hf rfl rfl (w_store hf hM (us := [vL A32 (y30.Nodes) c33]) (cs' := [vL A32 (y30.Nodes) c33]) rfl rfl (k := 2) rfl rfl Tryz.sizeOf31 rfl rfl rfl fun w38 hM => ?_)
 dsimp only [List.set] at hM
 refine pl_nil ?_
 refine then_n ?_
 refine wp_ret ?_
 obtain rfl := some_inj h
 have hres41 := leaveV1 (P := Tryz.prog) (w := w38) Tryz.results47 (res_agg hf rfl ⟨Tryz.isAgg31, Tryz.sizeOf31⟩ (us := [vL A32 (y30.Nodes) c33]) rfl (hM.boxSub (k := 2) (o := 0) rfl rfl))
 have hM := hM.front (k := 1) rfl
 dsimp only [List.eraseIdx] at hM
 have hM := hM.outs (own' := [.box b2 [vL A3 (s1.code) c4, vI (y14.2.at_), vW (y14.2.seed)] 105]) 1 rfl
 exact bodyPost_ret hres41 hf.defers ⟨A32, c33, rfl, hM.fin, hv16, hv17, (hM.dat (k := 0) rfl)⟩
theorem r_spec_A2Dawg (C : Cx) (code1 : Str) (A2 : Option Addr) (c3 : Nat) (hp4 : (sliceRep byteRep).R C.w0 C.S0 code1 [vL A2 code1 c3]) (r : Dawg) (h : m_spec_A2Dawg code1 = some r) :
    Calls Tryz.prog 19 #[vL A2 (code1) c3] C.w0 fun e w => ∃ (A_1 : Option Addr), ∃ (c_1 : Nat), e = .returned (.agg #[vL A_1 (r.Nodes) c_1]) ∧ Mem C w [] [] ∧ (sliceRep NodeRep).R w (Sh C [] w) r.Nodes [vL A_1 r.Nodes c_1] := by
 have hM := Mem.begin C [.dat (sliceRep byteRep) code1 [vL A2 code1 c3]] ⟨hp4, trivial⟩
 refine enter Tryz.func19 rfl Tryz.ntmps19 rfl fun a hf => ?_
 unfold m_spec_A2Dawg at h
 refine wp_seq ?_
 refine region_pl ?_
 refine pl_l hf rfl rfl rfl (w_alloc hM (cs := [vL none (([] : (List Node))) 0]) Tryz.zeroValue31 rfl fun b5 w6 hx7 hM a hf => ?_)
 refine pl_nil ?_
 refine then_n ?_
 refine wp_seq ?_
 refine region_pl ?_
 refine q_ hf rfl rfl rfl (e_move hf rfl) fun a hf => ?_
 obtain ⟨y9, hz10, h⟩ := bind_some h
 refine pl_l hf rfl rfl rfl (w_call hf Tryz.call26 rfl (r_spec_l00From ⟨_, Sh C _ _, none_, hM.sh_lt, none_not, C.G, hM.g_lt, g_none, hM.tabs⟩ code1 _ _ (hM.dat (k := 0) rfl) _ hz10) ?_)
 rintro _ w17 ⟨b11, A12, c13, rfl, hM2, hv14, hv15, hv16⟩
 obtain ⟨hM, hx18, hup19⟩ := hM.back hM2
 dsimp only [List.cons_append, List.nil_append] at hM hup19
 clear hM2
 have hM := hM.add (y := .dat (sliceRep byteRep) y9.code [vL A12 y9.code c13]) (hup19 hv14)
 refine ⟨_, rfl, fun a hf => ?_⟩
 have hM : Mem C _ ([.box b11 [vL A12 (y9.code) c13, vI (y9.at_), vW (y9.seed)] 105] ++ [.box b5 [vL none (([] : (List Node))) 0] 31]) _ := hM
 obtain ⟨y20, hz21, h⟩ := bind_some h
 refine pl_l hf rfl rfl rfl (w_call hf Tryz.call47 rfl (r_spec_l06Draw ⟨_, Sh C _ _, ownB _, hM.sh_lt, sub_dis, C.G, hM.g_lt, hM.g_own, hM.tabs⟩ y9 _ _ _ (hM.dat (k := 0) rfl) hv15 hv16 14 (R64_lit rfl) hM.sub sub_dis _ hz21) ?_)
 rintro _ w27 ⟨A24, c25, rfl, hM2, hv22, hv23, hv26⟩
 obtain ⟨hM, hup29⟩ := hM.backG hM2
 dsimp only [List.cons_append, List.nil_append] at hM hup29
 clear hM2
 have hM := hM.add (y := .dat (sliceRep NodeRep) y20.1.Nodes [vL A24 y20.1.Nodes c25]) (hup29 hv26)
 refine ⟨_, rfl, fun a hf => ?_⟩
 refine pl_0 hf rfl rfl (w_store hf hM (us := [vL A24 (y20.1.Nodes) c25]) (cs' := [vL A24 (y20.1.Nodes) c25]) rfl rfl (k := 1) rfl rfl Tryz.sizeOf31 rfl rfl rfl fun w30 hM => ?_)
 dsimp only [List.set] at hM
 refine pl_nil ?_
 refine then_n ?_
 refine wp_ret ?_
 obtain rfl := some_inj h
 have hres33 := leaveV1 (P := Tryz.prog) (w := w30) Tryz.results19 (res_agg hf rfl ⟨Tryz.isAgg31, Tryz.sizeOf31⟩ (us := [vL A24 (y20.1.Nodes) c25]) rfl (hM.boxSub (k := 1) (o := 0) rfl rfl))
 have hM := hM.outs (own' := []) 0 rfl
 exact bodyPost_ret hres33 hf.defers ⟨A24, c25, rfl, hM.fin, (hM.dat (k := 0) rfl)⟩
theorem r_spec_l00Src_text (C : Cx) (s1 : l00Src) (b2 : Nat) (A3 : Option Addr) (c4 : Nat) (hp5 : (sliceRep byteRep).R C.w0 C.S0 s1.code [vL A3 s1.code c4]) (hp6 : R64 s1.at_) (hp7 : U64 s1.seed) (list8 : (List Str)) (A9 : Option Addr) (c10 : Nat) (hp11 : (sliceRep strRep).R C.w0 C.S0 list8 [vL A9 list8 c10]) (hO : Mem C C.w0 [.box b2 [vL A3 (s1.code) c4, vI (s1.at_), vW (s1.seed)] 105] []) (hd : ∀ b, C.S0 b → ¬ ownB [.box b2 [vL A3 (s1.code) c4, vI (s1.at_), vW (s1.seed)] 105] b) (r : (Str × l00Src)) (h : m_spec_l00Src_text s1 list8 = some r) :
    Calls Tryz.prog 27 #[vP b2 (0), vL A9 (list8) c10] C.w0 fun e w => e = .returned (vS (r.1)) ∧ Mem C w [.box b2 [vL A3 (s1.code) c4, vI (r.2.at_), vW (r.2.seed)] 105] [] ∧ R64 r.2.at_ ∧ U64 r.2.seed ∧ r.1.length ≤ maxLen := by
 have hM := hO
 have hM := hM.addIn hd (y := .dat (sliceRep byteRep) s1.code [vL A3 s1.code c4]) hp5
 have hM := hM.addIn hd (y := .dat (sliceRep strRep) list8 [vL A9 list8 c10]) hp11
 refine enter Tryz.func27 rfl Tryz.ntmps27 rfl fun a hf => ?_
 unfold m_spec_l00Src_text at h
 refine wp_seq ?_
 refine region_pl ?_
 refine q_ hf rfl rfl rfl (e_assign hf rfl) fun a hf => ?_
 refine pl_nil ?_
 refine then_n ?_
 refine wp_seq ?_
 refine region_pl ?_
 iterate 3 refine q_ hf rfl rfl rfl (e_move hf rfl) fun a hf => ?_
 have hl12 := slice_len (hM.dat (k := 0) rfl)
 refine q_ hf rfl rfl rfl (e_lenL hf (x := list8) rfl Tryz.underlying24) fun a hf => ?_
 have hM : Mem C _ ([.box b2 [vL A3 (s1.code) c4, vI (s1.at_), vW (s1.seed)] 105] ++ []) _ := hM
 obtain ⟨y13, hz14, h⟩ := bind_some h
 refine pl_l hf rfl rfl rfl (w_call hf Tryz.call55 rfl (r_spec_l00Src_pick ⟨_, Sh C _ _, ownB _, hM.sh_lt, sub_dis, C.G, hM.g_lt, hM.g_own, hM.tabs⟩ s1 _ _ _ (hM.dat (k := 1) rfl) hp6 hp7 (list8.length : Int) (R64_len hl12) hM.sub sub_dis _ hz14) ?_)
 rintro _ w18 ⟨rfl, hM2, hv15, hv16, hv17⟩
 obtain ⟨hM, hup20⟩ := hM.backG hM2
 dsimp only [List.cons_append, List.nil_append] at hM hup20
 clear hM2
 refine ⟨_, rfl, fun a hf => ?_⟩
 obtain ⟨e21, hz22, h⟩ := bind_some h
 obtain ⟨b26, o27, _, hA28, h23, h24, hr25, hM⟩ := hM.elem (hM.dat (k := 0) rfl) (n := 1) rfl hz22
 obtain ⟨rfl, hv29⟩ := hr25
 refine q_ hf rfl rfl rfl (e_indexAddr (A := A9) (b := b26) (o := o27) (xs := list8) (i := y13.1) hf hA28 rfl rfl Tryz.underlying24 Tryz.sizeOf9 h23 h24) fun a hf => ?_
 refine q_ hf rfl rfl rfl (e_load1 hf rfl Tryz.isAgg9 (hM.litCell (k := 0) (j := 0) rfl rfl rfl)) fun a hf => ?_
 refine q_ hf rfl rfl rfl (e_assign hf rfl) fun a hf => ?_
 refine pl_nil ?_
 refine then_n ?_
 refine wp_ret ?_
 obtain rfl := some_inj h
 exact leave1 hf rfl rfl ⟨rfl, hM.fin, hv15, hv16, hv29⟩
theorem r_spec_A2Word (C : Cx) (code1 : Str) (A2 : Option Addr) (c3 : Nat) (hp4 : (sliceRep byteRep).R C.w0 C.S0 code1 [vL A2 code1 c3]) (r : Str) (h : m_spec_A2Word code1 = some r) :
    Calls Tryz.prog 7 #[vL A2 (code1) c3] C.w0 fun e w => e = .returned (vS (r)) ∧ Mem C w [] [] ∧ r.length ≤ maxLen := by
 have hM := Mem.begin C [.dat (sliceRep byteRep) code1 [vL A2 code1 c3]] ⟨hp4, trivial⟩
 refine enter Tryz.func7 rfl Tryz.ntmps7 rfl fun a hf => ?_
 unfold m_spec_A2Word at h
 refine wp_seq ?_
 refine region_pl ?_
 refine q_ hf rfl rfl rfl (e_assign hf rfl) fun a hf => ?_
 refine pl_nil ?_
 refine then_n ?_
 refine wp_seq ?_
 refine region_pl ?_
 refine q_ hf rfl rfl rfl (e_move hf rfl) fun a hf => ?_
 obtain ⟨y5, hz6, h⟩ := bind_some h
 refine pl_l hf rfl rfl rfl (w_call hf Tryz.call26 rfl (r_spec_l00From ⟨_, Sh C _ _, none_, hM.sh_lt, none_not, C.G, hM.g_lt, g_none, hM.tabs⟩ code1 _ _ (hM.dat (k := 0) rfl) _ hz6) ?_)
 rintro _ w13 ⟨b7, A8, c9, rfl, hM2, hv10, hv11, hv12⟩
 obtain ⟨hM, hx14, hup15⟩ := hM.back hM2
 dsimp only [List.cons_append, List.nil_append] at hM hup15
 clear hM2
 have hM := hM.add (y := .dat (sliceRep byteRep) y5.code [vL A8 y5.code c9]) (hup15 hv10)
 refine ⟨_, rfl, fun a hf => ?_⟩
 obtain ⟨y16, hz17, h⟩ := bind_some h
 refine pl_l hf rfl rfl rfl (w_call hf Tryz.call28 rfl (r_spec_l05Some ⟨_, Sh C _ _, none_, hM.sh_lt, none_not, C.G, hM.g_lt, g_none, hM.tabs⟩ _ hz17) ?_)
 rintro _ w20 ⟨A18, c19, rfl, hM2⟩
 obtain ⟨hM, hx21, hup22⟩ := hM.back hM2
 dsimp only [List.cons_append, List.nil_append] at hM hup22
 clear hM2
 refine ⟨_, rfl, fun a hf => ?_⟩
 have hM := hM.freezeRow (k := 0) rfl rfl
 dsimp only [List.eraseIdx] at hM
 have hM : Mem C _ ([.box b7 [vL A8 (y5.code) c9, vI (y5.at_), vW (y5.seed)] 105] ++ []) _ := hM
 obtain ⟨y23, hz24, h⟩ := bind_some h
 refine pl_l hf rfl rfl rfl (w_call hf Tryz.call27 rfl (r_spec_l00Src_text ⟨_, Sh C _ _, ownB _, hM.sh_lt, sub_dis, C.G, hM.g_lt, hM.g_own, hM.tabs⟩ y5 _ _ _ (hM.dat (k := 1) rfl) hv11 hv12 y16 _ _ (hM.dat (k := 0) rfl) hM.sub sub_dis _ hz24) ?_)
 rintro _ w28 ⟨rfl, hM2, hv25, hv26, hv27⟩
 obtain ⟨hM, hup30⟩ := hM.backG hM2
 dsimp only [List.cons_append, List.nil_append] at hM hup30
 clear hM2
 refine ⟨_, rfl, fun a hf => ?_⟩
 refine q_ hf rfl rfl rfl (e_assign hf rfl) fun a hf => ?_
 refine pl_nil ?_
 refine then_n ?_
 refine wp_ret ?_
 obtain rfl := some_inj h
 have hM := hM.outs (own' := []) 0 rfl
 exact leave1 hf rfl rfl ⟨rfl, hM.fin, hv27⟩
theorem r_impl_small (C : Cx) (c1 : UInt8) (r : Bool) (h : m_impl_small c1 = some r) :
    Calls Tryz.prog 100 #[vB (c1)] C.w0 fun e w => e = .returned (.bool (r)) ∧ Mem C w [] [] := by
 have hM := Mem.begin C [] trivial
 refine enter Tryz.func100 rfl Tryz.ntmps100 rfl fun a hf => ?_
 unfold m_impl_small at h
 refine wp_seq ?_
 refine region_pl ?_
 refine q_ hf rfl rfl rfl (e_assign hf rfl) fun a hf => ?_
 refine pl_nil ?_
 refine then_n ?_
 obtain ⟨x4, h5, h⟩ := bind_some h
 refine seq_join (fun a w => ∃ (t2 : Bool), t2 = x4 ∧ Has 9 a [(2, .bool (t2))] ∧ Mem C w [] []) ?_ ?_
 ·refine region_pl ?_
  refine q_ hf rfl rfl rfl (e_move hf rfl) fun a hf => ?_
  refine q_ hf rfl rfl rfl (e_leB hf (x := 97) (y := c1) rfl rfl) fun a hf => ?_
  refine q_ hf rfl rfl rfl (e_move hf rfl) fun a hf => ?_
  rcases cond_some h5 with ⟨hc6, h5⟩ | ⟨hc6, h5⟩
  ·refine gq (wanted_t hf rfl rfl rfl rfl hc6) hf rfl rfl (e_move hf rfl) fun a hf => ?_
   refine gq (wanted_t hf rfl rfl rfl rfl hc6) hf rfl rfl (e_leB hf (x := c1) (y := 122) rfl rfl) fun a hf => ?_
   refine q_ hf rfl rfl rfl (e_pick_t hf rfl hc6 rfl) fun a hf => ?_
   refine q_ hf rfl rfl rfl (e_assign hf rfl) fun a hf => ?_
   refine pl_nil ?_
   obtain rfl := some_inj h5
   refine then_n ?_
   exact ⟨(decide (c1 ≤ 122)), rfl, hf.keep ⟨rfl, trivial⟩, hM.pick [] rfl⟩
  iterate 2 refine pl_gs (wanted_f hf rfl rfl rfl rfl hc6) hf rfl rfl fun a hf => ?_
  refine q_ hf rfl rfl rfl (e_pick_f hf rfl hc6 rfl) fun a hf => ?_
  refine q_ hf rfl rfl rfl (e_assign hf rfl) fun a hf => ?_
  refine pl_nil ?_
  obtain rfl := some_inj h5
  refine then_n ?_
  exact ⟨false, rfl, hf.keep ⟨rfl, trivial⟩, hM.pick [] rfl⟩
 rintro a w9 ⟨t2, rfl, hf, hM⟩
 try dsimp only at h
 refine wp_ret ?_
 obtain rfl := some_inj h
 exact leave1 hf rfl rfl ⟨rfl, hM.fin⟩
theorem r_impl_formByte (C : Cx) (c1 : UInt8) (r : Bool) (h : m_impl_formByte c1 = some r) :
    Calls Tryz.prog 69 #[vB (c1)] C.w0 fun e w => e = .returned (.bool (r)) ∧ Mem C w [] [] := by
 have hM := Mem.begin C [] trivial
 refine enter Tryz.func69 rfl Tryz.ntmps69 rfl fun a hf => ?_
 unfold m_impl_formByte at h
 refine wp_seq ?_
 refine region_pl ?_
 refine q_ hf rfl rfl rfl (e_assign hf rfl) fun a hf => ?_
 refine pl_nil ?_
 refine then_n ?_
 obtain ⟨x4, h5, h⟩ := bind_some h
 refine seq_join (fun a w => ∃ (t2 : Bool), t2 = x4 ∧ Has 9 a [(2, .bool (t2))] ∧ Mem C w [] []) ?_ ?_
 ·refine region_pl ?_
  refine q_ hf rfl rfl rfl (e_move hf rfl) fun a hf => ?_
  obtain ⟨y6, hz7, h5⟩ := bind_some h5
  refine pl_l hf rfl rfl rfl (w_call hf Tryz.call100 rfl (r_impl_small ⟨_, Sh C _ _, none_, hM.sh_lt, none_not, C.G, hM.g_lt, g_none, hM.tabs⟩ c1 _ hz7) ?_)
  rintro _ w8 ⟨rfl, hM2⟩
  obtain ⟨hM, hx9, hup10⟩ := hM.back hM2
  dsimp only [List.cons_append, List.nil_append] at hM hup10
  clear hM2
  refine ⟨_, rfl, fun a hf => ?_⟩
  refine q_ hf rfl rfl rfl (e_move hf rfl) fun a hf => ?_
  rcases cond_some h5 with ⟨hc11, h5⟩ | ⟨hc11, h5⟩
  ·iterate 2 refine pl_gs (wanted_f hf rfl rfl rfl rfl hc11) hf rfl rfl fun a hf => ?_
   refine q_ hf rfl rfl rfl (e_pick_t hf rfl hc11 rfl) fun a hf => ?_
   refine q_ hf rfl rfl rfl (e_assign hf rfl) fun a hf => ?_
   refine pl_nil ?_
   obtain rfl := some_inj h5
   refine then_n ?_
   exact ⟨true, rfl, hf.keep ⟨rfl, trivial⟩, hM.pick [] rfl⟩
  refine gq (wanted_t hf rfl rfl rfl rfl hc11) hf rfl rfl (e_move hf rfl) fun a hf => ?_
  refine gq (wanted_t hf rfl rfl rfl rfl hc11) hf rfl rfl (e_eqB hf (x := c1) (y := 62) rfl rfl) fun a hf => ?_
  refine q_ hf rfl rfl rfl (e_pick_f hf rfl hc11 rfl) fun a hf => ?_
  refine q_ hf rfl rfl rfl (e_assign hf rfl) fun a hf => ?_
  refine pl_nil ?_
  obtain rfl := some_inj h5
  refine then_n ?_
  exact ⟨(c1 == 62), rfl, hf.keep ⟨rfl, trivial⟩, hM.pick [] rfl⟩
 rintro a w14 ⟨t2, rfl, hf, hM⟩
 try dsimp only at h
 refine wp_ret ?_
 obtain rfl := some_inj h
 exact leave1 hf rfl rfl ⟨rfl, hM.fin⟩
theorem r_impl_within (C : Cx) (x1 : Int) (hp2 : R64 x1) (low3 : Int) (hp4 : R64 low3) (high5 : Int) (hp6 : R64 high5) (r : Bool) (h : m_impl_within x1 low3 high5 = some r) :
    Calls Tryz.prog 70 #[vI (x1), vI (low3), vI (high5)] C.w0 fun e w => e = .returned (.bool (r)) ∧ Mem C w [] [] := by
 have hM := Mem.begin C [] trivial
 refine enter Tryz.func70 rfl Tryz.ntmps70 rfl fun a hf => ?_
 unfold m_impl_within at h
 refine wp_seq ?_
 refine region_pl ?_
 refine q_ hf rfl rfl rfl (e_assign hf rfl) fun a hf => ?_
 refine pl_nil ?_
 refine then_n ?_
 obtain ⟨x9, h10, h⟩ := bind_some h
 refine seq_join (fun a w => ∃ (t7 : Bool), t7 = x9 ∧ Has 15 a [(6, .bool (t7))] ∧ Mem C w [] []) ?_ ?_
 ·refine region_pl ?_
  iterate 2 refine q_ hf rfl rfl rfl (e_move hf rfl) fun a hf => ?_
  refine q_ hf rfl rfl rfl (e_le hf (x := low3) (y := x1) rfl rfl) fun a hf => ?_
  refine q_ hf rfl rfl rfl (e_move hf rfl) fun a hf => ?_
  rcases cond_some h10 with ⟨hc11, h10⟩ | ⟨hc11, h10⟩
  ·iterate 2 refine gq (wanted_t hf rfl rfl rfl rfl hc11) hf rfl rfl (e_move hf rfl) fun a hf => ?_
   refine gq (wanted_t hf rfl rfl rfl rfl hc11) hf rfl rfl (e_le hf (x := x1) (y := high5) rfl rfl) fun a hf => ?_
   refine q_ hf rfl rfl rfl (e_pick_t hf rfl hc11 rfl) fun a hf => ?_
   refine q_ hf rfl rfl rfl (e_assign hf rfl) fun a hf => ?_
   refine pl_nil ?_
   obtain rfl := some_inj h10
   refine then_n ?_
   exact ⟨(decide (x1 ≤ high5)), rfl, hf.keep ⟨rfl, trivial⟩, hM.pick [] rfl⟩
  iterate 3 refine pl_gs (wanted_f hf rfl rfl rfl rfl hc11) hf rfl rfl fun a hf => ?_
  refine q_ hf rfl rfl rfl (e_pick_f hf rfl hc11 rfl) fun a hf => ?_
  refine q_ hf rfl rfl rfl (e_assign hf rfl) fun a hf => ?_
  refine pl_nil ?_
  obtain rfl := some_inj h10
  refine then_n ?_
  exact ⟨false, rfl, hf.keep ⟨rfl, trivial⟩, hM.pick [] rfl⟩
 rintro a w14 ⟨t7, rfl, hf, hM⟩
 try dsimp only at h
 refine wp_ret ?_
 obtain rfl := some_inj h
 exact leave1 hf rfl rfl ⟨rfl, hM.fin⟩
theorem r_impl_nodesOk (C : Cx) (d1 : Dawg) (A2 : Option Addr) (c3 : Nat) (hp4 : (sliceRep NodeRep).R C.w0 C.S0 d1.Nodes [vL A2 d1.Nodes c3]) (r : Bool) (h : m_impl_nodesOk d1 = some r) :
    Calls Tryz.prog 41 #[.agg #[vL A2 (d1.Nodes) c3]] C.w0 fun e w => e = .returned (.bool (r)) ∧ Mem C w [] [] := by
 have hM := Mem.begin C [.dat (sliceRep NodeRep) d1.Nodes [vL A2 d1.Nodes c3]] ⟨hp4, trivial⟩
 refine enter Tryz.func41 rfl Tryz.ntmps41 rfl fun a hf => ?_
 unfold m_impl_nodesOk at h
 refine wp_seq ?_
 refine region_pl ?_
 refine pl_l hf rfl rfl rfl (w_box hf hM (cs := [vL A2 (d1.Nodes) c3]) rfl rfl fun b5 w6 hx7 hM a hf => ?_)
 refine q_ hf rfl rfl rfl (e_assign hf rfl) fun a hf => ?_
 refine pl_nil ?_
 refine then_n ?_
 refine wp_seq ?_
 obtain ⟨x11, h12, h⟩ := bind_some h
 refine seq_join (fun a w => ∃ (t9 : Bool), t9 = x11 ∧ Has 72 a [(1, vP b5 (0)), (16, .bool (t9))] ∧ Mem C w [.box b5 [vL A2 (d1.Nodes) c3] 31] [.dat (sliceRep NodeRep) d1.Nodes [vL A2 d1.Nodes c3]]) ?_ ?_
 ·refine region_pl ?_
  refine q_ hf rfl rfl rfl (e_field hf rfl Tryz.underlying31 rfl Tryz.sizeOf29 (o' := 0) rfl) fun a hf => ?_
  refine q_ hf rfl rfl rfl (e_load1 hf rfl Tryz.isAgg29 (hM.boxCell (k := 0) rfl rfl)) fun a hf => ?_
  have hl13 := slice_len (hM.dat (k := 0) rfl)
  refine q_ hf rfl rfl rfl (e_lenL hf (x := d1.Nodes) rfl Tryz.underlying29) fun a hf => ?_
  refine q_ hf rfl rfl rfl (e_lt hf (x := (d1.Nodes.length : Int)) (y := 1) rfl rfl) fun a hf => ?_
  refine q_ hf rfl rfl rfl (e_move hf rfl) fun a hf => ?_
  rcases cond_some h12 with ⟨hc14, h12⟩ | ⟨hc14, h12⟩
  ·iterate 4 refine pl_gs (wanted_f hf rfl rfl rfl rfl hc14) hf rfl rfl fun a hf => ?_
   refine q_ hf rfl rfl rfl (e_pick_t hf rfl hc14 rfl) fun a hf => ?_
   refine pl_nil ?_
   obtain rfl := some_inj h12
   refine then_n ?_
   exact ⟨true, rfl, hf.keep ⟨rfl, rfl, trivial⟩, hM.pick [0] rfl⟩
  refine gq (wanted_t hf rfl rfl rfl rfl hc14) hf rfl rfl (e_field hf rfl Tryz.underlying31 rfl Tryz.sizeOf29 (o' := 0) rfl) fun a hf => ?_
  refine gq (wanted_t hf rfl rfl rfl rfl hc14) hf rfl rfl (e_load1 hf rfl Tryz.isAgg29 (hM.boxCell (k := 0) rfl rfl)) fun a hf => ?_
  have hl16 := slice_len (hM.dat (k := 0) rfl)
  refine gq (wanted_t hf rfl rfl rfl rfl hc14) hf rfl rfl (e_lenL hf (x := d1.Nodes) rfl Tryz.underlying29) fun a hf => ?_
  refine gq (wanted_t hf rfl rfl rfl rfl hc14) hf rfl rfl (e_gt hf (x := (d1.Nodes.length : Int)) (y := 3000) rfl rfl) fun a hf => ?_
  refine q_ hf rfl rfl rfl (e_pick_f hf rfl hc14 rfl) fun a hf => ?_
  refine pl_nil ?_
  obtain rfl := some_inj h12
  refine then_n ?_
  exact ⟨(decide (3000 < (d1.Nodes.length : Int))), rfl, hf.keep ⟨rfl, rfl, trivial⟩, hM.pick [0] rfl⟩
 rintro a w18 ⟨t9, rfl, hf, hM⟩
 try dsimp only at h
 rcases cond_some h with ⟨hc19, h⟩ | ⟨hc19, h⟩
 ·refine cond_t hf rfl hc19 ?_
  refine wp_seq ?_
  refine region_pl ?_
  refine q_ hf rfl rfl rfl (e_assign hf rfl) fun a hf => ?_
  refine pl_nil ?_
  refine then_n ?_
  refine wp_ret ?_
  refine then_r ?_
  obtain rfl := some_inj h
  have hM := hM.outs (own' := []) 0 rfl
  exact leave1 hf rfl rfl ⟨rfl, hM.fin⟩
 refine cond_f hf rfl hc19 ?_
 refine wp_skip ?_
 refine then_n ?_
 obtain ⟨x20, h21, h⟩ := bind_some h
 refine seq_join (fun a w => (.inl ()) = x20 ∧ Has 72 a [] ∧ Mem C w [.box b5 [vL A2 (d1.Nodes) c3] 31] [.dat (sliceRep NodeRep) d1.Nodes [vL A2 d1.Nodes c3]]) ?_ ?_
 ·refine wp_seq ?_
  refine region_pl ?_
  refine q_ hf rfl rfl rfl (e_field hf rfl Tryz.underlying31 rfl Tryz.sizeOf29 (o' := 0) rfl) fun a hf => ?_
  refine q_ hf rfl rfl rfl (e_load1 hf rfl Tryz.isAgg29 (hM.boxCell (k := 0) rfl rfl)) fun a hf => ?_
  have hl22 := slice_len (hM.dat (k := 0) rfl)
  refine q_ hf rfl rfl rfl (e_lenL hf (x := d1.Nodes) rfl Tryz.underlying29) fun a hf => ?_
  refine q_ hf rfl rfl rfl (e_move hf rfl) fun a hf => ?_
  refine pl_nil ?_
  refine then_n ?_
  refine wp_block ?_
  obtain ⟨x26, h27, h21⟩ := bind_some h21
  refine wp_loopM h27 (fun s a w => ∃ (n23 : Int), n23 = s ∧ Has 72 a [(1, vP b5 (0)), (18, vL A2 (d1.Nodes) c3), (19, vI ((d1.Nodes.length : Int))), (20, vI (n23))] ∧ Mem C w [.box b5 [vL A2 (d1.Nodes) c3] 31] [.dat (sliceRep NodeRep) d1.Nodes [vL A2 d1.Nodes c3]] ∧ R64 n23) ?_ ?_
  ·exact ⟨0, rfl, hf.keep ⟨rfl, rfl, rfl, rfl, trivial⟩, hM.pick [0] rfl, (R64_lit rfl)⟩
  rintro s o28 a w25 ⟨n23, rfl, hf, hM, hv24⟩ h29 hd30
  replace h29 : m_impl_nodesOk_l1 d1 n23 = some o28 := h29
  unfold m_impl_nodesOk_l1 at h29
  refine wp_seq ?_
  refine region_pl ?_
  refine q_ hf rfl rfl rfl (e_lt hf (x := n23) (y := (d1.Nodes.length : Int)) rfl rfl) fun a hf => ?_
  refine pl_nil ?_
  refine then_n ?_
  refine wp_seq ?_
  rcases cond_some h29 with ⟨hc31, h29⟩ | ⟨hc31, h29⟩
  ·refine cond_t hf rfl hc31 ?_
   refine wp_skip ?_
   refine then_n ?_
   obtain ⟨x32, h33, h29⟩ := bind_some h29
   refine seq_join (fun a w => (.inl ()) = x32 ∧ Has 72 a [(1, vP b5 (0)), (18, vL A2 (d1.Nodes) c3), (19, vI ((d1.Nodes.length : Int))), (20, vI (n23))] ∧ Mem C w [.box b5 [vL A2 (d1.Nodes) c3] 31] [.dat (sliceRep NodeRep) d1.Nodes [vL A2 d1.Nodes c3]]) ?_ ?_
   ·refine wp_block ?_
    refine wp_seq ?_
    refine region_pl ?_
    obtain ⟨e34, hz35, h33⟩ := bind_some h33
    obtain ⟨b39, o40, _, hA41, h36, h37, hr38, hM⟩ := hM.elem (hM.dat (k := 0) rfl) (n := 3) rfl hz35
    obtain ⟨A43, c44, rfl, hv42, hv45⟩ := NodeRep_open hr38
    have hM := hM.add (y := .dat (sliceRep intRep) e34.Next [vL A43 e34.Next c44]) hv45
    refine q_ hf rfl rfl rfl (e_indexAddr (A := A2) (b := b39) (o := o40) (xs := d1.Nodes) (i := n23) hf hA41 rfl rfl Tryz.underlying29 Tryz.sizeOf47 h36 h37) fun a hf => ?_
    refine q_ hf rfl rfl rfl (e_loadA hf (us := [.bool (e34.Final), vS (e34.Letters), vL A43 (e34.Next) c44]) rfl ⟨Tryz.isAgg47, Tryz.sizeOf47⟩ rfl (hM.litSub (k := 1) (d := 0) (us := [.bool (e34.Final), vS (e34.Letters), vL A43 (e34.Next) c44]) rfl rfl rfl)) fun a hf => ?_
    refine pl_l hf rfl rfl rfl (w_alloc hM (cs := [.bool (false), vS (([] : Str)), vL none (([] : (List Int))) 0]) Tryz.zeroValue47 rfl fun b46 w47 hx48 hM a hf => ?_)
    refine pl_0 hf rfl rfl (w_store hf hM (us := [.bool (e34.Final), vS (e34.Letters), vL A43 (e34.Next) c44]) (cs' := [.bool (e34.Final), vS (e34.Letters), vL A43 (e34.Next) c44]) rfl rfl (k := 0) rfl rfl Tryz.sizeOf47 rfl rfl rfl fun w50 hM => ?_)
    dsimp only [List.set] at hM
    refine pl_nil ?_
    refine then_n ?_
    iterate 2 refine wp_seq ?_
    refine region_pl ?_
    refine q_ hf rfl rfl rfl (e_field hf rfl Tryz.underlying47 rfl Tryz.sizeOf9 (o' := 1) rfl) fun a hf => ?_
    refine q_ hf rfl rfl rfl (e_load1 hf rfl Tryz.isAgg9 (hM.boxCell (k := 0) rfl rfl)) fun a hf => ?_
    refine q_ hf rfl rfl rfl (e_lenS hf (x := e34.Letters) rfl Tryz.underlying9) fun a hf => ?_
    refine q_ hf rfl rfl rfl (e_field hf rfl Tryz.underlying47 rfl Tryz.sizeOf45 (o' := 2) rfl) fun a hf => ?_
    refine q_ hf rfl rfl rfl (e_load1 hf rfl Tryz.isAgg45 (hM.boxCell (k := 0) rfl rfl)) fun a hf => ?_
    have hl53 := slice_len (hM.dat (k := 0) rfl)
    refine q_ hf rfl rfl rfl (e_lenL hf (x := e34.Next) rfl Tryz.underlying45) fun a hf => ?_
    refine q_ hf rfl rfl rfl (e_ne hf (x := (e34.Letters.length : Int)) (y := (e34.Next.length : Int)) rfl rfl) fun a hf => ?_
    refine pl_nil ?_
    refine then_n ?_
    rcases cond_some h33 with ⟨hc54, h33⟩ | ⟨hc54, h33⟩
    ·refine cond_t hf rfl hc54 ?_
     refine wp_seq ?_
     refine region_pl ?_
     refine q_ hf rfl rfl rfl (e_assign hf rfl) fun a hf => ?_
     refine pl_nil ?_
     refine then_n ?_
     refine wp_ret ?_
     refine then_r ?_
     refine blk_r ?_
     obtain rfl := some_inj h33
     try dsimp only at h29
     refine then_r ?_
     obtain rfl := some_inj h29
     obtain rfl := hd30 _ rfl
     try dsimp only at h21
     refine then_r ?_
     refine blk_r ?_
     obtain rfl := some_inj h21
     try dsimp only at h
     refine then_r ?_
     obtain rfl := some_inj h
     have hM := hM.outs (own' := []) 0 rfl
     exact leave1 hf rfl rfl ⟨rfl, hM.fin⟩
    refine cond_f hf rfl hc54 ?_
    refine wp_skip ?_
    refine then_n ?_
    refine wp_seq ?_
    refine region_pl ?_
    refine q_ hf rfl rfl rfl (e_field hf rfl Tryz.underlying47 rfl Tryz.sizeOf45 (o' := 2) rfl) fun a hf => ?_
    refine q_ hf rfl rfl rfl (e_load1 hf rfl Tryz.isAgg45 (hM.boxCell (k := 0) rfl rfl)) fun a hf => ?_
    have hl55 := slice_len (hM.dat (k := 0) rfl)
    refine q_ hf rfl rfl rfl (e_lenL hf (x := e34.Next) rfl Tryz.underlying45) fun a hf => ?_
    refine q_ hf rfl rfl rfl (e_move hf rfl) fun a hf => ?_
    refine pl_nil ?_
    refine then_n ?_
    refine wp_block ?_
    obtain ⟨x59, h60, h33⟩ := bind_some h33
    refine wp_loopM h60 (fun s a w => ∃ (n56 : Int), n56 = s ∧ Has 72 a [(1, vP b5 (0)), (4, vP b46 (0)), (18, vL A2 (d1.Nodes) c3), (19, vI ((d1.Nodes.length : Int))), (20, vI (n23)), (32, vL A43 (e34.Next) c44), (33, vI ((e34.Next.length : Int))), (34, vI (n56))] ∧ Mem C w [.box b46 [.bool (e34.Final), vS (e34.Letters), vL A43 (e34.Next) c44] 47, .box b5 [vL A2 (d1.Nodes) c3] 31] [.dat (sliceRep intRep) e34.Next [vL A43 e34.Next c44], .lit b39 (o40 + (n23 : Int).toNat * 3) [.bool (e34.Final), vS (e34.Letters), vL A43 (e34.Next) c44], .dat (sliceRep NodeRep) d1.Nodes [vL A2 d1.Nodes c3]] ∧ R64 n56) ?_ ?_
    ·exact ⟨0, rfl, hf.keep ⟨rfl, rfl, rfl, rfl, rfl, rfl, rfl, rfl, trivial⟩, hM.pick [0, 1, 2] rfl, (R64_lit rfl)⟩
    rintro s o61 a w58 ⟨n56, rfl, hf, hM, hv57⟩ h62 hd63
    replace h62 : m_impl_nodesOk_l2 e34 d1 n56 = some o61 := h62
    unfold m_impl_nodesOk_l2 at h62
    refine wp_seq ?_
    refine region_pl ?_
    refine q_ hf rfl rfl rfl (e_lt hf (x := n56) (y := (e34.Next.length : Int)) rfl rfl) fun a hf => ?_
    refine pl_nil ?_
    refine then_n ?_
    refine wp_seq ?_
    rcases cond_some h62 with ⟨hc64, h62⟩ | ⟨hc64, h62⟩
    ·refine cond_t hf rfl hc64 ?_
     refine wp_skip ?_
     refine then_n ?_
     refine wp_seq ?_
     refine wp_block ?_
     refine wp_seq ?_
     refine region_pl ?_
     refine q_ hf rfl rfl rfl (e_move hf rfl) fun a hf => ?_
     obtain ⟨e65, hz66, h62⟩ := bind_some h62
     obtain ⟨b70, o71, _, hA72, h67, h68, hr69, hM⟩ := hM.elem (hM.dat (k := 0) rfl) (n := 1) rfl hz66
     obtain ⟨rfl, hv73⟩ := hr69
     refine q_ hf rfl rfl rfl (e_indexAddr (A := A43) (b := b70) (o := o71) (xs := e34.Next) (i := n56) hf hA72 rfl rfl Tryz.underlying45 Tryz.sizeOf2 h67 h68) fun a hf => ?_
     refine q_ hf rfl rfl rfl (e_load1 hf rfl Tryz.isAgg2 (hM.litCell (k := 0) (j := 0) rfl rfl rfl)) fun a hf => ?_
     iterate 2 refine q_ hf rfl rfl rfl (e_assign hf rfl) fun a hf => ?_
     refine pl_nil ?_
     refine then_n ?_
     obtain ⟨x76, h77, h62⟩ := bind_some h62
     refine seq_join (fun a w => ∃ (t74 : Bool), t74 = x76 ∧ Has 72 a [(1, vP b5 (0)), (4, vP b46 (0)), (18, vL A2 (d1.Nodes) c3), (19, vI ((d1.Nodes.length : Int))), (20, vI (n23)), (32, vL A43 (e34.Next) c44), (33, vI ((e34.Next.length : Int))), (34, vI (n56)), (69, .bool (t74))] ∧ Mem C w [.box b46 [.bool (e34.Final), vS (e34.Letters), vL A43 (e34.Next) c44] 47, .box b5 [vL A2 (d1.Nodes) c3] 31] [.lit b70 (o71 + (n56 : Int).toNat * 1) [vI (e65)], .dat (sliceRep intRep) e34.Next [vL A43 e34.Next c44], .lit b39 (o40 + (n23 : Int).toNat * 3) [.bool (e34.Final), vS (e34.Letters), vL A43 (e34.Next) c44], .dat (sliceRep NodeRep) d1.Nodes [vL A2 d1.Nodes c3]]) ?_ ?_
     ·obtain ⟨w78, hw⟩ : ∃ x, x = w58.drew := ⟨_, rfl⟩
      refine region_pi (.q 0 (.q 1 (.q 2 (.q 3 (.l 4 (.q 5 (.q 6 (.q 7 (.q 8 (.q 9 (.q 10 (.q 11 (.q 12 (.q 13 (.q 14 (.q 15 (.q 16 (.q 17 (.q 18 (.q 19 (.q 20 (.q 21 (.q 22 (.q 23 (.q 24 (.q 25 (.q 26 (.q 27 (.l 28 (.q 29 (.q 30 (.nil)))))))))))))))))))))))))))))))) (Ext w78) rfl (by kernel_rfl) ?_
      have hM := hM.drew
      rw [← hw] at hM ⊢
      clear hw
      refine pi_q hf rfl rfl rfl rfl (Ext.refl _) (e_field hf rfl Tryz.underlying47 rfl Tryz.sizeOf9 (o' := 1) rfl) fun a hf => ?_
      refine pi_q hf rfl rfl rfl rfl (Ext.refl _) (e_load1 hf rfl Tryz.isAgg9 (hM.boxCell (k := 0) rfl rfl)) fun a hf => ?_
      refine pi_q hf rfl rfl rfl rfl (Ext.refl _) (e_move hf rfl) fun a hf => ?_
      obtain ⟨c79, hz80, h77⟩ := bind_some h77
      refine pi_q hf rfl rfl rfl rfl (Ext.refl _) (e_indexS hf (x := e34.Letters) rfl rfl Tryz.underlying9 hz80) fun a hf => ?_
      refine pi_one ?_
      obtain ⟨y81, hz82, h77⟩ := bind_some h77
      refine pi_l hf rfl rfl rfl rfl (w_call hf Tryz.call69 rfl (r_impl_formByte ⟨_, Sh C _ _, none_, hM.sh_lt, none_not, C.G, hM.g_lt, g_none, hM.tabs⟩ c79 _ hz82) ?_)
      rintro _ w83 ⟨rfl, hM2⟩
      obtain ⟨hM, hx84, hup85⟩ := hM.back hM2
      dsimp only [List.cons_append, List.nil_append] at hM hup85
      clear hM2
      refine ⟨_, rfl, Ext w83, fun _ h => Ext.trans hx84 h, Ext.refl _, fun a hf => ?_⟩
      refine pi_q hf rfl rfl rfl rfl (Ext.refl _) (e_not hf rfl) fun a hf => ?_
      refine pi_q hf rfl rfl rfl rfl (Ext.refl _) (e_move hf rfl) fun a hf => ?_
      rcases cond_some h77 with ⟨hc86, h77⟩ | ⟨hc86, h77⟩
      ·iterate 3 refine pi_gs hf rfl (wanted_f hf rfl rfl rfl rfl hc86) rfl rfl (Ext.refl _) fun a hf => ?_
       iterate 10 refine pi_gs hf rfl (wanted_u hf rfl rfl rfl rfl) rfl rfl (Ext.refl _) fun a hf => ?_
       refine pi_gs hf rfl (wanted_f hf rfl rfl rfl rfl hc86) rfl rfl (Ext.refl _) fun a hf => ?_
       refine pi_q hf rfl rfl rfl rfl (Ext.refl _) (e_pick_t hf rfl hc86 rfl) fun a hf => ?_
       refine pi_q hf rfl rfl rfl rfl (Ext.refl _) (e_move hf rfl) fun a hf => ?_
       iterate 5 refine pi_gs hf rfl (wanted_f hf rfl rfl rfl rfl rfl) rfl rfl (Ext.refl _) fun a hf => ?_
       refine pi_one ?_
       refine pi_ls hf rfl (wanted_f hf rfl rfl rfl rfl rfl) rfl rfl (Ext.refl _) fun a hf => ?_
       refine pi_gs hf rfl (wanted_f hf rfl rfl rfl rfl rfl) rfl rfl (Ext.refl _) fun a hf => ?_
       refine pi_q hf rfl rfl rfl rfl (Ext.refl _) (e_pick_t hf rfl rfl rfl) fun a hf => ?_
       refine pi_nil ?_
       obtain rfl := some_inj h77
       refine then_n ?_
       exact ⟨true, rfl, hf.keep ⟨rfl, rfl, rfl, rfl, rfl, rfl, rfl, rfl, rfl, trivial⟩, hM.pick [0, 1, 2, 3] rfl⟩
      refine pi_gq hf rfl (wanted_t hf rfl rfl rfl rfl hc86) rfl rfl (Ext.refl _) (e_move hf rfl) fun a hf => ?_
      refine pi_gq hf rfl (wanted_t hf rfl rfl rfl rfl hc86) rfl rfl (Ext.refl _) (e_gt hf (x := n56) (y := 0) rfl rfl) fun a hf => ?_
      refine pi_gq hf rfl (wanted_t hf rfl rfl rfl rfl hc86) rfl rfl (Ext.refl _) (e_move hf rfl) fun a hf => ?_
      rcases cond_some h77 with ⟨hc88, h77⟩ | ⟨hc88, h77⟩
      ·refine pi_gq hf rfl (wanted_t hf rfl rfl rfl rfl hc88) rfl rfl (Ext.refl _) (e_field hf rfl Tryz.underlying47 rfl Tryz.sizeOf9 (o' := 1) rfl) fun a hf => ?_
       refine pi_gq hf rfl (wanted_t hf rfl rfl rfl rfl hc88) rfl rfl (Ext.refl _) (e_load1 hf rfl Tryz.isAgg9 (hM.boxCell (k := 0) rfl rfl)) fun a hf => ?_
       refine pi_gq hf rfl (wanted_t hf rfl rfl rfl rfl hc88) rfl rfl (Ext.refl _) (e_move hf rfl) fun a hf => ?_
       obtain ⟨z89, hz90, h77⟩ := bind_some h77
       refine pi_gq hf rfl (wanted_t hf rfl rfl rfl rfl hc88) rfl rfl (Ext.refl _) (e_sub hf rfl rfl hz90) fun a hf => ?_
       obtain ⟨c91, hz92, h77⟩ := bind_some h77
       refine pi_gq hf rfl (wanted_t hf rfl rfl rfl rfl hc88) rfl rfl (Ext.refl _) (e_indexS hf (x := e34.Letters) rfl rfl Tryz.underlying9 hz92) fun a hf => ?_
       refine pi_gq hf rfl (wanted_t hf rfl rfl rfl rfl hc88) rfl rfl (Ext.refl _) (e_field hf rfl Tryz.underlying47 rfl Tryz.sizeOf9 (o' := 1) rfl) fun a hf => ?_
       refine pi_gq hf rfl (wanted_t hf rfl rfl rfl rfl hc88) rfl rfl (Ext.refl _) (e_load1 hf rfl Tryz.isAgg9 (hM.boxCell (k := 0) rfl rfl)) fun a hf => ?_
       refine pi_gq hf rfl (wanted_t hf rfl rfl rfl rfl hc88) rfl rfl (Ext.refl _) (e_move hf rfl) fun a hf => ?_
       obtain ⟨c93, hz94, h77⟩ := bind_some h77
       refine pi_gq hf rfl (wanted_t hf rfl rfl rfl rfl hc88) rfl rfl (Ext.refl _) (e_indexS hf (x := e34.Letters) rfl rfl Tryz.underlying9 hz94) fun a hf => ?_
       refine pi_gq hf rfl (wanted_t hf rfl rfl rfl rfl hc88) rfl rfl (Ext.refl _) (e_geB hf (x := c91) (y := c93) rfl rfl) fun a hf => ?_
       refine pi_gq hf rfl (wanted_t hf rfl rfl rfl rfl hc86) rfl rfl (Ext.refl _) (e_pick_t hf rfl hc88 rfl) fun a hf => ?_
       refine pi_q hf rfl rfl rfl rfl (Ext.refl _) (e_pick_f hf rfl hc86 rfl) fun a hf => ?_
       refine pi_q hf rfl rfl rfl rfl (Ext.refl _) (e_move hf rfl) fun a hf => ?_
       rcases cond_some h77 with ⟨hc95, h77⟩ | ⟨hc95, h77⟩
       ·iterate 5 refine pi_gs hf rfl (wanted_f hf rfl rfl rfl rfl hc95) rfl rfl (Ext.refl _) fun a hf => ?_
        refine pi_one ?_
        refine pi_ls hf rfl (wanted_f hf rfl rfl rfl rfl hc95) rfl rfl (Ext.refl _) fun a hf => ?_
        refine pi_gs hf rfl (wanted_f hf rfl rfl rfl rfl hc95) rfl rfl (Ext.refl _) fun a hf => ?_
        refine pi_q hf rfl rfl rfl rfl (Ext.refl _) (e_pick_t hf rfl hc95 rfl) fun a hf => ?_
        refine pi_nil ?_
        obtain rfl := some_inj h77
        refine then_n ?_
        exact ⟨true, rfl, hf.keep ⟨rfl, rfl, rfl, rfl, rfl, rfl, rfl, rfl, rfl, trivial⟩, hM.pick [0, 1, 2, 3] rfl⟩
       refine pi_gq hf rfl (wanted_t hf rfl rfl rfl rfl hc95) rfl rfl (Ext.refl _) (e_move hf rfl) fun a hf => ?_
       refine pi_gq hf rfl (wanted_t hf rfl rfl rfl rfl hc95) rfl rfl (Ext.refl _) (e_field hf rfl Tryz.underlying31 rfl Tryz.sizeOf29 (o' := 0) rfl) fun a hf => ?_
       refine pi_gq hf rfl (wanted_t hf rfl rfl rfl rfl hc95) rfl rfl (Ext.refl _) (e_load1 hf rfl Tryz.isAgg29 (hM.boxCell (k := 1) rfl rfl)) fun a hf => ?_
       have hl97 := slice_len (hM.dat (k := 3) rfl)
       refine pi_gq hf rfl (wanted_t hf rfl rfl rfl rfl hc95) rfl rfl (Ext.refl _) (e_lenL hf (x := d1.Nodes) rfl Tryz.underlying29) fun a hf => ?_
       obtain ⟨z98, hz99, h77⟩ := bind_some h77
       refine pi_gq hf rfl (wanted_t hf rfl rfl rfl rfl hc95) rfl rfl (Ext.refl _) (e_sub hf rfl rfl hz99) fun a hf => ?_
       refine pi_one ?_
       obtain ⟨y100, hz101, h77⟩ := bind_some h77
       refine pi_gl hf rfl (wanted_t hf rfl rfl rfl rfl hc95) rfl rfl (w_call hf Tryz.call70 rfl (r_impl_within ⟨_, Sh C _ _, none_, hM.sh_lt, none_not, C.G, hM.g_lt, g_none, hM.tabs⟩ e65 hv73 0 (R64_lit rfl) z98 (chk_R hz99) _ hz101) ?_)
       rintro _ w102 ⟨rfl, hM2⟩
       obtain ⟨hM, hx103, hup104⟩ := hM.back hM2
       dsimp only [List.cons_append, List.nil_append] at hM hup104
       clear hM2
       refine ⟨_, rfl, Ext w102, fun _ h => Ext.trans hx103 h, Ext.refl _, fun a hf => ?_⟩
       refine pi_gq hf rfl (wanted_t hf rfl rfl rfl rfl hc95) rfl rfl (Ext.refl _) (e_not hf rfl) fun a hf => ?_
       refine pi_q hf rfl rfl rfl rfl (Ext.refl _) (e_pick_f hf rfl hc95 rfl) fun a hf => ?_
       refine pi_nil ?_
       obtain rfl := some_inj h77
       refine then_n ?_
       exact ⟨(!y100), rfl, hf.keep ⟨rfl, rfl, rfl, rfl, rfl, rfl, rfl, rfl, rfl, trivial⟩, hM.pick [0, 1, 2, 3] rfl⟩
      iterate 10 refine pi_gs hf rfl (wanted_f hf rfl rfl rfl rfl hc88) rfl rfl (Ext.refl _) fun a hf => ?_
      refine pi_gq hf rfl (wanted_t hf rfl rfl rfl rfl hc86) rfl rfl (Ext.refl _) (e_pick_f hf rfl hc88 rfl) fun a hf => ?_
      refine pi_q hf rfl rfl rfl rfl (Ext.refl _) (e_pick_f hf rfl hc86 rfl) fun a hf => ?_
      refine pi_q hf rfl rfl rfl rfl (Ext.refl _) (e_move hf rfl) fun a hf => ?_
      refine pi_gq hf rfl (wanted_t hf rfl rfl rfl rfl rfl) rfl rfl (Ext.refl _) (e_move hf rfl) fun a hf => ?_
      refine pi_gq hf rfl (wanted_t hf rfl rfl rfl rfl rfl) rfl rfl (Ext.refl _) (e_field hf rfl Tryz.underlying31 rfl Tryz.sizeOf29 (o' := 0) rfl) fun a hf => ?_
      refine pi_gq hf rfl (wanted_t hf rfl rfl rfl rfl rfl) rfl rfl (Ext.refl _) (e_load1 hf rfl Tryz.isAgg29 (hM.boxCell (k := 1) rfl rfl)) fun a hf => ?_
      have hl106 := slice_len (hM.dat (k := 3) rfl)
      refine pi_gq hf rfl (wanted_t hf rfl rfl rfl rfl rfl) rfl rfl (Ext.refl _) (e_lenL hf (x := d1.Nodes) rfl Tryz.underlying29) fun a hf => ?_
      obtain ⟨z107, hz108, h77⟩ := bind_some h77
      refine pi_gq hf rfl (wanted_t hf rfl rfl rfl rfl rfl) rfl rfl (Ext.refl _) (e_sub hf rfl rfl hz108) fun a hf => ?_
      refine pi_one ?_
      obtain ⟨y109, hz110, h77⟩ := bind_some h77
      refine pi_gl hf rfl (wanted_t hf rfl rfl rfl rfl rfl) rfl rfl (w_call hf Tryz.call70 rfl (r_impl_within ⟨_, Sh C _ _, none_, hM.sh_lt, none_not, C.G, hM.g_lt, g_none, hM.tabs⟩ e65 hv73 0 (R64_lit rfl) z107 (chk_R hz108) _ hz110) ?_)
      rintro _ w111 ⟨rfl, hM2⟩
      obtain ⟨hM, hx112, hup113⟩ := hM.back hM2
      dsimp only [List.cons_append, List.nil_append] at hM hup113
      clear hM2
      refine ⟨_, rfl, Ext w111, fun _ h => Ext.trans hx112 h, Ext.refl _, fun a hf => ?_⟩
      refine pi_gq hf rfl (wanted_t hf rfl rfl rfl rfl rfl) rfl rfl (Ext.refl _) (e_not hf rfl) fun a hf => ?_
      refine pi_q hf rfl rfl rfl rfl (Ext.refl _) (e_pick_f hf rfl rfl rfl) fun a hf => ?_
      refine pi_nil ?_
      obtain rfl := some_inj h77
      refine then_n ?_
      exact ⟨(!y109), rfl, hf.keep ⟨rfl, rfl, rfl, rfl, rfl, rfl, rfl, rfl, rfl, trivial⟩, hM.pick [0, 1, 2, 3] rfl⟩
     rintro a w115 ⟨t74, rfl, hf, hM⟩
     try dsimp only at h62
     rcases cond_some h62 with ⟨hc116, h62⟩ | ⟨hc116, h62⟩
     ·refine cond_t hf rfl hc116 ?_
      refine wp_seq ?_
      refine region_pl ?_
      refine q_ hf rfl rfl rfl (e_assign hf rfl) fun a hf => ?_
      refine pl_nil ?_
      refine then_n ?_
      refine wp_ret ?_
      refine blk_r ?_
      refine then_r ?_
      obtain rfl := some_inj h62
      obtain rfl := hd63 _ rfl
      try dsimp only at h33
      refine then_r ?_
      iterate 2 refine blk_r ?_
      obtain rfl := some_inj h33
      try dsimp only at h29
      refine then_r ?_
      obtain rfl := some_inj h29
      obtain rfl := hd30 _ rfl
      try dsimp only at h21
      refine then_r ?_
      refine blk_r ?_
      obtain rfl := some_inj h21
      try dsimp only at h
      refine then_r ?_
      obtain rfl := some_inj h
      have hM := hM.outs (own' := []) 0 rfl
      exact leave1 hf rfl rfl ⟨rfl, hM.fin⟩
     refine cond_f hf rfl hc116 ?_
     refine wp_skip ?_
     refine blk_n ?_
     refine then_n ?_
     refine region_pl ?_
     obtain ⟨z117, hz118, h62⟩ := bind_some h62
     refine q_ hf rfl rfl rfl (e_add hf rfl rfl hz118) fun a hf => ?_
     refine q_ hf rfl rfl rfl (e_move hf rfl) fun a hf => ?_
     refine pl_nil ?_
     obtain rfl := some_inj h62
     refine then_n ⟨_, rfl, ?_⟩
     exact ⟨z117, rfl, hf.keep ⟨rfl, rfl, rfl, rfl, rfl, rfl, rfl, rfl, trivial⟩, hM.pick [1, 2, 3] rfl, (chk_R hz118)⟩
    refine cond_f hf rfl hc64 ?_
    refine wp_exit ?_
    refine then_x ?_
    obtain rfl := some_inj h62
    obtain rfl := hd63 _ rfl
    try dsimp only at h33
    refine then_x ?_
    refine exit_hit ?_
    refine blk_n ?_
    obtain rfl := some_inj h33
    refine then_n ?_
    exact ⟨rfl, hf.keep ⟨rfl, rfl, rfl, rfl, trivial⟩, (hM.drop (.cons _ (.cons_cons _ .slnil))).pick [2] rfl⟩
   rintro a w125 ⟨rfl, hf, hM⟩
   try dsimp only at h29
   refine region_pl ?_
   obtain ⟨z126, hz127, h29⟩ := bind_some h29
   refine q_ hf rfl rfl rfl (e_add hf rfl rfl hz127) fun a hf => ?_
   refine q_ hf rfl rfl rfl (e_move hf rfl) fun a hf => ?_
   refine pl_nil ?_
   obtain rfl := some_inj h29
   refine then_n ⟨_, rfl, ?_⟩
   exact ⟨z126, rfl, hf.keep ⟨rfl, rfl, rfl, rfl, trivial⟩, hM.pick [0] rfl, (chk_R hz127)⟩
  refine cond_f hf rfl hc31 ?_
  refine wp_exit ?_
  refine then_x ?_
  obtain rfl := some_inj h29
  obtain rfl := hd30 _ rfl
  try dsimp only at h21
  refine then_x ?_
  refine exit_hit ?_
  obtain rfl := some_inj h21
  refine then_n ?_
  exact ⟨rfl, hf.keep trivial, hM.pick [0] rfl⟩
 rintro a w135 ⟨rfl, hf, hM⟩
 try dsimp only at h
 refine wp_seq ?_
 refine region_pl ?_
 refine q_ hf rfl rfl rfl (e_assign hf rfl) fun a hf => ?_
 refine pl_nil ?_
 refine then_n ?_
 refine wp_ret ?_
 obtain rfl := some_inj h
 have hM := hM.outs (own' := []) 0 rfl
 exact leave1 hf rfl rfl ⟨rfl, hM.fin⟩
def Ct_impl_inspector_visit (rc : inspector → Int → Option (Bool × inspector)) : Prop := ∀ (C : Cx) (x1 : inspector) (b2 : Nat) (A3 : Option Addr) (c4 : Nat) (hp5 : (sliceRep NodeRep).R C.w0 C.S0 x1.d.Nodes [vL A3 x1.d.Nodes c4]) (hp6 : R64 x1.met) (A7 : Option Addr) (c8 : Nat) (A9 : Option Addr) (c10 : Nat) (A11 : Option Addr) (c12 : Nat) (k13 : Int) (hp14 : R64 k13) (hO : Mem C C.w0 [.box b2 [vL A3 (x1.d.Nodes) c4, vI (x1.met), vL A7 (x1.open_) c8, vL A9 (x1.strings) c10, vL A11 (x1.longest) c12] 83, .row boolRep A7 c8 4 x1.open_ true, .row intRep A9 c10 2 x1.strings true, .row intRep A11 c12 3 x1.longest true] []) (hd : ∀ b, C.S0 b → ¬ ownB [.box b2 [vL A3 (x1.d.Nodes) c4, vI (x1.met), vL A7 (x1.open_) c8, vL A9 (x1.strings) c10, vL A11 (x1.longest) c12] 83, .row boolRep A7 c8 4 x1.open_ true, .row intRep A9 c10 2 x1.strings true, .row intRep A11 c12 3 x1.longest true] b) (r : (Bool × inspector)) (h : rc x1 k13 = some r),
    Calls Tryz.prog 42 #[vP b2 (0), vI (k13)] C.w0 fun e w => ∃ (A_1 : Option Addr), ∃ (c_1 : Nat), ∃ (A_2 : Option Addr), ∃ (c_2 : Nat), ∃ (A_3 : Option Addr), ∃ (c_3 : Nat), e = .returned (.bool (r.1)) ∧ Mem C w [.box b2 [vL A3 (x1.d.Nodes) c4, vI (r.2.met), vL A_1 (r.2.open_) c_1, vL A_2 (r.2.strings) c_2, vL A_3 (r.2.longest) c_3] 83, .row boolRep A_1 c_1 4 r.2.open_ true, .row intRep A_2 c_2 2 r.2.strings true, .row intRep A_3 c_3 3 r.2.longest true] [] ∧ R64 r.2.met
theorem r_impl_inspector_visit_b (rc : inspector → Int → Option (Bool × inspector)) (ih : Ct_impl_inspector_visit rc) : Ct_impl_inspector_visit (m_impl_inspector_visit_b rc) := by
 intro C x1 b2 A3 c4 hp5 hp6 A7 c8 A9 c10 A11 c12 k13 hp14 hO hd r h
 have hM := hO
 have hM := hM.addIn hd (y := .dat (sliceRep NodeRep) x1.d.Nodes [vL A3 x1.d.Nodes c4]) hp5
 refine enter Tryz.func42 rfl Tryz.ntmps42 rfl fun a hf => ?_
 unfold m_impl_inspector_visit_b at h
 refine wp_seq ?_
 refine region_pl ?_
 refine q_ hf rfl rfl rfl (e_assign hf rfl) fun a hf => ?_
 refine pl_nil ?_
 refine then_n ?_
 iterate 2 refine wp_seq ?_
 refine region_pl ?_
 iterate 2 refine q_ hf rfl rfl rfl (e_move hf rfl) fun a hf => ?_
 refine q_ hf rfl rfl rfl (e_nil hf rfl) fun a hf => ?_
 refine q_ hf rfl rfl rfl (e_field hf rfl Tryz.underlying83 rfl Tryz.sizeOf2 (o' := 1) rfl) fun a hf => ?_
 refine q_ hf rfl rfl rfl (e_load1 hf rfl Tryz.isAgg2 (hM.boxCell (k := 0) rfl rfl)) fun a hf => ?_
 refine q_ hf rfl rfl rfl (e_lt hf (x := k13) (y := x1.met) rfl rfl) fun a hf => ?_
 refine pl_nil ?_
 refine then_n ?_
 rcases cond_some h with ⟨hc15, h⟩ | ⟨hc15, h⟩
 ·refine cond_t hf rfl hc15 ?_
  refine wp_seq ?_
  refine region_pl ?_
  refine q_ hf rfl rfl rfl (e_move hf rfl) fun a hf => ?_
  refine q_ hf rfl rfl rfl (e_nil hf rfl) fun a hf => ?_
  refine q_ hf rfl rfl rfl (e_field hf rfl Tryz.underlying83 rfl Tryz.sizeOf80 (o' := 2) rfl) fun a hf => ?_
  refine q_ hf rfl rfl rfl (e_load1 hf rfl Tryz.isAgg80 (hM.boxCell (k := 0) rfl rfl)) fun a hf => ?_
  refine q_ hf rfl rfl rfl (e_move hf rfl) fun a hf => ?_
  obtain ⟨e16, hz17, h⟩ := bind_some h
  obtain ⟨b22, _, hA23, h18, h19, hr20, hcell21⟩ := hM.rowElemN (k := 1) rfl (n := 1) rfl hz17
  obtain rfl : _ = _ := hr20
  refine q_ hf rfl rfl rfl (e_indexAddr (A := A7) (b := b22) (o := 0) (xs := x1.open_) (i := k13) hf hA23 rfl rfl Tryz.underlying80 Tryz.sizeOf4 h18 h19) fun a hf => ?_
  refine q_ hf rfl rfl rfl (e_load1 hf rfl Tryz.isAgg4 (hcell21 0 _ rfl)) fun a hf => ?_
  refine q_ hf rfl rfl rfl (e_not hf rfl) fun a hf => ?_
  refine q_ hf rfl rfl rfl (e_assign hf rfl) fun a hf => ?_
  refine pl_nil ?_
  refine then_n ?_
  refine wp_ret ?_
  refine then_r ?_
  obtain rfl := some_inj h
  exact leave1 hf rfl rfl ⟨A7, c8, A9, c10, A11, c12, rfl, hM.fin, hp6⟩
 refine cond_f hf rfl hc15 ?_
 refine wp_skip ?_
 refine then_n ?_
 iterate 2 refine wp_seq ?_
 refine region_pl ?_
 iterate 2 refine q_ hf rfl rfl rfl (e_move hf rfl) fun a hf => ?_
 refine q_ hf rfl rfl rfl (e_nil hf rfl) fun a hf => ?_
 refine q_ hf rfl rfl rfl (e_field hf rfl Tryz.underlying83 rfl Tryz.sizeOf2 (o' := 1) rfl) fun a hf => ?_
 refine q_ hf rfl rfl rfl (e_load1 hf rfl Tryz.isAgg2 (hM.boxCell (k := 0) rfl rfl)) fun a hf => ?_
 refine q_ hf rfl rfl rfl (e_gt hf (x := k13) (y := x1.met) rfl rfl) fun a hf => ?_
 refine pl_nil ?_
 refine then_n ?_
 rcases cond_some h with ⟨hc24, h⟩ | ⟨hc24, h⟩
 ·refine cond_t hf rfl hc24 ?_
  refine wp_seq ?_
  refine region_pl ?_
  refine q_ hf rfl rfl rfl (e_assign hf rfl) fun a hf => ?_
  refine pl_nil ?_
  refine then_n ?_
  refine wp_ret ?_
  refine then_r ?_
  obtain rfl := some_inj h
  exact leave1 hf rfl rfl ⟨A7, c8, A9, c10, A11, c12, rfl, hM.fin, hp6⟩
 refine cond_f hf rfl hc24 ?_
 refine wp_skip ?_
 refine then_n ?_
 refine wp_seq ?_
 refine region_pl ?_
 refine q_ hf rfl rfl rfl (e_move hf rfl) fun a hf => ?_
 refine q_ hf rfl rfl rfl (e_nil hf rfl) fun a hf => ?_
 refine q_ hf rfl rfl rfl (e_field hf rfl Tryz.underlying83 rfl Tryz.sizeOf2 (o' := 1) rfl) fun a hf => ?_
 refine q_ hf rfl rfl rfl (e_load1 hf rfl Tryz.isAgg2 (hM.boxCell (k := 0) rfl rfl)) fun a hf => ?_
 obtain ⟨z25, hz26, h⟩ := bind_some h
 refine q_ hf rfl rfl rfl (e_add hf rfl rfl hz26) fun a hf => ?_
 refine q_ hf rfl rfl rfl (e_nil hf rfl) fun a hf => ?_
 refine q_ hf rfl rfl rfl (e_field hf rfl Tryz.underlying83 rfl Tryz.sizeOf2 (o' := 1) rfl) fun a hf => ?_
 refine pl_0 hf rfl rfl (w_store hf hM (us := [vI (z25)]) (cs' := [vL A3 (x1.d.Nodes) c4, vI (z25), vL A7 (x1.open_) c8, vL A9 (x1.strings) c10, vL A11 (x1.longest) c12]) rfl rfl (k := 0) rfl rfl Tryz.sizeOf2 rfl rfl rfl fun w27 hM => ?_)
 dsimp only [List.set] at hM
 refine pl_nil ?_
 refine then_n ?_
 refine wp_seq ?_
 refine region_pl ?_
 refine q_ hf rfl rfl rfl (e_move hf rfl) fun a hf => ?_
 refine q_ hf rfl rfl rfl (e_nil hf rfl) fun a hf => ?_
 refine q_ hf rfl rfl rfl (e_field hf rfl Tryz.underlying83 rfl Tryz.sizeOf80 (o' := 2) rfl) fun a hf => ?_
 refine q_ hf rfl rfl rfl (e_load1 hf rfl Tryz.isAgg80 (hM.boxCell (k := 0) rfl rfl)) fun a hf => ?_
 refine q_ hf rfl rfl rfl (e_move hf rfl) fun a hf => ?_
 obtain ⟨e30, hz31, h⟩ := bind_some h
 obtain ⟨b36, _, hA37, h32, h33, hr34, hcell35⟩ := hM.rowElemN (k := 1) rfl (n := 1) rfl hz31
 obtain rfl : _ = _ := hr34
 refine q_ hf rfl rfl rfl (e_indexAddr (A := A7) (b := b36) (o := 0) (xs := x1.open_) (i := k13) hf hA37 rfl rfl Tryz.underlying80 Tryz.sizeOf4 h32 h33) fun a hf => ?_
 obtain ⟨xs39, hz40, h⟩ := bind_some h
 refine pl_0 hf rfl rfl (w_storeElem hf hM (x := true) (row := [.bool (true)]) (i := k13) rfl rfl rfl hA37 (k := 1) rfl rfl Tryz.sizeOf4 rfl hz40 fun w38 hM => ?_)
 dsimp only [List.set] at hM
 have hf := hf.alter (d := 38) (v := vL A7 (xs39) c8) rfl (vL_len (setL_len hz40))
 rw [vL_len (A := A7) (c := c8) (setL_len hz40)] at hM
 refine pl_nil ?_
 refine then_n ?_
 refine wp_seq ?_
 refine region_pl ?_
 refine q_ hf rfl rfl rfl (e_move hf rfl) fun a hf => ?_
 refine q_ hf rfl rfl rfl (e_nil hf rfl) fun a hf => ?_
 refine q_ hf rfl rfl rfl (e_field hf rfl Tryz.underlying83 rfl Tryz.sizeOf31 (o' := 0) rfl) fun a hf => ?_
 refine q_ hf rfl rfl rfl (e_field hf rfl Tryz.underlying31 rfl Tryz.sizeOf29 (o' := 0) rfl) fun a hf => ?_
 refine q_ hf rfl rfl rfl (e_load1 hf rfl Tryz.isAgg29 (hM.boxCell (k := 0) rfl rfl)) fun a hf => ?_
 refine q_ hf rfl rfl rfl (e_move hf rfl) fun a hf => ?_
 obtain ⟨e43, hz44, h⟩ := bind_some h
 obtain ⟨b48, o49, _, hA50, h45, h46, hr47, hM⟩ := hM.elem (hM.dat (k := 0) rfl) (n := 3) rfl hz44
 obtain ⟨A52, c53, rfl, hv51, hv54⟩ := NodeRep_open hr47
 have hM := hM.add (y := .dat (sliceRep intRep) e43.Next [vL A52 e43.Next c53]) hv54
 refine q_ hf rfl rfl rfl (e_indexAddr (A := A3) (b := b48) (o := o49) (xs := x1.d.Nodes) (i := k13) hf hA50 rfl rfl Tryz.underlying29 Tryz.sizeOf47 h45 h46) fun a hf => ?_
 refine q_ hf rfl rfl rfl (e_loadA hf (us := [.bool (e43.Final), vS (e43.Letters), vL A52 (e43.Next) c53]) rfl ⟨Tryz.isAgg47, Tryz.sizeOf47⟩ rfl (hM.litSub (k := 1) (d := 0) (us := [.bool (e43.Final), vS (e43.Letters), vL A52 (e43.Next) c53]) rfl rfl rfl)) fun a hf => ?_
 refine pl_l hf rfl rfl rfl (w_alloc hM (cs := [.bool (false), vS (([] : Str)), vL none (([] : (List Int))) 0]) Tryz.zeroValue47 rfl fun b55 w56 hx57 hM a hf => ?_)
 refine pl_0 hf rfl rfl (w_store hf hM (us := [.bool (e43.Final), vS (e43.Letters), vL A52 (e43.Next) c53]) (cs' := [.bool (e43.Final), vS (e43.Letters), vL A52 (e43.Next) c53]) rfl rfl (k := 0) rfl rfl Tryz.sizeOf47 rfl rfl rfl fun w59 hM => ?_)
 dsimp only [List.set] at hM
 refine pl_nil ?_
 refine then_n ?_
 obtain ⟨x64, h65, h⟩ := bind_some h
 refine seq_join (fun a w => ∃ (xs62 : (List Int)), xs62 = x64 ∧ Has 131 a [(0, vP b2 (0)), (1, vI (k13)), (5, vP b55 (0))] ∧ Mem C w [.box b55 [.bool (e43.Final), vS (e43.Letters), vL A52 (e43.Next) c53] 47, .box b2 [vL A3 (x1.d.Nodes) c4, vI (z25), vL A7 (xs39) c8, vL A9 (xs62) c10, vL A11 (x1.longest) c12] 83, .row boolRep A7 c8 4 xs39 true, .row intRep A9 c10 2 xs62 true, .row intRep A11 c12 3 x1.longest true] [.dat (sliceRep intRep) e43.Next [vL A52 e43.Next c53], .lit b48 (o49 + (k13 : Int).toNat * 3) [.bool (e43.Final), vS (e43.Letters), vL A52 (e43.Next) c53], .dat (sliceRep NodeRep) x1.d.Nodes [vL A3 x1.d.Nodes c4]] ∧ xs62.length = x1.strings.length) ?_ ?_
 ·refine wp_seq ?_
  refine region_pl ?_
  refine q_ hf rfl rfl rfl (e_field hf rfl Tryz.underlying47 rfl Tryz.sizeOf4 (o' := 0) rfl) fun a hf => ?_
  refine q_ hf rfl rfl rfl (e_load1 hf rfl Tryz.isAgg4 (hM.boxCell (k := 0) rfl rfl)) fun a hf => ?_
  refine pl_nil ?_
  refine then_n ?_
  rcases cond_some h65 with ⟨hc66, h65⟩ | ⟨hc66, h65⟩
  ·refine cond_t hf rfl hc66 ?_
   refine region_pl ?_
   refine q_ hf rfl rfl rfl (e_move hf rfl) fun a hf => ?_
   refine q_ hf rfl rfl rfl (e_nil hf rfl) fun a hf => ?_
   refine q_ hf rfl rfl rfl (e_field hf rfl Tryz.underlying83 rfl Tryz.sizeOf45 (o' := 3) rfl) fun a hf => ?_
   refine q_ hf rfl rfl rfl (e_load1 hf rfl Tryz.isAgg45 (hM.boxCell (k := 1) rfl rfl)) fun a hf => ?_
   refine q_ hf rfl rfl rfl (e_move hf rfl) fun a hf => ?_
   obtain ⟨e67, hz68, h65⟩ := bind_some h65
   obtain ⟨b73, _, hA74, h69, h70, hr71, hcell72⟩ := hM.rowElemN (k := 3) rfl (n := 1) rfl hz68
   obtain ⟨rfl, hv75⟩ := hr71
   refine q_ hf rfl rfl rfl (e_indexAddr (A := A9) (b := b73) (o := 0) (xs := x1.strings) (i := k13) hf hA74 rfl rfl Tryz.underlying45 Tryz.sizeOf2 h69 h70) fun a hf => ?_
   obtain ⟨xs77, hz78, h65⟩ := bind_some h65
   refine pl_0 hf rfl rfl (w_storeElem hf hM (x := 1) (row := [vI (1)]) (i := k13) rfl rfl rfl hA74 (k := 3) rfl rfl Tryz.sizeOf2 ⟨rfl, (R64_lit rfl)⟩ hz78 fun w76 hM => ?_)
   dsimp only [List.set] at hM
   have hf := hf.alter (d := 54) (v := vL A9 (xs77) c10) rfl (vL_len (setL_len hz78))
   rw [vL_len (A := A9) (c := c10) (setL_len hz78)] at hM
   refine pl_nil ?_
   obtain rfl := some_inj h65
   refine then_n ?_
   exact ⟨xs77, rfl, hf.keep ⟨rfl, rfl, rfl, trivial⟩, hM.pick [0, 1, 2] rfl, (setL_len hz78)⟩
  refine cond_f hf rfl hc66 ?_
  refine wp_skip ?_
  obtain rfl := some_inj h65
  refine then_n ?_
  exact ⟨x1.strings, rfl, hf.keep ⟨rfl, rfl, rfl, trivial⟩, hM.pick [0, 1, 2] rfl, rfl⟩
 rintro a w83 ⟨xs62, rfl, hf, hM, hl63⟩
 try dsimp only at h
 obtain ⟨x95, h96, h⟩ := bind_some h
 refine seq_join (fun a w => ∃ (n84 : Int) (xs86 : (List Bool)) (xs89 : (List Int)) (xs92 : (List Int)) (A87 : Option Addr) (c88 : Nat) (A90 : Option Addr) (c91 : Nat) (A93 : Option Addr) (c94 : Nat), (.inl (n84, xs86, xs89, xs92)) = x95 ∧ Has 131 a [(0, vP b2 (0)), (1, vI (k13))] ∧ Mem C w [.box b55 [.bool (e43.Final), vS (e43.Letters), vL A52 (e43.Next) c53] 47, .box b2 [vL A3 (x1.d.Nodes) c4, vI (n84), vL A87 (xs86) c88, vL A90 (xs89) c91, vL A93 (xs92) c94] 83, .row boolRep A87 c88 4 xs86 true, .row intRep A90 c91 2 xs89 true, .row intRep A93 c94 3 xs92 true] [.dat (sliceRep intRep) e43.Next [vL A52 e43.Next c53], .lit b48 (o49 + (k13 : Int).toNat * 3) [.bool (e43.Final), vS (e43.Letters), vL A52 (e43.Next) c53], .dat (sliceRep NodeRep) x1.d.Nodes [vL A3 x1.d.Nodes c4]] ∧ R64 n84) ?_ ?_
 ·refine wp_seq ?_
  refine region_pl ?_
  refine q_ hf rfl rfl rfl (e_field hf rfl Tryz.underlying47 rfl Tryz.sizeOf45 (o' := 2) rfl) fun a hf => ?_
  refine q_ hf rfl rfl rfl (e_load1 hf rfl Tryz.isAgg45 (hM.boxCell (k := 0) rfl rfl)) fun a hf => ?_
  have hl97 := slice_len (hM.dat (k := 0) rfl)
  refine q_ hf rfl rfl rfl (e_lenL hf (x := e43.Next) rfl Tryz.underlying45) fun a hf => ?_
  refine q_ hf rfl rfl rfl (e_move hf rfl) fun a hf => ?_
  refine pl_nil ?_
  refine then_n ?_
  refine wp_block ?_
  obtain ⟨x123, h124, h96⟩ := bind_some h96
  refine wp_loopM h124 (fun s a w => ∃ (n98 : Int) (xs100 : (List Bool)) (xs103 : (List Int)) (xs106 : (List Int)) (n109 : Int) (A101 : Option Addr) (c102 : Nat) (A104 : Option Addr) (c105 : Nat) (A107 : Option Addr) (c108 : Nat), (n98, xs100, xs103, xs106, n109) = s ∧ Has 131 a [(0, vP b2 (0)), (1, vI (k13)), (58, vL A52 (e43.Next) c53), (59, vI ((e43.Next.length : Int))), (60, vI (n109))] ∧ Mem C w [.box b55 [.bool (e43.Final), vS (e43.Letters), vL A52 (e43.Next) c53] 47, .box b2 [vL A3 (x1.d.Nodes) c4, vI (n98), vL A101 (xs100) c102, vL A104 (xs103) c105, vL A107 (xs106) c108] 83, .row boolRep A101 c102 4 xs100 true, .row intRep A104 c105 2 xs103 true, .row intRep A107 c108 3 xs106 true] [.dat (sliceRep intRep) e43.Next [vL A52 e43.Next c53], .lit b48 (o49 + (k13 : Int).toNat * 3) [.bool (e43.Final), vS (e43.Letters), vL A52 (e43.Next) c53], .dat (sliceRep NodeRep) x1.d.Nodes [vL A3 x1.d.Nodes c4]] ∧ R64 n98 ∧ R64 n109) ?_ ?_
  ·exact ⟨z25, xs39, xs62, x1.longest, 0, A7, c8, A9, c10, A11, c12, rfl, hf.keep ⟨rfl, rfl, rfl, rfl, rfl, trivial⟩, hM.pick [0, 1, 2] rfl, (chk_R hz26), (R64_lit rfl)⟩
  rintro s o125 a w111 ⟨n98, xs100, xs103, xs106, n109, A101, c102, A104, c105, A107, c108, rfl, hf, hM, hv99, hv110⟩ h126 hd127
  replace h126 : m_impl_inspector_visit_l1 e43 rc x1 k13 n98 xs100 xs103 xs106 n109 = some o125 := h126
  unfold m_impl_inspector_visit_l1 at h126
  refine wp_seq ?_
  refine region_pl ?_
  refine q_ hf rfl rfl rfl (e_lt hf (x := n109) (y := (e43.Next.length : Int)) rfl rfl) fun a hf => ?_
  refine pl_nil ?_
  refine then_n ?_
  refine wp_seq ?_
  rcases cond_some h126 with ⟨hc128, h126⟩ | ⟨hc128, h126⟩
  ·refine cond_t hf rfl hc128 ?_
   refine wp_skip ?_
   refine then_n ?_
   refine wp_seq ?_
   refine wp_block ?_
   refine wp_seq ?_
   refine region_pl ?_
   obtain ⟨e129, hz130, h126⟩ := bind_some h126
   obtain ⟨b134, o135, _, hA136, h131, h132, hr133, hM⟩ := hM.elem (hM.dat (k := 0) rfl) (n := 1) rfl hz130
   obtain ⟨rfl, hv137⟩ := hr133
   refine q_ hf rfl rfl rfl (e_indexAddr (A := A52) (b := b134) (o := o135) (xs := e43.Next) (i := n109) hf hA136 rfl rfl Tryz.underlying45 Tryz.sizeOf2 h131 h132) fun a hf => ?_
   refine q_ hf rfl rfl rfl (e_load1 hf rfl Tryz.isAgg2 (hM.litCell (k := 0) (j := 0) rfl rfl rfl)) fun a hf => ?_
   refine q_ hf rfl rfl rfl (e_assign hf rfl) fun a hf => ?_
   refine pl_nil ?_
   refine then_n ?_
   iterate 2 refine wp_seq ?_
   refine region_pl ?_
   iterate 2 refine q_ hf rfl rfl rfl (e_move hf rfl) fun a hf => ?_
   have hM := hM.front (k := 4) rfl
   dsimp only [List.eraseIdx] at hM
   have hM := hM.front (k := 4) rfl
   dsimp only [List.eraseIdx] at hM
   have hM := hM.front (k := 4) rfl
   dsimp only [List.eraseIdx] at hM
   have hM := hM.front (k := 4) rfl
   dsimp only [List.eraseIdx] at hM
   have hM : Mem C _ ([.box b2 [vL A3 (x1.d.Nodes) c4, vI (n98), vL A101 (xs100) c102, vL A104 (xs103) c105, vL A107 (xs106) c108] 83, .row boolRep A101 c102 4 xs100 true, .row intRep A104 c105 2 xs103 true, .row intRep A107 c108 3 xs106 true] ++ [.box b55 [.bool (e43.Final), vS (e43.Letters), vL A52 (e43.Next) c53] 47]) _ := hM
   obtain ⟨y138, hz139, h126⟩ := bind_some h126
   refine pl_l hf rfl rfl rfl (w_call hf Tryz.call42 rfl (ih ⟨_, Sh C _ _, ownB _, hM.sh_lt, sub_dis, C.G, hM.g_lt, hM.g_own, hM.tabs⟩ (⟨⟨x1.d.Nodes⟩, n98, xs100, xs103, xs106⟩ : inspector) _ _ _ (hM.dat (k := 3) rfl) hv99 _ _ _ _ _ _ e129 hv137 hM.sub sub_dis _ hz139) ?_)
   rintro _ w147 ⟨A141, c142, A143, c144, A145, c146, rfl, hM2, hv140⟩
   obtain ⟨hM, hup149⟩ := hM.backG hM2
   dsimp only [List.cons_append, List.nil_append] at hM hup149
   clear hM2
   refine ⟨_, rfl, fun a hf => ?_⟩
   refine q_ hf rfl rfl rfl (e_not hf rfl) fun a hf => ?_
   refine pl_nil ?_
   refine then_n ?_
   rcases cond_some h126 with ⟨hc150, h126⟩ | ⟨hc150, h126⟩
   ·refine cond_t hf rfl hc150 ?_
    refine wp_seq ?_
    refine region_pl ?_
    refine q_ hf rfl rfl rfl (e_assign hf rfl) fun a hf => ?_
    refine pl_nil ?_
    refine then_n ?_
    refine wp_ret ?_
    refine then_r ?_
    refine blk_r ?_
    refine then_r ?_
    obtain rfl := some_inj h126
    obtain rfl := hd127 _ rfl
    try dsimp only at h96
    refine then_r ?_
    refine blk_r ?_
    obtain rfl := some_inj h96
    try dsimp only at h
    refine then_r ?_
    obtain rfl := some_inj h
    have hM := hM.outs (own' := [.box b2 [vL A3 (x1.d.Nodes) c4, vI (y138.2.met), vL A141 (y138.2.open_) c142, vL A143 (y138.2.strings) c144, vL A145 (y138.2.longest) c146] 83, .row boolRep A141 c142 4 y138.2.open_ true, .row intRep A143 c144 2 y138.2.strings true, .row intRep A145 c146 3 y138.2.longest true]) 4 rfl
    exact leave1 hf rfl rfl ⟨A141, c142, A143, c144, A145, c146, rfl, hM.fin, hv140⟩
   refine cond_f hf rfl hc150 ?_
   refine wp_skip ?_
   refine then_n ?_
   refine wp_seq ?_
   obtain ⟨w151, hw⟩ : ∃ x, x = w147.drew := ⟨_, rfl⟩
   refine region_pi (.q 0 (.q 1 (.q 2 (.q 3 (.q 4 (.q 5 (.q 6 (.q 7 (.q 8 (.q 9 (.q 10 (.q 11 (.q 12 (.q 13 (.q 14 (.q 15 (.q 16 (.q 17 (.q 18 (.q 19 (.q 20 (.q 21 (.l 22 (.nil)))))))))))))))))))))))) (Ext w151) rfl (by kernel_rfl) ?_
   have hM := hM.drew
   rw [← hw] at hM ⊢
   clear hw
   refine pi_q hf rfl rfl rfl rfl (Ext.refl _) (e_move hf rfl) fun a hf => ?_
   refine pi_q hf rfl rfl rfl rfl (Ext.refl _) (e_nil hf rfl) fun a hf => ?_
   refine pi_q hf rfl rfl rfl rfl (Ext.refl _) (e_field hf rfl Tryz.underlying83 rfl Tryz.sizeOf45 (o' := 3) rfl) fun a hf => ?_
   refine pi_q hf rfl rfl rfl rfl (Ext.refl _) (e_load1 hf rfl Tryz.isAgg45 (hM.boxCell (k := 0) rfl rfl)) fun a hf => ?_
   iterate 2 refine pi_q hf rfl rfl rfl rfl (Ext.refl _) (e_move hf rfl) fun a hf => ?_
   refine pi_q hf rfl rfl rfl rfl (Ext.refl _) (e_nil hf rfl) fun a hf => ?_
   refine pi_q hf rfl rfl rfl rfl (Ext.refl _) (e_field hf rfl Tryz.underlying83 rfl Tryz.sizeOf45 (o' := 3) rfl) fun a hf => ?_
   refine pi_q hf rfl rfl rfl rfl (Ext.refl _) (e_load1 hf rfl Tryz.isAgg45 (hM.boxCell (k := 0) rfl rfl)) fun a hf => ?_
   refine pi_q hf rfl rfl rfl rfl (Ext.refl _) (e_move hf rfl) fun a hf => ?_
   obtain ⟨e152, hz153, h126⟩ := bind_some h126
   obtain ⟨b158, _, hA159, h154, h155, hr156, hcell157⟩ := hM.rowElemN (k := 2) rfl (n := 1) rfl hz153
   obtain ⟨rfl, hv160⟩ := hr156
   refine pi_q hf rfl rfl rfl rfl (Ext.refl _) (e_indexAddr (A := A143) (b := b158) (o := 0) (xs := y138.2.strings) (i := k13) hf hA159 rfl rfl Tryz.underlying45 Tryz.sizeOf2 h154 h155) fun a hf => ?_
   refine pi_q hf rfl rfl rfl rfl (Ext.refl _) (e_load1 hf rfl Tryz.isAgg2 (hcell157 0 _ rfl)) fun a hf => ?_
   refine pi_q hf rfl rfl rfl rfl (Ext.refl _) (e_move hf rfl) fun a hf => ?_
   refine pi_q hf rfl rfl rfl rfl (Ext.refl _) (e_nil hf rfl) fun a hf => ?_
   refine pi_q hf rfl rfl rfl rfl (Ext.refl _) (e_field hf rfl Tryz.underlying83 rfl Tryz.sizeOf45 (o' := 3) rfl) fun a hf => ?_
   refine pi_q hf rfl rfl rfl rfl (Ext.refl _) (e_load1 hf rfl Tryz.isAgg45 (hM.boxCell (k := 0) rfl rfl)) fun a hf => ?_
   refine pi_q hf rfl rfl rfl rfl (Ext.refl _) (e_move hf rfl) fun a hf => ?_
   obtain ⟨e161, hz162, h126⟩ := bind_some h126
   obtain ⟨b167, _, hA168, h163, h164, hr165, hcell166⟩ := hM.rowElemN (k := 2) rfl (n := 1) rfl hz162
   obtain ⟨rfl, hv169⟩ := hr165
   refine pi_q hf rfl rfl rfl rfl (Ext.refl _) (e_indexAddr (A := A143) (b := b167) (o := 0) (xs := y138.2.strings) (i := e129) hf hA168 rfl rfl Tryz.underlying45 Tryz.sizeOf2 h163 h164) fun a hf => ?_
   refine pi_q hf rfl rfl rfl rfl (Ext.refl _) (e_load1 hf rfl Tryz.isAgg2 (hcell166 0 _ rfl)) fun a hf => ?_
   obtain ⟨z170, hz171, h126⟩ := bind_some h126
   refine pi_q hf rfl rfl rfl rfl (Ext.refl _) (e_add hf rfl rfl hz171) fun a hf => ?_
   refine pi_q hf rfl rfl rfl rfl (Ext.refl _) (e_min hf rfl rfl) fun a hf => ?_
   obtain ⟨e172, hz173, h126⟩ := bind_some h126
   obtain ⟨b178, _, hA179, h174, h175, hr176, hcell177⟩ := hM.rowElemN (k := 2) rfl (n := 1) rfl hz173
   obtain ⟨rfl, hv180⟩ := hr176
   refine pi_q hf rfl rfl rfl rfl (Ext.refl _) (e_indexAddr (A := A143) (b := b178) (o := 0) (xs := y138.2.strings) (i := k13) hf hA179 rfl rfl Tryz.underlying45 Tryz.sizeOf2 h174 h175) fun a hf => ?_
   refine pi_one ?_
   obtain ⟨xs182, hz183, h126⟩ := bind_some h126
   refine pi_z0 hf rfl rfl rfl (by kernel_rfl) (w_storeElem hf hM (x := min z170 3001) (row := [vI (min z170 3001)]) (i := k13) rfl rfl rfl hA179 (k := 2) rfl rfl Tryz.sizeOf2 ⟨rfl, (R64_min (chk_R hz171) (R64_lit rfl))⟩ hz183 fun w181 hM => ?_)
   dsimp only [List.set] at hM
   have hf := hf.alter (d := 71) (v := vL A143 (xs182) c144) rfl (vL_len (setL_len hz183))
   have hf := hf.alter (d := 76) (v := vL A143 (xs182) c144) rfl (vL_len (setL_len hz183))
   have hf := hf.alter (d := 83) (v := vL A143 (xs182) c144) rfl (vL_len (setL_len hz183))
   rw [vL_len (A := A143) (c := c144) (setL_len hz183)] at hM
   refine pi_nil ?_
   refine then_n ?_
   obtain ⟨w186, hw⟩ : ∃ x, x = w181.drew := ⟨_, rfl⟩
   refine region_pi (.q 0 (.q 1 (.q 2 (.q 3 (.q 4 (.q 5 (.q 6 (.q 7 (.q 8 (.q 9 (.q 10 (.q 11 (.q 12 (.q 13 (.q 14 (.q 15 (.q 16 (.q 17 (.q 18 (.q 19 (.q 20 (.q 21 (.l 22 (.nil)))))))))))))))))))))))) (Ext w186) rfl (by kernel_rfl) ?_
   have hM := hM.drew
   rw [← hw] at hM ⊢
   clear hw
   refine pi_q hf rfl rfl rfl rfl (Ext.refl _) (e_move hf rfl) fun a hf => ?_
   refine pi_q hf rfl rfl rfl rfl (Ext.refl _) (e_nil hf rfl) fun a hf => ?_
   refine pi_q hf rfl rfl rfl rfl (Ext.refl _) (e_field hf rfl Tryz.underlying83 rfl Tryz.sizeOf81 (o' := 4) rfl) fun a hf => ?_
   refine pi_q hf rfl rfl rfl rfl (Ext.refl _) (e_load1 hf rfl Tryz.isAgg81 (hM.boxCell (k := 0) rfl rfl)) fun a hf => ?_
   iterate 2 refine pi_q hf rfl rfl rfl rfl (Ext.refl _) (e_move hf rfl) fun a hf => ?_
   refine pi_q hf rfl rfl rfl rfl (Ext.refl _) (e_nil hf rfl) fun a hf => ?_
   refine pi_q hf rfl rfl rfl rfl (Ext.refl _) (e_field hf rfl Tryz.underlying83 rfl Tryz.sizeOf81 (o' := 4) rfl) fun a hf => ?_
   refine pi_q hf rfl rfl rfl rfl (Ext.refl _) (e_load1 hf rfl Tryz.isAgg81 (hM.boxCell (k := 0) rfl rfl)) fun a hf => ?_
   refine pi_q hf rfl rfl rfl rfl (Ext.refl _) (e_move hf rfl) fun a hf => ?_
   obtain ⟨e187, hz188, h126⟩ := bind_some h126
   obtain ⟨b193, _, hA194, h189, h190, hr191, hcell192⟩ := hM.rowElemN (k := 3) rfl (n := 1) rfl hz188
   obtain ⟨rfl, hv195⟩ := hr191
   refine pi_q hf rfl rfl rfl rfl (Ext.refl _) (e_indexAddr (A := A145) (b := b193) (o := 0) (xs := y138.2.longest) (i := k13) hf hA194 rfl rfl Tryz.underlying81 Tryz.sizeOf3 h189 h190) fun a hf => ?_
   refine pi_q hf rfl rfl rfl rfl (Ext.refl _) (e_load1 hf rfl Tryz.isAgg3 (hcell192 0 _ rfl)) fun a hf => ?_
   refine pi_q hf rfl rfl rfl rfl (Ext.refl _) (e_move hf rfl) fun a hf => ?_
   refine pi_q hf rfl rfl rfl rfl (Ext.refl _) (e_nil hf rfl) fun a hf => ?_
   refine pi_q hf rfl rfl rfl rfl (Ext.refl _) (e_field hf rfl Tryz.underlying83 rfl Tryz.sizeOf81 (o' := 4) rfl) fun a hf => ?_
   refine pi_q hf rfl rfl rfl rfl (Ext.refl _) (e_load1 hf rfl Tryz.isAgg81 (hM.boxCell (k := 0) rfl rfl)) fun a hf => ?_
   refine pi_q hf rfl rfl rfl rfl (Ext.refl _) (e_move hf rfl) fun a hf => ?_
   obtain ⟨e196, hz197, h126⟩ := bind_some h126
   obtain ⟨b202, _, hA203, h198, h199, hr200, hcell201⟩ := hM.rowElemN (k := 3) rfl (n := 1) rfl hz197
   obtain ⟨rfl, hv204⟩ := hr200
   refine pi_q hf rfl rfl rfl rfl (Ext.refl _) (e_indexAddr (A := A145) (b := b202) (o := 0) (xs := y138.2.longest) (i := e129) hf hA203 rfl rfl Tryz.underlying81 Tryz.sizeOf3 h198 h199) fun a hf => ?_
   refine pi_q hf rfl rfl rfl rfl (Ext.refl _) (e_load1 hf rfl Tryz.isAgg3 (hcell201 0 _ rfl)) fun a hf => ?_
   obtain ⟨z205, hz206, h126⟩ := bind_some h126
   refine pi_q hf rfl rfl rfl rfl (Ext.refl _) (e_add hf rfl rfl hz206) fun a hf => ?_
   refine pi_q hf rfl rfl rfl rfl (Ext.refl _) (e_max hf rfl rfl) fun a hf => ?_
   obtain ⟨e207, hz208, h126⟩ := bind_some h126
   obtain ⟨b213, _, hA214, h209, h210, hr211, hcell212⟩ := hM.rowElemN (k := 3) rfl (n := 1) rfl hz208
   obtain ⟨rfl, hv215⟩ := hr211
   refine pi_q hf rfl rfl rfl rfl (Ext.refl _) (e_indexAddr (A := A145) (b := b213) (o := 0) (xs := y138.2.longest) (i := k13) hf hA214 rfl rfl Tryz.underlying81 Tryz.sizeOf3 h209 h210) fun a hf => ?_
   refine pi_one ?_
   obtain ⟨xs217, hz218, h126⟩ := bind_some h126
   refine pi_z0 hf rfl rfl rfl (by kernel_rfl) (w_storeElem hf hM (x := max e187 z205) (row := [vI (max e187 z205)]) (i := k13) rfl rfl rfl hA214 (k := 3) rfl rfl Tryz.sizeOf3 ⟨rfl, (R64_max hv195 (chk_R hz206))⟩ hz218 fun w216 hM => ?_)
   dsimp only [List.set] at hM
   have hf := hf.alter (d := 93) (v := vL A145 (xs217) c146) rfl (vL_len (setL_len hz218))
   have hf := hf.alter (d := 98) (v := vL A145 (xs217) c146) rfl (vL_len (setL_len hz218))
   have hf := hf.alter (d := 105) (v := vL A145 (xs217) c146) rfl (vL_len (setL_len hz218))
   rw [vL_len (A := A145) (c := c146) (setL_len hz218)] at hM
   refine pi_nil ?_
   refine blk_n ?_
   refine then_n ?_
   refine region_pl ?_
   obtain ⟨z221, hz222, h126⟩ := bind_some h126
   refine q_ hf rfl rfl rfl (e_add hf rfl rfl hz222) fun a hf => ?_
   refine q_ hf rfl rfl rfl (e_move hf rfl) fun a hf => ?_
   refine pl_nil ?_
   obtain rfl := some_inj h126
   refine then_n ⟨_, rfl, ?_⟩
   have hM := hM.front (k := 3) rfl
   dsimp only [List.eraseIdx] at hM
   have hM := hM.front (k := 3) rfl
   dsimp only [List.eraseIdx] at hM
   have hM := hM.front (k := 3) rfl
   dsimp only [List.eraseIdx] at hM
   have hM := hM.front (k := 3) rfl
   dsimp only [List.eraseIdx] at hM
   have hM := hM.front (k := 4) rfl
   dsimp only [List.eraseIdx] at hM
   exact ⟨y138.2.met, y138.2.open_, xs182, xs217, z221, A141, c142, A143, c144, A145, c146, rfl, hf.keep ⟨rfl, rfl, rfl, rfl, rfl, trivial⟩, hM.pick [1, 2, 3] rfl, hv140, (chk_R hz222)⟩
  refine cond_f hf rfl hc128 ?_
  refine wp_exit ?_
  refine then_x ?_
  obtain rfl := some_inj h126
  obtain rfl := hd127 _ rfl
  try dsimp only at h96
  refine then_x ?_
  refine exit_hit ?_
  obtain rfl := some_inj h96
  refine then_n ?_
  exact ⟨n98, xs100, xs103, xs106, A101, c102, A104, c105, A107, c108, rfl, hf.keep ⟨rfl, rfl, trivial⟩, hM.pick [0, 1, 2] rfl, hv99⟩
 rintro a w229 ⟨n84, xs86, xs89, xs92, A87, c88, A90, c91, A93, c94, rfl, hf, hM, hv85⟩
 try dsimp only at h
 refine wp_seq ?_
 refine region_pl ?_
 refine q_ hf rfl rfl rfl (e_move hf rfl) fun a hf => ?_
 refine q_ hf rfl rfl rfl (e_nil hf rfl) fun a hf => ?_
 refine q_ hf rfl rfl rfl (e_field hf rfl Tryz.underlying83 rfl Tryz.sizeOf80 (o' := 2) rfl) fun a hf => ?_
 refine q_ hf rfl rfl rfl (e_load1 hf rfl Tryz.isAgg80 (hM.boxCell (k := 1) rfl rfl)) fun a hf => ?_
 refine q_ hf rfl rfl rfl (e_move hf rfl) fun a hf => ?_
 obtain ⟨e230, hz231, h⟩ := bind_some h
 obtain ⟨b236, _, hA237, h232, h233, hr234, hcell235⟩ := hM.rowElemN (k := 2) rfl (n := 1) rfl hz231
 obtain rfl : _ = _ := hr234
 refine q_ hf rfl rfl rfl (e_indexAddr (A := A87) (b := b236) (o := 0) (xs := xs86) (i := k13) hf hA237 rfl rfl Tryz.underlying80 Tryz.sizeOf4 h232 h233) fun a hf => ?_
 obtain ⟨xs239, hz240, h⟩ := bind_some h
 refine pl_0 hf rfl rfl (w_storeElem hf hM (x := false) (row := [.bool (false)]) (i := k13) rfl rfl rfl hA237 (k := 2) rfl rfl Tryz.sizeOf4 rfl hz240 fun w238 hM => ?_)
 dsimp only [List.set] at hM
 have hf := hf.alter (d := 116) (v := vL A87 (xs239) c88) rfl (vL_len (setL_len hz240))
 rw [vL_len (A := A87) (c := c88) (setL_len hz240)] at hM
 refine pl_nil ?_
 refine then_n ?_
 obtain ⟨x245, h246, h⟩ := bind_some h
 refine seq_join (fun a w => ∃ (t243 : Bool), t243 = x245 ∧ Has 131 a [(4, .bool (t243))] ∧ Mem C w [.box b55 [.bool (e43.Final), vS (e43.Letters), vL A52 (e43.Next) c53] 47, .box b2 [vL A3 (x1.d.Nodes) c4, vI (n84), vL A87 (xs239) c88, vL A90 (xs89) c91, vL A93 (xs92) c94] 83, .row boolRep A87 c88 4 xs239 true, .row intRep A90 c91 2 xs89 true, .row intRep A93 c94 3 xs92 true] [.dat (sliceRep intRep) e43.Next [vL A52 e43.Next c53], .lit b48 (o49 + (k13 : Int).toNat * 3) [.bool (e43.Final), vS (e43.Letters), vL A52 (e43.Next) c53], .dat (sliceRep NodeRep) x1.d.Nodes [vL A3 x1.d.Nodes c4]]) ?_ ?_
 ·refine region_pl ?_
  refine q_ hf rfl rfl rfl (e_move hf rfl) fun a hf => ?_
  refine q_ hf rfl rfl rfl (e_nil hf rfl) fun a hf => ?_
  refine q_ hf rfl rfl rfl (e_field hf rfl Tryz.underlying83 rfl Tryz.sizeOf45 (o' := 3) rfl) fun a hf => ?_
  refine q_ hf rfl rfl rfl (e_load1 hf rfl Tryz.isAgg45 (hM.boxCell (k := 1) rfl rfl)) fun a hf => ?_
  refine q_ hf rfl rfl rfl (e_move hf rfl) fun a hf => ?_
  obtain ⟨e247, hz248, h246⟩ := bind_some h246
  obtain ⟨b253, _, hA254, h249, h250, hr251, hcell252⟩ := hM.rowElemN (k := 3) rfl (n := 1) rfl hz248
  obtain ⟨rfl, hv255⟩ := hr251
  refine q_ hf rfl rfl rfl (e_indexAddr (A := A90) (b := b253) (o := 0) (xs := xs89) (i := k13) hf hA254 rfl rfl Tryz.underlying45 Tryz.sizeOf2 h249 h250) fun a hf => ?_
  refine q_ hf rfl rfl rfl (e_load1 hf rfl Tryz.isAgg2 (hcell252 0 _ rfl)) fun a hf => ?_
  refine q_ hf rfl rfl rfl (e_gt hf (x := e247) (y := 0) rfl rfl) fun a hf => ?_
  refine q_ hf rfl rfl rfl (e_move hf rfl) fun a hf => ?_
  rcases cond_some h246 with ⟨hc256, h246⟩ | ⟨hc256, h246⟩
  ·iterate 2 refine pl_gs (wanted_f hf rfl rfl rfl rfl hc256) hf rfl rfl fun a hf => ?_
   refine q_ hf rfl rfl rfl (e_pick_t hf rfl hc256 rfl) fun a hf => ?_
   refine q_ hf rfl rfl rfl (e_assign hf rfl) fun a hf => ?_
   refine pl_nil ?_
   obtain rfl := some_inj h246
   refine then_n ?_
   exact ⟨true, rfl, hf.keep ⟨rfl, trivial⟩, hM.pick [0, 1, 2] rfl⟩
  refine gq (wanted_t hf rfl rfl rfl rfl hc256) hf rfl rfl (e_move hf rfl) fun a hf => ?_
  refine gq (wanted_t hf rfl rfl rfl rfl hc256) hf rfl rfl (e_eq hf (x := k13) (y := 0) rfl rfl) fun a hf => ?_
  refine q_ hf rfl rfl rfl (e_pick_f hf rfl hc256 rfl) fun a hf => ?_
  refine q_ hf rfl rfl rfl (e_assign hf rfl) fun a hf => ?_
  refine pl_nil ?_
  obtain rfl := some_inj h246
  refine then_n ?_
  exact ⟨(k13 == 0), rfl, hf.keep ⟨rfl, trivial⟩, hM.pick [0, 1, 2] rfl⟩
 rintro a w259 ⟨t243, rfl, hf, hM⟩
 try dsimp only at h
 refine wp_ret ?_
 obtain rfl := some_inj h
 have hM := hM.front (k := 4) rfl
 dsimp only [List.eraseIdx] at hM
 have hM := hM.front (k := 4) rfl
 dsimp only [List.eraseIdx] at hM
 have hM := hM.front (k := 4) rfl
 dsimp only [List.eraseIdx] at hM
 have hM := hM.front (k := 4) rfl
 dsimp only [List.eraseIdx] at hM
 have hM := hM.outs (own' := [.box b2 [vL A3 (x1.d.Nodes) c4, vI (n84), vL A87 (xs239) c88, vL A90 (xs89) c91, vL A93 (xs92) c94] 83, .row boolRep A87 c88 4 xs239 true, .row intRep A90 c91 2 xs89 true, .row intRep A93 c94 3 xs92 true]) 4 rfl
 exact leave1 hf rfl rfl ⟨A87, c88, A90, c91, A93, c94, rfl, hM.fin, hv85⟩
theorem r_impl_inspector_visit_n : ∀ n, Ct_impl_inspector_visit (m_impl_inspector_visit_n n)
  | 0 => fun C x1 b2 A3 c4 hp5 hp6 A7 c8 A9 c10 A11 c12 k13 hp14 hO hd r h => by cases h
  | n + 1 => r_impl_inspector_visit_b _ (r_impl_inspector_visit_n n)
theorem r_impl_inspector_visit : Ct_impl_inspector_visit (m_impl_inspector_visit) := r_impl_inspector_visit_n fuelN
theorem r_strings_Builder_copyCheck (C : Cx) (b1 : Str) (b2 : Nat) (p3 : Value) (hp4 : AddrOk b2 p3) (A5 : Option Addr) (c6 : Nat) (hO : Mem C C.w0 [.box b2 [p3, vL A5 (b1) c6] 69, .row byteRep A5 c6 5 b1 true] []) (hd : ∀ b, C.S0 b → ¬ ownB [.box b2 [p3, vL A5 (b1) c6] 69, .row byteRep A5 c6 5 b1 true] b) (r : Str) (h : m_strings_Builder_copyCheck b1 = some r) :
    Calls Tryz.prog 66 #[vP b2 (0)] C.w0 fun e w => ∃ (p_1 : Value), ∃ (A_1 : Option Addr), ∃ (c_1 : Nat), e = .returned (.tuple #[]) ∧ Mem C w [.box b2 [p_1, vL A_1 (r) c_1] 69, .row byteRep A_1 c_1 5 r true] [] ∧ AddrOk b2 p_1 := by
 have hM := hO
 refine enter Tryz.func66 rfl Tryz.ntmps66 rfl fun a hf => ?_
 unfold m_strings_Builder_copyCheck at h
 rcases hp4 with rfl | rfl
 ·refine wp_seq ?_
  refine region_pl ?_
  refine q_ hf rfl rfl rfl (e_move hf rfl) fun a hf => ?_
  refine q_ hf rfl rfl rfl (e_nil hf rfl) fun a hf => ?_
  refine q_ hf rfl rfl rfl (e_field hf rfl Tryz.underlying69 rfl Tryz.sizeOf67 (o' := 0) rfl) fun a hf => ?_
  refine q_ hf rfl rfl rfl (e_load1 hf rfl Tryz.isAgg67 (hM.boxCell (k := 0) rfl rfl)) fun a hf => ?_
  refine q_ hf rfl rfl rfl (e_eqPN hf rfl rfl Tryz.underlying67) fun a hf => ?_
  refine pl_nil ?_
  refine then_n ?_
  refine cond_t hf rfl rfl ?_
  refine region_pl ?_
  iterate 2 refine q_ hf rfl rfl rfl (e_move hf rfl) fun a hf => ?_
  refine q_ hf rfl rfl rfl (e_toUnsafe hf hM (k := 0) (n := 2) rfl rfl Tryz.underlying67 Tryz.underlying145 (by kernel_rfl) rfl rfl) fun a hf => ?_
  refine q_ hf rfl rfl rfl (e_noEscape hf (f := 97) rfl Tryz.func97 rfl rfl (by kernel_rfl) (by kernel_rfl)) fun a hf => ?_
  refine q_ hf rfl rfl rfl (e_fromUnsafe hf hM (k := 0) (n := 2) rfl rfl Tryz.underlying145 Tryz.underlying67 (by kernel_rfl) (by kernel_rfl)) fun a hf => ?_
  refine q_ hf rfl rfl rfl (e_nil hf rfl) fun a hf => ?_
  refine q_ hf rfl rfl rfl (e_field hf rfl Tryz.underlying69 rfl Tryz.sizeOf67 (o' := 0) rfl) fun a hf => ?_
  refine pl_0 hf rfl rfl (w_store hf hM (us := [vP b2 0]) (cs' := [vP b2 0, vL A5 (b1) c6]) rfl rfl (k := 0) rfl rfl Tryz.sizeOf67 rfl rfl rfl fun w7 hM => ?_)
  dsimp only [List.set] at hM
  refine pl_nil ?_
  obtain rfl := some_inj h
  exact leave0n hf rfl ⟨(vP b2 0), A5, c6, rfl, hM.fin, (AddrOk.self _)⟩
 refine wp_seq ?_
 refine region_pl ?_
 refine q_ hf rfl rfl rfl (e_move hf rfl) fun a hf => ?_
 refine q_ hf rfl rfl rfl (e_nil hf rfl) fun a hf => ?_
 refine q_ hf rfl rfl rfl (e_field hf rfl Tryz.underlying69 rfl Tryz.sizeOf67 (o' := 0) rfl) fun a hf => ?_
 refine q_ hf rfl rfl rfl (e_load1 hf rfl Tryz.isAgg67 (hM.boxCell (k := 0) rfl rfl)) fun a hf => ?_
 refine q_ hf rfl rfl rfl (e_eqPS hf rfl rfl Tryz.underlying67) fun a hf => ?_
 refine pl_nil ?_
 refine then_n ?_
 refine cond_f hf rfl rfl ?_
 refine wp_seq ?_
 refine region_pl ?_
 refine q_ hf rfl rfl rfl (e_move hf rfl) fun a hf => ?_
 refine q_ hf rfl rfl rfl (e_nil hf rfl) fun a hf => ?_
 refine q_ hf rfl rfl rfl (e_field hf rfl Tryz.underlying69 rfl Tryz.sizeOf67 (o' := 0) rfl) fun a hf => ?_
 refine q_ hf rfl rfl rfl (e_load1 hf rfl Tryz.isAgg67 (hM.boxCell (k := 0) rfl rfl)) fun a hf => ?_
 refine q_ hf rfl rfl rfl (e_move hf rfl) fun a hf => ?_
 refine q_ hf rfl rfl rfl (e_nePS hf (n := 2) rfl rfl Tryz.underlying67 (by kernel_rfl)) fun a hf => ?_
 refine pl_nil ?_
 refine then_n ?_
 refine cond_f hf rfl rfl ?_
 refine wp_skip ?_
 obtain rfl := some_inj h
 exact leave0n hf rfl ⟨(vP b2 0), A5, c6, rfl, hM.fin, (AddrOk.self _)⟩
theorem r_strings_Builder_WriteByte (C : Cx) (b1 : Str) (b2 : Nat) (p3 : Value) (hp4 : AddrOk b2 p3) (A5 : Option Addr) (c6 : Nat) (c7 : UInt8) (hO : Mem C C.w0 [.box b2 [p3, vL A5 (b1) c6] 69, .row byteRep A5 c6 5 b1 true] []) (hd : ∀ b, C.S0 b → ¬ ownB [.box b2 [p3, vL A5 (b1) c6] 69, .row byteRep A5 c6 5 b1 true] b) (r : (Unit × Str)) (h : m_strings_Builder_WriteByte b1 c7 = some r) :
    Calls Tryz.prog 35 #[vP b2 (0), vB (c7)] C.w0 fun e w => ∃ (p_1 : Value), ∃ (A_1 : Option Addr), ∃ (c_1 : Nat), e = .returned (.nilIface) ∧ Mem C w [.box b2 [p_1, vL A_1 (r.2) c_1] 69, .row byteRep A_1 c_1 5 r.2 true] [] ∧ AddrOk b2 p_1 := by
 have hM := hO
 refine enter Tryz.func35 rfl Tryz.ntmps35 rfl fun a hf => ?_
 unfold m_strings_Builder_WriteByte at h
 refine wp_seq ?_
 refine region_pl ?_
 refine q_ hf rfl rfl rfl (e_assign hf rfl) fun a hf => ?_
 refine pl_nil ?_
 refine then_n ?_
 refine wp_seq ?_
 refine region_pl ?_
 refine q_ hf rfl rfl rfl (e_move hf rfl) fun a hf => ?_
 have hM : Mem C _ ([.box b2 [p3, vL A5 (b1) c6] 69, .row byteRep A5 c6 5 b1 true] ++ []) _ := hM
 obtain ⟨y8, hz9, h⟩ := bind_some h
 refine pl_l hf rfl rfl rfl (w_call hf Tryz.call66 rfl (r_strings_Builder_copyCheck ⟨_, Sh C _ _, ownB _, hM.sh_lt, sub_dis, C.G, hM.g_lt, hM.g_own, hM.tabs⟩ b1 _ _ hp4 _ _ hM.sub sub_dis _ hz9) ?_)
 rintro _ w14 ⟨p10, A12, c13, rfl, hM2, hv11⟩
 obtain ⟨hM, hup16⟩ := hM.backG hM2
 dsimp only [List.cons_append, List.nil_append] at hM hup16
 clear hM2
 refine ⟨_, rfl, fun a hf => ?_⟩
 refine pl_nil ?_
 refine then_n ?_
 refine wp_seq ?_
 refine region_pl ?_
 iterate 2 refine q_ hf rfl rfl rfl (e_move hf rfl) fun a hf => ?_
 refine q_ hf rfl rfl rfl (e_nil hf rfl) fun a hf => ?_
 refine q_ hf rfl rfl rfl (e_field hf rfl Tryz.underlying69 rfl Tryz.sizeOf22 (o' := 1) rfl) fun a hf => ?_
 refine q_ hf rfl rfl rfl (e_load1 hf rfl Tryz.isAgg22 (hM.boxCell (k := 0) rfl rfl)) fun a hf => ?_
 refine q_ hf rfl rfl rfl (e_move hf rfl) fun a hf => ?_
 refine pl_l hf rfl rfl rfl (w_slice hf hM (K := byteRep) (xs := ([c7] : Str)) (os := [.tmp 12]) Tryz.underlying22 ei_5 rfl rfl rfl rfl rfl ⟨⟨[vB (c7)], rfl, rfl⟩, trivial⟩ rfl fun b17 w18 hx19 hM a hf => ?_)
 obtain ⟨xs20, hz21, h⟩ := bind_some h
 refine pl_l hf rfl rfl rfl (w_append hf hM Tryz.underlying22 ei_5 rfl rfl rfl (k := 2) rfl (hM.srcRow (k := 0) rfl) hz21 fun A22 c23 w24 hM a hf => ?_)
 dsimp only [List.set] at hM
 refine q_ hf rfl rfl rfl (e_nil hf rfl) fun a hf => ?_
 refine q_ hf rfl rfl rfl (e_field hf rfl Tryz.underlying69 rfl Tryz.sizeOf22 (o' := 1) rfl) fun a hf => ?_
 refine pl_0 hf rfl rfl (w_store hf hM (us := [vL A22 (xs20) c23]) (cs' := [p10, vL A22 (xs20) c23]) rfl rfl (k := 1) rfl rfl Tryz.sizeOf22 rfl rfl rfl fun w27 hM => ?_)
 dsimp only [List.set] at hM
 refine pl_nil ?_
 refine then_n ?_
 refine wp_seq ?_
 refine region_pl ?_
 refine q_ hf rfl rfl rfl (e_assign hf rfl) fun a hf => ?_
 refine pl_nil ?_
 refine then_n ?_
 refine wp_ret ?_
 obtain rfl := some_inj h
 have hM := hM.front (k := 2) rfl
 dsimp only [List.eraseIdx] at hM
 have hM := hM.front (k := 2) rfl
 dsimp only [List.eraseIdx] at hM
 have hM := hM.outs (own' := [.box b2 [p10, vL A22 (xs20) c23] 69, .row byteRep A22 c23 5 xs20 true]) 2 rfl
 exact leave1 hf rfl rfl ⟨p10, A22, c23, rfl, hM.fin, hv11⟩
theorem r_impl_Decimal (C : Cx) (n1 : Int) (hp2 : R64 n1) (r : Str) (h : m_impl_Decimal n1 = some r) :
    Calls Tryz.prog 37 #[vI (n1)] C.w0 fun e w => e = .returned (vS (r)) ∧ Mem C w [] [] ∧ r.length ≤ maxLen := by
 have hM := Mem.begin C [] trivial
 refine enter Tryz.func37 rfl Tryz.ntmps37 rfl fun a hf => ?_
 unfold m_impl_Decimal at h
 refine wp_seq ?_
 refine region_pl ?_
 refine q_ hf rfl rfl rfl (e_assign hf rfl) fun a hf => ?_
 refine pl_nil ?_
 refine then_n ?_
 refine wp_seq ?_
 refine region_pl ?_
 refine q_ hf rfl rfl rfl (e_move hf rfl) fun a hf => ?_
 obtain ⟨y3, hz4, h⟩ := bind_some h
 refine pl_l hf rfl rfl rfl (w_call hf Tryz.call67 rfl (r_strconv_FormatInt ⟨_, Sh C _ _, none_, hM.sh_lt, none_not, C.G, hM.g_lt, g_none, hM.tabs⟩ n1 hp2 10 (R64_lit rfl) _ hz4) ?_)
 rintro _ w6 ⟨rfl, hM2, hv5⟩
 obtain ⟨hM, hx7, hup8⟩ := hM.back hM2
 dsimp only [List.cons_append, List.nil_append] at hM hup8
 clear hM2
 refine ⟨_, rfl, fun a hf => ?_⟩
 refine q_ hf rfl rfl rfl (e_assign hf rfl) fun a hf => ?_
 refine pl_nil ?_
 refine then_n ?_
 refine wp_ret ?_
 obtain rfl := some_inj h
 exact leave1 hf rfl rfl ⟨rfl, hM.fin, hv5⟩
theorem r_strings_Builder_WriteString (C : Cx) (b1 : Str) (b2 : Nat) (p3 : Value) (hp4 : AddrOk b2 p3) (A5 : Option Addr) (c6 : Nat) (s7 : Str) (hp8 : s7.length ≤ maxLen) (hO : Mem C C.w0 [.box b2 [p3, vL A5 (b1) c6] 69, .row byteRep A5 c6 5 b1 true] []) (hd : ∀ b, C.S0 b → ¬ ownB [.box b2 [p3, vL A5 (b1) c6] 69, .row byteRep A5 c6 5 b1 true] b) (r : (Int × Unit × Str)) (h : m_strings_Builder_WriteString b1 s7 = some r) :
    Calls Tryz.prog 36 #[vP b2 (0), vS (s7)] C.w0 fun e w => ∃ (p_1 : Value), ∃ (A_1 : Option Addr), ∃ (c_1 : Nat), e = .returned (.tuple #[vI (r.1), .nilIface]) ∧ Mem C w [.box b2 [p_1, vL A_1 (r.2.2) c_1] 69, .row byteRep A_1 c_1 5 r.2.2 true] [] ∧ AddrOk b2 p_1 ∧ R64 r.1 := by
 have hM := hO
 refine enter Tryz.func36 rfl Tryz.ntmps36 rfl fun a hf => ?_
 unfold m_strings_Builder_WriteString at h
 refine wp_seq ?_
 refine region_pl ?_
 iterate 2 refine q_ hf rfl rfl rfl (e_assign hf rfl) fun a hf => ?_
 refine pl_nil ?_
 refine then_n ?_
 refine wp_seq ?_
 refine region_pl ?_
 refine q_ hf rfl rfl rfl (e_move hf rfl) fun a hf => ?_
 have hM : Mem C _ ([.box b2 [p3, vL A5 (b1) c6] 69, .row byteRep A5 c6 5 b1 true] ++ []) _ := hM
 obtain ⟨y9, hz10, h⟩ := bind_some h
 refine pl_l hf rfl rfl rfl (w_call hf Tryz.call66 rfl (r_strings_Builder_copyCheck ⟨_, Sh C _ _, ownB _, hM.sh_lt, sub_dis, C.G, hM.g_lt, hM.g_own, hM.tabs⟩ b1 _ _ hp4 _ _ hM.sub sub_dis _ hz10) ?_)
 rintro _ w15 ⟨p11, A13, c14, rfl, hM2, hv12⟩
 obtain ⟨hM, hup17⟩ := hM.backG hM2
 dsimp only [List.cons_append, List.nil_append] at hM hup17
 clear hM2
 refine ⟨_, rfl, fun a hf => ?_⟩
 refine pl_nil ?_
 refine then_n ?_
 refine wp_seq ?_
 refine region_pl ?_
 iterate 2 refine q_ hf rfl rfl rfl (e_move hf rfl) fun a hf => ?_
 refine q_ hf rfl rfl rfl (e_nil hf rfl) fun a hf => ?_
 refine q_ hf rfl rfl rfl (e_field hf rfl Tryz.underlying69 rfl Tryz.sizeOf22 (o' := 1) rfl) fun a hf => ?_
 refine q_ hf rfl rfl rfl (e_load1 hf rfl Tryz.isAgg22 (hM.boxCell (k := 0) rfl rfl)) fun a hf => ?_
 refine q_ hf rfl rfl rfl (e_move hf rfl) fun a hf => ?_
 obtain ⟨xs18, hz19, h⟩ := bind_some h
 refine pl_l hf rfl rfl rfl (w_appendS hf hM Tryz.underlying22 Tryz.underlying9 (by kernel_rfl) rfl rfl (k := 1) rfl hz19 fun A20 c21 w22 hM a hf => ?_)
 dsimp only [List.set] at hM
 refine q_ hf rfl rfl rfl (e_nil hf rfl) fun a hf => ?_
 refine q_ hf rfl rfl rfl (e_field hf rfl Tryz.underlying69 rfl Tryz.sizeOf22 (o' := 1) rfl) fun a hf => ?_
 refine pl_0 hf rfl rfl (w_store hf hM (us := [vL A20 (xs18) c21]) (cs' := [p11, vL A20 (xs18) c21]) rfl rfl (k := 0) rfl rfl Tryz.sizeOf22 rfl rfl rfl fun w23 hM => ?_)
 dsimp only [List.set] at hM
 refine pl_nil ?_
 refine then_n ?_
 refine wp_seq ?_
 refine region_pl ?_
 refine q_ hf rfl rfl rfl (e_move hf rfl) fun a hf => ?_
 refine q_ hf rfl rfl rfl (e_lenS hf (x := s7) rfl Tryz.underlying9) fun a hf => ?_
 iterate 2 refine q_ hf rfl rfl rfl (e_assign hf rfl) fun a hf => ?_
 refine pl_nil ?_
 refine then_n ?_
 refine wp_ret ?_
 obtain rfl := some_inj h
 exact leave2 hf rfl rfl rfl ⟨p11, A20, c21, rfl, hM.fin, hv12, (R64_len hp8)⟩
theorem r_strings_Builder_String (C : Cx) (b1 : Str) (b2 : Nat) (p3 : Value) (hp4 : AddrOk b2 p3) (A5 : Option Addr) (c6 : Nat) (hO : Mem C C.w0 [.box b2 [p3, vL A5 (b1) c6] 69, .row byteRep A5 c6 5 b1 true] []) (hd : ∀ b, C.S0 b → ¬ ownB [.box b2 [p3, vL A5 (b1) c6] 69, .row byteRep A5 c6 5 b1 true] b) (r : Str) (h : m_strings_Builder_String b1 = some r) :
    Calls Tryz.prog 38 #[vP b2 (0)] C.w0 fun e w => e = .returned (vS (r)) ∧ Mem C w [] [] ∧ r.length ≤ maxLen := by
 have hM := hO
 refine enter Tryz.func38 rfl Tryz.ntmps38 rfl fun a hf => ?_
 unfold m_strings_Builder_String at h
 refine wp_seq ?_
 refine region_pl ?_
 refine q_ hf rfl rfl rfl (e_assign hf rfl) fun a hf => ?_
 refine pl_nil ?_
 refine then_n ?_
 refine wp_seq ?_
 obtain ⟨w7, hw⟩ : ∃ x, x = C.w0.drew := ⟨_, rfl⟩
 refine region_pi (.q 0 (.q 1 (.q 2 (.q 3 (.q 5 (.q 6 (.q 7 (.q 8 (.q 9 (.l 4 (.l 10 (.q 11 (.nil))))))))))))) (Ext w7) rfl (by kernel_rfl) ?_
 have hM := hM.drew
 rw [← hw] at hM ⊢
 clear hw
 refine pi_q hf rfl rfl rfl rfl (Ext.refl _) (e_move hf rfl) fun a hf => ?_
 refine pi_q hf rfl rfl rfl rfl (Ext.refl _) (e_nil hf rfl) fun a hf => ?_
 refine pi_q hf rfl rfl rfl rfl (Ext.refl _) (e_field hf rfl Tryz.underlying69 rfl Tryz.sizeOf22 (o' := 1) rfl) fun a hf => ?_
 refine pi_q hf rfl rfl rfl rfl (Ext.refl _) (e_load1 hf rfl Tryz.isAgg22 (hM.boxCell (k := 0) rfl rfl)) fun a hf => ?_
 refine pi_q hf rfl rfl rfl rfl (Ext.refl _) (e_move hf rfl) fun a hf => ?_
 refine pi_q hf rfl rfl rfl rfl (Ext.refl _) (e_nil hf rfl) fun a hf => ?_
 refine pi_q hf rfl rfl rfl rfl (Ext.refl _) (e_field hf rfl Tryz.underlying69 rfl Tryz.sizeOf22 (o' := 1) rfl) fun a hf => ?_
 refine pi_q hf rfl rfl rfl rfl (Ext.refl _) (e_load1 hf rfl Tryz.isAgg22 (hM.boxCell (k := 0) rfl rfl)) fun a hf => ?_
 have hl8 := row_len (hM.ownAt (k := 1) rfl)
 refine pi_q hf rfl rfl rfl rfl (Ext.refl _) (e_lenL hf (x := b1) rfl Tryz.underlying22) fun a hf => ?_
 refine pi_one ?_
 refine pi_l hf rfl rfl rfl rfl (w_sliceData hf hM (k := 1) rfl rfl Tryz.underlying118 fun q9 w10 hx11 hM hq12 => ⟨Ext w10, fun _ h => Ext.trans hx11 h, Ext.refl _, fun a hf => ?_⟩)
 refine pi_one ?_
 have hl14 := row_len (hM.ownAt (k := 1) rfl)
 refine pi_z hf rfl rfl rfl rfl (by kernel_rfl) (w_unsafeString hf hM (k := 1) rfl hq12 rfl rfl Tryz.underlying118 (by kernel_rfl) fun w13 hM a hf => ?_)
 dsimp only [List.eraseIdx] at hM
 refine pi_q hf rfl rfl rfl rfl (Ext.refl _) (e_assign hf rfl) fun a hf => ?_
 refine pi_nil ?_
 refine then_n ?_
 refine wp_ret ?_
 obtain rfl := some_inj h
 have hM := hM.outs (own' := []) 0 rfl
 exact leave1 hf rfl rfl ⟨rfl, hM.fin, hl14⟩
end Go.Proofs.YtdaoecpkgobelaaGreatDoor
