/- The functions that this law reaches do what their models say. Printed by gen.py. -/
import Derived.Test.YtdaoecpkgobelaaDoorMod
import Derived.Test.YtdaoecpkgobelaaDoorLib
namespace Go.Proofs.YtdaoecpkgobelaaDoor
open Go Go.RowKit
set_option linter.unusedSimpArgs false
set_option linter.unusedVariables false

theorem ei_2 : ElemInfo Tryd.prog 2 1 := elemInfo (by kernel_rfl)

theorem ei_3 : ElemInfo Tryd.prog 3 1 := elemInfo (by kernel_rfl)

theorem ei_4 : ElemInfo Tryd.prog 4 1 := elemInfo (by kernel_rfl)

theorem ei_5 : ElemInfo Tryd.prog 5 1 := elemInfo (by kernel_rfl)

theorem ei_9 : ElemInfo Tryd.prog 9 1 := elemInfo (by kernel_rfl)

theorem ei_76 : ElemInfo Tryd.prog 76 3 := elemInfo (by kernel_rfl)

theorem bp_26 : ∀ (fs : Array Field), some (TypeDesc.struct fs) = Tryd.prog.underlying 26 → ∀ w, (fs.mapM fun (f : Field) => do pure (f.offset, ← sizeOf f.type)).run Tryd.prog w = .ok #[(0, 1)] w := by
 intro fs h w
 rw [Tryd.underlying26] at h
 cases h
 simp

theorem bp_40 : ∀ (fs : Array Field), some (TypeDesc.struct fs) = Tryd.prog.underlying 40 → ∀ w, (fs.mapM fun (f : Field) => do pure (f.offset, ← sizeOf f.type)).run Tryd.prog w = .ok #[(0, 1)] w := by
 intro fs h w
 rw [Tryd.underlying40] at h
 cases h
 simp

theorem bp_76 : ∀ (fs : Array Field), some (TypeDesc.struct fs) = Tryd.prog.underlying 76 → ∀ w, (fs.mapM fun (f : Field) => do pure (f.offset, ← sizeOf f.type)).run Tryd.prog w = .ok #[(0, 1), (1, 1), (2, 1)] w := by
 intro fs h w
 rw [Tryd.underlying76] at h
 cases h
 simp

theorem bp_101 : ∀ (fs : Array Field), some (TypeDesc.struct fs) = Tryd.prog.underlying 101 → ∀ w, (fs.mapM fun (f : Field) => do pure (f.offset, ← sizeOf f.type)).run Tryd.prog w = .ok #[(0, 1), (1, 1), (2, 1)] w := by
 intro fs h w
 rw [Tryd.underlying101] at h
 cases h
 simp

theorem bp_105 : ∀ (fs : Array Field), some (TypeDesc.struct fs) = Tryd.prog.underlying 105 → ∀ w, (fs.mapM fun (f : Field) => do pure (f.offset, ← sizeOf f.type)).run Tryd.prog w = .ok #[(0, 1), (1, 1), (2, 1)] w := by
 intro fs h w
 rw [Tryd.underlying105] at h
 cases h
 simp

theorem bp_111 : ∀ (fs : Array Field), some (TypeDesc.struct fs) = Tryd.prog.underlying 111 → ∀ w, (fs.mapM fun (f : Field) => do pure (f.offset, ← sizeOf f.type)).run Tryd.prog w = .ok #[(0, 1), (1, 1), (2, 1), (3, 1), (4, 1)] w := by
 intro fs h w
 rw [Tryd.underlying111] at h
 cases h
 simp

theorem bp_128 : ∀ (fs : Array Field), some (TypeDesc.struct fs) = Tryd.prog.underlying 128 → ∀ w, (fs.mapM fun (f : Field) => do pure (f.offset, ← sizeOf f.type)).run Tryd.prog w = .ok #[(0, 1), (1, 1)] w := by
 intro fs h w
 rw [Tryd.underlying128] at h
 cases h
 simp

theorem bp_134 : ∀ (fs : Array Field), some (TypeDesc.struct fs) = Tryd.prog.underlying 134 → ∀ w, (fs.mapM fun (f : Field) => do pure (f.offset, ← sizeOf f.type)).run Tryd.prog w = .ok #[(0, 1), (1, 1)] w := by
 intro fs h w
 rw [Tryd.underlying134] at h
 cases h
 simp

theorem bp_140 : ∀ (fs : Array Field), some (TypeDesc.struct fs) = Tryd.prog.underlying 140 → ∀ w, (fs.mapM fun (f : Field) => do pure (f.offset, ← sizeOf f.type)).run Tryd.prog w = .ok #[(0, 1)] w := by
 intro fs h w
 rw [Tryd.underlying140] at h
 cases h
 simp

theorem bp_163 : ∀ (fs : Array Field), some (TypeDesc.struct fs) = Tryd.prog.underlying 163 → ∀ w, (fs.mapM fun (f : Field) => do pure (f.offset, ← sizeOf f.type)).run Tryd.prog w = .ok #[(0, 1), (1, 1), (2, 1)] w := by
 intro fs h w
 rw [Tryd.underlying163] at h
 cases h
 simp

set_option maxRecDepth 100000 in
set_option maxHeartbeats 4000000 in
theorem r_laws_a2Long (C : Cx) (code1 : Str) (A2 : Option Addr) (c3 : Nat) (hp4 : (sliceRep byteRep).R C.w0 C.S0 code1 [vL A2 code1 c3]) (more5 : Str) (A6 : Option Addr) (c7 : Nat) (hp8 : (sliceRep byteRep).R C.w0 C.S0 more5 [vL A6 more5 c7]) (r : Bool) (h : m_laws_a2Long code1 more5 = some r) :
    Calls Tryd.prog 12 #[vL A2 (code1) c3, vL A6 (more5) c7] C.w0 fun e w => e = .returned (.bool (r)) ∧ Mem C w [] [] := by
 have hM := Mem.begin C [.dat (sliceRep byteRep) more5 [vL A6 more5 c7], .dat (sliceRep byteRep) code1 [vL A2 code1 c3]] ⟨hp8, hp4, trivial⟩
 refine enter Tryd.func12 rfl Tryd.ntmps12 rfl fun a hf => ?_
 unfold m_laws_a2Long at h
 refine wp_seq ?_
 refine region_pl ?_
 refine q_ hf rfl rfl rfl (e_assign hf rfl) fun a hf => ?_
 refine pl_nil ?_
 refine then_n ?_
 obtain ⟨x11, h12, h⟩ := bind_some h
 refine seq_join (fun a w => ∃ (t9 : Bool), t9 = x11 ∧ Has 13 a [(4, .bool (t9))] ∧ Mem C w [] [.dat (sliceRep byteRep) more5 [vL A6 more5 c7], .dat (sliceRep byteRep) code1 [vL A2 code1 c3]]) ?_ ?_
 ·refine region_pl ?_
  refine q_ hf rfl rfl rfl (e_move hf rfl) fun a hf => ?_
  have hl13 := slice_len (hM.dat (k := 1) rfl)
  refine q_ hf rfl rfl rfl (e_lenL hf (x := code1) rfl Tryd.underlying22) fun a hf => ?_
  refine q_ hf rfl rfl rfl (e_gt hf (x := (code1.length : Int)) (y := 3000) rfl rfl) fun a hf => ?_
  refine q_ hf rfl rfl rfl (e_move hf rfl) fun a hf => ?_
  rcases cond_some h12 with ⟨hc14, h12⟩ | ⟨hc14, h12⟩
  ·iterate 3 refine pl_gs (wanted_f hf rfl rfl rfl rfl hc14) hf rfl rfl fun a hf => ?_
   refine q_ hf rfl rfl rfl (e_pick_t hf rfl hc14 rfl) fun a hf => ?_
   refine q_ hf rfl rfl rfl (e_assign hf rfl) fun a hf => ?_
   refine pl_nil ?_
   obtain rfl := some_inj h12
   refine then_n ?_
   exact ⟨true, rfl, hf.keep ⟨rfl, trivial⟩, hM.pick [0, 1] rfl⟩
  refine gq (wanted_t hf rfl rfl rfl rfl hc14) hf rfl rfl (e_move hf rfl) fun a hf => ?_
  have hl16 := slice_len (hM.dat (k := 0) rfl)
  refine gq (wanted_t hf rfl rfl rfl rfl hc14) hf rfl rfl (e_lenL hf (x := more5) rfl Tryd.underlying22) fun a hf => ?_
  refine gq (wanted_t hf rfl rfl rfl rfl hc14) hf rfl rfl (e_gt hf (x := (more5.length : Int)) (y := 3000) rfl rfl) fun a hf => ?_
  refine q_ hf rfl rfl rfl (e_pick_f hf rfl hc14 rfl) fun a hf => ?_
  refine q_ hf rfl rfl rfl (e_assign hf rfl) fun a hf => ?_
  refine pl_nil ?_
  obtain rfl := some_inj h12
  refine then_n ?_
  exact ⟨(decide (3000 < (more5.length : Int))), rfl, hf.keep ⟨rfl, trivial⟩, hM.pick [0, 1] rfl⟩
 rintro a w18 ⟨t9, rfl, hf, hM⟩
 try dsimp only at h
 refine wp_ret ?_
 obtain rfl := some_inj h
 exact leave1 hf rfl rfl ⟨rfl, hM.fin⟩

set_option maxRecDepth 100000 in
set_option maxHeartbeats 4000000 in
theorem r_spec_l00From (C : Cx) (code1 : Str) (A2 : Option Addr) (c3 : Nat) (hp4 : (sliceRep byteRep).R C.w0 C.S0 code1 [vL A2 code1 c3]) (r : l00Src) (h : m_spec_l00From code1 = some r) :
    Calls Tryd.prog 42 #[vL A2 (code1) c3] C.w0 fun e w => ∃ (b_1 : Nat), ∃ (A_1 : Option Addr), ∃ (c_1 : Nat), e = .returned (vP b_1 (0)) ∧ Mem C w [.box b_1 [vL A_1 (r.code) c_1, vI (r.at_), vW (r.seed)] 101] [] ∧ (sliceRep byteRep).R w (Sh C [.box b_1 [vL A_1 (r.code) c_1, vI (r.at_), vW (r.seed)] 101] w) r.code [vL A_1 r.code c_1] ∧ R64 r.at_ ∧ U64 r.seed := by
 have hM := Mem.begin C [.dat (sliceRep byteRep) code1 [vL A2 code1 c3]] ⟨hp4, trivial⟩
 refine enter Tryd.func42 rfl Tryd.ntmps42 rfl fun a hf => ?_
 unfold m_spec_l00From at h
 refine wp_seq ?_
 refine region_pl ?_
 refine q_ hf rfl rfl rfl (e_assign hf rfl) fun a hf => ?_
 refine pl_nil ?_
 refine then_n ?_
 refine wp_seq ?_
 refine region_pl ?_
 refine q_ hf rfl rfl rfl (e_move hf rfl) fun a hf => ?_
 refine q_ hf rfl rfl rfl (e_build hf Tryd.zeroValue101 Tryd.underlying101 (bp_101 _ Tryd.underlying101.symm) rfl (cs := #[vL A2 (code1) c3, vI (0), vW (0)]) (by kernel_rfl)) fun a hf => ?_
 refine pl_l hf rfl rfl rfl (w_box hf hM (cs := [vL A2 (code1) c3, vI (0), vW (0)]) rfl rfl fun b5 w6 hx7 hM a hf => ?_)
 refine q_ hf rfl rfl rfl (e_assign hf rfl) fun a hf => ?_
 refine pl_nil ?_
 refine then_n ?_
 refine wp_ret ?_
 obtain rfl := some_inj h
 exact leave1 hf rfl rfl ⟨b5, A2, c3, rfl, hM.fin, (hM.dat (k := 0) rfl), (R64_lit rfl), (U64_lit rfl)⟩

set_option maxRecDepth 100000 in
set_option maxHeartbeats 4000000 in
theorem r_spec_l05Some (C : Cx)  (r : (List Str)) (h : m_spec_l05Some = some r) :
    Calls Tryd.prog 53 #[] C.w0 fun e w => ∃ (A_1 : Option Addr), ∃ (c_1 : Nat), e = .returned (vL A_1 (r) c_1) ∧ Mem C w [.row strRep A_1 c_1 9 r true] [] := by
 have hM := Mem.begin C [] trivial
 refine enter Tryd.func53 rfl Tryd.ntmps53 rfl fun a hf => ?_
 unfold m_spec_l05Some at h
 refine wp_seq ?_
 refine region_pl ?_
 refine q_ hf rfl rfl rfl (e_assign hf rfl) fun a hf => ?_
 refine pl_nil ?_
 refine then_n ?_
 refine wp_seq ?_
 refine region_pl ?_
 refine pl_l hf rfl rfl rfl (w_slice hf hM (K := strRep) (xs := ((([97, 110] : Str) :: ([97, 116] : Str) :: ([97, 116, 101] : Str) :: ([101, 97, 114] : Str) :: ([101, 97, 114, 110] : Str) :: ([101, 97, 114, 115] : Str) :: ([101, 97, 115, 116] : Str) :: ([101, 97, 116] : Str) :: ([101, 97, 116, 101, 110] : Str) :: ([101, 97, 116, 115] : Str) :: ([101, 110] : Str) :: ([97, 110, 116] : Str) :: ([97, 110, 116, 115] : Str) :: ([97, 114, 101] : Str) :: ([97, 114, 101, 110, 97] : Str) :: ([97, 114, 116] : Str) :: ([97, 114, 116, 115] : Str) :: ([97, 115] : Str) :: ([101, 114] : Str) :: ([101, 115] : Str) :: ([105, 110] : Str) :: ([105, 115] : Str) :: ([110, 97] : Str) :: ([110, 101] : Str) :: ([110, 101, 97, 114] : Str) :: ([110, 101, 97, 116] : Str) :: ([110, 101, 115, 116] : Str) :: ([110, 101, 115, 116, 115] : Str) :: ([110, 101, 116] : Str) :: ([114, 97, 116] : Str) :: ([114, 97, 116, 101] : Str) :: ([114, 97, 116, 101, 115] : Str) :: ([114, 101] : Str) :: ([114, 101, 115, 116] : Str) :: ([115, 97, 116] : Str) :: ([115, 101, 97] : Str) :: ([115, 101, 97, 116] : Str) :: ([115, 101, 116] : Str) :: ([116, 97] : Str) :: ([116, 97, 114] : Str) :: ([116, 97, 114, 115] : Str) :: ([116, 97, 114, 116] : Str) :: ([116, 101, 97] : Str) :: ([116, 101, 97, 114] : Str) :: ([116, 101, 97, 115] : Str) :: ([116, 101, 110] : Str) :: ([116, 101, 114, 110] : Str) :: ([116, 101, 115, 116] : Str) :: ([116, 101, 115, 116, 115] : Str) :: ([116, 114, 101, 101, 115] : Str) :: ([98, 97, 110, 97, 110, 97] : Str) :: ([98, 101, 101] : Str) :: ([98, 101, 101, 110] : Str) :: ([98, 101, 101, 115] : Str) :: ([115, 116, 97, 114] : Str) :: ([115, 116, 97, 114, 101] : Str) :: ([115, 116, 97, 114, 116] : Str) :: ([116, 114, 101, 101] : Str) :: ([115, 116, 97, 114, 115] : Str) :: ([116, 114, 101, 97, 116, 115] : Str) :: []) : (List Str))) (os := ((.const (.string ⟨#[97, 110]⟩)) :: (.const (.string ⟨#[97, 116]⟩)) :: (.const (.string ⟨#[97, 116, 101]⟩)) :: (.const (.string ⟨#[101, 97, 114]⟩)) :: (.const (.string ⟨#[101, 97, 114, 110]⟩)) :: (.const (.string ⟨#[101, 97, 114, 115]⟩)) :: (.const (.string ⟨#[101, 97, 115, 116]⟩)) :: (.const (.string ⟨#[101, 97, 116]⟩)) :: (.const (.string ⟨#[101, 97, 116, 101, 110]⟩)) :: (.const (.string ⟨#[101, 97, 116, 115]⟩)) :: (.const (.string ⟨#[101, 110]⟩)) :: (.const (.string ⟨#[97, 110, 116]⟩)) :: (.const (.string ⟨#[97, 110, 116, 115]⟩)) :: (.const (.string ⟨#[97, 114, 101]⟩)) :: (.const (.string ⟨#[97, 114, 101, 110, 97]⟩)) :: (.const (.string ⟨#[97, 114, 116]⟩)) :: (.const (.string ⟨#[97, 114, 116, 115]⟩)) :: (.const (.string ⟨#[97, 115]⟩)) :: (.const (.string ⟨#[101, 114]⟩)) :: (.const (.string ⟨#[101, 115]⟩)) :: (.const (.string ⟨#[105, 110]⟩)) :: (.const (.string ⟨#[105, 115]⟩)) :: (.const (.string ⟨#[110, 97]⟩)) :: (.const (.string ⟨#[110, 101]⟩)) :: (.const (.string ⟨#[110, 101, 97, 114]⟩)) :: (.const (.string ⟨#[110, 101, 97, 116]⟩)) :: (.const (.string ⟨#[110, 101, 115, 116]⟩)) :: (.const (.string ⟨#[110, 101, 115, 116, 115]⟩)) :: (.const (.string ⟨#[110, 101, 116]⟩)) :: (.const (.string ⟨#[114, 97, 116]⟩)) :: (.const (.string ⟨#[114, 97, 116, 101]⟩)) :: (.const (.string ⟨#[114, 97, 116, 101, 115]⟩)) :: (.const (.string ⟨#[114, 101]⟩)) :: (.const (.string ⟨#[114, 101, 115, 116]⟩)) :: (.const (.string ⟨#[115, 97, 116]⟩)) :: (.const (.string ⟨#[115, 101, 97]⟩)) :: (.const (.string ⟨#[115, 101, 97, 116]⟩)) :: (.const (.string ⟨#[115, 101, 116]⟩)) :: (.const (.string ⟨#[116, 97]⟩)) :: (.const (.string ⟨#[116, 97, 114]⟩)) :: (.const (.string ⟨#[116, 97, 114, 115]⟩)) :: (.const (.string ⟨#[116, 97, 114, 116]⟩)) :: (.const (.string ⟨#[116, 101, 97]⟩)) :: (.const (.string ⟨#[116, 101, 97, 114]⟩)) :: (.const (.string ⟨#[116, 101, 97, 115]⟩)) :: (.const (.string ⟨#[116, 101, 110]⟩)) :: (.const (.string ⟨#[116, 101, 114, 110]⟩)) :: (.const (.string ⟨#[116, 101, 115, 116]⟩)) :: (.const (.string ⟨#[116, 101, 115, 116, 115]⟩)) :: (.const (.string ⟨#[116, 114, 101, 101, 115]⟩)) :: (.const (.string ⟨#[98, 97, 110, 97, 110, 97]⟩)) :: (.const (.string ⟨#[98, 101, 101]⟩)) :: (.const (.string ⟨#[98, 101, 101, 110]⟩)) :: (.const (.string ⟨#[98, 101, 101, 115]⟩)) :: (.const (.string ⟨#[115, 116, 97, 114]⟩)) :: (.const (.string ⟨#[115, 116, 97, 114, 101]⟩)) :: (.const (.string ⟨#[115, 116, 97, 114, 116]⟩)) :: (.const (.string ⟨#[116, 114, 101, 101]⟩)) :: (.const (.string ⟨#[115, 116, 97, 114, 115]⟩)) :: (.const (.string ⟨#[116, 114, 101, 97, 116, 115]⟩)) :: [])) Tryd.underlying28 ei_9 rfl rfl rfl rfl rfl (VRows.cons ⟨[vS (([97, 110] : Str))], rfl, ⟨rfl, (lit_len rfl)⟩⟩ (VRows.cons ⟨[vS (([97, 116] : Str))], rfl, ⟨rfl, (lit_len rfl)⟩⟩ (VRows.cons ⟨[vS (([97, 116, 101] : Str))], rfl, ⟨rfl, (lit_len rfl)⟩⟩ (VRows.cons ⟨[vS (([101, 97, 114] : Str))], rfl, ⟨rfl, (lit_len rfl)⟩⟩ (VRows.cons ⟨[vS (([101, 97, 114, 110] : Str))], rfl, ⟨rfl, (lit_len rfl)⟩⟩ (VRows.cons ⟨[vS (([101, 97, 114, 115] : Str))], rfl, ⟨rfl, (lit_len rfl)⟩⟩ (VRows.cons ⟨[vS (([101, 97, 115, 116] : Str))], rfl, ⟨rfl, (lit_len rfl)⟩⟩ (VRows.cons ⟨[vS (([101, 97, 116] : Str))], rfl, ⟨rfl, (lit_len rfl)⟩⟩ (VRows.cons ⟨[vS (([101, 97, 116, 101, 110] : Str))], rfl, ⟨rfl, (lit_len rfl)⟩⟩ (VRows.cons ⟨[vS (([101, 97, 116, 115] : Str))], rfl, ⟨rfl, (lit_len rfl)⟩⟩ (VRows.cons ⟨[vS (([101, 110] : Str))], rfl, ⟨rfl, (lit_len rfl)⟩⟩ (VRows.cons ⟨[vS (([97, 110, 116] : Str))], rfl, ⟨rfl, (lit_len rfl)⟩⟩ (VRows.cons ⟨[vS (([97, 110, 116, 115] : Str))], rfl, ⟨rfl, (lit_len rfl)⟩⟩ (VRows.cons ⟨[vS (([97, 114, 101] : Str))], rfl, ⟨rfl, (lit_len rfl)⟩⟩ (VRows.cons ⟨[vS (([97, 114, 101, 110, 97] : Str))], rfl, ⟨rfl, (lit_len rfl)⟩⟩ (VRows.cons ⟨[vS (([97, 114, 116] : Str))], rfl, ⟨rfl, (lit_len rfl)⟩⟩ (VRows.cons ⟨[vS (([97, 114, 116, 115] : Str))], rfl, ⟨rfl, (lit_len rfl)⟩⟩ (VRows.cons ⟨[vS (([97, 115] : Str))], rfl, ⟨rfl, (lit_len rfl)⟩⟩ (VRows.cons ⟨[vS (([101, 114] : Str))], rfl, ⟨rfl, (lit_len rfl)⟩⟩ (VRows.cons ⟨[vS (([101, 115] : Str))], rfl, ⟨rfl, (lit_len rfl)⟩⟩ (VRows.cons ⟨[vS (([105, 110] : Str))], rfl, ⟨rfl, (lit_len rfl)⟩⟩ (VRows.cons ⟨[vS (([105, 115] : Str))], rfl, ⟨rfl, (lit_len rfl)⟩⟩ (VRows.cons ⟨[vS (([110, 97] : Str))], rfl, ⟨rfl, (lit_len rfl)⟩⟩ (VRows.cons ⟨[vS (([110, 101] : Str))], rfl, ⟨rfl, (lit_len rfl)⟩⟩ (VRows.cons ⟨[vS (([110, 101, 97, 114] : Str))], rfl, ⟨rfl, (lit_len rfl)⟩⟩ (VRows.cons ⟨[vS (([110, 101, 97, 116] : Str))], rfl, ⟨rfl, (lit_len rfl)⟩⟩ (VRows.cons ⟨[vS (([110, 101, 115, 116] : Str))], rfl, ⟨rfl, (lit_len rfl)⟩⟩ (VRows.cons ⟨[vS (([110, 101, 115, 116, 115] : Str))], rfl, ⟨rfl, (lit_len rfl)⟩⟩ (VRows.cons ⟨[vS (([110, 101, 116] : Str))], rfl, ⟨rfl, (lit_len rfl)⟩⟩ (VRows.cons ⟨[vS (([114, 97, 116] : Str))], rfl, ⟨rfl, (lit_len rfl)⟩⟩ (VRows.cons ⟨[vS (([114, 97, 116, 101] : Str))], rfl, ⟨rfl, (lit_len rfl)⟩⟩ (VRows.cons ⟨[vS (([114, 97, 116, 101, 115] : Str))], rfl, ⟨rfl, (lit_len rfl)⟩⟩ (VRows.cons ⟨[vS (([114, 101] : Str))], rfl, ⟨rfl, (lit_len rfl)⟩⟩ (VRows.cons ⟨[vS (([114, 101, 115, 116] : Str))], rfl, ⟨rfl, (lit_len rfl)⟩⟩ (VRows.cons ⟨[vS (([115, 97, 116] : Str))], rfl, ⟨rfl, (lit_len rfl)⟩⟩ (VRows.cons ⟨[vS (([115, 101, 97] : Str))], rfl, ⟨rfl, (lit_len rfl)⟩⟩ (VRows.cons ⟨[vS (([115, 101, 97, 116] : Str))], rfl, ⟨rfl, (lit_len rfl)⟩⟩ (VRows.cons ⟨[vS (([115, 101, 116] : Str))], rfl, ⟨rfl, (lit_len rfl)⟩⟩ (VRows.cons ⟨[vS (([116, 97] : Str))], rfl, ⟨rfl, (lit_len rfl)⟩⟩ (VRows.cons ⟨[vS (([116, 97, 114] : Str))], rfl, ⟨rfl, (lit_len rfl)⟩⟩ (VRows.cons ⟨[vS (([116, 97, 114, 115] : Str))], rfl, ⟨rfl, (lit_len rfl)⟩⟩ (VRows.cons ⟨[vS (([116, 97, 114, 116] : Str))], rfl, ⟨rfl, (lit_len rfl)⟩⟩ (VRows.cons ⟨[vS (([116, 101, 97] : Str))], rfl, ⟨rfl, (lit_len rfl)⟩⟩ (VRows.cons ⟨[vS (([116, 101, 97, 114] : Str))], rfl, ⟨rfl, (lit_len rfl)⟩⟩ (VRows.cons ⟨[vS (([116, 101, 97, 115] : Str))], rfl, ⟨rfl, (lit_len rfl)⟩⟩ (VRows.cons ⟨[vS (([116, 101, 110] : Str))], rfl, ⟨rfl, (lit_len rfl)⟩⟩ (VRows.cons ⟨[vS (([116, 101, 114, 110] : Str))], rfl, ⟨rfl, (lit_len rfl)⟩⟩ (VRows.cons ⟨[vS (([116, 101, 115, 116] : Str))], rfl, ⟨rfl, (lit_len rfl)⟩⟩ (VRows.cons ⟨[vS (([116, 101, 115, 116, 115] : Str))], rfl, ⟨rfl, (lit_len rfl)⟩⟩ (VRows.cons ⟨[vS (([116, 114, 101, 101, 115] : Str))], rfl, ⟨rfl, (lit_len rfl)⟩⟩ (VRows.cons ⟨[vS (([98, 97, 110, 97, 110, 97] : Str))], rfl, ⟨rfl, (lit_len rfl)⟩⟩ (VRows.cons ⟨[vS (([98, 101, 101] : Str))], rfl, ⟨rfl, (lit_len rfl)⟩⟩ (VRows.cons ⟨[vS (([98, 101, 101, 110] : Str))], rfl, ⟨rfl, (lit_len rfl)⟩⟩ (VRows.cons ⟨[vS (([98, 101, 101, 115] : Str))], rfl, ⟨rfl, (lit_len rfl)⟩⟩ (VRows.cons ⟨[vS (([115, 116, 97, 114] : Str))], rfl, ⟨rfl, (lit_len rfl)⟩⟩ (VRows.cons ⟨[vS (([115, 116, 97, 114, 101] : Str))], rfl, ⟨rfl, (lit_len rfl)⟩⟩ (VRows.cons ⟨[vS (([115, 116, 97, 114, 116] : Str))], rfl, ⟨rfl, (lit_len rfl)⟩⟩ (VRows.cons ⟨[vS (([116, 114, 101, 101] : Str))], rfl, ⟨rfl, (lit_len rfl)⟩⟩ (VRows.cons ⟨[vS (([115, 116, 97, 114, 115] : Str))], rfl, ⟨rfl, (lit_len rfl)⟩⟩ (VRows.cons ⟨[vS (([116, 114, 101, 97, 116, 115] : Str))], rfl, ⟨rfl, (lit_len rfl)⟩⟩ trivial)))))))))))))))))))))))))))))))))))))))))))))))))))))))))))) rfl fun b1 w2 hx3 hM a hf => ?_)
 refine q_ hf rfl rfl rfl (e_assign hf rfl) fun a hf => ?_
 refine pl_nil ?_
 refine then_n ?_
 refine wp_ret ?_
 obtain rfl := some_inj h
 exact leave1 hf rfl rfl ⟨(some ⟨b1, 0, none⟩), 60, rfl, hM.fin⟩

set_option maxRecDepth 100000 in
set_option maxHeartbeats 4000000 in
theorem r_spec_l00Src_next (C : Cx) (s1 : l00Src) (b2 : Nat) (A3 : Option Addr) (c4 : Nat) (hp5 : (sliceRep byteRep).R C.w0 C.S0 s1.code [vL A3 s1.code c4]) (hp6 : R64 s1.at_) (hp7 : U64 s1.seed) (hO : Mem C C.w0 [.box b2 [vL A3 (s1.code) c4, vI (s1.at_), vW (s1.seed)] 101] []) (hd : ∀ b, C.S0 b → ¬ ownB [.box b2 [vL A3 (s1.code) c4, vI (s1.at_), vW (s1.seed)] 101] b) (r : (Int × l00Src)) (h : m_spec_l00Src_next s1 = some r) :
    Calls Tryd.prog 108 #[vP b2 (0)] C.w0 fun e w => e = .returned (vI (r.1)) ∧ Mem C w [.box b2 [vL A3 (s1.code) c4, vI (r.2.at_), vW (r.2.seed)] 101] [] ∧ R64 r.2.at_ ∧ U64 r.2.seed ∧ R64 r.1 := by
 have hM := hO
 have hM := hM.addIn hd (y := .dat (sliceRep byteRep) s1.code [vL A3 s1.code c4]) hp5
 refine enter Tryd.func108 rfl Tryd.ntmps108 rfl fun a hf => ?_
 unfold m_spec_l00Src_next at h
 refine wp_seq ?_
 refine region_pl ?_
 refine q_ hf rfl rfl rfl (e_assign hf rfl) fun a hf => ?_
 refine pl_nil ?_
 refine then_n ?_
 refine wp_seq ?_
 refine region_pl ?_
 refine q_ hf rfl rfl rfl (e_assign hf rfl) fun a hf => ?_
 refine pl_nil ?_
 refine then_n ?_
 obtain ⟨x10, h11, h⟩ := bind_some h
 refine seq_join (fun a w => ∃ (n8 : Int), n8 = x10 ∧ Has 62 a [(0, vP b2 (0)), (3, vI (n8))] ∧ Mem C w [.box b2 [vL A3 (s1.code) c4, vI (s1.at_), vW (s1.seed)] 101] [.dat (sliceRep byteRep) s1.code [vL A3 s1.code c4]] ∧ R64 n8) ?_ ?_
 ·refine wp_seq ?_
  obtain ⟨w12, hw⟩ : ∃ x, x = C.w0.drew := ⟨_, rfl⟩
  refine region_pi (.q 0 (.q 1 (.q 2 (.q 3 (.q 4 (.q 5 (.q 6 (.q 7 (.q 8 (.q 9 (.nil))))))))))) (Ext w12) rfl (by kernel_rfl) ?_
  have hM := hM.drew
  rw [← hw] at hM ⊢
  clear hw
  refine pi_q hf rfl rfl rfl rfl (Ext.refl _) (e_move hf rfl) fun a hf => ?_
  refine pi_q hf rfl rfl rfl rfl (Ext.refl _) (e_nil hf rfl) fun a hf => ?_
  refine pi_q hf rfl rfl rfl rfl (Ext.refl _) (e_field hf rfl Tryd.underlying101 rfl Tryd.sizeOf3 (o' := 1) rfl) fun a hf => ?_
  refine pi_q hf rfl rfl rfl rfl (Ext.refl _) (e_load1 hf rfl Tryd.isAgg3 (hM.boxCell (k := 0) rfl rfl)) fun a hf => ?_
  refine pi_q hf rfl rfl rfl rfl (Ext.refl _) (e_move hf rfl) fun a hf => ?_
  refine pi_q hf rfl rfl rfl rfl (Ext.refl _) (e_nil hf rfl) fun a hf => ?_
  refine pi_q hf rfl rfl rfl rfl (Ext.refl _) (e_field hf rfl Tryd.underlying101 rfl Tryd.sizeOf22 (o' := 0) rfl) fun a hf => ?_
  refine pi_q hf rfl rfl rfl rfl (Ext.refl _) (e_load1 hf rfl Tryd.isAgg22 (hM.boxCell (k := 0) rfl rfl)) fun a hf => ?_
  have hl13 := slice_len (hM.dat (k := 0) rfl)
  refine pi_q hf rfl rfl rfl rfl (Ext.refl _) (e_lenL hf (x := s1.code) rfl Tryd.underlying22) fun a hf => ?_
  refine pi_q hf rfl rfl rfl rfl (Ext.refl _) (e_lt hf (x := s1.at_) (y := (s1.code.length : Int)) rfl rfl) fun a hf => ?_
  refine pi_nil ?_
  refine then_n ?_
  rcases cond_some h11 with ⟨hc14, h11⟩ | ⟨hc14, h11⟩
  ·refine cond_t hf rfl hc14 ?_
   obtain ⟨w15, hw⟩ : ∃ x, x = w12.drew := ⟨_, rfl⟩
   refine region_pi (.q 0 (.q 1 (.q 2 (.q 3 (.q 4 (.q 5 (.q 6 (.q 7 (.q 8 (.q 9 (.q 10 (.q 11 (.nil))))))))))))) (Ext w15) rfl (by kernel_rfl) ?_
   have hM := hM.drew
   rw [← hw] at hM ⊢
   clear hw
   refine pi_q hf rfl rfl rfl rfl (Ext.refl _) (e_move hf rfl) fun a hf => ?_
   refine pi_q hf rfl rfl rfl rfl (Ext.refl _) (e_nil hf rfl) fun a hf => ?_
   refine pi_q hf rfl rfl rfl rfl (Ext.refl _) (e_field hf rfl Tryd.underlying101 rfl Tryd.sizeOf22 (o' := 0) rfl) fun a hf => ?_
   refine pi_q hf rfl rfl rfl rfl (Ext.refl _) (e_load1 hf rfl Tryd.isAgg22 (hM.boxCell (k := 0) rfl rfl)) fun a hf => ?_
   refine pi_q hf rfl rfl rfl rfl (Ext.refl _) (e_move hf rfl) fun a hf => ?_
   refine pi_q hf rfl rfl rfl rfl (Ext.refl _) (e_nil hf rfl) fun a hf => ?_
   refine pi_q hf rfl rfl rfl rfl (Ext.refl _) (e_field hf rfl Tryd.underlying101 rfl Tryd.sizeOf3 (o' := 1) rfl) fun a hf => ?_
   refine pi_q hf rfl rfl rfl rfl (Ext.refl _) (e_load1 hf rfl Tryd.isAgg3 (hM.boxCell (k := 0) rfl rfl)) fun a hf => ?_
   obtain ⟨e16, hz17, h11⟩ := bind_some h11
   obtain ⟨b21, o22, _, hA23, h18, h19, hr20, hM⟩ := hM.elem (hM.dat (k := 0) rfl) (n := 1) rfl hz17
   obtain rfl : _ = _ := hr20
   refine pi_q hf rfl rfl rfl rfl (Ext.refl _) (e_indexAddr (A := A3) (b := b21) (o := o22) (xs := s1.code) (i := s1.at_) hf hA23 rfl rfl Tryd.underlying22 Tryd.sizeOf5 h18 h19) fun a hf => ?_
   refine pi_q hf rfl rfl rfl rfl (Ext.refl _) (e_load1 hf rfl Tryd.isAgg5 (hM.litCell (k := 0) (j := 0) rfl rfl rfl)) fun a hf => ?_
   refine pi_q hf rfl rfl rfl rfl (Ext.refl _) (e_convBI hf (x := e16) rfl Tryd.underlying5 Tryd.underlying3) fun a hf => ?_
   refine pi_q hf rfl rfl rfl rfl (Ext.refl _) (e_assign hf rfl) fun a hf => ?_
   refine pi_nil ?_
   obtain rfl := some_inj h11
   refine then_n ?_
   exact ⟨(e16.toNat : Int), rfl, hf.keep ⟨rfl, rfl, trivial⟩, hM.pick [1] rfl, (R64_byte _)⟩
  refine cond_f hf rfl hc14 ?_
  refine wp_skip ?_
  obtain rfl := some_inj h11
  refine then_n ?_
  exact ⟨0, rfl, hf.keep ⟨rfl, rfl, trivial⟩, hM.pick [0] rfl, (R64_lit rfl)⟩
 rintro a w26 ⟨n8, rfl, hf, hM, hv9⟩
 try dsimp only at h
 refine wp_seq ?_
 refine region_pl ?_
 refine q_ hf rfl rfl rfl (e_move hf rfl) fun a hf => ?_
 refine q_ hf rfl rfl rfl (e_nil hf rfl) fun a hf => ?_
 refine q_ hf rfl rfl rfl (e_field hf rfl Tryd.underlying101 rfl Tryd.sizeOf3 (o' := 1) rfl) fun a hf => ?_
 refine q_ hf rfl rfl rfl (e_load1 hf rfl Tryd.isAgg3 (hM.boxCell (k := 0) rfl rfl)) fun a hf => ?_
 obtain ⟨z27, hz28, h⟩ := bind_some h
 refine q_ hf rfl rfl rfl (e_add hf rfl rfl hz28) fun a hf => ?_
 refine q_ hf rfl rfl rfl (e_nil hf rfl) fun a hf => ?_
 refine q_ hf rfl rfl rfl (e_field hf rfl Tryd.underlying101 rfl Tryd.sizeOf3 (o' := 1) rfl) fun a hf => ?_
 refine pl_0 hf rfl rfl (w_store hf hM (us := [vI (z27)]) (cs' := [vL A3 (s1.code) c4, vI (z27), vW (s1.seed)]) rfl rfl (k := 0) rfl rfl Tryd.sizeOf3 rfl rfl rfl fun w29 hM => ?_)
 dsimp only [List.set] at hM
 refine pl_nil ?_
 refine then_n ?_
 refine wp_seq ?_
 refine region_pl ?_
 iterate 2 refine q_ hf rfl rfl rfl (e_move hf rfl) fun a hf => ?_
 refine q_ hf rfl rfl rfl (e_nil hf rfl) fun a hf => ?_
 refine q_ hf rfl rfl rfl (e_field hf rfl Tryd.underlying101 rfl Tryd.sizeOf99 (o' := 2) rfl) fun a hf => ?_
 refine q_ hf rfl rfl rfl (e_load1 hf rfl Tryd.isAgg99 (hM.boxCell (k := 0) rfl rfl)) fun a hf => ?_
 refine q_ hf rfl rfl rfl (e_mulW hf rfl rfl) fun a hf => ?_
 refine q_ hf rfl rfl rfl (e_move hf rfl) fun a hf => ?_
 refine q_ hf rfl rfl rfl (e_convIW hf rfl Tryd.underlying3 Tryd.underlying99) fun a hf => ?_
 iterate 2 refine q_ hf rfl rfl rfl (e_addW hf rfl rfl) fun a hf => ?_
 refine q_ hf rfl rfl rfl (e_nil hf rfl) fun a hf => ?_
 refine q_ hf rfl rfl rfl (e_field hf rfl Tryd.underlying101 rfl Tryd.sizeOf99 (o' := 2) rfl) fun a hf => ?_
 refine pl_0 hf rfl rfl (w_store hf hM (us := [vW ((((((s1.seed * 6364136223846793005) % 18446744073709551616) + (n8 % 18446744073709551616)) % 18446744073709551616) + 1442695040888963407) % 18446744073709551616)]) (cs' := [vL A3 (s1.code) c4, vI (z27), vW ((((((s1.seed * 6364136223846793005) % 18446744073709551616) + (n8 % 18446744073709551616)) % 18446744073709551616) + 1442695040888963407) % 18446744073709551616)]) rfl rfl (k := 0) rfl rfl Tryd.sizeOf99 rfl rfl rfl fun w32 hM => ?_)
 dsimp only [List.set] at hM
 refine pl_nil ?_
 refine then_n ?_
 iterate 2 refine wp_seq ?_
 obtain ⟨w35, hw⟩ : ∃ x, x = w32.drew := ⟨_, rfl⟩
 refine region_pi (.q 0 (.q 1 (.q 2 (.q 3 (.q 4 (.q 5 (.q 6 (.q 7 (.q 8 (.q 9 (.nil))))))))))) (Ext w35) rfl (by kernel_rfl) ?_
 have hM := hM.drew
 rw [← hw] at hM ⊢
 clear hw
 refine pi_q hf rfl rfl rfl rfl (Ext.refl _) (e_move hf rfl) fun a hf => ?_
 refine pi_q hf rfl rfl rfl rfl (Ext.refl _) (e_nil hf rfl) fun a hf => ?_
 refine pi_q hf rfl rfl rfl rfl (Ext.refl _) (e_field hf rfl Tryd.underlying101 rfl Tryd.sizeOf3 (o' := 1) rfl) fun a hf => ?_
 refine pi_q hf rfl rfl rfl rfl (Ext.refl _) (e_load1 hf rfl Tryd.isAgg3 (hM.boxCell (k := 0) rfl rfl)) fun a hf => ?_
 refine pi_q hf rfl rfl rfl rfl (Ext.refl _) (e_move hf rfl) fun a hf => ?_
 refine pi_q hf rfl rfl rfl rfl (Ext.refl _) (e_nil hf rfl) fun a hf => ?_
 refine pi_q hf rfl rfl rfl rfl (Ext.refl _) (e_field hf rfl Tryd.underlying101 rfl Tryd.sizeOf22 (o' := 0) rfl) fun a hf => ?_
 refine pi_q hf rfl rfl rfl rfl (Ext.refl _) (e_load1 hf rfl Tryd.isAgg22 (hM.boxCell (k := 0) rfl rfl)) fun a hf => ?_
 have hl36 := slice_len (hM.dat (k := 0) rfl)
 refine pi_q hf rfl rfl rfl rfl (Ext.refl _) (e_lenL hf (x := s1.code) rfl Tryd.underlying22) fun a hf => ?_
 refine pi_q hf rfl rfl rfl rfl (Ext.refl _) (e_le hf (x := z27) (y := (s1.code.length : Int)) rfl rfl) fun a hf => ?_
 refine pi_nil ?_
 refine then_n ?_
 rcases cond_some h with ⟨hc37, h⟩ | ⟨hc37, h⟩
 ·refine cond_t hf rfl hc37 ?_
  refine wp_seq ?_
  refine region_pl ?_
  refine q_ hf rfl rfl rfl (e_move hf rfl) fun a hf => ?_
  refine q_ hf rfl rfl rfl (e_assign hf rfl) fun a hf => ?_
  refine pl_nil ?_
  refine then_n ?_
  refine wp_ret ?_
  refine then_r ?_
  obtain rfl := some_inj h
  exact leave1 hf rfl rfl ⟨rfl, hM.fin, (chk_R hz28), (U64_mod _), hv9⟩
 refine cond_f hf rfl hc37 ?_
 refine wp_skip ?_
 refine then_n ?_
 refine wp_seq ?_
 refine region_pl ?_
 refine q_ hf rfl rfl rfl (e_move hf rfl) fun a hf => ?_
 refine q_ hf rfl rfl rfl (e_nil hf rfl) fun a hf => ?_
 refine q_ hf rfl rfl rfl (e_field hf rfl Tryd.underlying101 rfl Tryd.sizeOf99 (o' := 2) rfl) fun a hf => ?_
 refine q_ hf rfl rfl rfl (e_load1 hf rfl Tryd.isAgg99 (hM.boxCell (k := 0) rfl rfl)) fun a hf => ?_
 refine q_ hf rfl rfl rfl (e_shrW hf (k := 40) rfl rfl rfl rfl (m := 1099511627776) rfl (U64_mod _)) fun a hf => ?_
 refine q_ hf rfl rfl rfl (e_andW hf (k := 8) rfl rfl rfl rfl (m := 256) rfl (U64_div (U64_mod _) (by decide))) fun a hf => ?_
 obtain ⟨z38, hz39, h⟩ := bind_some h
 refine q_ hf rfl rfl rfl (e_convWI hf rfl Tryd.underlying99 Tryd.underlying2 hz39) fun a hf => ?_
 refine q_ hf rfl rfl rfl (e_assign hf rfl) fun a hf => ?_
 refine pl_nil ?_
 refine then_n ?_
 refine wp_ret ?_
 obtain rfl := some_inj h
 exact leave1 hf rfl rfl ⟨rfl, hM.fin, (chk_R hz28), (U64_mod _), (chk_R hz39)⟩

set_option maxRecDepth 100000 in
set_option maxHeartbeats 4000000 in
theorem r_spec_l00Src_pick (C : Cx) (s1 : l00Src) (b2 : Nat) (A3 : Option Addr) (c4 : Nat) (hp5 : (sliceRep byteRep).R C.w0 C.S0 s1.code [vL A3 s1.code c4]) (hp6 : R64 s1.at_) (hp7 : U64 s1.seed) (n8 : Int) (hp9 : R64 n8) (hO : Mem C C.w0 [.box b2 [vL A3 (s1.code) c4, vI (s1.at_), vW (s1.seed)] 101] []) (hd : ∀ b, C.S0 b → ¬ ownB [.box b2 [vL A3 (s1.code) c4, vI (s1.at_), vW (s1.seed)] 101] b) (r : (Int × l00Src)) (h : m_spec_l00Src_pick s1 n8 = some r) :
    Calls Tryd.prog 84 #[vP b2 (0), vI (n8)] C.w0 fun e w => e = .returned (vI (r.1)) ∧ Mem C w [.box b2 [vL A3 (s1.code) c4, vI (r.2.at_), vW (r.2.seed)] 101] [] ∧ R64 r.2.at_ ∧ U64 r.2.seed ∧ R64 r.1 := by
 have hM := hO
 have hM := hM.addIn hd (y := .dat (sliceRep byteRep) s1.code [vL A3 s1.code c4]) hp5
 refine enter Tryd.func84 rfl Tryd.ntmps84 rfl fun a hf => ?_
 unfold m_spec_l00Src_pick at h
 refine wp_seq ?_
 refine region_pl ?_
 refine q_ hf rfl rfl rfl (e_assign hf rfl) fun a hf => ?_
 refine pl_nil ?_
 refine then_n ?_
 iterate 2 refine wp_seq ?_
 refine region_pl ?_
 refine q_ hf rfl rfl rfl (e_move hf rfl) fun a hf => ?_
 refine q_ hf rfl rfl rfl (e_le hf (x := n8) (y := 1) rfl rfl) fun a hf => ?_
 refine pl_nil ?_
 refine then_n ?_
 rcases cond_some h with ⟨hc10, h⟩ | ⟨hc10, h⟩
 ·refine cond_t hf rfl hc10 ?_
  refine wp_seq ?_
  refine region_pl ?_
  refine q_ hf rfl rfl rfl (e_assign hf rfl) fun a hf => ?_
  refine pl_nil ?_
  refine then_n ?_
  refine wp_ret ?_
  refine then_r ?_
  obtain rfl := some_inj h
  exact leave1 hf rfl rfl ⟨rfl, hM.fin, hp6, hp7, (R64_lit rfl)⟩
 refine cond_f hf rfl hc10 ?_
 refine wp_skip ?_
 refine then_n ?_
 refine wp_seq ?_
 refine region_pl ?_
 refine q_ hf rfl rfl rfl (e_move hf rfl) fun a hf => ?_
 have hM : Mem C _ ([.box b2 [vL A3 (s1.code) c4, vI (s1.at_), vW (s1.seed)] 101] ++ []) _ := hM
 obtain ⟨y11, hz12, h⟩ := bind_some h
 refine pl_l hf rfl rfl rfl (w_call hf Tryd.call108 rfl (r_spec_l00Src_next ⟨_, Sh C _ _, ownB _, hM.sh_lt, sub_dis, C.G, hM.g_lt, hM.g_own, hM.tabs⟩ s1 _ _ _ (hM.dat (k := 0) rfl) hp6 hp7 hM.sub sub_dis _ hz12) ?_)
 rintro _ w16 ⟨rfl, hM2, hv13, hv14, hv15⟩
 obtain ⟨hM, hup18⟩ := hM.backG hM2
 dsimp only [List.cons_append, List.nil_append] at hM hup18
 clear hM2
 refine ⟨_, rfl, fun a hf => ?_⟩
 refine q_ hf rfl rfl rfl (e_assign hf rfl) fun a hf => ?_
 refine pl_nil ?_
 refine then_n ?_
 obtain ⟨x25, h26, h⟩ := bind_some h
 refine seq_join (fun a w => ∃ (n19 : Int) (n21 : Int) (n23 : Int), (n19, n21, n23) = x25 ∧ Has 20 a [(1, vI (n8)), (5, vI (n23))] ∧ Mem C w [.box b2 [vL A3 (s1.code) c4, vI (n19), vW (n21)] 101] [.dat (sliceRep byteRep) s1.code [vL A3 s1.code c4]] ∧ R64 n19 ∧ U64 n21 ∧ R64 n23) ?_ ?_
 ·refine wp_seq ?_
  refine region_pl ?_
  refine q_ hf rfl rfl rfl (e_move hf rfl) fun a hf => ?_
  refine q_ hf rfl rfl rfl (e_gt hf (x := n8) (y := 200) rfl rfl) fun a hf => ?_
  refine pl_nil ?_
  refine then_n ?_
  rcases cond_some h26 with ⟨hc27, h26⟩ | ⟨hc27, h26⟩
  ·refine cond_t hf rfl hc27 ?_
   refine region_pl ?_
   refine q_ hf rfl rfl rfl (e_move hf rfl) fun a hf => ?_
   obtain ⟨z28, hz29, h26⟩ := bind_some h26
   refine q_ hf rfl rfl rfl (e_mul hf rfl rfl hz29) fun a hf => ?_
   refine q_ hf rfl rfl rfl (e_move hf rfl) fun a hf => ?_
   have hM : Mem C _ ([.box b2 [vL A3 (s1.code) c4, vI (y11.2.at_), vW (y11.2.seed)] 101] ++ []) _ := hM
   obtain ⟨y30, hz31, h26⟩ := bind_some h26
   refine pl_l hf rfl rfl rfl (w_call hf Tryd.call108 rfl (r_spec_l00Src_next ⟨_, Sh C _ _, ownB _, hM.sh_lt, sub_dis, C.G, hM.g_lt, hM.g_own, hM.tabs⟩ (⟨s1.code, y11.2.at_, y11.2.seed⟩ : l00Src) _ _ _ (hM.dat (k := 0) rfl) hv13 hv14 hM.sub sub_dis _ hz31) ?_)
   rintro _ w35 ⟨rfl, hM2, hv32, hv33, hv34⟩
   obtain ⟨hM, hup37⟩ := hM.backG hM2
   dsimp only [List.cons_append, List.nil_append] at hM hup37
   clear hM2
   refine ⟨_, rfl, fun a hf => ?_⟩
   obtain ⟨z38, hz39, h26⟩ := bind_some h26
   refine q_ hf rfl rfl rfl (e_add hf rfl rfl hz39) fun a hf => ?_
   refine q_ hf rfl rfl rfl (e_assign hf rfl) fun a hf => ?_
   refine pl_nil ?_
   obtain rfl := some_inj h26
   refine then_n ?_
   exact ⟨y30.2.at_, y30.2.seed, z38, rfl, hf.keep ⟨rfl, rfl, trivial⟩, hM.pick [0] rfl, hv32, hv33, (chk_R hz39)⟩
  refine cond_f hf rfl hc27 ?_
  refine wp_skip ?_
  obtain rfl := some_inj h26
  refine then_n ?_
  exact ⟨y11.2.at_, y11.2.seed, y11.1, rfl, hf.keep ⟨rfl, rfl, trivial⟩, hM.pick [0] rfl, hv13, hv14, hv15⟩
 rintro a w42 ⟨n19, n21, n23, rfl, hf, hM, hv20, hv22, hv24⟩
 try dsimp only at h
 refine wp_seq ?_
 refine region_pl ?_
 iterate 2 refine q_ hf rfl rfl rfl (e_move hf rfl) fun a hf => ?_
 obtain ⟨z43, hz44, h⟩ := bind_some h
 refine q_ hf rfl rfl rfl (e_rem hf rfl rfl hz44) fun a hf => ?_
 refine q_ hf rfl rfl rfl (e_assign hf rfl) fun a hf => ?_
 refine pl_nil ?_
 refine then_n ?_
 refine wp_ret ?_
 obtain rfl := some_inj h
 exact leave1 hf rfl rfl ⟨rfl, hM.fin, hv20, hv22, (remI_R hz44 hv24)⟩

set_option maxRecDepth 100000 in
set_option maxHeartbeats 4000000 in
theorem r_spec_l03Insert (C : Cx) (list1 : (List Str)) (A2 : Option Addr) (c3 : Nat) (t4 : Str) (hp5 : t4.length ≤ maxLen) (hO : Mem C C.w0 [.row strRep A2 c3 9 list1 true] []) (hd : ∀ b, C.S0 b → ¬ ownB [.row strRep A2 c3 9 list1 true] b) (r : (List Str)) (h : m_spec_l03Insert list1 t4 = some r) :
    Calls Tryd.prog 96 #[vL A2 (list1) c3, vS (t4)] C.w0 fun e w => ∃ (A_1 : Option Addr), ∃ (c_1 : Nat), e = .returned (vL A_1 (r) c_1) ∧ Mem C w [.row strRep A_1 c_1 9 r true] [] := by
 have hM := hO
 refine enter Tryd.func96 rfl Tryd.ntmps96 rfl fun a hf => ?_
 unfold m_spec_l03Insert at h
 refine wp_seq ?_
 refine region_pl ?_
 refine q_ hf rfl rfl rfl (e_assign hf rfl) fun a hf => ?_
 refine pl_nil ?_
 refine then_n ?_
 refine wp_seq ?_
 refine region_pl ?_
 refine q_ hf rfl rfl rfl (e_move hf rfl) fun a hf => ?_
 have hl6 := row_len (hM.ownAt (k := 0) rfl)
 refine q_ hf rfl rfl rfl (e_lenL hf (x := list1) rfl Tryd.underlying28) fun a hf => ?_
 refine q_ hf rfl rfl rfl (e_assign hf rfl) fun a hf => ?_
 refine pl_nil ?_
 refine then_n ?_
 obtain ⟨x9, h10, h⟩ := bind_some h
 refine seq_join (fun a w => ∃ (n7 : Int), n7 = x9 ∧ Has 48 a [(0, vL A2 (list1) c3), (1, vS (t4)), (5, vI (n7))] ∧ Mem C w [.row strRep A2 c3 9 list1 true] [] ∧ R64 n7) ?_ ?_
 ·refine wp_block ?_
  obtain ⟨x16, h17, h10⟩ := bind_some h10
  refine wp_loopM h17 (fun s a w => ∃ (n11 : Int), n11 = s ∧ Has 48 a [(0, vL A2 (list1) c3), (1, vS (t4)), (5, vI (n11))] ∧ Mem C w [.row strRep A2 c3 9 list1 true] [] ∧ R64 n11) ?_ ?_
  ·exact ⟨(list1.length : Int), rfl, hf.keep ⟨rfl, rfl, rfl, trivial⟩, hM.pick [] rfl, (R64_len hl6)⟩
  rintro s o18 a w13 ⟨n11, rfl, hf, hM, hv12⟩ h19 hd20
  replace h19 : m_spec_l03Insert_l1 list1 t4 n11 = some o18 := h19
  unfold m_spec_l03Insert_l1 at h19
  refine wp_seq ?_
  obtain ⟨x23, h24, h19⟩ := bind_some h19
  refine seq_join (fun a w => ∃ (t21 : Bool), t21 = x23 ∧ Has 48 a [(0, vL A2 (list1) c3), (1, vS (t4)), (5, vI (n11)), (19, .bool (t21))] ∧ Mem C w [.row strRep A2 c3 9 list1 true] []) ?_ ?_
  ·refine region_pl ?_
   refine q_ hf rfl rfl rfl (e_move hf rfl) fun a hf => ?_
   refine q_ hf rfl rfl rfl (e_gt hf (x := n11) (y := 0) rfl rfl) fun a hf => ?_
   refine q_ hf rfl rfl rfl (e_move hf rfl) fun a hf => ?_
   rcases cond_some h24 with ⟨hc25, h24⟩ | ⟨hc25, h24⟩
   ·iterate 2 refine gq (wanted_t hf rfl rfl rfl rfl hc25) hf rfl rfl (e_move hf rfl) fun a hf => ?_
    obtain ⟨z26, hz27, h24⟩ := bind_some h24
    refine gq (wanted_t hf rfl rfl rfl rfl hc25) hf rfl rfl (e_sub hf rfl rfl hz27) fun a hf => ?_
    obtain ⟨e28, hz29, h24⟩ := bind_some h24
    obtain ⟨b34, _, hA35, h30, h31, hr32, hcell33⟩ := hM.rowElemN (k := 0) rfl (n := 1) rfl hz29
    obtain ⟨rfl, hv36⟩ := hr32
    refine gq (wanted_t hf rfl rfl rfl rfl hc25) hf rfl rfl (e_indexAddr (A := A2) (b := b34) (o := 0) (xs := list1) (i := z26) hf hA35 rfl rfl Tryd.underlying28 Tryd.sizeOf9 h30 h31) fun a hf => ?_
    refine gq (wanted_t hf rfl rfl rfl rfl hc25) hf rfl rfl (e_load1 hf rfl Tryd.isAgg9 (hcell33 0 _ rfl)) fun a hf => ?_
    refine gq (wanted_t hf rfl rfl rfl rfl hc25) hf rfl rfl (e_move hf rfl) fun a hf => ?_
    refine gq (wanted_t hf rfl rfl rfl rfl hc25) hf rfl rfl (e_gtS hf (x := e28) (y := t4) rfl rfl) fun a hf => ?_
    refine q_ hf rfl rfl rfl (e_pick_t hf rfl hc25 rfl) fun a hf => ?_
    refine pl_nil ?_
    obtain rfl := some_inj h24
    refine then_n ?_
    exact ⟨(!(ltS e28 t4 || e28 == t4)), rfl, hf.keep ⟨rfl, rfl, rfl, rfl, trivial⟩, hM.pick [] rfl⟩
   iterate 7 refine pl_gs (wanted_f hf rfl rfl rfl rfl hc25) hf rfl rfl fun a hf => ?_
   refine q_ hf rfl rfl rfl (e_pick_f hf rfl hc25 rfl) fun a hf => ?_
   refine pl_nil ?_
   obtain rfl := some_inj h24
   refine then_n ?_
   exact ⟨false, rfl, hf.keep ⟨rfl, rfl, rfl, rfl, trivial⟩, hM.pick [] rfl⟩
  rintro a w39 ⟨t21, rfl, hf, hM⟩
  try dsimp only at h19
  rcases cond_some h19 with ⟨hc40, h19⟩ | ⟨hc40, h19⟩
  ·refine cond_t hf rfl hc40 ?_
   refine wp_skip ?_
   refine then_n ?_
   refine wp_block ?_
   refine region_pl ?_
   refine q_ hf rfl rfl rfl (e_move hf rfl) fun a hf => ?_
   obtain ⟨z41, hz42, h19⟩ := bind_some h19
   refine q_ hf rfl rfl rfl (e_sub hf rfl rfl hz42) fun a hf => ?_
   refine q_ hf rfl rfl rfl (e_assign hf rfl) fun a hf => ?_
   refine pl_nil ?_
   refine blk_n ?_
   obtain rfl := some_inj h19
   refine then_n ⟨_, rfl, ?_⟩
   exact ⟨z41, rfl, hf.keep ⟨rfl, rfl, rfl, trivial⟩, hM.pick [] rfl, (chk_R hz42)⟩
  refine cond_f hf rfl hc40 ?_
  refine wp_exit ?_
  refine then_x ?_
  obtain rfl := some_inj h19
  obtain rfl := hd20 _ rfl
  try dsimp only at h10
  refine then_x ?_
  refine exit_hit ?_
  obtain rfl := some_inj h10
  refine then_n ?_
  exact ⟨n11, rfl, hf.keep ⟨rfl, rfl, rfl, trivial⟩, hM.pick [] rfl, hv12⟩
 rintro a w48 ⟨n7, rfl, hf, hM, hv8⟩
 try dsimp only at h
 refine wp_seq ?_
 obtain ⟨x51, h52, h⟩ := bind_some h
 refine seq_join (fun a w => ∃ (t49 : Bool), t49 = x51 ∧ Has 48 a [(0, vL A2 (list1) c3), (1, vS (t4)), (5, vI (n7)), (32, .bool (t49))] ∧ Mem C w [.row strRep A2 c3 9 list1 true] []) ?_ ?_
 ·refine region_pl ?_
  refine q_ hf rfl rfl rfl (e_move hf rfl) fun a hf => ?_
  refine q_ hf rfl rfl rfl (e_gt hf (x := n7) (y := 0) rfl rfl) fun a hf => ?_
  refine q_ hf rfl rfl rfl (e_move hf rfl) fun a hf => ?_
  rcases cond_some h52 with ⟨hc53, h52⟩ | ⟨hc53, h52⟩
  ·iterate 2 refine gq (wanted_t hf rfl rfl rfl rfl hc53) hf rfl rfl (e_move hf rfl) fun a hf => ?_
   obtain ⟨z54, hz55, h52⟩ := bind_some h52
   refine gq (wanted_t hf rfl rfl rfl rfl hc53) hf rfl rfl (e_sub hf rfl rfl hz55) fun a hf => ?_
   obtain ⟨e56, hz57, h52⟩ := bind_some h52
   obtain ⟨b62, _, hA63, h58, h59, hr60, hcell61⟩ := hM.rowElemN (k := 0) rfl (n := 1) rfl hz57
   obtain ⟨rfl, hv64⟩ := hr60
   refine gq (wanted_t hf rfl rfl rfl rfl hc53) hf rfl rfl (e_indexAddr (A := A2) (b := b62) (o := 0) (xs := list1) (i := z54) hf hA63 rfl rfl Tryd.underlying28 Tryd.sizeOf9 h58 h59) fun a hf => ?_
   refine gq (wanted_t hf rfl rfl rfl rfl hc53) hf rfl rfl (e_load1 hf rfl Tryd.isAgg9 (hcell61 0 _ rfl)) fun a hf => ?_
   refine gq (wanted_t hf rfl rfl rfl rfl hc53) hf rfl rfl (e_move hf rfl) fun a hf => ?_
   refine gq (wanted_t hf rfl rfl rfl rfl hc53) hf rfl rfl (e_eqS hf (x := e56) (y := t4) rfl rfl) fun a hf => ?_
   refine q_ hf rfl rfl rfl (e_pick_t hf rfl hc53 rfl) fun a hf => ?_
   refine pl_nil ?_
   obtain rfl := some_inj h52
   refine then_n ?_
   exact ⟨(e56 == t4), rfl, hf.keep ⟨rfl, rfl, rfl, rfl, trivial⟩, hM.pick [] rfl⟩
  iterate 7 refine pl_gs (wanted_f hf rfl rfl rfl rfl hc53) hf rfl rfl fun a hf => ?_
  refine q_ hf rfl rfl rfl (e_pick_f hf rfl hc53 rfl) fun a hf => ?_
  refine pl_nil ?_
  obtain rfl := some_inj h52
  refine then_n ?_
  exact ⟨false, rfl, hf.keep ⟨rfl, rfl, rfl, rfl, trivial⟩, hM.pick [] rfl⟩
 rintro a w67 ⟨t49, rfl, hf, hM⟩
 try dsimp only at h
 rcases cond_some h with ⟨hc68, h⟩ | ⟨hc68, h⟩
 ·refine cond_t hf rfl hc68 ?_
  refine wp_seq ?_
  refine region_pl ?_
  refine q_ hf rfl rfl rfl (e_move hf rfl) fun a hf => ?_
  refine q_ hf rfl rfl rfl (e_assign hf rfl) fun a hf => ?_
  refine pl_nil ?_
  refine then_n ?_
  refine wp_ret ?_
  refine then_r ?_
  obtain rfl := some_inj h
  exact leave1 hf rfl rfl ⟨A2, c3, rfl, hM.fin⟩
 refine cond_f hf rfl hc68 ?_
 refine wp_skip ?_
 refine then_n ?_
 refine wp_seq ?_
 refine region_pl ?_
 refine pl_l hf rfl rfl rfl (w_slice0 (K := strRep) hM Tryd.underlying28 ei_9 fun b69 w70 hx71 hM a hf => ?_)
 iterate 2 refine q_ hf rfl rfl rfl (e_move hf rfl) fun a hf => ?_
 have hM := hM.freezeRow (k := 1) rfl rfl
 dsimp only [List.eraseIdx] at hM
 obtain ⟨l72, hz73, h⟩ := bind_some h
 obtain ⟨A74, hd75, hA76⟩ := sub_rep (hM.dat (k := 0) rfl) hz73
 have hM := hM.add (y := .dat (sliceRep strRep) l72 [vL A74 l72 (c3 - (0 : Int).toNat)]) hd75
 refine q_ hf rfl rfl rfl (e_subLh hf (xs := list1) rfl rfl Tryd.underlying28 Tryd.sizeOf9 (slice_cap (hM.dat (k := 1) rfl)) hz73 hA76) fun a hf => ?_
 obtain ⟨xs77, hz78, h⟩ := bind_some h
 refine pl_l hf rfl rfl rfl (w_appendD hf hM Tryd.underlying28 ei_9 rfl rfl rfl (k := 0) rfl (hM.dat (k := 0) rfl) hz78 fun A79 c80 w81 hM a hf => ?_)
 dsimp only [List.set] at hM
 refine q_ hf rfl rfl rfl (e_assign hf rfl) fun a hf => ?_
 refine pl_nil ?_
 refine then_n ?_
 refine wp_seq ?_
 refine region_pl ?_
 iterate 2 refine q_ hf rfl rfl rfl (e_move hf rfl) fun a hf => ?_
 refine pl_l hf rfl rfl rfl (w_slice hf hM (K := strRep) (xs := ([t4] : (List Str))) (os := [.tmp 40]) Tryd.underlying28 ei_9 rfl rfl rfl rfl rfl ⟨⟨[vS (t4)], rfl, ⟨rfl, hp5⟩⟩, trivial⟩ rfl fun b84 w85 hx86 hM a hf => ?_)
 obtain ⟨xs87, hz88, h⟩ := bind_some h
 refine pl_l hf rfl rfl rfl (w_append hf hM Tryd.underlying28 ei_9 rfl rfl rfl (k := 1) rfl (hM.srcRow (k := 0) rfl) hz88 fun A89 c90 w91 hM a hf => ?_)
 dsimp only [List.set] at hM
 refine q_ hf rfl rfl rfl (e_assign hf rfl) fun a hf => ?_
 refine pl_nil ?_
 refine then_n ?_
 refine wp_seq ?_
 refine region_pl ?_
 iterate 3 refine q_ hf rfl rfl rfl (e_move hf rfl) fun a hf => ?_
 obtain ⟨l94, hz95, h⟩ := bind_some h
 obtain ⟨A96, hd97, hA98⟩ := sub_rep (hM.dat (k := 1) rfl) hz95
 have hM := hM.add (y := .dat (sliceRep strRep) l94 [vL A96 l94 (c3 - (n7 : Int).toNat)]) hd97
 refine q_ hf rfl rfl rfl (e_subLl hf (xs := list1) rfl rfl Tryd.underlying28 Tryd.sizeOf9 (slice_cap (hM.dat (k := 2) rfl)) hz95 hA98) fun a hf => ?_
 obtain ⟨xs99, hz100, h⟩ := bind_some h
 refine pl_l hf rfl rfl rfl (w_appendD hf hM Tryd.underlying28 ei_9 rfl rfl rfl (k := 1) rfl (hM.dat (k := 0) rfl) hz100 fun A101 c102 w103 hM a hf => ?_)
 dsimp only [List.set] at hM
 refine q_ hf rfl rfl rfl (e_assign hf rfl) fun a hf => ?_
 refine pl_nil ?_
 refine then_n ?_
 refine wp_ret ?_
 obtain rfl := some_inj h
 have hM := hM.front (k := 1) rfl
 dsimp only [List.eraseIdx] at hM
 have hM := hM.outs (own' := [.row strRep A101 c102 9 xs99 true]) 1 rfl
 exact leave1 hf rfl rfl ⟨A101, c102, rfl, hM.fin⟩

set_option maxRecDepth 100000 in
set_option maxHeartbeats 4000000 in
theorem r_spec_l05Draw (C : Cx) (s1 : l00Src) (b2 : Nat) (A3 : Option Addr) (c4 : Nat) (hp5 : (sliceRep byteRep).R C.w0 C.S0 s1.code [vL A3 s1.code c4]) (hp6 : R64 s1.at_) (hp7 : U64 s1.seed) (most8 : Int) (hp9 : R64 most8) (hO : Mem C C.w0 [.box b2 [vL A3 (s1.code) c4, vI (s1.at_), vW (s1.seed)] 101] []) (hd : ∀ b, C.S0 b → ¬ ownB [.box b2 [vL A3 (s1.code) c4, vI (s1.at_), vW (s1.seed)] 101] b) (r : (Lexicon × l00Src)) (h : m_spec_l05Draw s1 most8 = some r) :
    Calls Tryd.prog 70 #[vP b2 (0), vI (most8)] C.w0 fun e w => ∃ (A_1 : Option Addr), ∃ (c_1 : Nat), e = .returned (.agg #[vL A_1 (r.1.Words) c_1]) ∧ Mem C w [.box b2 [vL A3 (s1.code) c4, vI (r.2.at_), vW (r.2.seed)] 101, .row strRep A_1 c_1 9 r.1.Words true] [] ∧ R64 r.2.at_ ∧ U64 r.2.seed := by
 have hM := hO
 have hM := hM.addIn hd (y := .dat (sliceRep byteRep) s1.code [vL A3 s1.code c4]) hp5
 refine enter Tryd.func70 rfl Tryd.ntmps70 rfl fun a hf => ?_
 unfold m_spec_l05Draw at h
 refine wp_seq ?_
 refine region_pl ?_
 refine pl_l hf rfl rfl rfl (w_alloc hM (cs := [vL none (([] : (List Str))) 0]) Tryd.zeroValue40 rfl fun b10 w11 hx12 hM a hf => ?_)
 refine pl_nil ?_
 refine then_n ?_
 refine wp_seq ?_
 refine region_pl ?_
 obtain ⟨y14, hz15, h⟩ := bind_some h
 refine pl_l hf rfl rfl rfl (w_call hf Tryd.call53 rfl (r_spec_l05Some ⟨_, Sh C _ _, none_, hM.sh_lt, none_not, C.G, hM.g_lt, g_none, hM.tabs⟩ _ hz15) ?_)
 rintro _ w18 ⟨A16, c17, rfl, hM2⟩
 obtain ⟨hM, hx19, hup20⟩ := hM.back hM2
 dsimp only [List.cons_append, List.nil_append] at hM hup20
 clear hM2
 refine ⟨_, rfl, fun a hf => ?_⟩
 refine q_ hf rfl rfl rfl (e_assign hf rfl) fun a hf => ?_
 refine pl_nil ?_
 refine then_n ?_
 refine wp_seq ?_
 refine region_pl ?_
 refine pl_l hf rfl rfl rfl (w_slice0 (K := strRep) hM Tryd.underlying28 ei_9 fun b21 w22 hx23 hM a hf => ?_)
 refine q_ hf rfl rfl rfl (e_assign hf rfl) fun a hf => ?_
 refine pl_nil ?_
 refine then_n ?_
 obtain ⟨x31, h32, h⟩ := bind_some h
 refine seq_join (fun a w => ∃ (n24 : Int) (n26 : Int) (xs28 : (List Str)) (A29 : Option Addr) (c30 : Nat), (n24, n26, xs28) = x31 ∧ Has 29 a [(4, vP b10 (0)), (6, vL A29 (xs28) c30)] ∧ Mem C w [.row strRep A29 c30 9 xs28 true, .row strRep A16 c17 9 y14 true, .box b10 [vL none (([] : (List Str))) 0] 40, .box b2 [vL A3 (s1.code) c4, vI (n24), vW (n26)] 101] [.dat (sliceRep byteRep) s1.code [vL A3 s1.code c4]] ∧ R64 n24 ∧ U64 n26) ?_ ?_
 ·refine wp_seq ?_
  refine region_pl ?_
  iterate 2 refine q_ hf rfl rfl rfl (e_move hf rfl) fun a hf => ?_
  obtain ⟨z33, hz34, h32⟩ := bind_some h32
  refine q_ hf rfl rfl rfl (e_add hf rfl rfl hz34) fun a hf => ?_
  have hM := hM.front (k := 3) rfl
  dsimp only [List.eraseIdx] at hM
  have hM : Mem C _ ([.box b2 [vL A3 (s1.code) c4, vI (s1.at_), vW (s1.seed)] 101] ++ [.row strRep (some ⟨b21, 0, none⟩) 0 9 ([] : (List Str)) true, .row strRep A16 c17 9 y14 true, .box b10 [vL none (([] : (List Str))) 0] 40]) _ := hM
  obtain ⟨y35, hz36, h32⟩ := bind_some h32
  refine pl_l hf rfl rfl rfl (w_call hf Tryd.call84 rfl (r_spec_l00Src_pick ⟨_, Sh C _ _, ownB _, hM.sh_lt, sub_dis, C.G, hM.g_lt, hM.g_own, hM.tabs⟩ s1 _ _ _ (hM.dat (k := 0) rfl) hp6 hp7 z33 (chk_R hz34) hM.sub sub_dis _ hz36) ?_)
  rintro _ w40 ⟨rfl, hM2, hv37, hv38, hv39⟩
  obtain ⟨hM, hup42⟩ := hM.backG hM2
  dsimp only [List.cons_append, List.nil_append] at hM hup42
  clear hM2
  refine ⟨_, rfl, fun a hf => ?_⟩
  refine q_ hf rfl rfl rfl (e_assign hf rfl) fun a hf => ?_
  refine pl_nil ?_
  refine then_n ?_
  refine wp_block ?_
  obtain ⟨x60, h61, h32⟩ := bind_some h32
  refine wp_loopM h61 (fun s a w => ∃ (n43 : Int) (n45 : Int) (xs47 : (List Str)) (n50 : Int) (A48 : Option Addr) (c49 : Nat), (n43, n45, xs47, n50) = s ∧ Has 29 a [(0, vP b2 (0)), (4, vP b10 (0)), (5, vL A16 (y14) c17), (6, vL A48 (xs47) c49), (7, vI (n50))] ∧ Mem C w [.row strRep A48 c49 9 xs47 true, .box b2 [vL A3 (s1.code) c4, vI (n43), vW (n45)] 101, .row strRep A16 c17 9 y14 true, .box b10 [vL none (([] : (List Str))) 0] 40] [.dat (sliceRep byteRep) s1.code [vL A3 s1.code c4]] ∧ R64 n43 ∧ U64 n45 ∧ R64 n50) ?_ ?_
  ·have hM := hM.front (k := 3) rfl
   dsimp only [List.eraseIdx] at hM
   have hM := hM.front (k := 3) rfl
   dsimp only [List.eraseIdx] at hM
   have hM := hM.front (k := 2) rfl
   dsimp only [List.eraseIdx] at hM
   have hM := hM.front (k := 3) rfl
   dsimp only [List.eraseIdx] at hM
   exact ⟨y35.2.at_, y35.2.seed, ([] : (List Str)), y35.1, (some ⟨b21, 0, none⟩), 0, rfl, hf.keep ⟨rfl, rfl, rfl, rfl, rfl, trivial⟩, hM.pick [0] rfl, hv37, hv38, hv39⟩
  rintro s o62 a w52 ⟨n43, n45, xs47, n50, A48, c49, rfl, hf, hM, hv44, hv46, hv51⟩ h63 hd64
  replace h63 : m_spec_l05Draw_l1 s1 y14 n43 n45 xs47 n50 = some o62 := h63
  unfold m_spec_l05Draw_l1 at h63
  iterate 2 refine wp_seq ?_
  refine region_pl ?_
  refine q_ hf rfl rfl rfl (e_move hf rfl) fun a hf => ?_
  refine q_ hf rfl rfl rfl (e_gt hf (x := n50) (y := 0) rfl rfl) fun a hf => ?_
  refine pl_nil ?_
  refine then_n ?_
  rcases cond_some h63 with ⟨hc65, h63⟩ | ⟨hc65, h63⟩
  ·refine cond_t hf rfl hc65 ?_
   refine wp_skip ?_
   refine then_n ?_
   refine wp_seq ?_
   refine wp_block ?_
   refine region_pl ?_
   iterate 4 refine q_ hf rfl rfl rfl (e_move hf rfl) fun a hf => ?_
   have hl66 := row_len (hM.ownAt (k := 2) rfl)
   refine q_ hf rfl rfl rfl (e_lenL hf (x := y14) rfl Tryd.underlying28) fun a hf => ?_
   have hM := hM.front (k := 1) rfl
   dsimp only [List.eraseIdx] at hM
   have hM : Mem C _ ([.box b2 [vL A3 (s1.code) c4, vI (n43), vW (n45)] 101] ++ [.row strRep A48 c49 9 xs47 true, .row strRep A16 c17 9 y14 true, .box b10 [vL none (([] : (List Str))) 0] 40]) _ := hM
   obtain ⟨y67, hz68, h63⟩ := bind_some h63
   refine pl_l hf rfl rfl rfl (w_call hf Tryd.call84 rfl (r_spec_l00Src_pick ⟨_, Sh C _ _, ownB _, hM.sh_lt, sub_dis, C.G, hM.g_lt, hM.g_own, hM.tabs⟩ (⟨s1.code, n43, n45⟩ : l00Src) _ _ _ (hM.dat (k := 0) rfl) hv44 hv46 (y14.length : Int) (R64_len hl66) hM.sub sub_dis _ hz68) ?_)
   rintro _ w72 ⟨rfl, hM2, hv69, hv70, hv71⟩
   obtain ⟨hM, hup74⟩ := hM.backG hM2
   dsimp only [List.cons_append, List.nil_append] at hM hup74
   clear hM2
   refine ⟨_, rfl, fun a hf => ?_⟩
   obtain ⟨e75, hz76, h63⟩ := bind_some h63
   obtain ⟨b81, _, hA82, h77, h78, hr79, hcell80⟩ := hM.rowElemN (k := 2) rfl (n := 1) rfl hz76
   obtain ⟨rfl, hv83⟩ := hr79
   refine q_ hf rfl rfl rfl (e_indexAddr (A := A16) (b := b81) (o := 0) (xs := y14) (i := y67.1) hf hA82 rfl rfl Tryd.underlying28 Tryd.sizeOf9 h77 h78) fun a hf => ?_
   refine q_ hf rfl rfl rfl (e_load1 hf rfl Tryd.isAgg9 (hcell80 0 _ rfl)) fun a hf => ?_
   have hM := hM.front (k := 1) rfl
   dsimp only [List.eraseIdx] at hM
   have hM : Mem C _ ([.row strRep A48 c49 9 xs47 true] ++ [.box b2 [vL A3 (s1.code) c4, vI (y67.2.at_), vW (y67.2.seed)] 101, .row strRep A16 c17 9 y14 true, .box b10 [vL none (([] : (List Str))) 0] 40]) _ := hM
   obtain ⟨y84, hz85, h63⟩ := bind_some h63
   refine pl_l hf rfl rfl rfl (w_call hf Tryd.call96 rfl (r_spec_l03Insert ⟨_, Sh C _ _, ownB _, hM.sh_lt, sub_dis, C.G, hM.g_lt, hM.g_own, hM.tabs⟩ xs47 _ _ e75 hv83 hM.sub sub_dis _ hz85) ?_)
   rintro _ w88 ⟨A86, c87, rfl, hM2⟩
   obtain ⟨hM, hup90⟩ := hM.backG hM2
   dsimp only [List.cons_append, List.nil_append] at hM hup90
   clear hM2
   refine ⟨_, rfl, fun a hf => ?_⟩
   refine q_ hf rfl rfl rfl (e_assign hf rfl) fun a hf => ?_
   refine pl_nil ?_
   refine blk_n ?_
   refine then_n ?_
   refine region_pl ?_
   refine q_ hf rfl rfl rfl (e_move hf rfl) fun a hf => ?_
   obtain ⟨z91, hz92, h63⟩ := bind_some h63
   refine q_ hf rfl rfl rfl (e_sub hf rfl rfl hz92) fun a hf => ?_
   refine q_ hf rfl rfl rfl (e_assign hf rfl) fun a hf => ?_
   refine pl_nil ?_
   obtain rfl := some_inj h63
   refine then_n ⟨_, rfl, ?_⟩
   exact ⟨y67.2.at_, y67.2.seed, y84, z91, A86, c87, rfl, hf.keep ⟨rfl, rfl, rfl, rfl, rfl, trivial⟩, hM.pick [0] rfl, hv69, hv70, (chk_R hz92)⟩
  refine cond_f hf rfl hc65 ?_
  refine wp_exit ?_
  refine then_x ?_
  obtain rfl := some_inj h63
  obtain rfl := hd64 _ rfl
  try dsimp only at h32
  refine then_x ?_
  refine exit_hit ?_
  obtain rfl := some_inj h32
  refine then_n ?_
  have hM := hM.front (k := 1) rfl
  dsimp only [List.eraseIdx] at hM
  have hM := hM.front (k := 3) rfl
  dsimp only [List.eraseIdx] at hM
  have hM := hM.front (k := 3) rfl
  dsimp only [List.eraseIdx] at hM
  have hM := hM.front (k := 3) rfl
  dsimp only [List.eraseIdx] at hM
  exact ⟨n43, n45, xs47, A48, c49, rfl, hf.keep ⟨rfl, rfl, trivial⟩, hM.pick [0] rfl, hv44, hv46⟩
 rintro a w98 ⟨n24, n26, xs28, A29, c30, rfl, hf, hM, hv25, hv27⟩
 try dsimp only at h
 refine wp_seq ?_
 refine region_pl ?_
 refine q_ hf rfl rfl rfl (e_move hf rfl) fun a hf => ?_
 refine q_ hf rfl rfl rfl (e_build hf Tryd.zeroValue40 Tryd.underlying40 (bp_40 _ Tryd.underlying40.symm) rfl (cs := #[vL A29 (xs28) c30]) (by kernel_rfl)) fun a hf => ?_
 refine pl_0 hf rfl rfl (w_store hf hM (us := [vL A29 (xs28) c30]) (cs' := [vL A29 (xs28) c30]) rfl rfl (k := 2) rfl rfl Tryd.sizeOf40 rfl rfl rfl fun w99 hM => ?_)
 dsimp only [List.set] at hM
 refine pl_nil ?_
 refine then_n ?_
 refine wp_ret ?_
 obtain rfl := some_inj h
 have hres102 := leaveV1 (P := Tryd.prog) (w := w99) Tryd.results70 (res_agg hf rfl ⟨Tryd.isAgg40, Tryd.sizeOf40⟩ (us := [vL A29 (xs28) c30]) rfl (hM.boxSub (k := 2) (o := 0) rfl rfl))
 have hM := hM.front (k := 0) rfl
 dsimp only [List.eraseIdx] at hM
 have hM := hM.front (k := 3) rfl
 dsimp only [List.eraseIdx] at hM
 have hM := hM.outs (own' := [.box b2 [vL A3 (s1.code) c4, vI (n24), vW (n26)] 101, .row strRep A29 c30 9 xs28 true]) 2 rfl
 exact bodyPost_ret hres102 hf.defers ⟨A29, c30, rfl, hM.fin, hv25, hv27⟩

set_option maxRecDepth 100000 in
set_option maxHeartbeats 4000000 in
theorem r_spec_l06Tails (C : Cx) (list1 : (List Str)) (A2 : Option Addr) (c3 : Nat) (hp4 : (sliceRep strRep).R C.w0 C.S0 list1 [vL A2 list1 c3]) (from_5 : Int) (hp6 : R64 from_5) (r : ((List Str) × Int)) (h : m_spec_l06Tails list1 from_5 = some r) :
    Calls Tryd.prog 115 #[vL A2 (list1) c3, vI (from_5)] C.w0 fun e w => ∃ (A_1 : Option Addr), ∃ (c_1 : Nat), e = .returned (.tuple #[vL A_1 (r.1) c_1, vI (r.2)]) ∧ Mem C w [.row strRep A_1 c_1 9 r.1 true] [] ∧ R64 r.2 := by
 have hM := Mem.begin C [.dat (sliceRep strRep) list1 [vL A2 list1 c3]] ⟨hp4, trivial⟩
 refine enter Tryd.func115 rfl Tryd.ntmps115 rfl fun a hf => ?_
 unfold m_spec_l06Tails at h
 refine wp_seq ?_
 refine region_pl ?_
 iterate 2 refine q_ hf rfl rfl rfl (e_assign hf rfl) fun a hf => ?_
 refine pl_nil ?_
 refine then_n ?_
 refine wp_seq ?_
 refine region_pl ?_
 refine pl_l hf rfl rfl rfl (w_slice0 (K := strRep) hM Tryd.underlying28 ei_9 fun b7 w8 hx9 hM a hf => ?_)
 refine q_ hf rfl rfl rfl (e_assign hf rfl) fun a hf => ?_
 refine pl_nil ?_
 refine then_n ?_
 refine wp_seq ?_
 refine region_pl ?_
 iterate 2 refine q_ hf rfl rfl rfl (e_move hf rfl) fun a hf => ?_
 obtain ⟨e10, hz11, h⟩ := bind_some h
 obtain ⟨b15, o16, _, hA17, h12, h13, hr14, hM⟩ := hM.elem (hM.dat (k := 0) rfl) (n := 1) rfl hz11
 obtain ⟨rfl, hv18⟩ := hr14
 refine q_ hf rfl rfl rfl (e_indexAddr (A := A2) (b := b15) (o := o16) (xs := list1) (i := from_5) hf hA17 rfl rfl Tryd.underlying28 Tryd.sizeOf9 h12 h13) fun a hf => ?_
 refine q_ hf rfl rfl rfl (e_load1 hf rfl Tryd.isAgg9 (hM.litCell (k := 0) (j := 0) rfl rfl rfl)) fun a hf => ?_
 obtain ⟨c19, hz20, h⟩ := bind_some h
 refine q_ hf rfl rfl rfl (e_indexS hf (x := e10) rfl rfl Tryd.underlying9 hz20) fun a hf => ?_
 refine q_ hf rfl rfl rfl (e_assign hf rfl) fun a hf => ?_
 refine pl_nil ?_
 refine then_n ?_
 refine wp_seq ?_
 refine region_pl ?_
 refine q_ hf rfl rfl rfl (e_move hf rfl) fun a hf => ?_
 refine q_ hf rfl rfl rfl (e_assign hf rfl) fun a hf => ?_
 refine pl_nil ?_
 refine then_n ?_
 obtain ⟨x26, h27, h⟩ := bind_some h
 refine seq_join (fun a w => ∃ (xs21 : (List Str)) (n24 : Int) (A22 : Option Addr) (c23 : Nat), (xs21, n24) = x26 ∧ Has 41 a [(6, vL A22 (xs21) c23), (8, vI (n24))] ∧ Mem C w [.row strRep A22 c23 9 xs21 true] [.lit b15 (o16 + (from_5 : Int).toNat * 1) [vS (e10)], .dat (sliceRep strRep) list1 [vL A2 list1 c3]] ∧ R64 n24) ?_ ?_
 ·refine wp_block ?_
  obtain ⟨x39, h40, h27⟩ := bind_some h27
  refine wp_loopM h40 (fun s a w => ∃ (xs28 : (List Str)) (n31 : Int) (A29 : Option Addr) (c30 : Nat), (xs28, n31) = s ∧ Has 41 a [(0, vL A2 (list1) c3), (6, vL A29 (xs28) c30), (7, vB (c19)), (8, vI (n31))] ∧ Mem C w [.row strRep A29 c30 9 xs28 true] [.lit b15 (o16 + (from_5 : Int).toNat * 1) [vS (e10)], .dat (sliceRep strRep) list1 [vL A2 list1 c3]] ∧ R64 n31) ?_ ?_
  ·exact ⟨([] : (List Str)), from_5, (some ⟨b7, 0, none⟩), 0, rfl, hf.keep ⟨rfl, rfl, rfl, rfl, trivial⟩, hM.pick [0, 1] rfl, hp6⟩
  rintro s o41 a w33 ⟨xs28, n31, A29, c30, rfl, hf, hM, hv32⟩ h42 hd43
  replace h42 : m_spec_l06Tails_l1 list1 c19 xs28 n31 = some o41 := h42
  unfold m_spec_l06Tails_l1 at h42
  refine wp_seq ?_
  obtain ⟨x46, h47, h42⟩ := bind_some h42
  refine seq_join (fun a w => ∃ (t44 : Bool), t44 = x46 ∧ Has 41 a [(0, vL A2 (list1) c3), (6, vL A29 (xs28) c30), (7, vB (c19)), (8, vI (n31)), (28, .bool (t44))] ∧ Mem C w [.row strRep A29 c30 9 xs28 true] [.lit b15 (o16 + (from_5 : Int).toNat * 1) [vS (e10)], .dat (sliceRep strRep) list1 [vL A2 list1 c3]]) ?_ ?_
  ·refine region_pl ?_
   iterate 2 refine q_ hf rfl rfl rfl (e_move hf rfl) fun a hf => ?_
   have hl48 := slice_len (hM.dat (k := 1) rfl)
   refine q_ hf rfl rfl rfl (e_lenL hf (x := list1) rfl Tryd.underlying28) fun a hf => ?_
   refine q_ hf rfl rfl rfl (e_lt hf (x := n31) (y := (list1.length : Int)) rfl rfl) fun a hf => ?_
   refine q_ hf rfl rfl rfl (e_move hf rfl) fun a hf => ?_
   rcases cond_some h47 with ⟨hc49, h47⟩ | ⟨hc49, h47⟩
   ·iterate 2 refine gq (wanted_t hf rfl rfl rfl rfl hc49) hf rfl rfl (e_move hf rfl) fun a hf => ?_
    obtain ⟨e50, hz51, h47⟩ := bind_some h47
    obtain ⟨b55, o56, _, hA57, h52, h53, hr54, hM⟩ := hM.elem (hM.dat (k := 1) rfl) (n := 1) rfl hz51
    obtain ⟨rfl, hv58⟩ := hr54
    refine gq (wanted_t hf rfl rfl rfl rfl hc49) hf rfl rfl (e_indexAddr (A := A2) (b := b55) (o := o56) (xs := list1) (i := n31) hf hA57 rfl rfl Tryd.underlying28 Tryd.sizeOf9 h52 h53) fun a hf => ?_
    refine gq (wanted_t hf rfl rfl rfl rfl hc49) hf rfl rfl (e_load1 hf rfl Tryd.isAgg9 (hM.litCell (k := 0) (j := 0) rfl rfl rfl)) fun a hf => ?_
    obtain ⟨c59, hz60, h47⟩ := bind_some h47
    refine gq (wanted_t hf rfl rfl rfl rfl hc49) hf rfl rfl (e_indexS hf (x := e50) rfl rfl Tryd.underlying9 hz60) fun a hf => ?_
    refine gq (wanted_t hf rfl rfl rfl rfl hc49) hf rfl rfl (e_move hf rfl) fun a hf => ?_
    refine gq (wanted_t hf rfl rfl rfl rfl hc49) hf rfl rfl (e_eqB hf (x := c59) (y := c19) rfl rfl) fun a hf => ?_
    refine q_ hf rfl rfl rfl (e_pick_t hf rfl hc49 rfl) fun a hf => ?_
    refine pl_nil ?_
    obtain rfl := some_inj h47
    refine then_n ?_
    exact ⟨(c59 == c19), rfl, hf.keep ⟨rfl, rfl, rfl, rfl, rfl, trivial⟩, hM.pick [1, 2] rfl⟩
   iterate 7 refine pl_gs (wanted_f hf rfl rfl rfl rfl hc49) hf rfl rfl fun a hf => ?_
   refine q_ hf rfl rfl rfl (e_pick_f hf rfl hc49 rfl) fun a hf => ?_
   refine pl_nil ?_
   obtain rfl := some_inj h47
   refine then_n ?_
   exact ⟨false, rfl, hf.keep ⟨rfl, rfl, rfl, rfl, rfl, trivial⟩, hM.pick [0, 1] rfl⟩
  rintro a w63 ⟨t44, rfl, hf, hM⟩
  try dsimp only at h42
  rcases cond_some h42 with ⟨hc64, h42⟩ | ⟨hc64, h42⟩
  ·refine cond_t hf rfl hc64 ?_
   refine wp_skip ?_
   refine then_n ?_
   refine wp_block ?_
   refine wp_seq ?_
   refine region_pl ?_
   iterate 3 refine q_ hf rfl rfl rfl (e_move hf rfl) fun a hf => ?_
   obtain ⟨e65, hz66, h42⟩ := bind_some h42
   obtain ⟨b70, o71, _, hA72, h67, h68, hr69, hM⟩ := hM.elem (hM.dat (k := 1) rfl) (n := 1) rfl hz66
   obtain ⟨rfl, hv73⟩ := hr69
   refine q_ hf rfl rfl rfl (e_indexAddr (A := A2) (b := b70) (o := o71) (xs := list1) (i := n31) hf hA72 rfl rfl Tryd.underlying28 Tryd.sizeOf9 h67 h68) fun a hf => ?_
   refine q_ hf rfl rfl rfl (e_load1 hf rfl Tryd.isAgg9 (hM.litCell (k := 0) (j := 0) rfl rfl rfl)) fun a hf => ?_
   obtain ⟨s74, hz75, h42⟩ := bind_some h42
   refine q_ hf rfl rfl rfl (e_subSl hf (x := e65) rfl rfl Tryd.underlying9 hz75) fun a hf => ?_
   refine pl_l hf rfl rfl rfl (w_slice hf hM (K := strRep) (xs := ([s74] : (List Str))) (os := [.tmp 34]) Tryd.underlying28 ei_9 rfl rfl rfl rfl rfl ⟨⟨[vS (s74)], rfl, ⟨rfl, (sub_len hz75 hv73)⟩⟩, trivial⟩ rfl fun b76 w77 hx78 hM a hf => ?_)
   obtain ⟨xs79, hz80, h42⟩ := bind_some h42
   refine pl_l hf rfl rfl rfl (w_append hf hM Tryd.underlying28 ei_9 rfl rfl rfl (k := 1) rfl (hM.srcRow (k := 0) rfl) hz80 fun A81 c82 w83 hM a hf => ?_)
   dsimp only [List.set] at hM
   refine q_ hf rfl rfl rfl (e_assign hf rfl) fun a hf => ?_
   refine pl_nil ?_
   refine then_n ?_
   refine region_pl ?_
   refine q_ hf rfl rfl rfl (e_move hf rfl) fun a hf => ?_
   obtain ⟨z86, hz87, h42⟩ := bind_some h42
   refine q_ hf rfl rfl rfl (e_add hf rfl rfl hz87) fun a hf => ?_
   refine q_ hf rfl rfl rfl (e_assign hf rfl) fun a hf => ?_
   refine pl_nil ?_
   refine blk_n ?_
   obtain rfl := some_inj h42
   refine then_n ⟨_, rfl, ?_⟩
   exact ⟨xs79, z86, A81, c82, rfl, hf.keep ⟨rfl, rfl, rfl, rfl, trivial⟩, (hM.drop (.cons _ (.cons_cons _ .slnil))).pick [1, 2] rfl, (chk_R hz87)⟩
  refine cond_f hf rfl hc64 ?_
  refine wp_exit ?_
  refine then_x ?_
  obtain rfl := some_inj h42
  obtain rfl := hd43 _ rfl
  try dsimp only at h27
  refine then_x ?_
  refine exit_hit ?_
  obtain rfl := some_inj h27
  refine then_n ?_
  exact ⟨xs28, n31, A29, c30, rfl, hf.keep ⟨rfl, rfl, trivial⟩, hM.pick [0, 1] rfl, hv32⟩
 rintro a w93 ⟨xs21, n24, A22, c23, rfl, hf, hM, hv25⟩
 try dsimp only at h
 refine wp_seq ?_
 refine region_pl ?_
 iterate 2 refine q_ hf rfl rfl rfl (e_move hf rfl) fun a hf => ?_
 iterate 2 refine q_ hf rfl rfl rfl (e_assign hf rfl) fun a hf => ?_
 refine pl_nil ?_
 refine then_n ?_
 refine wp_ret ?_
 obtain rfl := some_inj h
 exact leave2 hf rfl rfl rfl ⟨A22, c23, rfl, hM.fin, hv25⟩

set_option maxRecDepth 100000 in
set_option maxHeartbeats 4000000 in
theorem r_spec_l00Same (C : Cx) (a1 : (List Int)) (A2 : Option Addr) (c3 : Nat) (hp4 : (sliceRep intRep).R C.w0 C.S0 a1 [vL A2 a1 c3]) (b5 : (List Int)) (A6 : Option Addr) (c7 : Nat) (hp8 : (sliceRep intRep).R C.w0 C.S0 b5 [vL A6 b5 c7]) (r : Bool) (h : m_spec_l00Same a1 b5 = some r) :
    Calls Tryd.prog 117 #[vL A2 (a1) c3, vL A6 (b5) c7] C.w0 fun e w => e = .returned (.bool (r)) ∧ Mem C w [] [] := by
 have hM := Mem.begin C [.dat (sliceRep intRep) b5 [vL A6 b5 c7], .dat (sliceRep intRep) a1 [vL A2 a1 c3]] ⟨hp8, hp4, trivial⟩
 refine enter Tryd.func117 rfl Tryd.ntmps117 rfl fun a hf => ?_
 unfold m_spec_l00Same at h
 refine wp_seq ?_
 refine region_pl ?_
 refine q_ hf rfl rfl rfl (e_assign hf rfl) fun a hf => ?_
 refine pl_nil ?_
 refine then_n ?_
 iterate 2 refine wp_seq ?_
 refine region_pl ?_
 refine q_ hf rfl rfl rfl (e_move hf rfl) fun a hf => ?_
 have hl9 := slice_len (hM.dat (k := 1) rfl)
 refine q_ hf rfl rfl rfl (e_lenL hf (x := a1) rfl Tryd.underlying31) fun a hf => ?_
 refine q_ hf rfl rfl rfl (e_move hf rfl) fun a hf => ?_
 have hl10 := slice_len (hM.dat (k := 0) rfl)
 refine q_ hf rfl rfl rfl (e_lenL hf (x := b5) rfl Tryd.underlying31) fun a hf => ?_
 refine q_ hf rfl rfl rfl (e_ne hf (x := (a1.length : Int)) (y := (b5.length : Int)) rfl rfl) fun a hf => ?_
 refine pl_nil ?_
 refine then_n ?_
 rcases cond_some h with ⟨hc11, h⟩ | ⟨hc11, h⟩
 ·refine cond_t hf rfl hc11 ?_
  refine wp_seq ?_
  refine region_pl ?_
  refine q_ hf rfl rfl rfl (e_assign hf rfl) fun a hf => ?_
  refine pl_nil ?_
  refine then_n ?_
  refine wp_ret ?_
  refine then_r ?_
  obtain rfl := some_inj h
  exact leave1 hf rfl rfl ⟨rfl, hM.fin⟩
 refine cond_f hf rfl hc11 ?_
 refine wp_skip ?_
 refine then_n ?_
 obtain ⟨x12, h13, h⟩ := bind_some h
 refine seq_join (fun a w => (.inl ()) = x12 ∧ Has 26 a [] ∧ Mem C w [] [.dat (sliceRep intRep) b5 [vL A6 b5 c7], .dat (sliceRep intRep) a1 [vL A2 a1 c3]]) ?_ ?_
 ·refine wp_seq ?_
  refine region_pl ?_
  refine q_ hf rfl rfl rfl (e_assign hf rfl) fun a hf => ?_
  refine pl_nil ?_
  refine then_n ?_
  refine wp_block ?_
  obtain ⟨x17, h18, h13⟩ := bind_some h13
  refine wp_loopM h18 (fun s a w => ∃ (n14 : Int), n14 = s ∧ Has 26 a [(0, vL A2 (a1) c3), (1, vL A6 (b5) c7), (5, vI (n14))] ∧ Mem C w [] [.dat (sliceRep intRep) b5 [vL A6 b5 c7], .dat (sliceRep intRep) a1 [vL A2 a1 c3]] ∧ R64 n14) ?_ ?_
  ·exact ⟨0, rfl, hf.keep ⟨rfl, rfl, rfl, trivial⟩, hM.pick [0, 1] rfl, (R64_lit rfl)⟩
  rintro s o19 a w16 ⟨n14, rfl, hf, hM, hv15⟩ h20 hd21
  replace h20 : m_spec_l00Same_l1 a1 b5 n14 = some o19 := h20
  unfold m_spec_l00Same_l1 at h20
  iterate 2 refine wp_seq ?_
  refine region_pl ?_
  iterate 2 refine q_ hf rfl rfl rfl (e_move hf rfl) fun a hf => ?_
  have hl22 := slice_len (hM.dat (k := 1) rfl)
  refine q_ hf rfl rfl rfl (e_lenL hf (x := a1) rfl Tryd.underlying31) fun a hf => ?_
  refine q_ hf rfl rfl rfl (e_lt hf (x := n14) (y := (a1.length : Int)) rfl rfl) fun a hf => ?_
  refine pl_nil ?_
  refine then_n ?_
  rcases cond_some h20 with ⟨hc23, h20⟩ | ⟨hc23, h20⟩
  ·refine cond_t hf rfl hc23 ?_
   refine wp_skip ?_
   refine then_n ?_
   refine wp_seq ?_
   refine wp_block ?_
   refine wp_seq ?_
   obtain ⟨w24, hw⟩ : ∃ x, x = w16.drew := ⟨_, rfl⟩
   refine region_pi (.q 0 (.q 1 (.q 2 (.q 3 (.q 4 (.q 5 (.q 6 (.q 7 (.q 8 (.nil)))))))))) (Ext w24) rfl (by kernel_rfl) ?_
   have hM := hM.drew
   rw [← hw] at hM ⊢
   clear hw
   iterate 2 refine pi_q hf rfl rfl rfl rfl (Ext.refl _) (e_move hf rfl) fun a hf => ?_
   obtain ⟨e25, hz26, h20⟩ := bind_some h20
   obtain ⟨b30, o31, _, hA32, h27, h28, hr29, hM⟩ := hM.elem (hM.dat (k := 1) rfl) (n := 1) rfl hz26
   obtain ⟨rfl, hv33⟩ := hr29
   refine pi_q hf rfl rfl rfl rfl (Ext.refl _) (e_indexAddr (A := A2) (b := b30) (o := o31) (xs := a1) (i := n14) hf hA32 rfl rfl Tryd.underlying31 Tryd.sizeOf2 h27 h28) fun a hf => ?_
   refine pi_q hf rfl rfl rfl rfl (Ext.refl _) (e_load1 hf rfl Tryd.isAgg2 (hM.litCell (k := 0) (j := 0) rfl rfl rfl)) fun a hf => ?_
   iterate 2 refine pi_q hf rfl rfl rfl rfl (Ext.refl _) (e_move hf rfl) fun a hf => ?_
   obtain ⟨e34, hz35, h20⟩ := bind_some h20
   obtain ⟨b39, o40, _, hA41, h36, h37, hr38, hM⟩ := hM.elem (hM.dat (k := 1) rfl) (n := 1) rfl hz35
   obtain ⟨rfl, hv42⟩ := hr38
   refine pi_q hf rfl rfl rfl rfl (Ext.refl _) (e_indexAddr (A := A6) (b := b39) (o := o40) (xs := b5) (i := n14) hf hA41 rfl rfl Tryd.underlying31 Tryd.sizeOf2 h36 h37) fun a hf => ?_
   refine pi_q hf rfl rfl rfl rfl (Ext.refl _) (e_load1 hf rfl Tryd.isAgg2 (hM.litCell (k := 0) (j := 0) rfl rfl rfl)) fun a hf => ?_
   refine pi_q hf rfl rfl rfl rfl (Ext.refl _) (e_ne hf (x := e25) (y := e34) rfl rfl) fun a hf => ?_
   refine pi_nil ?_
   refine then_n ?_
   rcases cond_some h20 with ⟨hc43, h20⟩ | ⟨hc43, h20⟩
   ·refine cond_t hf rfl hc43 ?_
    refine wp_seq ?_
    refine region_pl ?_
    refine q_ hf rfl rfl rfl (e_assign hf rfl) fun a hf => ?_
    refine pl_nil ?_
    refine then_n ?_
    refine wp_ret ?_
    refine blk_r ?_
    refine then_r ?_
    obtain rfl := some_inj h20
    obtain rfl := hd21 _ rfl
    try dsimp only at h13
    refine then_r ?_
    refine blk_r ?_
    obtain rfl := some_inj h13
    try dsimp only at h
    refine then_r ?_
    obtain rfl := some_inj h
    exact leave1 hf rfl rfl ⟨rfl, hM.fin⟩
   refine cond_f hf rfl hc43 ?_
   refine wp_skip ?_
   refine blk_n ?_
   refine then_n ?_
   refine region_pl ?_
   refine q_ hf rfl rfl rfl (e_move hf rfl) fun a hf => ?_
   obtain ⟨z44, hz45, h20⟩ := bind_some h20
   refine q_ hf rfl rfl rfl (e_add hf rfl rfl hz45) fun a hf => ?_
   refine q_ hf rfl rfl rfl (e_assign hf rfl) fun a hf => ?_
   refine pl_nil ?_
   obtain rfl := some_inj h20
   refine then_n ⟨_, rfl, ?_⟩
   exact ⟨z44, rfl, hf.keep ⟨rfl, rfl, rfl, trivial⟩, hM.pick [2, 3] rfl, (chk_R hz45)⟩
  refine cond_f hf rfl hc23 ?_
  refine wp_exit ?_
  refine then_x ?_
  obtain rfl := some_inj h20
  obtain rfl := hd21 _ rfl
  try dsimp only at h13
  refine then_x ?_
  refine exit_hit ?_
  obtain rfl := some_inj h13
  refine then_n ?_
  exact ⟨rfl, hf.keep trivial, hM.pick [0, 1] rfl⟩
 rintro a w52 ⟨rfl, hf, hM⟩
 try dsimp only at h
 refine wp_seq ?_
 refine region_pl ?_
 refine q_ hf rfl rfl rfl (e_assign hf rfl) fun a hf => ?_
 refine pl_nil ?_
 refine then_n ?_
 refine wp_ret ?_
 obtain rfl := some_inj h
 exact leave1 hf rfl rfl ⟨rfl, hM.fin⟩

set_option maxRecDepth 100000 in
set_option maxHeartbeats 4000000 in
theorem r_spec_l06Equal (C : Cx) (a1 : Node) (b2 : Nat) (o3 : Nat) (hp4 : (ptrRep NodeRep).R C.w0 C.S0 a1 [vP b2 o3]) (b5 : Node) (b6 : Nat) (o7 : Nat) (hp8 : (ptrRep NodeRep).R C.w0 C.S0 b5 [vP b6 o7]) (r : Bool) (h : m_spec_l06Equal a1 b5 = some r) :
    Calls Tryd.prog 100 #[vP b2 (o3), vP b6 (o7)] C.w0 fun e w => e = .returned (.bool (r)) ∧ Mem C w [] [] := by
 have hM := Mem.begin C [.dat (ptrRep NodeRep) b5 [vP b6 o7], .dat (ptrRep NodeRep) a1 [vP b2 o3]] ⟨hp8, hp4, trivial⟩
 refine enter Tryd.func100 rfl Tryd.ntmps100 rfl fun a hf => ?_
 unfold m_spec_l06Equal at h
 refine wp_seq ?_
 refine region_pl ?_
 refine q_ hf rfl rfl rfl (e_assign hf rfl) fun a hf => ?_
 refine pl_nil ?_
 refine then_n ?_
 obtain ⟨x11, h12, h⟩ := bind_some h
 refine seq_join (fun a w => ∃ (t9 : Bool), t9 = x11 ∧ Has 36 a [(4, .bool (t9))] ∧ Mem C w [] [.dat (ptrRep NodeRep) b5 [vP b6 o7], .dat (ptrRep NodeRep) a1 [vP b2 o3]]) ?_ ?_
 ·obtain ⟨w13, hw⟩ : ∃ x, x = C.w0.drew := ⟨_, rfl⟩
  refine region_pi (.q 0 (.q 1 (.q 2 (.q 3 (.q 4 (.q 5 (.q 6 (.q 7 (.q 8 (.q 9 (.q 10 (.q 11 (.q 12 (.q 13 (.q 14 (.q 15 (.q 16 (.q 17 (.q 18 (.q 19 (.q 20 (.q 21 (.q 22 (.q 23 (.q 24 (.q 25 (.q 26 (.q 27 (.q 28 (.l 29 (.q 30 (.q 31 (.nil))))))))))))))))))))))))))))))))) (Ext w13) rfl (by kernel_rfl) ?_
  have hM := hM.drew
  rw [← hw] at hM ⊢
  clear hw
  refine pi_q hf rfl rfl rfl rfl (Ext.refl _) (e_move hf rfl) fun a hf => ?_
  refine pi_q hf rfl rfl rfl rfl (Ext.refl _) (e_nil hf rfl) fun a hf => ?_
  obtain ⟨_, hr14, hM⟩ := hM.deref (hM.dat (k := 1) rfl)
  obtain ⟨A16, c17, rfl, hv15, hv18⟩ := NodeRep_open hr14
  have hM := hM.add (y := .dat (sliceRep intRep) a1.Next [vL A16 a1.Next c17]) hv18
  refine pi_q hf rfl rfl rfl rfl (Ext.refl _) (e_field hf rfl Tryd.underlying76 rfl Tryd.sizeOf4 (o' := o3 + 0) rfl) fun a hf => ?_
  refine pi_q hf rfl rfl rfl rfl (Ext.refl _) (e_load1 hf rfl Tryd.isAgg4 (hM.litCell (k := 1) (j := 0) rfl rfl rfl)) fun a hf => ?_
  refine pi_q hf rfl rfl rfl rfl (Ext.refl _) (e_move hf rfl) fun a hf => ?_
  refine pi_q hf rfl rfl rfl rfl (Ext.refl _) (e_nil hf rfl) fun a hf => ?_
  obtain ⟨_, hr19, hM⟩ := hM.deref (hM.dat (k := 2) rfl)
  obtain ⟨A21, c22, rfl, hv20, hv23⟩ := NodeRep_open hr19
  have hM := hM.add (y := .dat (sliceRep intRep) b5.Next [vL A21 b5.Next c22]) hv23
  refine pi_q hf rfl rfl rfl rfl (Ext.refl _) (e_field hf rfl Tryd.underlying76 rfl Tryd.sizeOf4 (o' := o7 + 0) rfl) fun a hf => ?_
  refine pi_q hf rfl rfl rfl rfl (Ext.refl _) (e_load1 hf rfl Tryd.isAgg4 (hM.litCell (k := 1) (j := 0) rfl rfl rfl)) fun a hf => ?_
  refine pi_q hf rfl rfl rfl rfl (Ext.refl _) (e_eqT hf rfl rfl Tryd.underlying4) fun a hf => ?_
  refine pi_q hf rfl rfl rfl rfl (Ext.refl _) (e_move hf rfl) fun a hf => ?_
  rcases cond_some h12 with ⟨hc24, h12⟩ | ⟨hc24, h12⟩
  ·refine pi_gq hf rfl (wanted_t hf rfl rfl rfl rfl hc24) rfl rfl (Ext.refl _) (e_move hf rfl) fun a hf => ?_
   refine pi_gq hf rfl (wanted_t hf rfl rfl rfl rfl hc24) rfl rfl (Ext.refl _) (e_nil hf rfl) fun a hf => ?_
   refine pi_gq hf rfl (wanted_t hf rfl rfl rfl rfl hc24) rfl rfl (Ext.refl _) (e_field hf rfl Tryd.underlying76 rfl Tryd.sizeOf9 (o' := o3 + 1) rfl) fun a hf => ?_
   refine pi_gq hf rfl (wanted_t hf rfl rfl rfl rfl hc24) rfl rfl (Ext.refl _) (e_load1 hf rfl Tryd.isAgg9 (hM.litCell (k := 3) (j := 1) rfl rfl rfl)) fun a hf => ?_
   refine pi_gq hf rfl (wanted_t hf rfl rfl rfl rfl hc24) rfl rfl (Ext.refl _) (e_move hf rfl) fun a hf => ?_
   refine pi_gq hf rfl (wanted_t hf rfl rfl rfl rfl hc24) rfl rfl (Ext.refl _) (e_nil hf rfl) fun a hf => ?_
   refine pi_gq hf rfl (wanted_t hf rfl rfl rfl rfl hc24) rfl rfl (Ext.refl _) (e_field hf rfl Tryd.underlying76 rfl Tryd.sizeOf9 (o' := o7 + 1) rfl) fun a hf => ?_
   refine pi_gq hf rfl (wanted_t hf rfl rfl rfl rfl hc24) rfl rfl (Ext.refl _) (e_load1 hf rfl Tryd.isAgg9 (hM.litCell (k := 1) (j := 1) rfl rfl rfl)) fun a hf => ?_
   refine pi_gq hf rfl (wanted_t hf rfl rfl rfl rfl hc24) rfl rfl (Ext.refl _) (e_eqS hf (x := a1.Letters) (y := b5.Letters) rfl rfl) fun a hf => ?_
   refine pi_q hf rfl rfl rfl rfl (Ext.refl _) (e_pick_t hf rfl hc24 rfl) fun a hf => ?_
   refine pi_q hf rfl rfl rfl rfl (Ext.refl _) (e_move hf rfl) fun a hf => ?_
   rcases cond_some h12 with ⟨hc25, h12⟩ | ⟨hc25, h12⟩
   ·refine pi_gq hf rfl (wanted_t hf rfl rfl rfl rfl hc25) rfl rfl (Ext.refl _) (e_move hf rfl) fun a hf => ?_
    refine pi_gq hf rfl (wanted_t hf rfl rfl rfl rfl hc25) rfl rfl (Ext.refl _) (e_nil hf rfl) fun a hf => ?_
    refine pi_gq hf rfl (wanted_t hf rfl rfl rfl rfl hc25) rfl rfl (Ext.refl _) (e_field hf rfl Tryd.underlying76 rfl Tryd.sizeOf31 (o' := o3 + 2) rfl) fun a hf => ?_
    refine pi_gq hf rfl (wanted_t hf rfl rfl rfl rfl hc25) rfl rfl (Ext.refl _) (e_load1 hf rfl Tryd.isAgg31 (hM.litCell (k := 3) (j := 2) rfl rfl rfl)) fun a hf => ?_
    refine pi_gq hf rfl (wanted_t hf rfl rfl rfl rfl hc25) rfl rfl (Ext.refl _) (e_move hf rfl) fun a hf => ?_
    refine pi_gq hf rfl (wanted_t hf rfl rfl rfl rfl hc25) rfl rfl (Ext.refl _) (e_nil hf rfl) fun a hf => ?_
    refine pi_gq hf rfl (wanted_t hf rfl rfl rfl rfl hc25) rfl rfl (Ext.refl _) (e_field hf rfl Tryd.underlying76 rfl Tryd.sizeOf31 (o' := o7 + 2) rfl) fun a hf => ?_
    refine pi_gq hf rfl (wanted_t hf rfl rfl rfl rfl hc25) rfl rfl (Ext.refl _) (e_load1 hf rfl Tryd.isAgg31 (hM.litCell (k := 1) (j := 2) rfl rfl rfl)) fun a hf => ?_
    refine pi_one ?_
    obtain ⟨y26, hz27, h12⟩ := bind_some h12
    refine pi_gl hf rfl (wanted_t hf rfl rfl rfl rfl hc25) rfl rfl (w_call hf Tryd.call117 rfl (r_spec_l00Same ⟨_, Sh C _ _, none_, hM.sh_lt, none_not, C.G, hM.g_lt, g_none, hM.tabs⟩ a1.Next _ _ (hM.dat (k := 2) rfl) b5.Next _ _ (hM.dat (k := 0) rfl) _ hz27) ?_)
    rintro _ w28 ⟨rfl, hM2⟩
    obtain ⟨hM, hx29, hup30⟩ := hM.back hM2
    dsimp only [List.cons_append, List.nil_append] at hM hup30
    clear hM2
    refine ⟨_, rfl, Ext w28, fun _ h => Ext.trans hx29 h, Ext.refl _, fun a hf => ?_⟩
    refine pi_q hf rfl rfl rfl rfl (Ext.refl _) (e_pick_t hf rfl hc25 rfl) fun a hf => ?_
    refine pi_q hf rfl rfl rfl rfl (Ext.refl _) (e_assign hf rfl) fun a hf => ?_
    refine pi_nil ?_
    obtain rfl := some_inj h12
    refine then_n ?_
    exact ⟨y26, rfl, hf.keep ⟨rfl, trivial⟩, hM.pick [4, 5] rfl⟩
   iterate 8 refine pi_gs hf rfl (wanted_f hf rfl rfl rfl rfl hc25) rfl rfl (Ext.refl _) fun a hf => ?_
   refine pi_one ?_
   refine pi_ls hf rfl (wanted_f hf rfl rfl rfl rfl hc25) rfl rfl (Ext.refl _) fun a hf => ?_
   refine pi_q hf rfl rfl rfl rfl (Ext.refl _) (e_pick_f hf rfl hc25 rfl) fun a hf => ?_
   refine pi_q hf rfl rfl rfl rfl (Ext.refl _) (e_assign hf rfl) fun a hf => ?_
   refine pi_nil ?_
   obtain rfl := some_inj h12
   refine then_n ?_
   exact ⟨false, rfl, hf.keep ⟨rfl, trivial⟩, hM.pick [4, 5] rfl⟩
  iterate 9 refine pi_gs hf rfl (wanted_f hf rfl rfl rfl rfl hc24) rfl rfl (Ext.refl _) fun a hf => ?_
  refine pi_q hf rfl rfl rfl rfl (Ext.refl _) (e_pick_f hf rfl hc24 rfl) fun a hf => ?_
  refine pi_q hf rfl rfl rfl rfl (Ext.refl _) (e_move hf rfl) fun a hf => ?_
  iterate 8 refine pi_gs hf rfl (wanted_f hf rfl rfl rfl rfl rfl) rfl rfl (Ext.refl _) fun a hf => ?_
  refine pi_one ?_
  refine pi_ls hf rfl (wanted_f hf rfl rfl rfl rfl rfl) rfl rfl (Ext.refl _) fun a hf => ?_
  refine pi_q hf rfl rfl rfl rfl (Ext.refl _) (e_pick_f hf rfl rfl rfl) fun a hf => ?_
  refine pi_q hf rfl rfl rfl rfl (Ext.refl _) (e_assign hf rfl) fun a hf => ?_
  refine pi_nil ?_
  obtain rfl := some_inj h12
  refine then_n ?_
  exact ⟨false, rfl, hf.keep ⟨rfl, trivial⟩, hM.pick [4, 5] rfl⟩
 rintro a w34 ⟨t9, rfl, hf, hM⟩
 try dsimp only at h
 refine wp_ret ?_
 obtain rfl := some_inj h
 exact leave1 hf rfl rfl ⟨rfl, hM.fin⟩

def Ct_spec_l06B_build (rc : l06B → (List Str) → Option (Int × l06B)) : Prop := ∀ (C : Cx) (b1 : l06B) (b2 : Nat) (A3 : Option Addr) (c4 : Nat) (list5 : (List Str)) (A6 : Option Addr) (c7 : Nat) (hp8 : (sliceRep strRep).R C.w0 C.S0 list5 [vL A6 list5 c7]) (hO : Mem C C.w0 [.box b2 [vL A3 (b1.nodes) c4] 140, .row NodeRep A3 c4 76 b1.nodes true] []) (hd : ∀ b, C.S0 b → ¬ ownB [.box b2 [vL A3 (b1.nodes) c4] 140, .row NodeRep A3 c4 76 b1.nodes true] b) (r : (Int × l06B)) (h : rc b1 list5 = some r),
    Calls Tryd.prog 97 #[vP b2 (0), vL A6 (list5) c7] C.w0 fun e w => ∃ (A_1 : Option Addr), ∃ (c_1 : Nat), e = .returned (vI (r.1)) ∧ Mem C w [.box b2 [vL A_1 (r.2.nodes) c_1] 140, .row NodeRep A_1 c_1 76 r.2.nodes true] [] ∧ R64 r.1

set_option maxRecDepth 100000 in
set_option maxHeartbeats 4000000 in
theorem r_spec_l06B_build_b (rc : l06B → (List Str) → Option (Int × l06B)) (ih : Ct_spec_l06B_build rc) : Ct_spec_l06B_build (m_spec_l06B_build_b rc) := by
 intro C b1 b2 A3 c4 list5 A6 c7 hp8 hO hd r h
 have hM := hO
 have hM := hM.addIn hd (y := .dat (sliceRep strRep) list5 [vL A6 list5 c7]) hp8
 refine enter Tryd.func97 rfl Tryd.ntmps97 rfl fun a hf => ?_
 unfold m_spec_l06B_build_b at h
 refine wp_seq ?_
 refine region_pl ?_
 refine q_ hf rfl rfl rfl (e_assign hf rfl) fun a hf => ?_
 refine pl_nil ?_
 refine then_n ?_
 refine wp_seq ?_
 refine region_pl ?_
 refine q_ hf rfl rfl rfl (e_build hf Tryd.zeroValue76 Tryd.underlying76 (bp_76 _ Tryd.underlying76.symm) rfl (cs := #[.bool (false), vS (([] : Str)), vL none (([] : (List Int))) 0]) (by kernel_rfl)) fun a hf => ?_
 refine pl_l hf rfl rfl rfl (w_alloc hM (cs := [.bool (false), vS (([] : Str)), vL none (([] : (List Int))) 0]) Tryd.zeroValue76 rfl fun b9 w10 hx11 hM a hf => ?_)
 refine pl_0 hf rfl rfl (w_store hf hM (us := [.bool (false), vS (([] : Str)), vL none (([] : (List Int))) 0]) (cs' := [.bool (false), vS (([] : Str)), vL none (([] : (List Int))) 0]) rfl rfl (k := 0) rfl rfl Tryd.sizeOf76 rfl rfl rfl fun w13 hM => ?_)
 dsimp only [List.set] at hM
 refine pl_nil ?_
 refine then_n ?_
 refine wp_seq ?_
 refine region_pl ?_
 refine q_ hf rfl rfl rfl (e_assign hf rfl) fun a hf => ?_
 refine pl_nil ?_
 refine then_n ?_
 obtain ⟨x20, h21, h⟩ := bind_some h
 refine seq_join (fun a w => ∃ (t16 : Bool) (next18 : Int), (t16, next18) = x20 ∧ Has 82 a [(0, vP b2 (0)), (1, vL A6 (list5) c7), (5, vP b9 (0)), (6, vI (next18))] ∧ Mem C w [.box b9 [.bool (t16), vS (([] : Str)), vL none (([] : (List Int))) 0] 76, .box b2 [vL A3 (b1.nodes) c4] 140, .row NodeRep A3 c4 76 b1.nodes true] [.dat (sliceRep strRep) list5 [vL A6 list5 c7]] ∧ R64 next18) ?_ ?_
 ·obtain ⟨x24, h25, h21⟩ := bind_some h21
  refine seq_join (fun a w => ∃ (t22 : Bool), t22 = x24 ∧ Has 82 a [(0, vP b2 (0)), (1, vL A6 (list5) c7), (5, vP b9 (0)), (6, vI (0)), (19, .bool (t22))] ∧ Mem C w [.box b9 [.bool (false), vS (([] : Str)), vL none (([] : (List Int))) 0] 76, .box b2 [vL A3 (b1.nodes) c4] 140, .row NodeRep A3 c4 76 b1.nodes true] [.dat (sliceRep strRep) list5 [vL A6 list5 c7]]) ?_ ?_
  ·refine region_pl ?_
   refine q_ hf rfl rfl rfl (e_move hf rfl) fun a hf => ?_
   have hl26 := slice_len (hM.dat (k := 0) rfl)
   refine q_ hf rfl rfl rfl (e_lenL hf (x := list5) rfl Tryd.underlying28) fun a hf => ?_
   refine q_ hf rfl rfl rfl (e_gt hf (x := (list5.length : Int)) (y := 0) rfl rfl) fun a hf => ?_
   refine q_ hf rfl rfl rfl (e_move hf rfl) fun a hf => ?_
   rcases cond_some h25 with ⟨hc27, h25⟩ | ⟨hc27, h25⟩
   ·refine gq (wanted_t hf rfl rfl rfl rfl hc27) hf rfl rfl (e_move hf rfl) fun a hf => ?_
    obtain ⟨e28, hz29, h25⟩ := bind_some h25
    obtain ⟨b33, o34, _, hA35, h30, h31, hr32, hM⟩ := hM.elem (hM.dat (k := 0) rfl) (n := 1) rfl hz29
    obtain ⟨rfl, hv36⟩ := hr32
    refine gq (wanted_t hf rfl rfl rfl rfl hc27) hf rfl rfl (e_indexAddr (A := A6) (b := b33) (o := o34) (xs := list5) (i := 0) hf hA35 rfl rfl Tryd.underlying28 Tryd.sizeOf9 h30 h31) fun a hf => ?_
    refine gq (wanted_t hf rfl rfl rfl rfl hc27) hf rfl rfl (e_load1 hf rfl Tryd.isAgg9 (hM.litCell (k := 0) (j := 0) rfl rfl rfl)) fun a hf => ?_
    refine gq (wanted_t hf rfl rfl rfl rfl hc27) hf rfl rfl (e_eqS hf (x := e28) (y := ([] : Str)) rfl rfl) fun a hf => ?_
    refine q_ hf rfl rfl rfl (e_pick_t hf rfl hc27 rfl) fun a hf => ?_
    refine pl_nil ?_
    obtain rfl := some_inj h25
    refine then_n ?_
    exact ⟨(e28 == ([] : Str)), rfl, hf.keep ⟨rfl, rfl, rfl, rfl, rfl, trivial⟩, hM.pick [1] rfl⟩
   iterate 4 refine pl_gs (wanted_f hf rfl rfl rfl rfl hc27) hf rfl rfl fun a hf => ?_
   refine q_ hf rfl rfl rfl (e_pick_f hf rfl hc27 rfl) fun a hf => ?_
   refine pl_nil ?_
   obtain rfl := some_inj h25
   refine then_n ?_
   exact ⟨false, rfl, hf.keep ⟨rfl, rfl, rfl, rfl, rfl, trivial⟩, hM.pick [0] rfl⟩
  rintro a w39 ⟨t22, rfl, hf, hM⟩
  try dsimp only at h21
  rcases cond_some h21 with ⟨hc40, h21⟩ | ⟨hc40, h21⟩
  ·refine cond_t hf rfl hc40 ?_
   refine wp_seq ?_
   refine region_pl ?_
   refine q_ hf rfl rfl rfl (e_field hf rfl Tryd.underlying76 rfl Tryd.sizeOf4 (o' := 0) rfl) fun a hf => ?_
   refine pl_0 hf rfl rfl (w_store hf hM (us := [.bool (true)]) (cs' := [.bool (true), vS (([] : Str)), vL none (([] : (List Int))) 0]) rfl rfl (k := 0) rfl rfl Tryd.sizeOf4 rfl rfl rfl fun w41 hM => ?_)
   dsimp only [List.set] at hM
   refine pl_nil ?_
   refine then_n ?_
   refine region_pl ?_
   refine q_ hf rfl rfl rfl (e_assign hf rfl) fun a hf => ?_
   refine pl_nil ?_
   obtain rfl := some_inj h21
   refine then_n ?_
   exact ⟨true, 1, rfl, hf.keep ⟨rfl, rfl, rfl, rfl, trivial⟩, hM.pick [0] rfl, (R64_lit rfl)⟩
  refine cond_f hf rfl hc40 ?_
  refine wp_skip ?_
  obtain rfl := some_inj h21
  refine then_n ?_
  exact ⟨false, 0, rfl, hf.keep ⟨rfl, rfl, rfl, rfl, trivial⟩, hM.pick [0] rfl, (R64_lit rfl)⟩
 rintro a w46 ⟨t16, next18, rfl, hf, hM, hv19⟩
 try dsimp only at h
 obtain ⟨x55, h56, h⟩ := bind_some h
 refine seq_join (fun a w => ∃ (s47 : Str) (xs49 : (List Int)) (xs52 : (List Node)) (A50 : Option Addr) (c51 : Nat) (A53 : Option Addr) (c54 : Nat), (s47, xs49, xs52) = x55 ∧ Has 82 a [(0, vP b2 (0)), (5, vP b9 (0))] ∧ Mem C w [.row intRep A50 c51 2 xs49 true, .box b9 [.bool (t16), vS (s47), vL A50 (xs49) c51] 76, .box b2 [vL A53 (xs52) c54] 140, .row NodeRep A53 c54 76 xs52 true] [.dat (sliceRep strRep) list5 [vL A6 list5 c7]] ∧ s47.length ≤ maxLen) ?_ ?_
 ·refine wp_block ?_
  have hM := hM.nilRow intRep 2
  obtain ⟨x76, h77, h56⟩ := bind_some h56
  refine wp_loopM h77 (fun s a w => ∃ (s57 : Str) (xs59 : (List Node)) (xs62 : (List Int)) (next65 : Int) (A60 : Option Addr) (c61 : Nat) (A63 : Option Addr) (c64 : Nat), (s57, xs59, xs62, next65) = s ∧ Has 82 a [(0, vP b2 (0)), (1, vL A6 (list5) c7), (5, vP b9 (0)), (6, vI (next65))] ∧ Mem C w [.row intRep A63 c64 2 xs62 true, .box b9 [.bool (t16), vS (s57), vL A63 (xs62) c64] 76, .box b2 [vL A60 (xs59) c61] 140, .row NodeRep A60 c61 76 xs59 true] [.dat (sliceRep strRep) list5 [vL A6 list5 c7]] ∧ s57.length ≤ maxLen ∧ R64 next65) ?_ ?_
  ·exact ⟨([] : Str), b1.nodes, ([] : (List Int)), next18, A3, c4, none, 0, rfl, hf.keep ⟨rfl, rfl, rfl, rfl, trivial⟩, hM.pick [0] rfl, (lit_len rfl), hv19⟩
  rintro s o78 a w67 ⟨s57, xs59, xs62, next65, A60, c61, A63, c64, rfl, hf, hM, hv58, hv66⟩ h79 hd80
  replace h79 : m_spec_l06B_build_l1 list5 rc s57 xs59 xs62 next65 = some o78 := h79
  unfold m_spec_l06B_build_l1 at h79
  iterate 2 refine wp_seq ?_
  refine region_pl ?_
  iterate 2 refine q_ hf rfl rfl rfl (e_move hf rfl) fun a hf => ?_
  have hl81 := slice_len (hM.dat (k := 0) rfl)
  refine q_ hf rfl rfl rfl (e_lenL hf (x := list5) rfl Tryd.underlying28) fun a hf => ?_
  refine q_ hf rfl rfl rfl (e_lt hf (x := next65) (y := (list5.length : Int)) rfl rfl) fun a hf => ?_
  refine pl_nil ?_
  refine then_n ?_
  rcases cond_some h79 with ⟨hc82, h79⟩ | ⟨hc82, h79⟩
  ·refine cond_t hf rfl hc82 ?_
   refine wp_skip ?_
   refine then_n ?_
   refine wp_block ?_
   refine wp_seq ?_
   refine region_pl ?_
   iterate 2 refine q_ hf rfl rfl rfl (e_move hf rfl) fun a hf => ?_
   obtain ⟨y83, hz84, h79⟩ := bind_some h79
   refine pl_l hf rfl rfl rfl (w_call hf Tryd.call115 rfl (r_spec_l06Tails ⟨_, Sh C _ _, none_, hM.sh_lt, none_not, C.G, hM.g_lt, g_none, hM.tabs⟩ list5 _ _ (hM.dat (k := 0) rfl) next65 hv66 _ hz84) ?_)
   rintro _ w88 ⟨A85, c86, rfl, hM2, hv87⟩
   obtain ⟨hM, hx89, hup90⟩ := hM.back hM2
   dsimp only [List.cons_append, List.nil_append] at hM hup90
   clear hM2
   refine ⟨_, rfl, fun a hf => ?_⟩
   refine q_ hf rfl rfl rfl (e_move hf rfl) fun a hf => ?_
   iterate 2 refine q_ hf rfl rfl rfl (e_extract hf rfl rfl) fun a hf => ?_
   iterate 2 refine q_ hf rfl rfl rfl (e_assign hf rfl) fun a hf => ?_
   refine pl_nil ?_
   refine then_n ?_
   refine wp_seq ?_
   obtain ⟨w91, hw⟩ : ∃ x, x = w88.drew := ⟨_, rfl⟩
   refine region_pi (.q 0 (.q 1 (.q 2 (.q 3 (.q 4 (.q 5 (.q 6 (.q 7 (.q 8 (.l 9 (.nil))))))))))) (Ext w91) rfl (by kernel_rfl) ?_
   have hM := hM.drew
   rw [← hw] at hM ⊢
   clear hw
   refine pi_q hf rfl rfl rfl rfl (Ext.refl _) (e_field hf rfl Tryd.underlying76 rfl Tryd.sizeOf9 (o' := 1) rfl) fun a hf => ?_
   refine pi_q hf rfl rfl rfl rfl (Ext.refl _) (e_load1 hf rfl Tryd.isAgg9 (hM.boxCell (k := 2) rfl rfl)) fun a hf => ?_
   iterate 2 refine pi_q hf rfl rfl rfl rfl (Ext.refl _) (e_move hf rfl) fun a hf => ?_
   obtain ⟨e92, hz93, h79⟩ := bind_some h79
   obtain ⟨b97, o98, _, hA99, h94, h95, hr96, hM⟩ := hM.elem (hM.dat (k := 0) rfl) (n := 1) rfl hz93
   obtain ⟨rfl, hv100⟩ := hr96
   refine pi_q hf rfl rfl rfl rfl (Ext.refl _) (e_indexAddr (A := A6) (b := b97) (o := o98) (xs := list5) (i := next65) hf hA99 rfl rfl Tryd.underlying28 Tryd.sizeOf9 h94 h95) fun a hf => ?_
   refine pi_q hf rfl rfl rfl rfl (Ext.refl _) (e_load1 hf rfl Tryd.isAgg9 (hM.litCell (k := 0) (j := 0) rfl rfl rfl)) fun a hf => ?_
   obtain ⟨s101, hz102, h79⟩ := bind_some h79
   refine pi_q hf rfl rfl rfl rfl (Ext.refl _) (e_subSh hf (x := e92) rfl rfl Tryd.underlying9 hz102) fun a hf => ?_
   obtain ⟨s103, hz104, h79⟩ := bind_some h79
   refine pi_q hf rfl rfl rfl rfl (Ext.refl _) (e_cat hf (x := s57) (y := s101) rfl rfl hz104) fun a hf => ?_
   refine pi_q hf rfl rfl rfl rfl (Ext.refl _) (e_field hf rfl Tryd.underlying76 rfl Tryd.sizeOf9 (o' := 1) rfl) fun a hf => ?_
   refine pi_one ?_
   refine pi_z0 hf rfl rfl rfl (by kernel_rfl) (w_store hf hM (us := [vS (s103)]) (cs' := [.bool (t16), vS (s103), vL A63 (xs62) c64]) rfl rfl (k := 2) rfl rfl Tryd.sizeOf9 rfl rfl rfl fun w105 hM => ?_)
   dsimp only [List.set] at hM
   refine pi_nil ?_
   refine then_n ?_
   refine wp_seq ?_
   obtain ⟨w108, hw⟩ : ∃ x, x = w105.drew := ⟨_, rfl⟩
   refine region_pi (.q 0 (.q 1 (.q 2 (.q 3 (.l 4 (.l 5 (.l 6 (.q 7 (.l 8 (.nil)))))))))) (ExtM [some b2, A60.map (·.block)] w108) rfl (by kernel_rfl) ?_
   have hM := hM.drew
   rw [← hw] at hM ⊢
   clear hw
   refine pi_q hf rfl rfl rfl rfl (ExtM.refl _ _) (e_field hf rfl Tryd.underlying76 rfl Tryd.sizeOf31 (o' := 2) rfl) fun a hf => ?_
   refine pi_q hf rfl rfl rfl rfl (ExtM.refl _ _) (e_load1M hf rfl Tryd.isAgg31 (hM.boxCell (k := 2) rfl rfl) (hM.apart (js := [3, 4]) rfl (k := 2) rfl rfl rfl)) fun a hf => ?_
   iterate 2 refine pi_q hf rfl rfl rfl rfl (ExtM.refl _ _) (e_move hf rfl) fun a hf => ?_
   refine pi_one ?_
   have hM := hM.freezeRow (k := 0) rfl rfl
   dsimp only [List.eraseIdx] at hM
   have hM := hM.front (k := 3) rfl
   dsimp only [List.eraseIdx] at hM
   have hM := hM.front (k := 3) rfl
   dsimp only [List.eraseIdx] at hM
   have hM : Mem C _ ([.box b2 [vL A60 (xs59) c61] 140, .row NodeRep A60 c61 76 xs59 true] ++ [.row intRep A63 c64 2 xs62 true, .box b9 [.bool (t16), vS (s103), vL A63 (xs62) c64] 76]) _ := hM
   obtain ⟨y109, hz110, h79⟩ := bind_some h79
   refine pi_l hf rfl rfl rfl rfl (w_call hf Tryd.call97 rfl (ih ⟨_, Sh C _ _, ownB _, hM.sh_lt, sub_dis, C.G, hM.g_lt, hM.g_own, hM.tabs⟩ (⟨xs59⟩ : l06B) _ _ _ y83.1 _ _ (hM.dat (k := 0) rfl) hM.sub sub_dis _ hz110) ?_)
   rintro _ w114 ⟨A111, c112, rfl, hM2, hv113⟩
   have hxm117 := ExtM.ofChg (bs := [some b2, A60.map (·.block)]) hM2.chg ⟨List.mem_of_getElem? (i := 0) rfl, List.mem_of_getElem? (i := 1) rfl, trivial⟩
   have hsz118 := hM2.chg.size
   obtain ⟨hM, hup116⟩ := hM.backG hM2
   dsimp only [List.cons_append, List.nil_append] at hM hup116
   clear hM2
   refine ⟨_, rfl, Ext w114, fun _ h => ExtM.last hxm117 hsz118 h, Ext.refl _, fun a hf => ?_⟩
   refine pi_one ?_
   refine pi_l hf rfl rfl rfl rfl (w_slice hf hM (K := intRep) (xs := ([y109.1] : (List Int))) (os := [.tmp 44]) Tryd.underlying31 ei_2 rfl rfl rfl rfl rfl ⟨⟨[vI (y109.1)], rfl, ⟨rfl, hv113⟩⟩, trivial⟩ rfl fun b119 w120 hx121 hM => ⟨Ext w120, fun _ h => Ext.trans hx121 h, Ext.refl _, fun a hf => ?_⟩)
   refine pi_one ?_
   obtain ⟨xs122, hz123, h79⟩ := bind_some h79
   refine pi_z hf rfl rfl rfl rfl (by kernel_rfl) (w_append hf hM Tryd.underlying31 ei_2 rfl rfl rfl (k := 3) rfl (hM.srcRow (k := 0) rfl) hz123 fun A124 c125 w126 hM a hf => ?_)
   dsimp only [List.set] at hM
   refine pi_q hf rfl rfl rfl rfl (Ext.refl _) (e_field hf rfl Tryd.underlying76 rfl Tryd.sizeOf31 (o' := 2) rfl) fun a hf => ?_
   refine pi_one ?_
   refine pi_z0 hf rfl rfl rfl (by kernel_rfl) (w_store hf hM (us := [vL A124 (xs122) c125]) (cs' := [.bool (t16), vS (s103), vL A124 (xs122) c125]) rfl rfl (k := 4) rfl rfl Tryd.sizeOf31 rfl rfl rfl fun w129 hM => ?_)
   dsimp only [List.set] at hM
   refine pi_nil ?_
   refine then_n ?_
   refine region_pl ?_
   refine q_ hf rfl rfl rfl (e_move hf rfl) fun a hf => ?_
   refine q_ hf rfl rfl rfl (e_assign hf rfl) fun a hf => ?_
   refine pl_nil ?_
   refine blk_n ?_
   obtain rfl := some_inj h79
   refine then_n ⟨_, rfl, ?_⟩
   have hM := hM.front (k := 2) rfl
   dsimp only [List.eraseIdx] at hM
   have hM := hM.front (k := 2) rfl
   dsimp only [List.eraseIdx] at hM
   have hM := hM.front (k := 4) rfl
   dsimp only [List.eraseIdx] at hM
   have hM := hM.front (k := 4) rfl
   dsimp only [List.eraseIdx] at hM
   exact ⟨s103, y109.2.nodes, xs122, y83.2, A111, c112, A124, c125, rfl, hf.keep ⟨rfl, rfl, rfl, rfl, trivial⟩, (hM.drop (.cons_cons _ (.cons_cons _ (.cons_cons _ (.cons_cons _ (.cons _ .slnil)))))).pick [2] rfl, (cat_len hz104), hv87⟩
  refine cond_f hf rfl hc82 ?_
  refine wp_exit ?_
  refine then_x ?_
  obtain rfl := some_inj h79
  obtain rfl := hd80 _ rfl
  try dsimp only at h56
  refine then_x ?_
  refine exit_hit ?_
  obtain rfl := some_inj h56
  refine then_n ?_
  exact ⟨s57, xs62, xs59, A63, c64, A60, c61, rfl, hf.keep ⟨rfl, rfl, trivial⟩, hM.pick [0] rfl, hv58⟩
 rintro a w137 ⟨s47, xs49, xs52, A50, c51, A53, c54, rfl, hf, hM, hv48⟩
 try dsimp only at h
 obtain ⟨x138, h139, h⟩ := bind_some h
 refine seq_join (fun a w => (.inl ()) = x138 ∧ Has 82 a [(0, vP b2 (0)), (5, vP b9 (0))] ∧ Mem C w [.row intRep A50 c51 2 xs49 true, .box b9 [.bool (t16), vS (s47), vL A50 (xs49) c51] 76, .box b2 [vL A53 (xs52) c54] 140, .row NodeRep A53 c54 76 xs52 true] [.dat (sliceRep strRep) list5 [vL A6 list5 c7]]) ?_ ?_
 ·refine wp_seq ?_
  refine region_pl ?_
  refine q_ hf rfl rfl rfl (e_assign hf rfl) fun a hf => ?_
  refine pl_nil ?_
  refine then_n ?_
  refine wp_block ?_
  obtain ⟨x143, h144, h139⟩ := bind_some h139
  refine wp_loopM h144 (fun s a w => ∃ (n140 : Int), n140 = s ∧ Has 82 a [(0, vP b2 (0)), (5, vP b9 (0)), (9, vI (n140))] ∧ Mem C w [.row intRep A50 c51 2 xs49 true, .box b9 [.bool (t16), vS (s47), vL A50 (xs49) c51] 76, .box b2 [vL A53 (xs52) c54] 140, .row NodeRep A53 c54 76 xs52 true] [.dat (sliceRep strRep) list5 [vL A6 list5 c7]] ∧ R64 n140) ?_ ?_
  ·exact ⟨0, rfl, hf.keep ⟨rfl, rfl, rfl, trivial⟩, hM.pick [0] rfl, (R64_lit rfl)⟩
  rintro s o145 a w142 ⟨n140, rfl, hf, hM, hv141⟩ h146 hd147
  replace h146 : m_spec_l06B_build_l2 xs52 t16 s47 xs49 n140 = some o145 := h146
  unfold m_spec_l06B_build_l2 at h146
  iterate 2 refine wp_seq ?_
  refine region_pl ?_
  iterate 2 refine q_ hf rfl rfl rfl (e_move hf rfl) fun a hf => ?_
  refine q_ hf rfl rfl rfl (e_nil hf rfl) fun a hf => ?_
  refine q_ hf rfl rfl rfl (e_field hf rfl Tryd.underlying140 rfl Tryd.sizeOf24 (o' := 0) rfl) fun a hf => ?_
  refine q_ hf rfl rfl rfl (e_load1 hf rfl Tryd.isAgg24 (hM.boxCell (k := 2) rfl rfl)) fun a hf => ?_
  have hl148 := row_len (hM.ownAt (k := 3) rfl)
  refine q_ hf rfl rfl rfl (e_lenL hf (x := xs52) rfl Tryd.underlying24) fun a hf => ?_
  refine q_ hf rfl rfl rfl (e_lt hf (x := n140) (y := (xs52.length : Int)) rfl rfl) fun a hf => ?_
  refine pl_nil ?_
  refine then_n ?_
  rcases cond_some h146 with ⟨hc149, h146⟩ | ⟨hc149, h146⟩
  ·refine cond_t hf rfl hc149 ?_
   refine wp_skip ?_
   refine then_n ?_
   refine wp_seq ?_
   refine wp_block ?_
   refine wp_seq ?_
   refine region_pl ?_
   refine q_ hf rfl rfl rfl (e_move hf rfl) fun a hf => ?_
   refine q_ hf rfl rfl rfl (e_nil hf rfl) fun a hf => ?_
   refine q_ hf rfl rfl rfl (e_field hf rfl Tryd.underlying140 rfl Tryd.sizeOf24 (o' := 0) rfl) fun a hf => ?_
   refine q_ hf rfl rfl rfl (e_load1 hf rfl Tryd.isAgg24 (hM.boxCell (k := 2) rfl rfl)) fun a hf => ?_
   refine q_ hf rfl rfl rfl (e_move hf rfl) fun a hf => ?_
   obtain ⟨e150, hz151, h146⟩ := bind_some h146
   obtain ⟨b156, _, hA157, h152, h153, hr154, hcell155⟩ := hM.rowElemN (k := 3) rfl (n := 3) rfl hz151
   obtain ⟨A159, c160, rfl, hv158, hv161⟩ := NodeRep_open hr154
   have hM := hM.add (y := .dat (sliceRep intRep) e150.Next [vL A159 e150.Next c160]) hv161
   refine q_ hf rfl rfl rfl (e_indexAddr (A := A53) (b := b156) (o := 0) (xs := xs52) (i := n140) hf hA157 rfl rfl Tryd.underlying24 Tryd.sizeOf76 h152 h153) fun a hf => ?_
   obtain ⟨y162, hz163, h146⟩ := bind_some h146
   refine pl_l hf rfl rfl rfl (w_call hf Tryd.call100 rfl (r_spec_l06Equal ⟨_, All C _ _, none_, hM.all_lt, none_not, C.G, hM.g_lt, g_none, hM.tabs⟩ e150 _ _ (hM.lendElem hA157 (k := 3) rfl (n := 3) rfl hz151) (⟨t16, s47, xs49⟩ : Node) _ _ (hM.lendBox (k := 1) rfl (NodeRep_mk (x := (⟨t16, s47, xs49⟩ : Node)) hv48 (hM.lendRow (k := 0) rfl))) _ hz163) ?_)
   rintro _ w164 ⟨rfl, hM2⟩
   obtain ⟨hM, hx165⟩ := hM.backA hM2
   clear hM2
   refine ⟨_, rfl, fun a hf => ?_⟩
   refine pl_nil ?_
   refine then_n ?_
   rcases cond_some h146 with ⟨hc167, h146⟩ | ⟨hc167, h146⟩
   ·refine cond_t hf rfl hc167 ?_
    refine wp_seq ?_
    refine region_pl ?_
    refine q_ hf rfl rfl rfl (e_move hf rfl) fun a hf => ?_
    refine q_ hf rfl rfl rfl (e_assign hf rfl) fun a hf => ?_
    refine pl_nil ?_
    refine then_n ?_
    refine wp_ret ?_
    refine blk_r ?_
    refine then_r ?_
    obtain rfl := some_inj h146
    obtain rfl := hd147 _ rfl
    try dsimp only at h139
    refine then_r ?_
    refine blk_r ?_
    obtain rfl := some_inj h139
    try dsimp only at h
    refine then_r ?_
    obtain rfl := some_inj h
    have hM := hM.front (k := 3) rfl
    dsimp only [List.eraseIdx] at hM
    have hM := hM.front (k := 3) rfl
    dsimp only [List.eraseIdx] at hM
    have hM := hM.outs (own' := [.box b2 [vL A53 (xs52) c54] 140, .row NodeRep A53 c54 76 xs52 true]) 2 rfl
    exact leave1 hf rfl rfl ⟨A53, c54, rfl, hM.fin, hv141⟩
   refine cond_f hf rfl hc167 ?_
   refine wp_skip ?_
   refine blk_n ?_
   refine then_n ?_
   refine region_pl ?_
   refine q_ hf rfl rfl rfl (e_move hf rfl) fun a hf => ?_
   obtain ⟨z168, hz169, h146⟩ := bind_some h146
   refine q_ hf rfl rfl rfl (e_add hf rfl rfl hz169) fun a hf => ?_
   refine q_ hf rfl rfl rfl (e_assign hf rfl) fun a hf => ?_
   refine pl_nil ?_
   obtain rfl := some_inj h146
   refine then_n ⟨_, rfl, ?_⟩
   exact ⟨z168, rfl, hf.keep ⟨rfl, rfl, rfl, trivial⟩, hM.pick [1] rfl, (chk_R hz169)⟩
  refine cond_f hf rfl hc149 ?_
  refine wp_exit ?_
  refine then_x ?_
  obtain rfl := some_inj h146
  obtain rfl := hd147 _ rfl
  try dsimp only at h139
  refine then_x ?_
  refine exit_hit ?_
  obtain rfl := some_inj h139
  refine then_n ?_
  exact ⟨rfl, hf.keep ⟨rfl, rfl, trivial⟩, hM.pick [0] rfl⟩
 rintro a w176 ⟨rfl, hf, hM⟩
 try dsimp only at h
 refine wp_seq ?_
 obtain ⟨w177, hw⟩ : ∃ x, x = w176.drew := ⟨_, rfl⟩
 refine region_pi (.q 0 (.q 1 (.q 2 (.q 3 (.q 4 (.q 5 (.l 6 (.l 7 (.q 8 (.q 9 (.l 10 (.nil)))))))))))) (ExtM [A53.map (·.block)] w177) rfl (by kernel_rfl) ?_
 have hM := hM.drew
 rw [← hw] at hM ⊢
 clear hw
 iterate 2 refine pi_q hf rfl rfl rfl rfl (ExtM.refl _ _) (e_move hf rfl) fun a hf => ?_
 refine pi_q hf rfl rfl rfl rfl (ExtM.refl _ _) (e_nil hf rfl) fun a hf => ?_
 refine pi_q hf rfl rfl rfl rfl (ExtM.refl _ _) (e_field hf rfl Tryd.underlying140 rfl Tryd.sizeOf24 (o' := 0) rfl) fun a hf => ?_
 refine pi_q hf rfl rfl rfl rfl (ExtM.refl _ _) (e_load1M hf rfl Tryd.isAgg24 (hM.boxCell (k := 2) rfl rfl) (hM.apart (js := [3]) rfl (k := 2) rfl rfl rfl)) fun a hf => ?_
 refine pi_q hf rfl rfl rfl rfl (ExtM.refl _ _) (e_loadAM hf (us := [.bool (t16), vS (s47), vL A50 (xs49) c51]) rfl ⟨Tryd.isAgg76, Tryd.sizeOf76⟩ rfl (hM.boxSub (k := 1) (us := [.bool (t16), vS (s47), vL A50 (xs49) c51]) (o := 0) rfl rfl) (hM.apart (js := [3]) rfl (k := 1) rfl rfl rfl)) fun a hf => ?_
 refine pi_one ?_
 have hM := hM.freezeRow (k := 0) rfl rfl
 dsimp only [List.eraseIdx] at hM
 refine pi_l hf rfl rfl rfl rfl (w_slice hf hM (K := NodeRep) (xs := ([(⟨t16, s47, xs49⟩ : Node)] : (List Node))) (os := [.tmp 71]) Tryd.underlying24 ei_76 rfl rfl rfl rfl rfl ⟨⟨[.bool (t16), vS (s47), vL A50 (xs49) c51], rfl, (NodeRep_mk (x := (⟨t16, s47, xs49⟩ : Node)) hv48 (hM.dat (k := 0) rfl))⟩, trivial⟩ rfl fun b178 w179 hx180 hM => ⟨ExtM [A53.map (·.block)] w179, fun _ h => ExtM.trans hx180 h, ExtM.refl _ _, fun a hf => ?_⟩)
 refine pi_one ?_
 obtain ⟨xs181, hz182, h⟩ := bind_some h
 refine pi_l hf rfl rfl rfl rfl (w_appendX hf hM Tryd.underlying24 ei_76 rfl rfl rfl (k := 3) rfl (hM.srcRow (k := 0) rfl) hz182 fun A183 c184 w185 hsz187 hold186 hM => ⟨Ext w185, fun _ h => ExtM.last (ExtM.ofRow (List.mem_of_getElem? (i := 0) rfl) hold186) hsz187 h, Ext.refl _, fun a hf => ?_⟩)
 dsimp only [List.set] at hM
 refine pi_q hf rfl rfl rfl rfl (Ext.refl _) (e_nil hf rfl) fun a hf => ?_
 refine pi_q hf rfl rfl rfl rfl (Ext.refl _) (e_field hf rfl Tryd.underlying140 rfl Tryd.sizeOf24 (o' := 0) rfl) fun a hf => ?_
 refine pi_one ?_
 refine pi_z0 hf rfl rfl rfl (by kernel_rfl) (w_store hf hM (us := [vL A183 (xs181) c184]) (cs' := [vL A183 (xs181) c184]) rfl rfl (k := 2) rfl rfl Tryd.sizeOf24 rfl rfl rfl fun w188 hM => ?_)
 dsimp only [List.set] at hM
 refine pi_nil ?_
 refine then_n ?_
 refine wp_seq ?_
 refine region_pl ?_
 refine q_ hf rfl rfl rfl (e_move hf rfl) fun a hf => ?_
 refine q_ hf rfl rfl rfl (e_nil hf rfl) fun a hf => ?_
 refine q_ hf rfl rfl rfl (e_field hf rfl Tryd.underlying140 rfl Tryd.sizeOf24 (o' := 0) rfl) fun a hf => ?_
 refine q_ hf rfl rfl rfl (e_load1 hf rfl Tryd.isAgg24 (hM.boxCell (k := 2) rfl rfl)) fun a hf => ?_
 have hl191 := row_len (hM.ownAt (k := 3) rfl)
 refine q_ hf rfl rfl rfl (e_lenL hf (x := xs181) rfl Tryd.underlying24) fun a hf => ?_
 obtain ⟨z192, hz193, h⟩ := bind_some h
 refine q_ hf rfl rfl rfl (e_sub hf rfl rfl hz193) fun a hf => ?_
 refine q_ hf rfl rfl rfl (e_assign hf rfl) fun a hf => ?_
 refine pl_nil ?_
 refine then_n ?_
 refine wp_ret ?_
 obtain rfl := some_inj h
 have hM := hM.front (k := 3) rfl
 dsimp only [List.eraseIdx] at hM
 have hM := hM.front (k := 3) rfl
 dsimp only [List.eraseIdx] at hM
 have hM := hM.outs (own' := [.box b2 [vL A183 (xs181) c184] 140, .row NodeRep A183 c184 76 xs181 true]) 2 rfl
 exact leave1 hf rfl rfl ⟨A183, c184, rfl, hM.fin, (chk_R hz193)⟩

theorem r_spec_l06B_build_n : ∀ n, Ct_spec_l06B_build (m_spec_l06B_build_n n)
  | 0 => fun C b1 b2 A3 c4 list5 A6 c7 hp8 hO hd r h => by cases h
  | n + 1 => r_spec_l06B_build_b _ (r_spec_l06B_build_n n)

theorem r_spec_l06B_build : Ct_spec_l06B_build (m_spec_l06B_build) := r_spec_l06B_build_n fuelN

def Ct_spec_l06R_visit (rc : l06R → Int → Option l06R) : Prop := ∀ (C : Cx) (r1 : l06R) (b2 : Nat) (A3 : Option Addr) (c4 : Nat) (hp5 : (sliceRep NodeRep).R C.w0 C.S0 r1.old [vL A3 r1.old c4]) (A6 : Option Addr) (c7 : Nat) (A8 : Option Addr) (c9 : Nat) (k10 : Int) (hp11 : R64 k10) (hO : Mem C C.w0 [.box b2 [vL A3 (r1.old) c4, vL A6 (r1.place) c7, vL A8 (r1.out) c9] 163, .row intRep A6 c7 2 r1.place true, .row NodeNilRep A8 c9 76 r1.out true] []) (hd : ∀ b, C.S0 b → ¬ ownB [.box b2 [vL A3 (r1.old) c4, vL A6 (r1.place) c7, vL A8 (r1.out) c9] 163, .row intRep A6 c7 2 r1.place true, .row NodeNilRep A8 c9 76 r1.out true] b) (r : l06R) (h : rc r1 k10 = some r),
    Calls Tryd.prog 116 #[vP b2 (0), vI (k10)] C.w0 fun e w => ∃ (A_1 : Option Addr), ∃ (c_1 : Nat), ∃ (A_2 : Option Addr), ∃ (c_2 : Nat), e = .returned (.tuple #[]) ∧ Mem C w [.box b2 [vL A3 (r1.old) c4, vL A_1 (r.place) c_1, vL A_2 (r.out) c_2] 163, .row intRep A_1 c_1 2 r.place true, .row NodeNilRep A_2 c_2 76 r.out true] []

set_option maxRecDepth 100000 in
set_option maxHeartbeats 4000000 in
theorem r_spec_l06R_visit_b (rc : l06R → Int → Option l06R) (ih : Ct_spec_l06R_visit rc) : Ct_spec_l06R_visit (m_spec_l06R_visit_b rc) := by
 intro C r1 b2 A3 c4 hp5 A6 c7 A8 c9 k10 hp11 hO hd r h
 have hM := hO
 have hM := hM.addIn hd (y := .dat (sliceRep NodeRep) r1.old [vL A3 r1.old c4]) hp5
 refine enter Tryd.func116 rfl Tryd.ntmps116 rfl fun a hf => ?_
 unfold m_spec_l06R_visit_b at h
 refine wp_seq ?_
 obtain ⟨w12, hw⟩ : ∃ x, x = C.w0.drew := ⟨_, rfl⟩
 refine region_pi (.q 0 (.q 1 (.q 2 (.q 3 (.q 4 (.q 5 (.q 6 (.q 7 (.q 8 (.q 9 (.q 10 (.l 11 (.nil))))))))))))) (Ext w12) rfl (by kernel_rfl) ?_
 have hM := hM.drew
 rw [← hw] at hM ⊢
 clear hw
 refine pi_q hf rfl rfl rfl rfl (Ext.refl _) (e_move hf rfl) fun a hf => ?_
 refine pi_q hf rfl rfl rfl rfl (Ext.refl _) (e_nil hf rfl) fun a hf => ?_
 refine pi_q hf rfl rfl rfl rfl (Ext.refl _) (e_field hf rfl Tryd.underlying163 rfl Tryd.sizeOf31 (o' := 1) rfl) fun a hf => ?_
 refine pi_q hf rfl rfl rfl rfl (Ext.refl _) (e_load1 hf rfl Tryd.isAgg31 (hM.boxCell (k := 0) rfl rfl)) fun a hf => ?_
 iterate 2 refine pi_q hf rfl rfl rfl rfl (Ext.refl _) (e_move hf rfl) fun a hf => ?_
 refine pi_q hf rfl rfl rfl rfl (Ext.refl _) (e_nil hf rfl) fun a hf => ?_
 refine pi_q hf rfl rfl rfl rfl (Ext.refl _) (e_field hf rfl Tryd.underlying163 rfl Tryd.sizeOf24 (o' := 2) rfl) fun a hf => ?_
 refine pi_q hf rfl rfl rfl rfl (Ext.refl _) (e_load1 hf rfl Tryd.isAgg24 (hM.boxCell (k := 0) rfl rfl)) fun a hf => ?_
 have hl13 := row_len (hM.ownAt (k := 2) rfl)
 refine pi_q hf rfl rfl rfl rfl (Ext.refl _) (e_lenL hf (x := r1.out) rfl Tryd.underlying24) fun a hf => ?_
 obtain ⟨e14, hz15, h⟩ := bind_some h
 obtain ⟨b20, _, hA21, h16, h17, hr18, hcell19⟩ := hM.rowElemN (k := 1) rfl (n := 1) rfl hz15
 obtain ⟨rfl, hv22⟩ := hr18
 refine pi_q hf rfl rfl rfl rfl (Ext.refl _) (e_indexAddr (A := A6) (b := b20) (o := 0) (xs := r1.place) (i := k10) hf hA21 rfl rfl Tryd.underlying31 Tryd.sizeOf2 h16 h17) fun a hf => ?_
 refine pi_one ?_
 obtain ⟨xs24, hz25, h⟩ := bind_some h
 refine pi_z0 hf rfl rfl rfl (by kernel_rfl) (w_storeElem hf hM (x := (r1.out.length : Int)) (row := [vI ((r1.out.length : Int))]) (i := k10) rfl rfl rfl hA21 (k := 1) rfl rfl Tryd.sizeOf2 ⟨rfl, (R64_len hl13)⟩ hz25 fun w23 hM => ?_)
 dsimp only [List.set] at hM
 have hf := hf.alter (d := 9) (v := vL A6 (xs24) c7) rfl (vL_len (setL_len hz25))
 rw [vL_len (A := A6) (c := c7) (setL_len hz25)] at hM
 refine pi_nil ?_
 refine then_n ?_
 refine wp_seq ?_
 obtain ⟨w26, hw⟩ : ∃ x, x = w23.drew := ⟨_, rfl⟩
 refine region_pi (.q 0 (.q 1 (.q 2 (.q 3 (.q 4 (.q 5 (.q 6 (.q 7 (.q 8 (.q 9 (.q 10 (.q 11 (.q 12 (.q 13 (.q 14 (.q 15 (.q 16 (.q 17 (.q 18 (.q 19 (.q 20 (.q 21 (.l 22 (.l 23 (.q 24 (.q 25 (.l 26 (.nil)))))))))))))))))))))))))))) (ExtM [A8.map (·.block)] w26) rfl (by kernel_rfl) ?_
 have hM := hM.drew
 rw [← hw] at hM ⊢
 clear hw
 iterate 2 refine pi_q hf rfl rfl rfl rfl (ExtM.refl _ _) (e_move hf rfl) fun a hf => ?_
 refine pi_q hf rfl rfl rfl rfl (ExtM.refl _ _) (e_nil hf rfl) fun a hf => ?_
 refine pi_q hf rfl rfl rfl rfl (ExtM.refl _ _) (e_field hf rfl Tryd.underlying163 rfl Tryd.sizeOf24 (o' := 2) rfl) fun a hf => ?_
 refine pi_q hf rfl rfl rfl rfl (ExtM.refl _ _) (e_load1M hf rfl Tryd.isAgg24 (hM.boxCell (k := 0) rfl rfl) (hM.apart (js := [2]) rfl (k := 0) rfl rfl rfl)) fun a hf => ?_
 refine pi_q hf rfl rfl rfl rfl (ExtM.refl _ _) (e_move hf rfl) fun a hf => ?_
 refine pi_q hf rfl rfl rfl rfl (ExtM.refl _ _) (e_nil hf rfl) fun a hf => ?_
 refine pi_q hf rfl rfl rfl rfl (ExtM.refl _ _) (e_field hf rfl Tryd.underlying163 rfl Tryd.sizeOf24 (o' := 0) rfl) fun a hf => ?_
 refine pi_q hf rfl rfl rfl rfl (ExtM.refl _ _) (e_load1M hf rfl Tryd.isAgg24 (hM.boxCell (k := 0) rfl rfl) (hM.apart (js := [2]) rfl (k := 0) rfl rfl rfl)) fun a hf => ?_
 refine pi_q hf rfl rfl rfl rfl (ExtM.refl _ _) (e_move hf rfl) fun a hf => ?_
 obtain ⟨e27, hz28, h⟩ := bind_some h
 obtain ⟨b32, o33, _, hA34, h29, h30, hr31, hM⟩ := hM.elem (hM.dat (k := 0) rfl) (n := 3) rfl hz28
 obtain ⟨A36, c37, rfl, hv35, hv38⟩ := NodeRep_open hr31
 have hM := hM.add (y := .dat (sliceRep intRep) e27.Next [vL A36 e27.Next c37]) hv38
 refine pi_q hf rfl rfl rfl rfl (ExtM.refl _ _) (e_indexAddr (A := A3) (b := b32) (o := o33) (xs := r1.old) (i := k10) hf hA34 rfl rfl Tryd.underlying24 Tryd.sizeOf76 h29 h30) fun a hf => ?_
 refine pi_q hf rfl rfl rfl rfl (ExtM.refl _ _) (e_field hf rfl Tryd.underlying76 rfl Tryd.sizeOf4 (o' := (o33 + (k10 : Int).toNat * 3) + 0) rfl) fun a hf => ?_
 refine pi_q hf rfl rfl rfl rfl (ExtM.refl _ _) (e_load1M hf rfl Tryd.isAgg4 (hM.litCell (k := 1) (j := 0) rfl rfl rfl) (hM.apartS (js := [2]) rfl (hM.at_ (k := 1) rfl).1)) fun a hf => ?_
 refine pi_q hf rfl rfl rfl rfl (ExtM.refl _ _) (e_move hf rfl) fun a hf => ?_
 refine pi_q hf rfl rfl rfl rfl (ExtM.refl _ _) (e_nil hf rfl) fun a hf => ?_
 refine pi_q hf rfl rfl rfl rfl (ExtM.refl _ _) (e_field hf rfl Tryd.underlying163 rfl Tryd.sizeOf24 (o' := 0) rfl) fun a hf => ?_
 refine pi_q hf rfl rfl rfl rfl (ExtM.refl _ _) (e_load1M hf rfl Tryd.isAgg24 (hM.boxCell (k := 0) rfl rfl) (hM.apart (js := [2]) rfl (k := 0) rfl rfl rfl)) fun a hf => ?_
 refine pi_q hf rfl rfl rfl rfl (ExtM.refl _ _) (e_move hf rfl) fun a hf => ?_
 obtain ⟨e39, hz40, h⟩ := bind_some h
 obtain ⟨b44, o45, _, hA46, h41, h42, hr43, hM⟩ := hM.elem (hM.dat (k := 2) rfl) (n := 3) rfl hz40
 obtain ⟨A48, c49, rfl, hv47, hv50⟩ := NodeRep_open hr43
 have hM := hM.add (y := .dat (sliceRep intRep) e39.Next [vL A48 e39.Next c49]) hv50
 refine pi_q hf rfl rfl rfl rfl (ExtM.refl _ _) (e_indexAddr (A := A3) (b := b44) (o := o45) (xs := r1.old) (i := k10) hf hA46 rfl rfl Tryd.underlying24 Tryd.sizeOf76 h41 h42) fun a hf => ?_
 refine pi_q hf rfl rfl rfl rfl (ExtM.refl _ _) (e_field hf rfl Tryd.underlying76 rfl Tryd.sizeOf9 (o' := (o45 + (k10 : Int).toNat * 3) + 1) rfl) fun a hf => ?_
 refine pi_q hf rfl rfl rfl rfl (ExtM.refl _ _) (e_load1M hf rfl Tryd.isAgg9 (hM.litCell (k := 1) (j := 1) rfl rfl rfl) (hM.apartS (js := [2]) rfl (hM.at_ (k := 1) rfl).1)) fun a hf => ?_
 refine pi_q hf rfl rfl rfl rfl (ExtM.refl _ _) (e_build hf Tryd.zeroValue76 Tryd.underlying76 (bp_76 _ Tryd.underlying76.symm) rfl (cs := #[.bool (e27.Final), vS (e39.Letters), vL none (([] : (List Int))) 0]) (by kernel_rfl)) fun a hf => ?_
 refine pi_one ?_
 refine pi_l hf rfl rfl rfl rfl (w_slice hf hM (K := NodeNilRep) (xs := ([(⟨e27.Final, e39.Letters, ([] : (List Int))⟩ : Node)] : (List Node))) (os := [.tmp 38]) Tryd.underlying24 ei_76 rfl rfl rfl rfl rfl ⟨⟨[.bool (e27.Final), vS (e39.Letters), vL none (([] : (List Int))) 0], rfl, (NodeNilRep_mk (x := (⟨e27.Final, e39.Letters, ([] : (List Int))⟩ : Node)) hv47)⟩, trivial⟩ rfl fun b51 w52 hx53 hM => ⟨ExtM [A8.map (·.block)] w52, fun _ h => ExtM.trans hx53 h, ExtM.refl _ _, fun a hf => ?_⟩)
 refine pi_one ?_
 obtain ⟨xs54, hz55, h⟩ := bind_some h
 refine pi_l hf rfl rfl rfl rfl (w_appendX hf hM Tryd.underlying24 ei_76 rfl rfl rfl (k := 3) rfl (hM.srcRow (k := 0) rfl) hz55 fun A56 c57 w58 hsz60 hold59 hM => ⟨Ext w58, fun _ h => ExtM.last (ExtM.ofRow (List.mem_of_getElem? (i := 0) rfl) hold59) hsz60 h, Ext.refl _, fun a hf => ?_⟩)
 dsimp only [List.set] at hM
 refine pi_q hf rfl rfl rfl rfl (Ext.refl _) (e_nil hf rfl) fun a hf => ?_
 refine pi_q hf rfl rfl rfl rfl (Ext.refl _) (e_field hf rfl Tryd.underlying163 rfl Tryd.sizeOf24 (o' := 2) rfl) fun a hf => ?_
 refine pi_one ?_
 refine pi_z0 hf rfl rfl rfl (by kernel_rfl) (w_store hf hM (us := [vL A56 (xs54) c57]) (cs' := [vL A3 (r1.old) c4, vL A6 (xs24) c7, vL A56 (xs54) c57]) rfl rfl (k := 1) rfl rfl Tryd.sizeOf24 rfl rfl rfl fun w61 hM => ?_)
 dsimp only [List.set] at hM
 refine pi_nil ?_
 refine then_n ?_
 refine wp_seq ?_
 refine region_pl ?_
 refine q_ hf rfl rfl rfl (e_assign hf rfl) fun a hf => ?_
 refine pl_nil ?_
 refine then_n ?_
 refine wp_block ?_
 obtain ⟨x79, h80, h⟩ := bind_some h
 refine wp_loopM h80 (fun s a w => ∃ (xs64 : (List Int)) (xs67 : (List Node)) (n70 : Int) (A65 : Option Addr) (c66 : Nat) (A68 : Option Addr) (c69 : Nat), (xs64, xs67, n70) = s ∧ Has 78 a [(0, vP b2 (0)), (1, vI (k10)), (4, vI (n70))] ∧ Mem C w [.row NodeNilRep (some ⟨b51, 0, none⟩) 1 76 ([(⟨e27.Final, e39.Letters, ([] : (List Int))⟩ : Node)] : (List Node)) true, .box b2 [vL A3 (r1.old) c4, vL A65 (xs64) c66, vL A68 (xs67) c69] 163, .row intRep A65 c66 2 xs64 true, .row NodeNilRep A68 c69 76 xs67 true] [.dat (sliceRep intRep) e39.Next [vL A48 e39.Next c49], .lit b44 (o45 + (k10 : Int).toNat * 3) [.bool (e39.Final), vS (e39.Letters), vL A48 (e39.Next) c49], .dat (sliceRep intRep) e27.Next [vL A36 e27.Next c37], .lit b32 (o33 + (k10 : Int).toNat * 3) [.bool (e27.Final), vS (e27.Letters), vL A36 (e27.Next) c37], .dat (sliceRep NodeRep) r1.old [vL A3 r1.old c4]] ∧ R64 n70) ?_ ?_
 ·exact ⟨xs24, xs54, 0, A6, c7, A56, c57, rfl, hf.keep ⟨rfl, rfl, rfl, trivial⟩, hM.pick [0, 1, 2, 3, 4] rfl, (R64_lit rfl)⟩
 rintro s o81 a w72 ⟨xs64, xs67, n70, A65, c66, A68, c69, rfl, hf, hM, hv71⟩ h82 hd83
 replace h82 : m_spec_l06R_visit_l1 r1 k10 rc xs64 xs67 n70 = some o81 := h82
 unfold m_spec_l06R_visit_l1 at h82
 iterate 2 refine wp_seq ?_
 refine region_pl ?_
 iterate 2 refine q_ hf rfl rfl rfl (e_move hf rfl) fun a hf => ?_
 refine q_ hf rfl rfl rfl (e_nil hf rfl) fun a hf => ?_
 refine q_ hf rfl rfl rfl (e_field hf rfl Tryd.underlying163 rfl Tryd.sizeOf24 (o' := 0) rfl) fun a hf => ?_
 refine q_ hf rfl rfl rfl (e_load1 hf rfl Tryd.isAgg24 (hM.boxCell (k := 1) rfl rfl)) fun a hf => ?_
 refine q_ hf rfl rfl rfl (e_move hf rfl) fun a hf => ?_
 obtain ⟨e84, hz85, h82⟩ := bind_some h82
 obtain ⟨b89, o90, _, hA91, h86, h87, hr88, hM⟩ := hM.elem (hM.dat (k := 4) rfl) (n := 3) rfl hz85
 obtain ⟨A93, c94, rfl, hv92, hv95⟩ := NodeRep_open hr88
 have hM := hM.add (y := .dat (sliceRep intRep) e84.Next [vL A93 e84.Next c94]) hv95
 refine q_ hf rfl rfl rfl (e_indexAddr (A := A3) (b := b89) (o := o90) (xs := r1.old) (i := k10) hf hA91 rfl rfl Tryd.underlying24 Tryd.sizeOf76 h86 h87) fun a hf => ?_
 refine q_ hf rfl rfl rfl (e_field hf rfl Tryd.underlying76 rfl Tryd.sizeOf31 (o' := (o90 + (k10 : Int).toNat * 3) + 2) rfl) fun a hf => ?_
 refine q_ hf rfl rfl rfl (e_load1 hf rfl Tryd.isAgg31 (hM.litCell (k := 1) (j := 2) rfl rfl rfl)) fun a hf => ?_
 have hl96 := slice_len (hM.dat (k := 0) rfl)
 refine q_ hf rfl rfl rfl (e_lenL hf (x := e84.Next) rfl Tryd.underlying31) fun a hf => ?_
 refine q_ hf rfl rfl rfl (e_lt hf (x := n70) (y := (e84.Next.length : Int)) rfl rfl) fun a hf => ?_
 refine pl_nil ?_
 refine then_n ?_
 rcases cond_some h82 with ⟨hc97, h82⟩ | ⟨hc97, h82⟩
 ·refine cond_t hf rfl hc97 ?_
  refine wp_skip ?_
  refine then_n ?_
  obtain ⟨x104, h105, h82⟩ := bind_some h82
  refine seq_join (fun a w => ∃ (xs98 : (List Int)) (xs101 : (List Node)) (A99 : Option Addr) (c100 : Nat) (A102 : Option Addr) (c103 : Nat), (xs98, xs101) = x104 ∧ Has 78 a [(0, vP b2 (0)), (1, vI (k10)), (4, vI (n70))] ∧ Mem C w [.row NodeNilRep (some ⟨b51, 0, none⟩) 1 76 ([(⟨e27.Final, e39.Letters, ([] : (List Int))⟩ : Node)] : (List Node)) true, .box b2 [vL A3 (r1.old) c4, vL A99 (xs98) c100, vL A102 (xs101) c103] 163, .row intRep A99 c100 2 xs98 true, .row NodeNilRep A102 c103 76 xs101 true] [.dat (sliceRep intRep) e84.Next [vL A93 e84.Next c94], .lit b89 (o90 + (k10 : Int).toNat * 3) [.bool (e84.Final), vS (e84.Letters), vL A93 (e84.Next) c94], .dat (sliceRep intRep) e39.Next [vL A48 e39.Next c49], .lit b44 (o45 + (k10 : Int).toNat * 3) [.bool (e39.Final), vS (e39.Letters), vL A48 (e39.Next) c49], .dat (sliceRep intRep) e27.Next [vL A36 e27.Next c37], .lit b32 (o33 + (k10 : Int).toNat * 3) [.bool (e27.Final), vS (e27.Letters), vL A36 (e27.Next) c37], .dat (sliceRep NodeRep) r1.old [vL A3 r1.old c4]]) ?_ ?_
  ·refine wp_block ?_
   refine wp_seq ?_
   refine region_pl ?_
   refine q_ hf rfl rfl rfl (e_move hf rfl) fun a hf => ?_
   refine q_ hf rfl rfl rfl (e_nil hf rfl) fun a hf => ?_
   refine q_ hf rfl rfl rfl (e_field hf rfl Tryd.underlying163 rfl Tryd.sizeOf24 (o' := 0) rfl) fun a hf => ?_
   refine q_ hf rfl rfl rfl (e_load1 hf rfl Tryd.isAgg24 (hM.boxCell (k := 1) rfl rfl)) fun a hf => ?_
   refine q_ hf rfl rfl rfl (e_move hf rfl) fun a hf => ?_
   obtain ⟨e106, hz107, h105⟩ := bind_some h105
   obtain ⟨b111, o112, _, hA113, h108, h109, hr110, hM⟩ := hM.elem (hM.dat (k := 6) rfl) (n := 3) rfl hz107
   obtain ⟨A115, c116, rfl, hv114, hv117⟩ := NodeRep_open hr110
   have hM := hM.add (y := .dat (sliceRep intRep) e106.Next [vL A115 e106.Next c116]) hv117
   refine q_ hf rfl rfl rfl (e_indexAddr (A := A3) (b := b111) (o := o112) (xs := r1.old) (i := k10) hf hA113 rfl rfl Tryd.underlying24 Tryd.sizeOf76 h108 h109) fun a hf => ?_
   refine q_ hf rfl rfl rfl (e_field hf rfl Tryd.underlying76 rfl Tryd.sizeOf31 (o' := (o112 + (k10 : Int).toNat * 3) + 2) rfl) fun a hf => ?_
   refine q_ hf rfl rfl rfl (e_load1 hf rfl Tryd.isAgg31 (hM.litCell (k := 1) (j := 2) rfl rfl rfl)) fun a hf => ?_
   refine q_ hf rfl rfl rfl (e_move hf rfl) fun a hf => ?_
   obtain ⟨e118, hz119, h105⟩ := bind_some h105
   obtain ⟨b123, o124, _, hA125, h120, h121, hr122, hM⟩ := hM.elem (hM.dat (k := 0) rfl) (n := 1) rfl hz119
   obtain ⟨rfl, hv126⟩ := hr122
   refine q_ hf rfl rfl rfl (e_indexAddr (A := A115) (b := b123) (o := o124) (xs := e106.Next) (i := n70) hf hA125 rfl rfl Tryd.underlying31 Tryd.sizeOf2 h120 h121) fun a hf => ?_
   refine q_ hf rfl rfl rfl (e_load1 hf rfl Tryd.isAgg2 (hM.litCell (k := 0) (j := 0) rfl rfl rfl)) fun a hf => ?_
   refine q_ hf rfl rfl rfl (e_assign hf rfl) fun a hf => ?_
   refine pl_nil ?_
   refine then_n ?_
   refine wp_seq ?_
   refine region_pl ?_
   refine q_ hf rfl rfl rfl (e_move hf rfl) fun a hf => ?_
   refine q_ hf rfl rfl rfl (e_nil hf rfl) fun a hf => ?_
   refine q_ hf rfl rfl rfl (e_field hf rfl Tryd.underlying163 rfl Tryd.sizeOf31 (o' := 1) rfl) fun a hf => ?_
   refine q_ hf rfl rfl rfl (e_load1 hf rfl Tryd.isAgg31 (hM.boxCell (k := 1) rfl rfl)) fun a hf => ?_
   refine q_ hf rfl rfl rfl (e_move hf rfl) fun a hf => ?_
   obtain ⟨e127, hz128, h105⟩ := bind_some h105
   obtain ⟨b133, _, hA134, h129, h130, hr131, hcell132⟩ := hM.rowElemN (k := 2) rfl (n := 1) rfl hz128
   obtain ⟨rfl, hv135⟩ := hr131
   refine q_ hf rfl rfl rfl (e_indexAddr (A := A65) (b := b133) (o := 0) (xs := xs64) (i := e118) hf hA134 rfl rfl Tryd.underlying31 Tryd.sizeOf2 h129 h130) fun a hf => ?_
   refine q_ hf rfl rfl rfl (e_load1 hf rfl Tryd.isAgg2 (hcell132 0 _ rfl)) fun a hf => ?_
   refine q_ hf rfl rfl rfl (e_lt hf (x := e127) (y := 0) rfl rfl) fun a hf => ?_
   refine pl_nil ?_
   refine then_n ?_
   rcases cond_some h105 with ⟨hc136, h105⟩ | ⟨hc136, h105⟩
   ·refine cond_t hf rfl hc136 ?_
    refine region_pl ?_
    iterate 2 refine q_ hf rfl rfl rfl (e_move hf rfl) fun a hf => ?_
    have hM := hM.front (k := 3) rfl
    dsimp only [List.eraseIdx] at hM
    have hM := hM.front (k := 3) rfl
    dsimp only [List.eraseIdx] at hM
    have hM := hM.front (k := 3) rfl
    dsimp only [List.eraseIdx] at hM
    have hM : Mem C _ ([.box b2 [vL A3 (r1.old) c4, vL A65 (xs64) c66, vL A68 (xs67) c69] 163, .row intRep A65 c66 2 xs64 true, .row NodeNilRep A68 c69 76 xs67 true] ++ [.row NodeNilRep (some ⟨b51, 0, none⟩) 1 76 ([(⟨e27.Final, e39.Letters, ([] : (List Int))⟩ : Node)] : (List Node)) true]) _ := hM
    obtain ⟨y137, hz138, h105⟩ := bind_some h105
    refine pl_l hf rfl rfl rfl (w_call hf Tryd.call116 rfl (ih ⟨_, Sh C _ _, ownB _, hM.sh_lt, sub_dis, C.G, hM.g_lt, hM.g_own, hM.tabs⟩ (⟨r1.old, xs64, xs67⟩ : l06R) _ _ _ (hM.dat (k := 9) rfl) _ _ _ _ e118 hv126 hM.sub sub_dis _ hz138) ?_)
    rintro _ w143 ⟨A139, c140, A141, c142, rfl, hM2⟩
    obtain ⟨hM, hup145⟩ := hM.backG hM2
    dsimp only [List.cons_append, List.nil_append] at hM hup145
    clear hM2
    refine ⟨_, rfl, fun a hf => ?_⟩
    refine pl_nil ?_
    refine blk_n ?_
    obtain rfl := some_inj h105
    refine then_n ?_
    have hM := hM.front (k := 2) rfl
    dsimp only [List.eraseIdx] at hM
    have hM := hM.front (k := 2) rfl
    dsimp only [List.eraseIdx] at hM
    have hM := hM.front (k := 2) rfl
    dsimp only [List.eraseIdx] at hM
    have hM := hM.front (k := 3) rfl
    dsimp only [List.eraseIdx] at hM
    exact ⟨y137.place, y137.out, A139, c140, A141, c142, rfl, hf.keep ⟨rfl, rfl, rfl, trivial⟩, hM.pick [3, 4, 5, 6, 7, 8, 9] rfl⟩
   refine cond_f hf rfl hc136 ?_
   refine wp_skip ?_
   refine blk_n ?_
   obtain rfl := some_inj h105
   refine then_n ?_
   exact ⟨xs64, xs67, A65, c66, A68, c69, rfl, hf.keep ⟨rfl, rfl, rfl, trivial⟩, hM.pick [3, 4, 5, 6, 7, 8, 9] rfl⟩
  rintro a w148 ⟨xs98, xs101, A99, c100, A102, c103, rfl, hf, hM⟩
  try dsimp only at h82
  refine region_pl ?_
  refine q_ hf rfl rfl rfl (e_move hf rfl) fun a hf => ?_
  obtain ⟨z149, hz150, h82⟩ := bind_some h82
  refine q_ hf rfl rfl rfl (e_add hf rfl rfl hz150) fun a hf => ?_
  refine q_ hf rfl rfl rfl (e_assign hf rfl) fun a hf => ?_
  refine pl_nil ?_
  obtain rfl := some_inj h82
  refine then_n ⟨_, rfl, ?_⟩
  exact ⟨xs98, xs101, z149, A99, c100, A102, c103, rfl, hf.keep ⟨rfl, rfl, rfl, trivial⟩, hM.pick [2, 3, 4, 5, 6] rfl, (chk_R hz150)⟩
 refine cond_f hf rfl hc97 ?_
 refine wp_exit ?_
 refine then_x ?_
 obtain rfl := some_inj h82
 obtain rfl := hd83 _ rfl
 try dsimp only at h
 refine then_x ?_
 refine exit_hit ?_
 obtain rfl := some_inj h
 have hM := hM.front (k := 3) rfl
 dsimp only [List.eraseIdx] at hM
 have hM := hM.front (k := 3) rfl
 dsimp only [List.eraseIdx] at hM
 have hM := hM.front (k := 3) rfl
 dsimp only [List.eraseIdx] at hM
 have hM := hM.outs (own' := [.box b2 [vL A3 (r1.old) c4, vL A65 (xs64) c66, vL A68 (xs67) c69] 163, .row intRep A65 c66 2 xs64 true, .row NodeNilRep A68 c69 76 xs67 true]) 3 rfl
 exact leave0n hf rfl ⟨A65, c66, A68, c69, rfl, hM.fin⟩

theorem r_spec_l06R_visit_n : ∀ n, Ct_spec_l06R_visit (m_spec_l06R_visit_n n)
  | 0 => fun C r1 b2 A3 c4 hp5 A6 c7 A8 c9 k10 hp11 hO hd r h => by cases h
  | n + 1 => r_spec_l06R_visit_b _ (r_spec_l06R_visit_n n)

theorem r_spec_l06R_visit : Ct_spec_l06R_visit (m_spec_l06R_visit) := r_spec_l06R_visit_n fuelN

set_option maxRecDepth 100000 in
set_option maxHeartbeats 4000000 in
theorem r_spec_l06Number (C : Cx) (nodes1 : (List Node)) (A2 : Option Addr) (c3 : Nat) (hp4 : (sliceRep NodeRep).R C.w0 C.S0 nodes1 [vL A2 nodes1 c3]) (root5 : Int) (hp6 : R64 root5) (r : (List Node)) (h : m_spec_l06Number nodes1 root5 = some r) :
    Calls Tryd.prog 98 #[vL A2 (nodes1) c3, vI (root5)] C.w0 fun e w => ∃ (A_1 : Option Addr), ∃ (c_1 : Nat), e = .returned (vL A_1 (r) c_1) ∧ Mem C w [] [] ∧ (sliceRep NodeRep).R w (Sh C [] w) r [vL A_1 r c_1] := by
 have hM := Mem.begin C [.dat (sliceRep NodeRep) nodes1 [vL A2 nodes1 c3]] ⟨hp4, trivial⟩
 refine enter Tryd.func98 rfl Tryd.ntmps98 rfl fun a hf => ?_
 unfold m_spec_l06Number at h
 refine wp_seq ?_
 refine region_pl ?_
 refine q_ hf rfl rfl rfl (e_assign hf rfl) fun a hf => ?_
 refine pl_nil ?_
 refine then_n ?_
 refine wp_seq ?_
 refine region_pl ?_
 refine q_ hf rfl rfl rfl (e_move hf rfl) fun a hf => ?_
 refine q_ hf rfl rfl rfl (e_build hf Tryd.zeroValue163 Tryd.underlying163 (bp_163 _ Tryd.underlying163.symm) rfl (cs := #[vL A2 (nodes1) c3, vL none (([] : (List Int))) 0, vL none (([] : (List Node))) 0]) (by kernel_rfl)) fun a hf => ?_
 refine pl_l hf rfl rfl rfl (w_box hf hM (cs := [vL A2 (nodes1) c3, vL none (([] : (List Int))) 0, vL none (([] : (List Node))) 0]) rfl rfl fun b7 w8 hx9 hM a hf => ?_)
 refine q_ hf rfl rfl rfl (e_assign hf rfl) fun a hf => ?_
 refine pl_nil ?_
 refine then_n ?_
 obtain ⟨x17, h18, h⟩ := bind_some h
 refine seq_join (fun a w => ∃ (xs11 : (List Int)) (xs14 : (List Node)) (A12 : Option Addr) (c13 : Nat) (A15 : Option Addr) (c16 : Nat), (xs11, xs14) = x17 ∧ Has 89 a [(0, vL A2 (nodes1) c3), (1, vI (root5)), (5, vP b7 (0))] ∧ Mem C w [.row NodeNilRep A15 c16 76 xs14 true, .row intRep A12 c13 2 xs11 true, .box b7 [vL A2 (nodes1) c3, vL A12 (xs11) c13, vL A15 (xs14) c16] 163] [.dat (sliceRep NodeRep) nodes1 [vL A2 nodes1 c3]]) ?_ ?_
 ·refine wp_seq ?_
  refine region_pl ?_
  refine q_ hf rfl rfl rfl (e_move hf rfl) fun a hf => ?_
  have hl19 := slice_len (hM.dat (k := 0) rfl)
  refine q_ hf rfl rfl rfl (e_lenL hf (x := nodes1) rfl Tryd.underlying24) fun a hf => ?_
  refine q_ hf rfl rfl rfl (e_move hf rfl) fun a hf => ?_
  refine pl_nil ?_
  refine then_n ?_
  refine wp_block ?_
  have hM := hM.nilRow intRep 2
  have hM := hM.nilRow NodeNilRep 76
  obtain ⟨x29, h30, h18⟩ := bind_some h18
  refine wp_loopM h30 (fun s a w => ∃ (xs20 : (List Int)) (n23 : Int) (A21 : Option Addr) (c22 : Nat), (xs20, n23) = s ∧ Has 89 a [(0, vL A2 (nodes1) c3), (1, vI (root5)), (5, vP b7 (0)), (13, vI ((nodes1.length : Int))), (14, vI (n23))] ∧ Mem C w [.row NodeNilRep none 0 76 ([] : (List Node)) true, .row intRep A21 c22 2 xs20 true, .box b7 [vL A2 (nodes1) c3, vL A21 (xs20) c22, vL none (([] : (List Node))) 0] 163] [.dat (sliceRep NodeRep) nodes1 [vL A2 nodes1 c3]] ∧ R64 n23) ?_ ?_
  ·exact ⟨([] : (List Int)), 0, none, 0, rfl, hf.keep ⟨rfl, rfl, rfl, rfl, rfl, trivial⟩, hM.pick [0] rfl, (R64_lit rfl)⟩
  rintro s o31 a w25 ⟨xs20, n23, A21, c22, rfl, hf, hM, hv24⟩ h32 hd33
  replace h32 : m_spec_l06Number_l1 nodes1 xs20 n23 = some o31 := h32
  unfold m_spec_l06Number_l1 at h32
  refine wp_seq ?_
  refine region_pl ?_
  refine q_ hf rfl rfl rfl (e_lt hf (x := n23) (y := (nodes1.length : Int)) rfl rfl) fun a hf => ?_
  refine pl_nil ?_
  refine then_n ?_
  refine wp_seq ?_
  rcases cond_some h32 with ⟨hc34, h32⟩ | ⟨hc34, h32⟩
  ·refine cond_t hf rfl hc34 ?_
   refine wp_skip ?_
   refine then_n ?_
   refine wp_seq ?_
   refine wp_block ?_
   refine region_pl ?_
   iterate 2 refine q_ hf rfl rfl rfl (e_move hf rfl) fun a hf => ?_
   refine q_ hf rfl rfl rfl (e_nil hf rfl) fun a hf => ?_
   refine q_ hf rfl rfl rfl (e_field hf rfl Tryd.underlying163 rfl Tryd.sizeOf31 (o' := 1) rfl) fun a hf => ?_
   refine q_ hf rfl rfl rfl (e_load1 hf rfl Tryd.isAgg31 (hM.boxCell (k := 2) rfl rfl)) fun a hf => ?_
   refine pl_l hf rfl rfl rfl (w_slice hf hM (K := intRep) (xs := ([(-1)] : (List Int))) (os := [.const (.int .i64 (-1))]) Tryd.underlying31 ei_2 rfl rfl rfl rfl rfl ⟨⟨[vI ((-1))], rfl, ⟨rfl, (R64_lit rfl)⟩⟩, trivial⟩ rfl fun b35 w36 hx37 hM a hf => ?_)
   obtain ⟨xs38, hz39, h32⟩ := bind_some h32
   refine pl_l hf rfl rfl rfl (w_append hf hM Tryd.underlying31 ei_2 rfl rfl rfl (k := 2) rfl (hM.srcRow (k := 0) rfl) hz39 fun A40 c41 w42 hM a hf => ?_)
   dsimp only [List.set] at hM
   refine q_ hf rfl rfl rfl (e_nil hf rfl) fun a hf => ?_
   refine q_ hf rfl rfl rfl (e_field hf rfl Tryd.underlying163 rfl Tryd.sizeOf31 (o' := 1) rfl) fun a hf => ?_
   refine pl_0 hf rfl rfl (w_store hf hM (us := [vL A40 (xs38) c41]) (cs' := [vL A2 (nodes1) c3, vL A40 (xs38) c41, vL none (([] : (List Node))) 0]) rfl rfl (k := 3) rfl rfl Tryd.sizeOf31 rfl rfl rfl fun w45 hM => ?_)
   dsimp only [List.set] at hM
   refine pl_nil ?_
   refine blk_n ?_
   refine then_n ?_
   refine region_pl ?_
   obtain ⟨z48, hz49, h32⟩ := bind_some h32
   refine q_ hf rfl rfl rfl (e_add hf rfl rfl hz49) fun a hf => ?_
   refine q_ hf rfl rfl rfl (e_move hf rfl) fun a hf => ?_
   refine pl_nil ?_
   obtain rfl := some_inj h32
   refine then_n ⟨_, rfl, ?_⟩
   exact ⟨xs38, z48, A40, c41, rfl, hf.keep ⟨rfl, rfl, rfl, rfl, rfl, trivial⟩, (hM.drop (.cons _ (.cons_cons _ (.cons_cons _ (.cons_cons _ .slnil))))).pick [0] rfl, (chk_R hz49)⟩
  refine cond_f hf rfl hc34 ?_
  refine wp_exit ?_
  refine then_x ?_
  obtain rfl := some_inj h32
  obtain rfl := hd33 _ rfl
  try dsimp only at h18
  refine then_x ?_
  refine exit_hit ?_
  obtain rfl := some_inj h18
  refine then_n ?_
  exact ⟨xs20, ([] : (List Node)), A21, c22, none, 0, rfl, hf.keep ⟨rfl, rfl, rfl, trivial⟩, hM.pick [0] rfl⟩
 rintro a w55 ⟨xs11, xs14, A12, c13, A15, c16, rfl, hf, hM⟩
 try dsimp only at h
 refine wp_seq ?_
 refine region_pl ?_
 iterate 2 refine q_ hf rfl rfl rfl (e_move hf rfl) fun a hf => ?_
 have hM := hM.front (k := 0) rfl
 dsimp only [List.eraseIdx] at hM
 have hM := hM.front (k := 1) rfl
 dsimp only [List.eraseIdx] at hM
 have hM := hM.front (k := 2) rfl
 dsimp only [List.eraseIdx] at hM
 have hM : Mem C _ ([.box b7 [vL A2 (nodes1) c3, vL A12 (xs11) c13, vL A15 (xs14) c16] 163, .row intRep A12 c13 2 xs11 true, .row NodeNilRep A15 c16 76 xs14 true] ++ []) _ := hM
 obtain ⟨y56, hz57, h⟩ := bind_some h
 refine pl_l hf rfl rfl rfl (w_call hf Tryd.call116 rfl (r_spec_l06R_visit ⟨_, Sh C _ _, ownB _, hM.sh_lt, sub_dis, C.G, hM.g_lt, hM.g_own, hM.tabs⟩ (⟨nodes1, xs11, xs14⟩ : l06R) _ _ _ (hM.dat (k := 0) rfl) _ _ _ _ root5 hp6 hM.sub sub_dis _ hz57) ?_)
 rintro _ w62 ⟨A58, c59, A60, c61, rfl, hM2⟩
 obtain ⟨hM, hup64⟩ := hM.backG hM2
 dsimp only [List.cons_append, List.nil_append] at hM hup64
 clear hM2
 refine ⟨_, rfl, fun a hf => ?_⟩
 refine pl_nil ?_
 refine then_n ?_
 obtain ⟨ws0, hw0, hM⟩ := hM.nest 2
 have hl0 : ws0.length = y56.out.length := by rw [← hw0, List.length_map]
 obtain ⟨x65, h66, h⟩ := bind_some h
 refine seq_join (fun a w => ∃ (xs : List Node) (ws : List NodeW), xs = x65 ∧ ws.map NodeW.to = xs ∧ ws.length = y56.out.length ∧ Has 89 a [(5, vP b7 (0))] ∧ Mem C w ([.box b7 [vL A2 (nodes1) c3, vL A58 (y56.place) c59, vL A60 (y56.out) c61] 163, .row intRep A58 c59 2 y56.place true, .row NodeWRep A60 c61 76 ws true] ++ nestO 2 ws) [.dat (sliceRep NodeRep) nodes1 [vL A2 nodes1 c3]]) ?_ ?_
 ·refine wp_seq ?_
  refine region_pl ?_
  refine q_ hf rfl rfl rfl (e_assign hf rfl) fun a hf => ?_
  refine pl_nil ?_
  refine then_n ?_
  refine wp_block ?_
  refine wp_loopM h66 (fun s a w => ∃ (xs : List Node) (ws : List NodeW) (i67 : Int), (xs, i67) = s ∧ ws.map NodeW.to = xs ∧ ws.length = y56.out.length ∧ Has 89 a [(0, vL A2 (nodes1) c3), (5, vP b7 (0)), (6, vI (i67))] ∧ Mem C w ([.box b7 [vL A2 (nodes1) c3, vL A58 (y56.place) c59, vL A60 (y56.out) c61] 163, .row intRep A58 c59 2 y56.place true, .row NodeWRep A60 c61 76 ws true] ++ nestO 2 ws) [.dat (sliceRep NodeRep) nodes1 [vL A2 nodes1 c3]] ∧ R64 i67) ?_ ?_
  ·exact ⟨y56.out, ws0, 0, rfl, hw0, hl0, hf.keep ⟨rfl, rfl, rfl, trivial⟩, hM.pick [0] rfl, (R64_lit rfl)⟩
  rintro s o72 a w69 ⟨xs, ws, i67, rfl, hw1, hl1, hf, hM, hv68⟩ h73 hd74
  replace h73 : m_spec_l06Number_l2 nodes1 y56.place xs i67 = some o72 := h73
  unfold m_spec_l06Number_l2 at h73
  iterate 2 refine wp_seq ?_
  refine region_pl ?_
  iterate 2 refine q_ hf rfl rfl rfl (e_move hf rfl) fun a hf => ?_
  have hl75 := slice_len (hM.dat (k := 0) rfl)
  refine q_ hf rfl rfl rfl (e_lenL hf (x := nodes1) rfl Tryd.underlying24) fun a hf => ?_
  refine q_ hf rfl rfl rfl (e_lt hf (x := i67) (y := (nodes1.length : Int)) rfl rfl) fun a hf => ?_
  refine pl_nil ?_
  refine then_n ?_
  rcases cond_some h73 with ⟨hc76, h73⟩ | ⟨hc76, h73⟩
  ·refine cond_t hf rfl hc76 ?_
   refine wp_skip ?_
   refine then_n ?_
   obtain ⟨x77, h78, h73⟩ := bind_some h73
   refine seq_join (fun a w => ∃ (xs : List Node) (ws : List NodeW), xs = x77 ∧ ws.map NodeW.to = xs ∧ ws.length = y56.out.length ∧ Has 89 a [(0, vL A2 (nodes1) c3), (5, vP b7 (0)), (6, vI (i67))] ∧ Mem C w ([.box b7 [vL A2 (nodes1) c3, vL A58 (y56.place) c59, vL A60 (y56.out) c61] 163, .row intRep A58 c59 2 y56.place true, .row NodeWRep A60 c61 76 ws true] ++ nestO 2 ws) [.dat (sliceRep NodeRep) nodes1 [vL A2 nodes1 c3]]) ?_ ?_
   ·refine wp_block ?_
    refine wp_seq ?_
    refine region_pl ?_
    refine q_ hf rfl rfl rfl (e_move hf rfl) fun a hf => ?_
    refine q_ hf rfl rfl rfl (e_nil hf rfl) fun a hf => ?_
    refine q_ hf rfl rfl rfl (e_field hf rfl Tryd.underlying163 rfl Tryd.sizeOf31 (o' := 1) rfl) fun a hf => ?_
    refine q_ hf rfl rfl rfl (e_load1 hf rfl Tryd.isAgg31 (hM.boxCell (k := 0) rfl rfl)) fun a hf => ?_
    refine q_ hf rfl rfl rfl (e_move hf rfl) fun a hf => ?_
    obtain ⟨e79, hz80, h78⟩ := bind_some h78
    obtain ⟨b85, _, hA86, h81, h82, hr83, hcell84⟩ := hM.rowElemN (k := 1) rfl (n := 1) rfl hz80
    obtain ⟨rfl, hv87⟩ := hr83
    refine q_ hf rfl rfl rfl (e_indexAddr (A := A58) (b := b85) (o := 0) (xs := y56.place) (i := i67) hf hA86 rfl rfl Tryd.underlying31 Tryd.sizeOf2 h81 h82) fun a hf => ?_
    refine q_ hf rfl rfl rfl (e_load1 hf rfl Tryd.isAgg2 (hcell84 0 _ rfl)) fun a hf => ?_
    refine q_ hf rfl rfl rfl (e_assign hf rfl) fun a hf => ?_
    refine pl_nil ?_
    refine then_n ?_
    iterate 2 refine wp_seq ?_
    refine region_pl ?_
    refine q_ hf rfl rfl rfl (e_move hf rfl) fun a hf => ?_
    refine q_ hf rfl rfl rfl (e_lt hf (x := e79) (y := 0) rfl rfl) fun a hf => ?_
    refine pl_nil ?_
    refine then_n ?_
    rcases cond_some h78 with ⟨hc88, h78⟩ | ⟨hc88, h78⟩
    ·refine cond_t hf rfl hc88 ?_
     refine wp_exit ?_
     refine then_x ?_
     refine exit_hit ?_
     obtain rfl := some_inj h78
     refine then_n ?_
     exact ⟨xs, ws, rfl, hw1, hl1, hf.keep ⟨rfl, rfl, rfl, trivial⟩, hM.pick [0] rfl⟩
    refine cond_f hf rfl hc88 ?_
    refine wp_skip ?_
    refine then_n ?_
    refine wp_seq ?_
    refine region_pl ?_
    refine q_ hf rfl rfl rfl (e_assign hf rfl) fun a hf => ?_
    refine pl_nil ?_
    refine then_n ?_
    refine wp_block ?_
    refine wp_loopM h78 (fun s a w => ∃ (xs : List Node) (ws : List NodeW) (n90 : Int), (xs, n90) = s ∧ ws.map NodeW.to = xs ∧ ws.length = y56.out.length ∧ Has 89 a [(0, vL A2 (nodes1) c3), (5, vP b7 (0)), (6, vI (i67)), (7, vI (e79)), (8, vI (n90))] ∧ Mem C w ([.box b7 [vL A2 (nodes1) c3, vL A58 (y56.place) c59, vL A60 (y56.out) c61] 163, .row intRep A58 c59 2 y56.place true, .row NodeWRep A60 c61 76 ws true] ++ nestO 2 ws) [.dat (sliceRep NodeRep) nodes1 [vL A2 nodes1 c3]] ∧ R64 n90) ?_ ?_
    ·exact ⟨xs, ws, 0, rfl, hw1, hl1, hf.keep ⟨rfl, rfl, rfl, rfl, rfl, trivial⟩, hM.pick [0] rfl, (R64_lit rfl)⟩
    clear hw1 hl1 hM
    rintro s o95 a w92 ⟨xs, ws, n90, rfl, hw1, hl1, hf, hM, hv91⟩ h96 hd97
    replace h96 : m_spec_l06Number_l3 nodes1 y56.place i67 e79 xs n90 = some o95 := h96
    unfold m_spec_l06Number_l3 at h96
    iterate 2 refine wp_seq ?_
    refine region_pl ?_
    iterate 3 refine q_ hf rfl rfl rfl (e_move hf rfl) fun a hf => ?_
    obtain ⟨e98, hz99, h96⟩ := bind_some h96
    obtain ⟨b103, o104, _, hA105, h100, h101, hr102, hM⟩ := hM.elem (hM.dat (k := 0) rfl) (n := 3) rfl hz99
    obtain ⟨A107, c108, rfl, hv106, hv109⟩ := NodeRep_open hr102
    have hM := hM.add (y := .dat (sliceRep intRep) e98.Next [vL A107 e98.Next c108]) hv109
    refine q_ hf rfl rfl rfl (e_indexAddr (A := A2) (b := b103) (o := o104) (xs := nodes1) (i := i67) hf hA105 rfl rfl Tryd.underlying24 Tryd.sizeOf76 h100 h101) fun a hf => ?_
    refine q_ hf rfl rfl rfl (e_field hf rfl Tryd.underlying76 rfl Tryd.sizeOf31 (o' := (o104 + (i67 : Int).toNat * 3) + 2) rfl) fun a hf => ?_
    refine q_ hf rfl rfl rfl (e_load1 hf rfl Tryd.isAgg31 (hM.litCell (k := 1) (j := 2) rfl rfl rfl)) fun a hf => ?_
    have hl110 := slice_len (hM.dat (k := 0) rfl)
    refine q_ hf rfl rfl rfl (e_lenL hf (x := e98.Next) rfl Tryd.underlying31) fun a hf => ?_
    refine q_ hf rfl rfl rfl (e_lt hf (x := n90) (y := (e98.Next.length : Int)) rfl rfl) fun a hf => ?_
    refine pl_nil ?_
    refine then_n ?_
    rcases cond_some h96 with ⟨hc111, h96⟩ | ⟨hc111, h96⟩
    ·refine cond_t hf rfl hc111 ?_
     refine wp_skip ?_
     refine then_n ?_
     refine wp_seq ?_
     refine wp_block ?_
     obtain ⟨e113, hz114, h96⟩ := bind_some h96
     obtain ⟨A122, c123, hzx⟩ := nest_get hw1 hz114
     have hat := nest_at 2 [.box b7 [vL A2 (nodes1) c3, vL A58 (y56.place) c59, vL A60 (y56.out) c61] 163, .row intRep A58 c59 2 y56.place true, .row NodeWRep A60 c61 76 ws true] hzx
     obtain ⟨w112, hw⟩ : ∃ x, x = w92.drew := ⟨_, rfl⟩
     refine region_pi (.q 0 (.q 1 (.q 2 (.q 3 (.q 4 (.q 5 (.q 6 (.q 7 (.q 8 (.q 9 (.q 10 (.q 11 (.q 12 (.q 13 (.q 14 (.q 15 (.q 16 (.q 17 (.q 18 (.q 19 (.q 20 (.q 21 (.q 22 (.q 23 (.q 24 (.q 25 (.q 26 (.l 27 (.l 28 (.q 29 (.q 30 (.l 31 (.nil))))))))))))))))))))))))))))))))) (ExtM [A122.map (·.block)] w112) rfl (by kernel_rfl) ?_
     have hM := hM.drew
     rw [← hw] at hM ⊢
     clear hw
     have hne : ∀ m : Nat, m < 3 → 3 + (e79 : Int).toNat ≠ m := fun m hm => by omega
     have hap0 : ¬ some b7 ∈ [A122.map (·.block)] := apartN hM hat rfl (k := 0) rfl rfl (hne 0 (by decide))
     refine pi_q hf rfl rfl rfl rfl (ExtM.refl _ _) (e_move hf rfl) fun a hf => ?_
     refine pi_q hf rfl rfl rfl rfl (ExtM.refl _ _) (e_nil hf rfl) fun a hf => ?_
     refine pi_q hf rfl rfl rfl rfl (ExtM.refl _ _) (e_field hf rfl Tryd.underlying163 rfl Tryd.sizeOf24 (o' := 2) rfl) fun a hf => ?_
     refine pi_q hf rfl rfl rfl rfl (ExtM.refl _ _) (e_load1M hf rfl Tryd.isAgg24 (hM.boxCell (k := 0) rfl rfl) hap0) fun a hf => ?_
     iterate 2 refine pi_q hf rfl rfl rfl rfl (ExtM.refl _ _) (e_move hf rfl) fun a hf => ?_
     refine pi_q hf rfl rfl rfl rfl (ExtM.refl _ _) (e_nil hf rfl) fun a hf => ?_
     refine pi_q hf rfl rfl rfl rfl (ExtM.refl _ _) (e_field hf rfl Tryd.underlying163 rfl Tryd.sizeOf24 (o' := 2) rfl) fun a hf => ?_
     refine pi_q hf rfl rfl rfl rfl (ExtM.refl _ _) (e_load1M hf rfl Tryd.isAgg24 (hM.boxCell (k := 0) rfl rfl) hap0) fun a hf => ?_
     refine pi_q hf rfl rfl rfl rfl (ExtM.refl _ _) (e_move hf rfl) fun a hf => ?_
     obtain ⟨b119, _, hA120, h115, h116, hr117, hcell118⟩ := hM.rowElemN (k := 2) rfl (n := 3) rfl hzx
     obtain ⟨rfl, hv121⟩ := hr117
     have h116' : (e79 : Int) < y56.out.length := by rw [← hl1]; exact h116
     have hap2 : ¬ some b119 ∈ [A122.map (·.block)] := apartN hM hat rfl (k := 2) rfl (by show A60.map (·.block) = _; rw [hA120]; rfl) (hne 2 (by decide))
     refine pi_q hf rfl rfl rfl rfl (ExtM.refl _ _) (e_indexAddr (A := A60) (b := b119) (o := 0) (xs := y56.out) (i := e79) hf hA120 rfl rfl Tryd.underlying24 Tryd.sizeOf76 h115 h116') fun a hf => ?_
     refine pi_q hf rfl rfl rfl rfl (ExtM.refl _ _) (e_field hf rfl Tryd.underlying76 rfl Tryd.sizeOf31 (o' := (0 + (e79 : Int).toNat * 3) + 2) rfl) fun a hf => ?_
     refine pi_q hf rfl rfl rfl rfl (ExtM.refl _ _) (e_load1M hf rfl Tryd.isAgg31 (hcell118 2 _ rfl) hap2) fun a hf => ?_
     refine pi_q hf rfl rfl rfl rfl (ExtM.refl _ _) (e_move hf rfl) fun a hf => ?_
     refine pi_q hf rfl rfl rfl rfl (ExtM.refl _ _) (e_nil hf rfl) fun a hf => ?_
     refine pi_q hf rfl rfl rfl rfl (ExtM.refl _ _) (e_field hf rfl Tryd.underlying163 rfl Tryd.sizeOf31 (o' := 1) rfl) fun a hf => ?_
     refine pi_q hf rfl rfl rfl rfl (ExtM.refl _ _) (e_load1M hf rfl Tryd.isAgg31 (hM.boxCell (k := 0) rfl rfl) hap0) fun a hf => ?_
     iterate 2 refine pi_q hf rfl rfl rfl rfl (ExtM.refl _ _) (e_move hf rfl) fun a hf => ?_
     obtain ⟨e125, hz126, h96⟩ := bind_some h96
     obtain ⟨b130, o131, _, hA132, h127, h128, hr129, hM⟩ := hM.elem (hM.dat (k := 2) rfl) (n := 3) rfl hz126
     obtain ⟨A134, c135, rfl, hv133, hv136⟩ := NodeRep_open hr129
     have hM := hM.add (y := .dat (sliceRep intRep) e125.Next [vL A134 e125.Next c135]) hv136
     refine pi_q hf rfl rfl rfl rfl (ExtM.refl _ _) (e_indexAddr (A := A2) (b := b130) (o := o131) (xs := nodes1) (i := i67) hf hA132 rfl rfl Tryd.underlying24 Tryd.sizeOf76 h127 h128) fun a hf => ?_
     refine pi_q hf rfl rfl rfl rfl (ExtM.refl _ _) (e_field hf rfl Tryd.underlying76 rfl Tryd.sizeOf31 (o' := (o131 + (i67 : Int).toNat * 3) + 2) rfl) fun a hf => ?_
     refine pi_q hf rfl rfl rfl rfl (ExtM.refl _ _) (e_load1M hf rfl Tryd.isAgg31 (hM.litCell (k := 1) (j := 2) rfl rfl rfl) (apartNS hM hat rfl (hM.at_ (k := 1) rfl).1)) fun a hf => ?_
     refine pi_q hf rfl rfl rfl rfl (ExtM.refl _ _) (e_move hf rfl) fun a hf => ?_
     obtain ⟨e137, hz138, h96⟩ := bind_some h96
     obtain ⟨b142, o143, _, hA144, h139, h140, hr141, hM⟩ := hM.elem (hM.dat (k := 0) rfl) (n := 1) rfl hz138
     obtain ⟨rfl, hv145⟩ := hr141
     refine pi_q hf rfl rfl rfl rfl (ExtM.refl _ _) (e_indexAddr (A := A134) (b := b142) (o := o143) (xs := e125.Next) (i := n90) hf hA144 rfl rfl Tryd.underlying31 Tryd.sizeOf2 h139 h140) fun a hf => ?_
     refine pi_q hf rfl rfl rfl rfl (ExtM.refl _ _) (e_load1M hf rfl Tryd.isAgg2 (hM.litCell (k := 0) (j := 0) rfl rfl rfl) (apartNS hM hat rfl (hM.at_ (k := 0) rfl).1)) fun a hf => ?_
     obtain ⟨e146, hz147, h96⟩ := bind_some h96
     obtain ⟨b152, _, hA153, h148, h149, hr150, hcell151⟩ := hM.rowElemN (k := 1) rfl (n := 1) rfl hz147
     obtain ⟨rfl, hv154⟩ := hr150
     have hap1 : ¬ some b152 ∈ [A122.map (·.block)] := apartN hM hat rfl (k := 1) rfl (by show A58.map (·.block) = _; rw [hA153]; rfl) (hne 1 (by decide))
     refine pi_q hf rfl rfl rfl rfl (ExtM.refl _ _) (e_indexAddr (A := A58) (b := b152) (o := 0) (xs := y56.place) (i := e137) hf hA153 rfl rfl Tryd.underlying31 Tryd.sizeOf2 h148 h149) fun a hf => ?_
     refine pi_q hf rfl rfl rfl rfl (ExtM.refl _ _) (e_load1M hf rfl Tryd.isAgg2 (hcell151 0 _ rfl) hap1) fun a hf => ?_
     refine pi_one ?_
     refine pi_l hf rfl rfl rfl rfl (w_slice hf hM (K := intRep) (xs := ([e146] : (List Int))) (os := [.tmp 80]) Tryd.underlying31 ei_2 rfl rfl rfl rfl rfl ⟨⟨[vI (e146)], rfl, ⟨rfl, hv154⟩⟩, trivial⟩ rfl fun b155 w156 hx157 hM => ⟨ExtM [A122.map (·.block)] w156, fun _ h => ExtM.trans hx157 h, ExtM.refl _ _, fun a hf => ?_⟩)
     refine pi_one ?_
     obtain ⟨ys, hzy, h96⟩ := bind_some h96
     obtain ⟨xs2, hzs, h96⟩ := bind_some h96
     have hat2 := nest_at 2 [.row intRep (some ⟨b155, 0, none⟩) 1 2 ([e146] : (List Int)) true, .box b7 [vL A2 (nodes1) c3, vL A58 (y56.place) c59, vL A60 (y56.out) c61] 163, .row intRep A58 c59 2 y56.place true, .row NodeWRep A60 c61 76 ws true] hzx
     refine pi_l hf rfl rfl rfl rfl (w_appendX hf hM Tryd.underlying31 ei_2 rfl rfl rfl (k := 4 + (e79 : Int).toNat) hat2 (hM.srcRow (k := 0) rfl) hzy fun A40 c41 w158 hsz160 hold159 hM => ⟨Ext w158, fun _ h => ExtM.last (ExtM.ofRow (List.mem_of_getElem? (i := 0) rfl) hold159) hsz160 h, Ext.refl _, fun a hf => ?_⟩)
     have hM : Mem C w158 ([.row intRep (some ⟨b155, 0, none⟩) 1 2 ([e146] : (List Int)) true, .box b7 [vL A2 (nodes1) c3, vL A58 (y56.place) c59, vL A60 (y56.out) c61] 163, .row intRep A58 c59 2 y56.place true, .row NodeWRep A60 c61 76 ws true] ++ nestO 2 (ws.set (e79 : Int).toNat ⟨e113.Final, e113.Letters, A40, c41, ys⟩)) _ := (nest_set 2 [.row intRep (some ⟨b155, 0, none⟩) 1 2 ([e146] : (List Int)) true, .box b7 [vL A2 (nodes1) c3, vL A58 (y56.place) c59, vL A60 (y56.out) c61] 163, .row intRep A58 c59 2 y56.place true, .row NodeWRep A60 c61 76 ws true] (ws := ws) (i := e79) ⟨e113.Final, e113.Letters, A40, c41, ys⟩) ▸ hM
     refine pi_q hf rfl rfl rfl rfl (Ext.refl _) (e_indexAddr (A := A60) (b := b119) (o := 0) (xs := y56.out) (i := e79) hf hA120 rfl rfl Tryd.underlying24 Tryd.sizeOf76 h115 h116') fun a hf => ?_
     refine pi_q hf rfl rfl rfl rfl (Ext.refl _) (e_field hf rfl Tryd.underlying76 rfl Tryd.sizeOf31 (o' := (0 + (e79 : Int).toNat * 3) + 2) rfl) fun a hf => ?_
     refine pi_one ?_
     obtain ⟨_, _, _, hr162, hcell163⟩ := hM.rowElemA hA120 (k := 3) rfl (n := 3) rfl hzx
     obtain ⟨rfl, hv163⟩ := hr162
     refine pi_z0 hf rfl rfl rfl (by kernel_rfl) (w_storePart hf hM (K := NodeWRep) (x := (⟨e113.Final, e113.Letters, A40, c41, ys⟩ : NodeW)) (us := [vL A40 (ys) c41]) (row := [.bool (e113.Final), vS (e113.Letters), vL A122 (e113.Next) c123]) (i := e79) (d := 2) rfl rfl rfl hA120 (k := 3) rfl rfl Tryd.sizeOf31 hcell163 ⟨rfl, hv163⟩ (setL_nest hzx) rfl rfl fun w200 hM => ?_)
     have hM : Mem C w200 ([.row intRep (some ⟨b155, 0, none⟩) 1 2 ([e146] : (List Int)) true, .box b7 [vL A2 (nodes1) c3, vL A58 (y56.place) c59, vL A60 (y56.out) c61] 163, .row intRep A58 c59 2 y56.place true, .row NodeWRep A60 c61 76 (ws.set (e79 : Int).toNat ⟨e113.Final, e113.Letters, A40, c41, ys⟩) true] ++ nestO 2 (ws.set (e79 : Int).toNat ⟨e113.Final, e113.Letters, A40, c41, ys⟩)) _ := hM
     refine pi_nil ?_
     refine blk_n ?_
     refine then_n ?_
     refine region_pl ?_
     refine q_ hf rfl rfl rfl (e_move hf rfl) fun a hf => ?_
     obtain ⟨z170, hz171, h96⟩ := bind_some h96
     refine q_ hf rfl rfl rfl (e_add hf rfl rfl hz171) fun a hf => ?_
     refine q_ hf rfl rfl rfl (e_assign hf rfl) fun a hf => ?_
     refine pl_nil ?_
     obtain rfl := some_inj h96
     refine then_n ⟨_, rfl, ?_⟩
     exact ⟨xs2, ws.set (e79 : Int).toNat ⟨e113.Final, e113.Letters, A40, c41, ys⟩, z170, rfl, nest_to hw1 hzs rfl, by rw [List.length_set]; exact hl1, hf.keep ⟨rfl, rfl, rfl, rfl, rfl, trivial⟩, (hM.drop (.cons _ (List.Sublist.refl _))).pick [5] rfl, (chk_R hz171)⟩
    refine cond_f hf rfl hc111 ?_
    refine wp_exit ?_
    refine then_x ?_
    obtain rfl := some_inj h96
    obtain rfl := hd97 _ rfl
    refine then_x ?_
    refine exit_hit ?_
    refine blk_n ?_
    refine then_n ?_
    exact ⟨xs, ws, rfl, hw1, hl1, hf.keep ⟨rfl, rfl, rfl, trivial⟩, hM.pick [2] rfl⟩
   clear hw1 hl1 hM
   rintro a w177 ⟨xs, ws, rfl, hw1, hl1, hf, hM⟩
   try dsimp only at h73
   refine region_pl ?_
   refine q_ hf rfl rfl rfl (e_move hf rfl) fun a hf => ?_
   obtain ⟨z178, hz179, h73⟩ := bind_some h73
   refine q_ hf rfl rfl rfl (e_add hf rfl rfl hz179) fun a hf => ?_
   refine q_ hf rfl rfl rfl (e_assign hf rfl) fun a hf => ?_
   refine pl_nil ?_
   obtain rfl := some_inj h73
   refine then_n ⟨_, rfl, ?_⟩
   exact ⟨xs, ws, z178, rfl, hw1, hl1, hf.keep ⟨rfl, rfl, rfl, trivial⟩, hM.pick [0] rfl, (chk_R hz179)⟩
  refine cond_f hf rfl hc76 ?_
  refine wp_exit ?_
  refine then_x ?_
  obtain rfl := some_inj h73
  obtain rfl := hd74 _ rfl
  refine then_x ?_
  refine exit_hit ?_
  refine then_n ?_
  exact ⟨xs, ws, rfl, hw1, hl1, hf.keep ⟨rfl, trivial⟩, hM.pick [0] rfl⟩
 clear hM
 rintro a w185 ⟨xs, ws, rfl, hw1, hl1, hf, hM⟩
 try dsimp only at h
 obtain rfl := some_inj h
 refine wp_seq ?_
 refine region_pl ?_
 refine q_ hf rfl rfl rfl (e_move hf rfl) fun a hf => ?_
 refine q_ hf rfl rfl rfl (e_nil hf rfl) fun a hf => ?_
 refine q_ hf rfl rfl rfl (e_field hf rfl Tryd.underlying163 rfl Tryd.sizeOf24 (o' := 2) rfl) fun a hf => ?_
 refine q_ hf rfl rfl rfl (e_load1 hf rfl Tryd.isAgg24 (hM.boxCell (k := 0) rfl rfl)) fun a hf => ?_
 refine q_ hf rfl rfl rfl (e_assign hf rfl) fun a hf => ?_
 refine pl_nil ?_
 refine then_n ?_
 refine wp_ret ?_
 have hM := hM.unnest hw1
 have hlen : vL A60 y56.out c61 = vL A60 xs c61 := by unfold vL; rw [← hl1, ← hw1, List.length_map]
 rw [hlen] at hf
 exact leave1 hf rfl rfl ⟨A60, c61, rfl, hM.fin, (hM.dat (k := 0) rfl)⟩

set_option maxRecDepth 100000 in
set_option maxHeartbeats 4000000 in
theorem r_spec_l06Build (C : Cx) (list1 : (List Str)) (A2 : Option Addr) (c3 : Nat) (hp4 : (sliceRep strRep).R C.w0 C.S0 list1 [vL A2 list1 c3]) (r : Dawg) (h : m_spec_l06Build list1 = some r) :
    Calls Tryd.prog 71 #[vL A2 (list1) c3] C.w0 fun e w => ∃ (A_1 : Option Addr), ∃ (c_1 : Nat), e = .returned (.agg #[vL A_1 (r.Nodes) c_1]) ∧ Mem C w [] [] ∧ (sliceRep NodeRep).R w (Sh C [] w) r.Nodes [vL A_1 r.Nodes c_1] := by
 have hM := Mem.begin C [.dat (sliceRep strRep) list1 [vL A2 list1 c3]] ⟨hp4, trivial⟩
 refine enter Tryd.func71 rfl Tryd.ntmps71 rfl fun a hf => ?_
 unfold m_spec_l06Build at h
 refine wp_seq ?_
 refine region_pl ?_
 refine pl_l hf rfl rfl rfl (w_alloc hM (cs := [vL none (([] : (List Node))) 0]) Tryd.zeroValue26 rfl fun b5 w6 hx7 hM a hf => ?_)
 refine pl_nil ?_
 refine then_n ?_
 refine wp_seq ?_
 refine region_pl ?_
 refine q_ hf rfl rfl rfl (e_build hf Tryd.zeroValue140 Tryd.underlying140 (bp_140 _ Tryd.underlying140.symm) rfl (cs := #[vL none (([] : (List Node))) 0]) (by kernel_rfl)) fun a hf => ?_
 refine pl_l hf rfl rfl rfl (w_box hf hM (cs := [vL none (([] : (List Node))) 0]) rfl rfl fun b9 w10 hx11 hM a hf => ?_)
 refine q_ hf rfl rfl rfl (e_assign hf rfl) fun a hf => ?_
 refine pl_nil ?_
 refine then_n ?_
 refine wp_seq ?_
 refine region_pl ?_
 iterate 2 refine q_ hf rfl rfl rfl (e_move hf rfl) fun a hf => ?_
 have hM := hM.nilRow NodeRep 76
 have hM := hM.front (k := 0) rfl
 dsimp only [List.eraseIdx] at hM
 have hM := hM.front (k := 1) rfl
 dsimp only [List.eraseIdx] at hM
 have hM : Mem C _ ([.box b9 [vL none (([] : (List Node))) 0] 140, .row NodeRep none 0 76 ([] : (List Node)) true] ++ [.box b5 [vL none (([] : (List Node))) 0] 26]) _ := hM
 obtain ⟨y13, hz14, h⟩ := bind_some h
 refine pl_l hf rfl rfl rfl (w_call hf Tryd.call97 rfl (r_spec_l06B_build ⟨_, Sh C _ _, ownB _, hM.sh_lt, sub_dis, C.G, hM.g_lt, hM.g_own, hM.tabs⟩ (⟨([] : (List Node))⟩ : l06B) _ _ _ list1 _ _ (hM.dat (k := 0) rfl) hM.sub sub_dis _ hz14) ?_)
 rintro _ w18 ⟨A15, c16, rfl, hM2, hv17⟩
 obtain ⟨hM, hup20⟩ := hM.backG hM2
 dsimp only [List.cons_append, List.nil_append] at hM hup20
 clear hM2
 refine ⟨_, rfl, fun a hf => ?_⟩
 refine q_ hf rfl rfl rfl (e_assign hf rfl) fun a hf => ?_
 refine pl_nil ?_
 refine then_n ?_
 refine wp_seq ?_
 refine region_pl ?_
 refine q_ hf rfl rfl rfl (e_move hf rfl) fun a hf => ?_
 refine q_ hf rfl rfl rfl (e_nil hf rfl) fun a hf => ?_
 refine q_ hf rfl rfl rfl (e_field hf rfl Tryd.underlying140 rfl Tryd.sizeOf24 (o' := 0) rfl) fun a hf => ?_
 refine q_ hf rfl rfl rfl (e_load1 hf rfl Tryd.isAgg24 (hM.boxCell (k := 0) rfl rfl)) fun a hf => ?_
 refine q_ hf rfl rfl rfl (e_move hf rfl) fun a hf => ?_
 have hM := hM.freezeRow (k := 1) rfl rfl
 dsimp only [List.eraseIdx] at hM
 obtain ⟨y21, hz22, h⟩ := bind_some h
 refine pl_l hf rfl rfl rfl (w_call hf Tryd.call98 rfl (r_spec_l06Number ⟨_, Sh C _ _, none_, hM.sh_lt, none_not, C.G, hM.g_lt, g_none, hM.tabs⟩ y13.2.nodes _ _ (hM.dat (k := 0) rfl) y13.1 hv17 _ hz22) ?_)
 rintro _ w26 ⟨A23, c24, rfl, hM2, hv25⟩
 obtain ⟨hM, hx27, hup28⟩ := hM.back hM2
 dsimp only [List.cons_append, List.nil_append] at hM hup28
 clear hM2
 have hM := hM.add (y := .dat (sliceRep NodeRep) y21 [vL A23 y21 c24]) (hup28 hv25)
 refine ⟨_, rfl, fun a hf => ?_⟩
 refine q_ hf rfl rfl rfl (e_build hf Tryd.zeroValue26 Tryd.underlying26 (bp_26 _ Tryd.underlying26.symm) rfl (cs := #[vL A23 (y21) c24]) (by kernel_rfl)) fun a hf => ?_
 refine pl_0 hf rfl rfl (w_store hf hM (us := [vL A23 (y21) c24]) (cs' := [vL A23 (y21) c24]) rfl rfl (k := 1) rfl rfl Tryd.sizeOf26 rfl rfl rfl fun w29 hM => ?_)
 dsimp only [List.set] at hM
 refine pl_nil ?_
 refine then_n ?_
 refine wp_ret ?_
 obtain rfl := some_inj h
 have hres32 := leaveV1 (P := Tryd.prog) (w := w29) Tryd.results71 (res_agg hf rfl ⟨Tryd.isAgg26, Tryd.sizeOf26⟩ (us := [vL A23 (y21) c24]) rfl (hM.boxSub (k := 1) (o := 0) rfl rfl))
 have hM := hM.outs (own' := []) 0 rfl
 exact bodyPost_ret hres32 hf.defers ⟨A23, c24, rfl, hM.fin, (hM.dat (k := 0) rfl)⟩

set_option maxRecDepth 100000 in
set_option maxHeartbeats 4000000 in
theorem r_spec_l06Draw (C : Cx) (s1 : l00Src) (b2 : Nat) (A3 : Option Addr) (c4 : Nat) (hp5 : (sliceRep byteRep).R C.w0 C.S0 s1.code [vL A3 s1.code c4]) (hp6 : R64 s1.at_) (hp7 : U64 s1.seed) (most8 : Int) (hp9 : R64 most8) (hO : Mem C C.w0 [.box b2 [vL A3 (s1.code) c4, vI (s1.at_), vW (s1.seed)] 101] []) (hd : ∀ b, C.S0 b → ¬ ownB [.box b2 [vL A3 (s1.code) c4, vI (s1.at_), vW (s1.seed)] 101] b) (r : (Dawg × l00Src)) (h : m_spec_l06Draw s1 most8 = some r) :
    Calls Tryd.prog 41 #[vP b2 (0), vI (most8)] C.w0 fun e w => ∃ (A_1 : Option Addr), ∃ (c_1 : Nat), e = .returned (.agg #[vL A_1 (r.1.Nodes) c_1]) ∧ Mem C w [.box b2 [vL A3 (s1.code) c4, vI (r.2.at_), vW (r.2.seed)] 101] [] ∧ R64 r.2.at_ ∧ U64 r.2.seed ∧ (sliceRep NodeRep).R w (Sh C [.box b2 [vL A3 (s1.code) c4, vI (r.2.at_), vW (r.2.seed)] 101] w) r.1.Nodes [vL A_1 r.1.Nodes c_1] := by
 have hM := hO
 have hM := hM.addIn hd (y := .dat (sliceRep byteRep) s1.code [vL A3 s1.code c4]) hp5
 refine enter Tryd.func41 rfl Tryd.ntmps41 rfl fun a hf => ?_
 unfold m_spec_l06Draw at h
 refine wp_seq ?_
 refine region_pl ?_
 refine pl_l hf rfl rfl rfl (w_alloc hM (cs := [vL none (([] : (List Node))) 0]) Tryd.zeroValue26 rfl fun b10 w11 hx12 hM a hf => ?_)
 refine pl_nil ?_
 refine then_n ?_
 refine wp_seq ?_
 refine region_pl ?_
 iterate 2 refine q_ hf rfl rfl rfl (e_move hf rfl) fun a hf => ?_
 have hM := hM.front (k := 1) rfl
 dsimp only [List.eraseIdx] at hM
 have hM : Mem C _ ([.box b2 [vL A3 (s1.code) c4, vI (s1.at_), vW (s1.seed)] 101] ++ [.box b10 [vL none (([] : (List Node))) 0] 26]) _ := hM
 obtain ⟨y14, hz15, h⟩ := bind_some h
 refine pl_l hf rfl rfl rfl (w_call hf Tryd.call70 rfl (r_spec_l05Draw ⟨_, Sh C _ _, ownB _, hM.sh_lt, sub_dis, C.G, hM.g_lt, hM.g_own, hM.tabs⟩ s1 _ _ _ (hM.dat (k := 0) rfl) hp6 hp7 most8 hp9 hM.sub sub_dis _ hz15) ?_)
 rintro _ w20 ⟨A18, c19, rfl, hM2, hv16, hv17⟩
 obtain ⟨hM, hup22⟩ := hM.backG hM2
 dsimp only [List.cons_append, List.nil_append] at hM hup22
 clear hM2
 refine ⟨_, rfl, fun a hf => ?_⟩
 refine pl_l hf rfl rfl rfl (w_alloc hM (cs := [vL none (([] : (List Str))) 0]) Tryd.zeroValue40 rfl fun b23 w24 hx25 hM a hf => ?_)
 refine pl_0 hf rfl rfl (w_store hf hM (us := [vL A18 (y14.1.Words) c19]) (cs' := [vL A18 (y14.1.Words) c19]) rfl rfl (k := 0) rfl rfl Tryd.sizeOf40 rfl rfl rfl fun w27 hM => ?_)
 dsimp only [List.set] at hM
 refine pl_nil ?_
 refine then_n ?_
 refine wp_seq ?_
 refine region_pl ?_
 refine q_ hf rfl rfl rfl (e_field hf rfl Tryd.underlying40 rfl Tryd.sizeOf28 (o' := 0) rfl) fun a hf => ?_
 refine q_ hf rfl rfl rfl (e_load1 hf rfl Tryd.isAgg28 (hM.boxCell (k := 0) rfl rfl)) fun a hf => ?_
 have hM := hM.freezeRow (k := 2) rfl rfl
 dsimp only [List.eraseIdx] at hM
 obtain ⟨y30, hz31, h⟩ := bind_some h
 refine pl_l hf rfl rfl rfl (w_call hf Tryd.call71 rfl (r_spec_l06Build ⟨_, Sh C _ _, none_, hM.sh_lt, none_not, C.G, hM.g_lt, g_none, hM.tabs⟩ y14.1.Words _ _ (hM.dat (k := 0) rfl) _ hz31) ?_)
 rintro _ w35 ⟨A32, c33, rfl, hM2, hv34⟩
 obtain ⟨hM, hx36, hup37⟩ := hM.back hM2
 dsimp only [List.cons_append, List.nil_append] at hM hup37
 clear hM2
 have hM := hM.add (y := .dat (sliceRep NodeRep) y30.Nodes [vL A32 y30.Nodes c33]) (hup37 hv34)
 refine ⟨_, rfl, fun a hf => ?_⟩
 refine pl_0 hf rfl rfl (w_store hf hM (us := [vL A32 (y30.Nodes) c33]) (cs' := [vL A32 (y30.Nodes) c33]) rfl rfl (k := 2) rfl rfl Tryd.sizeOf26 rfl rfl rfl fun w38 hM => ?_)
 dsimp only [List.set] at hM
 refine pl_nil ?_
 refine then_n ?_
 refine wp_ret ?_
 obtain rfl := some_inj h
 have hres41 := leaveV1 (P := Tryd.prog) (w := w38) Tryd.results41 (res_agg hf rfl ⟨Tryd.isAgg26, Tryd.sizeOf26⟩ (us := [vL A32 (y30.Nodes) c33]) rfl (hM.boxSub (k := 2) (o := 0) rfl rfl))
 have hM := hM.front (k := 1) rfl
 dsimp only [List.eraseIdx] at hM
 have hM := hM.outs (own' := [.box b2 [vL A3 (s1.code) c4, vI (y14.2.at_), vW (y14.2.seed)] 101]) 1 rfl
 exact bodyPost_ret hres41 hf.defers ⟨A32, c33, rfl, hM.fin, hv16, hv17, (hM.dat (k := 0) rfl)⟩

set_option maxRecDepth 100000 in
set_option maxHeartbeats 4000000 in
theorem r_spec_A2Dawg (C : Cx) (code1 : Str) (A2 : Option Addr) (c3 : Nat) (hp4 : (sliceRep byteRep).R C.w0 C.S0 code1 [vL A2 code1 c3]) (r : Dawg) (h : m_spec_A2Dawg code1 = some r) :
    Calls Tryd.prog 13 #[vL A2 (code1) c3] C.w0 fun e w => ∃ (A_1 : Option Addr), ∃ (c_1 : Nat), e = .returned (.agg #[vL A_1 (r.Nodes) c_1]) ∧ Mem C w [] [] ∧ (sliceRep NodeRep).R w (Sh C [] w) r.Nodes [vL A_1 r.Nodes c_1] := by
 have hM := Mem.begin C [.dat (sliceRep byteRep) code1 [vL A2 code1 c3]] ⟨hp4, trivial⟩
 refine enter Tryd.func13 rfl Tryd.ntmps13 rfl fun a hf => ?_
 unfold m_spec_A2Dawg at h
 refine wp_seq ?_
 refine region_pl ?_
 refine pl_l hf rfl rfl rfl (w_alloc hM (cs := [vL none (([] : (List Node))) 0]) Tryd.zeroValue26 rfl fun b5 w6 hx7 hM a hf => ?_)
 refine pl_nil ?_
 refine then_n ?_
 refine wp_seq ?_
 refine region_pl ?_
 refine q_ hf rfl rfl rfl (e_move hf rfl) fun a hf => ?_
 obtain ⟨y9, hz10, h⟩ := bind_some h
 refine pl_l hf rfl rfl rfl (w_call hf Tryd.call42 rfl (r_spec_l00From ⟨_, Sh C _ _, none_, hM.sh_lt, none_not, C.G, hM.g_lt, g_none, hM.tabs⟩ code1 _ _ (hM.dat (k := 0) rfl) _ hz10) ?_)
 rintro _ w17 ⟨b11, A12, c13, rfl, hM2, hv14, hv15, hv16⟩
 obtain ⟨hM, hx18, hup19⟩ := hM.back hM2
 dsimp only [List.cons_append, List.nil_append] at hM hup19
 clear hM2
 have hM := hM.add (y := .dat (sliceRep byteRep) y9.code [vL A12 y9.code c13]) (hup19 hv14)
 refine ⟨_, rfl, fun a hf => ?_⟩
 have hM : Mem C _ ([.box b11 [vL A12 (y9.code) c13, vI (y9.at_), vW (y9.seed)] 101] ++ [.box b5 [vL none (([] : (List Node))) 0] 26]) _ := hM
 obtain ⟨y20, hz21, h⟩ := bind_some h
 refine pl_l hf rfl rfl rfl (w_call hf Tryd.call41 rfl (r_spec_l06Draw ⟨_, Sh C _ _, ownB _, hM.sh_lt, sub_dis, C.G, hM.g_lt, hM.g_own, hM.tabs⟩ y9 _ _ _ (hM.dat (k := 0) rfl) hv15 hv16 14 (R64_lit rfl) hM.sub sub_dis _ hz21) ?_)
 rintro _ w27 ⟨A24, c25, rfl, hM2, hv22, hv23, hv26⟩
 obtain ⟨hM, hup29⟩ := hM.backG hM2
 dsimp only [List.cons_append, List.nil_append] at hM hup29
 clear hM2
 have hM := hM.add (y := .dat (sliceRep NodeRep) y20.1.Nodes [vL A24 y20.1.Nodes c25]) (hup29 hv26)
 refine ⟨_, rfl, fun a hf => ?_⟩
 refine pl_0 hf rfl rfl (w_store hf hM (us := [vL A24 (y20.1.Nodes) c25]) (cs' := [vL A24 (y20.1.Nodes) c25]) rfl rfl (k := 1) rfl rfl Tryd.sizeOf26 rfl rfl rfl fun w30 hM => ?_)
 dsimp only [List.set] at hM
 refine pl_nil ?_
 refine then_n ?_
 refine wp_ret ?_
 obtain rfl := some_inj h
 have hres33 := leaveV1 (P := Tryd.prog) (w := w30) Tryd.results13 (res_agg hf rfl ⟨Tryd.isAgg26, Tryd.sizeOf26⟩ (us := [vL A24 (y20.1.Nodes) c25]) rfl (hM.boxSub (k := 1) (o := 0) rfl rfl))
 have hM := hM.outs (own' := []) 0 rfl
 exact bodyPost_ret hres33 hf.defers ⟨A24, c25, rfl, hM.fin, (hM.dat (k := 0) rfl)⟩

set_option maxRecDepth 100000 in
set_option maxHeartbeats 4000000 in
theorem r_spec_l00Src_text (C : Cx) (s1 : l00Src) (b2 : Nat) (A3 : Option Addr) (c4 : Nat) (hp5 : (sliceRep byteRep).R C.w0 C.S0 s1.code [vL A3 s1.code c4]) (hp6 : R64 s1.at_) (hp7 : U64 s1.seed) (list8 : (List Str)) (A9 : Option Addr) (c10 : Nat) (hp11 : (sliceRep strRep).R C.w0 C.S0 list8 [vL A9 list8 c10]) (hO : Mem C C.w0 [.box b2 [vL A3 (s1.code) c4, vI (s1.at_), vW (s1.seed)] 101] []) (hd : ∀ b, C.S0 b → ¬ ownB [.box b2 [vL A3 (s1.code) c4, vI (s1.at_), vW (s1.seed)] 101] b) (r : (Str × l00Src)) (h : m_spec_l00Src_text s1 list8 = some r) :
    Calls Tryd.prog 52 #[vP b2 (0), vL A9 (list8) c10] C.w0 fun e w => e = .returned (vS (r.1)) ∧ Mem C w [.box b2 [vL A3 (s1.code) c4, vI (r.2.at_), vW (r.2.seed)] 101] [] ∧ R64 r.2.at_ ∧ U64 r.2.seed ∧ r.1.length ≤ maxLen := by
 have hM := hO
 have hM := hM.addIn hd (y := .dat (sliceRep byteRep) s1.code [vL A3 s1.code c4]) hp5
 have hM := hM.addIn hd (y := .dat (sliceRep strRep) list8 [vL A9 list8 c10]) hp11
 refine enter Tryd.func52 rfl Tryd.ntmps52 rfl fun a hf => ?_
 unfold m_spec_l00Src_text at h
 refine wp_seq ?_
 refine region_pl ?_
 refine q_ hf rfl rfl rfl (e_assign hf rfl) fun a hf => ?_
 refine pl_nil ?_
 refine then_n ?_
 refine wp_seq ?_
 refine region_pl ?_
 iterate 3 refine q_ hf rfl rfl rfl (e_move hf rfl) fun a hf => ?_
 have hl12 := slice_len (hM.dat (k := 0) rfl)
 refine q_ hf rfl rfl rfl (e_lenL hf (x := list8) rfl Tryd.underlying28) fun a hf => ?_
 have hM : Mem C _ ([.box b2 [vL A3 (s1.code) c4, vI (s1.at_), vW (s1.seed)] 101] ++ []) _ := hM
 obtain ⟨y13, hz14, h⟩ := bind_some h
 refine pl_l hf rfl rfl rfl (w_call hf Tryd.call84 rfl (r_spec_l00Src_pick ⟨_, Sh C _ _, ownB _, hM.sh_lt, sub_dis, C.G, hM.g_lt, hM.g_own, hM.tabs⟩ s1 _ _ _ (hM.dat (k := 1) rfl) hp6 hp7 (list8.length : Int) (R64_len hl12) hM.sub sub_dis _ hz14) ?_)
 rintro _ w18 ⟨rfl, hM2, hv15, hv16, hv17⟩
 obtain ⟨hM, hup20⟩ := hM.backG hM2
 dsimp only [List.cons_append, List.nil_append] at hM hup20
 clear hM2
 refine ⟨_, rfl, fun a hf => ?_⟩
 obtain ⟨e21, hz22, h⟩ := bind_some h
 obtain ⟨b26, o27, _, hA28, h23, h24, hr25, hM⟩ := hM.elem (hM.dat (k := 0) rfl) (n := 1) rfl hz22
 obtain ⟨rfl, hv29⟩ := hr25
 refine q_ hf rfl rfl rfl (e_indexAddr (A := A9) (b := b26) (o := o27) (xs := list8) (i := y13.1) hf hA28 rfl rfl Tryd.underlying28 Tryd.sizeOf9 h23 h24) fun a hf => ?_
 refine q_ hf rfl rfl rfl (e_load1 hf rfl Tryd.isAgg9 (hM.litCell (k := 0) (j := 0) rfl rfl rfl)) fun a hf => ?_
 refine q_ hf rfl rfl rfl (e_assign hf rfl) fun a hf => ?_
 refine pl_nil ?_
 refine then_n ?_
 refine wp_ret ?_
 obtain rfl := some_inj h
 exact leave1 hf rfl rfl ⟨rfl, hM.fin, hv15, hv16, hv29⟩

set_option maxRecDepth 100000 in
set_option maxHeartbeats 4000000 in
theorem r_spec_A2Word (C : Cx) (code1 : Str) (A2 : Option Addr) (c3 : Nat) (hp4 : (sliceRep byteRep).R C.w0 C.S0 code1 [vL A2 code1 c3]) (r : Str) (h : m_spec_A2Word code1 = some r) :
    Calls Tryd.prog 19 #[vL A2 (code1) c3] C.w0 fun e w => e = .returned (vS (r)) ∧ Mem C w [] [] ∧ r.length ≤ maxLen := by
 have hM := Mem.begin C [.dat (sliceRep byteRep) code1 [vL A2 code1 c3]] ⟨hp4, trivial⟩
 refine enter Tryd.func19 rfl Tryd.ntmps19 rfl fun a hf => ?_
 unfold m_spec_A2Word at h
 refine wp_seq ?_
 refine region_pl ?_
 refine q_ hf rfl rfl rfl (e_assign hf rfl) fun a hf => ?_
 refine pl_nil ?_
 refine then_n ?_
 refine wp_seq ?_
 refine region_pl ?_
 refine q_ hf rfl rfl rfl (e_move hf rfl) fun a hf => ?_
 obtain ⟨y5, hz6, h⟩ := bind_some h
 refine pl_l hf rfl rfl rfl (w_call hf Tryd.call42 rfl (r_spec_l00From ⟨_, Sh C _ _, none_, hM.sh_lt, none_not, C.G, hM.g_lt, g_none, hM.tabs⟩ code1 _ _ (hM.dat (k := 0) rfl) _ hz6) ?_)
 rintro _ w13 ⟨b7, A8, c9, rfl, hM2, hv10, hv11, hv12⟩
 obtain ⟨hM, hx14, hup15⟩ := hM.back hM2
 dsimp only [List.cons_append, List.nil_append] at hM hup15
 clear hM2
 have hM := hM.add (y := .dat (sliceRep byteRep) y5.code [vL A8 y5.code c9]) (hup15 hv10)
 refine ⟨_, rfl, fun a hf => ?_⟩
 obtain ⟨y16, hz17, h⟩ := bind_some h
 refine pl_l hf rfl rfl rfl (w_call hf Tryd.call53 rfl (r_spec_l05Some ⟨_, Sh C _ _, none_, hM.sh_lt, none_not, C.G, hM.g_lt, g_none, hM.tabs⟩ _ hz17) ?_)
 rintro _ w20 ⟨A18, c19, rfl, hM2⟩
 obtain ⟨hM, hx21, hup22⟩ := hM.back hM2
 dsimp only [List.cons_append, List.nil_append] at hM hup22
 clear hM2
 refine ⟨_, rfl, fun a hf => ?_⟩
 have hM := hM.freezeRow (k := 0) rfl rfl
 dsimp only [List.eraseIdx] at hM
 have hM : Mem C _ ([.box b7 [vL A8 (y5.code) c9, vI (y5.at_), vW (y5.seed)] 101] ++ []) _ := hM
 obtain ⟨y23, hz24, h⟩ := bind_some h
 refine pl_l hf rfl rfl rfl (w_call hf Tryd.call52 rfl (r_spec_l00Src_text ⟨_, Sh C _ _, ownB _, hM.sh_lt, sub_dis, C.G, hM.g_lt, hM.g_own, hM.tabs⟩ y5 _ _ _ (hM.dat (k := 1) rfl) hv11 hv12 y16 _ _ (hM.dat (k := 0) rfl) hM.sub sub_dis _ hz24) ?_)
 rintro _ w28 ⟨rfl, hM2, hv25, hv26, hv27⟩
 obtain ⟨hM, hup30⟩ := hM.backG hM2
 dsimp only [List.cons_append, List.nil_append] at hM hup30
 clear hM2
 refine ⟨_, rfl, fun a hf => ?_⟩
 refine q_ hf rfl rfl rfl (e_assign hf rfl) fun a hf => ?_
 refine pl_nil ?_
 refine then_n ?_
 refine wp_ret ?_
 obtain rfl := some_inj h
 have hM := hM.outs (own' := []) 0 rfl
 exact leave1 hf rfl rfl ⟨rfl, hM.fin, hv27⟩

set_option maxRecDepth 100000 in
set_option maxHeartbeats 4000000 in
theorem r_laws_a2At (C : Cx) (code1 : Str) (A2 : Option Addr) (c3 : Nat) (hp4 : (sliceRep byteRep).R C.w0 C.S0 code1 [vL A2 code1 c3]) (at_5 : Int) (hp6 : R64 at_5) (n7 : Int) (hp8 : R64 n7) (r : Int) (h : m_laws_a2At code1 at_5 n7 = some r) :
    Calls Tryd.prog 20 #[vL A2 (code1) c3, vI (at_5), vI (n7)] C.w0 fun e w => e = .returned (vI (r)) ∧ Mem C w [] [] ∧ R64 r := by
 have hM := Mem.begin C [.dat (sliceRep byteRep) code1 [vL A2 code1 c3]] ⟨hp4, trivial⟩
 refine enter Tryd.func20 rfl Tryd.ntmps20 rfl fun a hf => ?_
 unfold m_laws_a2At at h
 refine wp_seq ?_
 refine region_pl ?_
 refine q_ hf rfl rfl rfl (e_assign hf rfl) fun a hf => ?_
 refine pl_nil ?_
 refine then_n ?_
 refine wp_seq ?_
 obtain ⟨x11, h12, h⟩ := bind_some h
 refine seq_join (fun a w => ∃ (t9 : Bool), t9 = x11 ∧ Has 22 a [(0, vL A2 (code1) c3), (1, vI (at_5)), (2, vI (n7)), (14, .bool (t9))] ∧ Mem C w [] [.dat (sliceRep byteRep) code1 [vL A2 code1 c3]]) ?_ ?_
 ·refine region_pl ?_
  iterate 2 refine q_ hf rfl rfl rfl (e_move hf rfl) fun a hf => ?_
  have hl13 := slice_len (hM.dat (k := 0) rfl)
  refine q_ hf rfl rfl rfl (e_lenL hf (x := code1) rfl Tryd.underlying22) fun a hf => ?_
  refine q_ hf rfl rfl rfl (e_ge hf (x := at_5) (y := (code1.length : Int)) rfl rfl) fun a hf => ?_
  refine q_ hf rfl rfl rfl (e_move hf rfl) fun a hf => ?_
  rcases cond_some h12 with ⟨hc14, h12⟩ | ⟨hc14, h12⟩
  ·iterate 2 refine pl_gs (wanted_f hf rfl rfl rfl rfl hc14) hf rfl rfl fun a hf => ?_
   refine q_ hf rfl rfl rfl (e_pick_t hf rfl hc14 rfl) fun a hf => ?_
   refine pl_nil ?_
   obtain rfl := some_inj h12
   refine then_n ?_
   exact ⟨true, rfl, hf.keep ⟨rfl, rfl, rfl, rfl, trivial⟩, hM.pick [0] rfl⟩
  refine gq (wanted_t hf rfl rfl rfl rfl hc14) hf rfl rfl (e_move hf rfl) fun a hf => ?_
  refine gq (wanted_t hf rfl rfl rfl rfl hc14) hf rfl rfl (e_lt hf (x := n7) (y := 1) rfl rfl) fun a hf => ?_
  refine q_ hf rfl rfl rfl (e_pick_f hf rfl hc14 rfl) fun a hf => ?_
  refine pl_nil ?_
  obtain rfl := some_inj h12
  refine then_n ?_
  exact ⟨(decide (n7 < 1)), rfl, hf.keep ⟨rfl, rfl, rfl, rfl, trivial⟩, hM.pick [0] rfl⟩
 rintro a w17 ⟨t9, rfl, hf, hM⟩
 try dsimp only at h
 rcases cond_some h with ⟨hc18, h⟩ | ⟨hc18, h⟩
 ·refine cond_t hf rfl hc18 ?_
  refine wp_seq ?_
  refine region_pl ?_
  refine q_ hf rfl rfl rfl (e_assign hf rfl) fun a hf => ?_
  refine pl_nil ?_
  refine then_n ?_
  refine wp_ret ?_
  refine then_r ?_
  obtain rfl := some_inj h
  exact leave1 hf rfl rfl ⟨rfl, hM.fin, (R64_lit rfl)⟩
 refine cond_f hf rfl hc18 ?_
 refine wp_skip ?_
 refine then_n ?_
 refine wp_seq ?_
 refine region_pl ?_
 iterate 2 refine q_ hf rfl rfl rfl (e_move hf rfl) fun a hf => ?_
 obtain ⟨e19, hz20, h⟩ := bind_some h
 obtain ⟨b24, o25, _, hA26, h21, h22, hr23, hM⟩ := hM.elem (hM.dat (k := 0) rfl) (n := 1) rfl hz20
 obtain rfl : _ = _ := hr23
 refine q_ hf rfl rfl rfl (e_indexAddr (A := A2) (b := b24) (o := o25) (xs := code1) (i := at_5) hf hA26 rfl rfl Tryd.underlying22 Tryd.sizeOf5 h21 h22) fun a hf => ?_
 refine q_ hf rfl rfl rfl (e_load1 hf rfl Tryd.isAgg5 (hM.litCell (k := 0) (j := 0) rfl rfl rfl)) fun a hf => ?_
 refine q_ hf rfl rfl rfl (e_convBI hf (x := e19) rfl Tryd.underlying5 Tryd.underlying2) fun a hf => ?_
 refine q_ hf rfl rfl rfl (e_move hf rfl) fun a hf => ?_
 obtain ⟨z27, hz28, h⟩ := bind_some h
 refine q_ hf rfl rfl rfl (e_rem hf rfl rfl hz28) fun a hf => ?_
 refine q_ hf rfl rfl rfl (e_assign hf rfl) fun a hf => ?_
 refine pl_nil ?_
 refine then_n ?_
 refine wp_ret ?_
 obtain rfl := some_inj h
 exact leave1 hf rfl rfl ⟨rfl, hM.fin, (remI_R hz28 (R64_byte _))⟩

set_option maxRecDepth 100000 in
set_option maxHeartbeats 4000000 in
theorem r_impl_small (C : Cx) (c1 : UInt8) (r : Bool) (h : m_impl_small c1 = some r) :
    Calls Tryd.prog 118 #[vB (c1)] C.w0 fun e w => e = .returned (.bool (r)) ∧ Mem C w [] [] := by
 have hM := Mem.begin C [] trivial
 refine enter Tryd.func118 rfl Tryd.ntmps118 rfl fun a hf => ?_
 unfold m_impl_small at h
 refine wp_seq ?_
 refine region_pl ?_
 refine q_ hf rfl rfl rfl (e_assign hf rfl) fun a hf => ?_
 refine pl_nil ?_
 refine then_n ?_
 obtain ⟨x4, h5, h⟩ := bind_some h
 refine seq_join (fun a w => ∃ (t2 : Bool), t2 = x4 ∧ Has 9 a [(2, .bool (t2))] ∧ Mem C w [] []) ?_ ?_
 ·refine region_pl ?_
  refine q_ hf rfl rfl rfl (e_move hf rfl) fun a hf => ?_
  refine q_ hf rfl rfl rfl (e_leB hf (x := 97) (y := c1) rfl rfl) fun a hf => ?_
  refine q_ hf rfl rfl rfl (e_move hf rfl) fun a hf => ?_
  rcases cond_some h5 with ⟨hc6, h5⟩ | ⟨hc6, h5⟩
  ·refine gq (wanted_t hf rfl rfl rfl rfl hc6) hf rfl rfl (e_move hf rfl) fun a hf => ?_
   refine gq (wanted_t hf rfl rfl rfl rfl hc6) hf rfl rfl (e_leB hf (x := c1) (y := 122) rfl rfl) fun a hf => ?_
   refine q_ hf rfl rfl rfl (e_pick_t hf rfl hc6 rfl) fun a hf => ?_
   refine q_ hf rfl rfl rfl (e_assign hf rfl) fun a hf => ?_
   refine pl_nil ?_
   obtain rfl := some_inj h5
   refine then_n ?_
   exact ⟨(decide (c1 ≤ 122)), rfl, hf.keep ⟨rfl, trivial⟩, hM.pick [] rfl⟩
  iterate 2 refine pl_gs (wanted_f hf rfl rfl rfl rfl hc6) hf rfl rfl fun a hf => ?_
  refine q_ hf rfl rfl rfl (e_pick_f hf rfl hc6 rfl) fun a hf => ?_
  refine q_ hf rfl rfl rfl (e_assign hf rfl) fun a hf => ?_
  refine pl_nil ?_
  obtain rfl := some_inj h5
  refine then_n ?_
  exact ⟨false, rfl, hf.keep ⟨rfl, trivial⟩, hM.pick [] rfl⟩
 rintro a w9 ⟨t2, rfl, hf, hM⟩
 try dsimp only at h
 refine wp_ret ?_
 obtain rfl := some_inj h
 exact leave1 hf rfl rfl ⟨rfl, hM.fin⟩

set_option maxRecDepth 100000 in
set_option maxHeartbeats 4000000 in
theorem r_impl_formByte (C : Cx) (c1 : UInt8) (r : Bool) (h : m_impl_formByte c1 = some r) :
    Calls Tryd.prog 101 #[vB (c1)] C.w0 fun e w => e = .returned (.bool (r)) ∧ Mem C w [] [] := by
 have hM := Mem.begin C [] trivial
 refine enter Tryd.func101 rfl Tryd.ntmps101 rfl fun a hf => ?_
 unfold m_impl_formByte at h
 refine wp_seq ?_
 refine region_pl ?_
 refine q_ hf rfl rfl rfl (e_assign hf rfl) fun a hf => ?_
 refine pl_nil ?_
 refine then_n ?_
 obtain ⟨x4, h5, h⟩ := bind_some h
 refine seq_join (fun a w => ∃ (t2 : Bool), t2 = x4 ∧ Has 9 a [(2, .bool (t2))] ∧ Mem C w [] []) ?_ ?_
 ·refine region_pl ?_
  refine q_ hf rfl rfl rfl (e_move hf rfl) fun a hf => ?_
  obtain ⟨y6, hz7, h5⟩ := bind_some h5
  refine pl_l hf rfl rfl rfl (w_call hf Tryd.call118 rfl (r_impl_small ⟨_, Sh C _ _, none_, hM.sh_lt, none_not, C.G, hM.g_lt, g_none, hM.tabs⟩ c1 _ hz7) ?_)
  rintro _ w8 ⟨rfl, hM2⟩
  obtain ⟨hM, hx9, hup10⟩ := hM.back hM2
  dsimp only [List.cons_append, List.nil_append] at hM hup10
  clear hM2
  refine ⟨_, rfl, fun a hf => ?_⟩
  refine q_ hf rfl rfl rfl (e_move hf rfl) fun a hf => ?_
  rcases cond_some h5 with ⟨hc11, h5⟩ | ⟨hc11, h5⟩
  ·iterate 2 refine pl_gs (wanted_f hf rfl rfl rfl rfl hc11) hf rfl rfl fun a hf => ?_
   refine q_ hf rfl rfl rfl (e_pick_t hf rfl hc11 rfl) fun a hf => ?_
   refine q_ hf rfl rfl rfl (e_assign hf rfl) fun a hf => ?_
   refine pl_nil ?_
   obtain rfl := some_inj h5
   refine then_n ?_
   exact ⟨true, rfl, hf.keep ⟨rfl, trivial⟩, hM.pick [] rfl⟩
  refine gq (wanted_t hf rfl rfl rfl rfl hc11) hf rfl rfl (e_move hf rfl) fun a hf => ?_
  refine gq (wanted_t hf rfl rfl rfl rfl hc11) hf rfl rfl (e_eqB hf (x := c1) (y := 62) rfl rfl) fun a hf => ?_
  refine q_ hf rfl rfl rfl (e_pick_f hf rfl hc11 rfl) fun a hf => ?_
  refine q_ hf rfl rfl rfl (e_assign hf rfl) fun a hf => ?_
  refine pl_nil ?_
  obtain rfl := some_inj h5
  refine then_n ?_
  exact ⟨(c1 == 62), rfl, hf.keep ⟨rfl, trivial⟩, hM.pick [] rfl⟩
 rintro a w14 ⟨t2, rfl, hf, hM⟩
 try dsimp only at h
 refine wp_ret ?_
 obtain rfl := some_inj h
 exact leave1 hf rfl rfl ⟨rfl, hM.fin⟩

set_option maxRecDepth 100000 in
set_option maxHeartbeats 4000000 in
theorem r_impl_within (C : Cx) (x1 : Int) (hp2 : R64 x1) (low3 : Int) (hp4 : R64 low3) (high5 : Int) (hp6 : R64 high5) (r : Bool) (h : m_impl_within x1 low3 high5 = some r) :
    Calls Tryd.prog 50 #[vI (x1), vI (low3), vI (high5)] C.w0 fun e w => e = .returned (.bool (r)) ∧ Mem C w [] [] := by
 have hM := Mem.begin C [] trivial
 refine enter Tryd.func50 rfl Tryd.ntmps50 rfl fun a hf => ?_
 unfold m_impl_within at h
 refine wp_seq ?_
 refine region_pl ?_
 refine q_ hf rfl rfl rfl (e_assign hf rfl) fun a hf => ?_
 refine pl_nil ?_
 refine then_n ?_
 obtain ⟨x9, h10, h⟩ := bind_some h
 refine seq_join (fun a w => ∃ (t7 : Bool), t7 = x9 ∧ Has 15 a [(6, .bool (t7))] ∧ Mem C w [] []) ?_ ?_
 ·refine region_pl ?_
  iterate 2 refine q_ hf rfl rfl rfl (e_move hf rfl) fun a hf => ?_
  refine q_ hf rfl rfl rfl (e_le hf (x := low3) (y := x1) rfl rfl) fun a hf => ?_
  refine q_ hf rfl rfl rfl (e_move hf rfl) fun a hf => ?_
  rcases cond_some h10 with ⟨hc11, h10⟩ | ⟨hc11, h10⟩
  ·iterate 2 refine gq (wanted_t hf rfl rfl rfl rfl hc11) hf rfl rfl (e_move hf rfl) fun a hf => ?_
   refine gq (wanted_t hf rfl rfl rfl rfl hc11) hf rfl rfl (e_le hf (x := x1) (y := high5) rfl rfl) fun a hf => ?_
   refine q_ hf rfl rfl rfl (e_pick_t hf rfl hc11 rfl) fun a hf => ?_
   refine q_ hf rfl rfl rfl (e_assign hf rfl) fun a hf => ?_
   refine pl_nil ?_
   obtain rfl := some_inj h10
   refine then_n ?_
   exact ⟨(decide (x1 ≤ high5)), rfl, hf.keep ⟨rfl, trivial⟩, hM.pick [] rfl⟩
  iterate 3 refine pl_gs (wanted_f hf rfl rfl rfl rfl hc11) hf rfl rfl fun a hf => ?_
  refine q_ hf rfl rfl rfl (e_pick_f hf rfl hc11 rfl) fun a hf => ?_
  refine q_ hf rfl rfl rfl (e_assign hf rfl) fun a hf => ?_
  refine pl_nil ?_
  obtain rfl := some_inj h10
  refine then_n ?_
  exact ⟨false, rfl, hf.keep ⟨rfl, trivial⟩, hM.pick [] rfl⟩
 rintro a w14 ⟨t7, rfl, hf, hM⟩
 try dsimp only at h
 refine wp_ret ?_
 obtain rfl := some_inj h
 exact leave1 hf rfl rfl ⟨rfl, hM.fin⟩

set_option maxRecDepth 100000 in
set_option maxHeartbeats 4000000 in
theorem r_impl_nodesOk (C : Cx) (d1 : Dawg) (A2 : Option Addr) (c3 : Nat) (hp4 : (sliceRep NodeRep).R C.w0 C.S0 d1.Nodes [vL A2 d1.Nodes c3]) (r : Bool) (h : m_impl_nodesOk d1 = some r) :
    Calls Tryd.prog 76 #[.agg #[vL A2 (d1.Nodes) c3]] C.w0 fun e w => e = .returned (.bool (r)) ∧ Mem C w [] [] := by
 have hM := Mem.begin C [.dat (sliceRep NodeRep) d1.Nodes [vL A2 d1.Nodes c3]] ⟨hp4, trivial⟩
 refine enter Tryd.func76 rfl Tryd.ntmps76 rfl fun a hf => ?_
 unfold m_impl_nodesOk at h
 refine wp_seq ?_
 refine region_pl ?_
 refine pl_l hf rfl rfl rfl (w_box hf hM (cs := [vL A2 (d1.Nodes) c3]) rfl rfl fun b5 w6 hx7 hM a hf => ?_)
 refine q_ hf rfl rfl rfl (e_assign hf rfl) fun a hf => ?_
 refine pl_nil ?_
 refine then_n ?_
 refine wp_seq ?_
 obtain ⟨x11, h12, h⟩ := bind_some h
 refine seq_join (fun a w => ∃ (t9 : Bool), t9 = x11 ∧ Has 72 a [(1, vP b5 (0)), (16, .bool (t9))] ∧ Mem C w [.box b5 [vL A2 (d1.Nodes) c3] 26] [.dat (sliceRep NodeRep) d1.Nodes [vL A2 d1.Nodes c3]]) ?_ ?_
 ·refine region_pl ?_
  refine q_ hf rfl rfl rfl (e_field hf rfl Tryd.underlying26 rfl Tryd.sizeOf24 (o' := 0) rfl) fun a hf => ?_
  refine q_ hf rfl rfl rfl (e_load1 hf rfl Tryd.isAgg24 (hM.boxCell (k := 0) rfl rfl)) fun a hf => ?_
  have hl13 := slice_len (hM.dat (k := 0) rfl)
  refine q_ hf rfl rfl rfl (e_lenL hf (x := d1.Nodes) rfl Tryd.underlying24) fun a hf => ?_
  refine q_ hf rfl rfl rfl (e_lt hf (x := (d1.Nodes.length : Int)) (y := 1) rfl rfl) fun a hf => ?_
  refine q_ hf rfl rfl rfl (e_move hf rfl) fun a hf => ?_
  rcases cond_some h12 with ⟨hc14, h12⟩ | ⟨hc14, h12⟩
  ·iterate 4 refine pl_gs (wanted_f hf rfl rfl rfl rfl hc14) hf rfl rfl fun a hf => ?_
   refine q_ hf rfl rfl rfl (e_pick_t hf rfl hc14 rfl) fun a hf => ?_
   refine pl_nil ?_
   obtain rfl := some_inj h12
   refine then_n ?_
   exact ⟨true, rfl, hf.keep ⟨rfl, rfl, trivial⟩, hM.pick [0] rfl⟩
  refine gq (wanted_t hf rfl rfl rfl rfl hc14) hf rfl rfl (e_field hf rfl Tryd.underlying26 rfl Tryd.sizeOf24 (o' := 0) rfl) fun a hf => ?_
  refine gq (wanted_t hf rfl rfl rfl rfl hc14) hf rfl rfl (e_load1 hf rfl Tryd.isAgg24 (hM.boxCell (k := 0) rfl rfl)) fun a hf => ?_
  have hl16 := slice_len (hM.dat (k := 0) rfl)
  refine gq (wanted_t hf rfl rfl rfl rfl hc14) hf rfl rfl (e_lenL hf (x := d1.Nodes) rfl Tryd.underlying24) fun a hf => ?_
  refine gq (wanted_t hf rfl rfl rfl rfl hc14) hf rfl rfl (e_gt hf (x := (d1.Nodes.length : Int)) (y := 3000) rfl rfl) fun a hf => ?_
  refine q_ hf rfl rfl rfl (e_pick_f hf rfl hc14 rfl) fun a hf => ?_
  refine pl_nil ?_
  obtain rfl := some_inj h12
  refine then_n ?_
  exact ⟨(decide (3000 < (d1.Nodes.length : Int))), rfl, hf.keep ⟨rfl, rfl, trivial⟩, hM.pick [0] rfl⟩
 rintro a w18 ⟨t9, rfl, hf, hM⟩
 try dsimp only at h
 rcases cond_some h with ⟨hc19, h⟩ | ⟨hc19, h⟩
 ·refine cond_t hf rfl hc19 ?_
  refine wp_seq ?_
  refine region_pl ?_
  refine q_ hf rfl rfl rfl (e_assign hf rfl) fun a hf => ?_
  refine pl_nil ?_
  refine then_n ?_
  refine wp_ret ?_
  refine then_r ?_
  obtain rfl := some_inj h
  have hM := hM.outs (own' := []) 0 rfl
  exact leave1 hf rfl rfl ⟨rfl, hM.fin⟩
 refine cond_f hf rfl hc19 ?_
 refine wp_skip ?_
 refine then_n ?_
 obtain ⟨x20, h21, h⟩ := bind_some h
 refine seq_join (fun a w => (.inl ()) = x20 ∧ Has 72 a [] ∧ Mem C w [.box b5 [vL A2 (d1.Nodes) c3] 26] [.dat (sliceRep NodeRep) d1.Nodes [vL A2 d1.Nodes c3]]) ?_ ?_
 ·refine wp_seq ?_
  refine region_pl ?_
  refine q_ hf rfl rfl rfl (e_field hf rfl Tryd.underlying26 rfl Tryd.sizeOf24 (o' := 0) rfl) fun a hf => ?_
  refine q_ hf rfl rfl rfl (e_load1 hf rfl Tryd.isAgg24 (hM.boxCell (k := 0) rfl rfl)) fun a hf => ?_
  have hl22 := slice_len (hM.dat (k := 0) rfl)
  refine q_ hf rfl rfl rfl (e_lenL hf (x := d1.Nodes) rfl Tryd.underlying24) fun a hf => ?_
  refine q_ hf rfl rfl rfl (e_move hf rfl) fun a hf => ?_
  refine pl_nil ?_
  refine then_n ?_
  refine wp_block ?_
  obtain ⟨x26, h27, h21⟩ := bind_some h21
  refine wp_loopM h27 (fun s a w => ∃ (n23 : Int), n23 = s ∧ Has 72 a [(1, vP b5 (0)), (18, vL A2 (d1.Nodes) c3), (19, vI ((d1.Nodes.length : Int))), (20, vI (n23))] ∧ Mem C w [.box b5 [vL A2 (d1.Nodes) c3] 26] [.dat (sliceRep NodeRep) d1.Nodes [vL A2 d1.Nodes c3]] ∧ R64 n23) ?_ ?_
  ·exact ⟨0, rfl, hf.keep ⟨rfl, rfl, rfl, rfl, trivial⟩, hM.pick [0] rfl, (R64_lit rfl)⟩
  rintro s o28 a w25 ⟨n23, rfl, hf, hM, hv24⟩ h29 hd30
  replace h29 : m_impl_nodesOk_l1 d1 n23 = some o28 := h29
  unfold m_impl_nodesOk_l1 at h29
  refine wp_seq ?_
  refine region_pl ?_
  refine q_ hf rfl rfl rfl (e_lt hf (x := n23) (y := (d1.Nodes.length : Int)) rfl rfl) fun a hf => ?_
  refine pl_nil ?_
  refine then_n ?_
  refine wp_seq ?_
  rcases cond_some h29 with ⟨hc31, h29⟩ | ⟨hc31, h29⟩
  ·refine cond_t hf rfl hc31 ?_
   refine wp_skip ?_
   refine then_n ?_
   obtain ⟨x32, h33, h29⟩ := bind_some h29
   refine seq_join (fun a w => (.inl ()) = x32 ∧ Has 72 a [(1, vP b5 (0)), (18, vL A2 (d1.Nodes) c3), (19, vI ((d1.Nodes.length : Int))), (20, vI (n23))] ∧ Mem C w [.box b5 [vL A2 (d1.Nodes) c3] 26] [.dat (sliceRep NodeRep) d1.Nodes [vL A2 d1.Nodes c3]]) ?_ ?_
   ·refine wp_block ?_
    refine wp_seq ?_
    refine region_pl ?_
    obtain ⟨e34, hz35, h33⟩ := bind_some h33
    obtain ⟨b39, o40, _, hA41, h36, h37, hr38, hM⟩ := hM.elem (hM.dat (k := 0) rfl) (n := 3) rfl hz35
    obtain ⟨A43, c44, rfl, hv42, hv45⟩ := NodeRep_open hr38
    have hM := hM.add (y := .dat (sliceRep intRep) e34.Next [vL A43 e34.Next c44]) hv45
    refine q_ hf rfl rfl rfl (e_indexAddr (A := A2) (b := b39) (o := o40) (xs := d1.Nodes) (i := n23) hf hA41 rfl rfl Tryd.underlying24 Tryd.sizeOf76 h36 h37) fun a hf => ?_
    refine q_ hf rfl rfl rfl (e_loadA hf (us := [.bool (e34.Final), vS (e34.Letters), vL A43 (e34.Next) c44]) rfl ⟨Tryd.isAgg76, Tryd.sizeOf76⟩ rfl (hM.litSub (k := 1) (d := 0) (us := [.bool (e34.Final), vS (e34.Letters), vL A43 (e34.Next) c44]) rfl rfl rfl)) fun a hf => ?_
    refine pl_l hf rfl rfl rfl (w_alloc hM (cs := [.bool (false), vS (([] : Str)), vL none (([] : (List Int))) 0]) Tryd.zeroValue76 rfl fun b46 w47 hx48 hM a hf => ?_)
    refine pl_0 hf rfl rfl (w_store hf hM (us := [.bool (e34.Final), vS (e34.Letters), vL A43 (e34.Next) c44]) (cs' := [.bool (e34.Final), vS (e34.Letters), vL A43 (e34.Next) c44]) rfl rfl (k := 0) rfl rfl Tryd.sizeOf76 rfl rfl rfl fun w50 hM => ?_)
    dsimp only [List.set] at hM
    refine pl_nil ?_
    refine then_n ?_
    iterate 2 refine wp_seq ?_
    refine region_pl ?_
    refine q_ hf rfl rfl rfl (e_field hf rfl Tryd.underlying76 rfl Tryd.sizeOf9 (o' := 1) rfl) fun a hf => ?_
    refine q_ hf rfl rfl rfl (e_load1 hf rfl Tryd.isAgg9 (hM.boxCell (k := 0) rfl rfl)) fun a hf => ?_
    refine q_ hf rfl rfl rfl (e_lenS hf (x := e34.Letters) rfl Tryd.underlying9) fun a hf => ?_
    refine q_ hf rfl rfl rfl (e_field hf rfl Tryd.underlying76 rfl Tryd.sizeOf31 (o' := 2) rfl) fun a hf => ?_
    refine q_ hf rfl rfl rfl (e_load1 hf rfl Tryd.isAgg31 (hM.boxCell (k := 0) rfl rfl)) fun a hf => ?_
    have hl53 := slice_len (hM.dat (k := 0) rfl)
    refine q_ hf rfl rfl rfl (e_lenL hf (x := e34.Next) rfl Tryd.underlying31) fun a hf => ?_
    refine q_ hf rfl rfl rfl (e_ne hf (x := (e34.Letters.length : Int)) (y := (e34.Next.length : Int)) rfl rfl) fun a hf => ?_
    refine pl_nil ?_
    refine then_n ?_
    rcases cond_some h33 with ⟨hc54, h33⟩ | ⟨hc54, h33⟩
    ·refine cond_t hf rfl hc54 ?_
     refine wp_seq ?_
     refine region_pl ?_
     refine q_ hf rfl rfl rfl (e_assign hf rfl) fun a hf => ?_
     refine pl_nil ?_
     refine then_n ?_
     refine wp_ret ?_
     refine then_r ?_
     refine blk_r ?_
     obtain rfl := some_inj h33
     try dsimp only at h29
     refine then_r ?_
     obtain rfl := some_inj h29
     obtain rfl := hd30 _ rfl
     try dsimp only at h21
     refine then_r ?_
     refine blk_r ?_
     obtain rfl := some_inj h21
     try dsimp only at h
     refine then_r ?_
     obtain rfl := some_inj h
     have hM := hM.outs (own' := []) 0 rfl
     exact leave1 hf rfl rfl ⟨rfl, hM.fin⟩
    refine cond_f hf rfl hc54 ?_
    refine wp_skip ?_
    refine then_n ?_
    refine wp_seq ?_
    refine region_pl ?_
    refine q_ hf rfl rfl rfl (e_field hf rfl Tryd.underlying76 rfl Tryd.sizeOf31 (o' := 2) rfl) fun a hf => ?_
    refine q_ hf rfl rfl rfl (e_load1 hf rfl Tryd.isAgg31 (hM.boxCell (k := 0) rfl rfl)) fun a hf => ?_
    have hl55 := slice_len (hM.dat (k := 0) rfl)
    refine q_ hf rfl rfl rfl (e_lenL hf (x := e34.Next) rfl Tryd.underlying31) fun a hf => ?_
    refine q_ hf rfl rfl rfl (e_move hf rfl) fun a hf => ?_
    refine pl_nil ?_
    refine then_n ?_
    refine wp_block ?_
    obtain ⟨x59, h60, h33⟩ := bind_some h33
    refine wp_loopM h60 (fun s a w => ∃ (n56 : Int), n56 = s ∧ Has 72 a [(1, vP b5 (0)), (4, vP b46 (0)), (18, vL A2 (d1.Nodes) c3), (19, vI ((d1.Nodes.length : Int))), (20, vI (n23)), (32, vL A43 (e34.Next) c44), (33, vI ((e34.Next.length : Int))), (34, vI (n56))] ∧ Mem C w [.box b46 [.bool (e34.Final), vS (e34.Letters), vL A43 (e34.Next) c44] 76, .box b5 [vL A2 (d1.Nodes) c3] 26] [.dat (sliceRep intRep) e34.Next [vL A43 e34.Next c44], .lit b39 (o40 + (n23 : Int).toNat * 3) [.bool (e34.Final), vS (e34.Letters), vL A43 (e34.Next) c44], .dat (sliceRep NodeRep) d1.Nodes [vL A2 d1.Nodes c3]] ∧ R64 n56) ?_ ?_
    ·exact ⟨0, rfl, hf.keep ⟨rfl, rfl, rfl, rfl, rfl, rfl, rfl, rfl, trivial⟩, hM.pick [0, 1, 2] rfl, (R64_lit rfl)⟩
    rintro s o61 a w58 ⟨n56, rfl, hf, hM, hv57⟩ h62 hd63
    replace h62 : m_impl_nodesOk_l2 e34 d1 n56 = some o61 := h62
    unfold m_impl_nodesOk_l2 at h62
    refine wp_seq ?_
    refine region_pl ?_
    refine q_ hf rfl rfl rfl (e_lt hf (x := n56) (y := (e34.Next.length : Int)) rfl rfl) fun a hf => ?_
    refine pl_nil ?_
    refine then_n ?_
    refine wp_seq ?_
    rcases cond_some h62 with ⟨hc64, h62⟩ | ⟨hc64, h62⟩
    ·refine cond_t hf rfl hc64 ?_
     refine wp_skip ?_
     refine then_n ?_
     refine wp_seq ?_
     refine wp_block ?_
     refine wp_seq ?_
     refine region_pl ?_
     refine q_ hf rfl rfl rfl (e_move hf rfl) fun a hf => ?_
     obtain ⟨e65, hz66, h62⟩ := bind_some h62
     obtain ⟨b70, o71, _, hA72, h67, h68, hr69, hM⟩ := hM.elem (hM.dat (k := 0) rfl) (n := 1) rfl hz66
     obtain ⟨rfl, hv73⟩ := hr69
     refine q_ hf rfl rfl rfl (e_indexAddr (A := A43) (b := b70) (o := o71) (xs := e34.Next) (i := n56) hf hA72 rfl rfl Tryd.underlying31 Tryd.sizeOf2 h67 h68) fun a hf => ?_
     refine q_ hf rfl rfl rfl (e_load1 hf rfl Tryd.isAgg2 (hM.litCell (k := 0) (j := 0) rfl rfl rfl)) fun a hf => ?_
     iterate 2 refine q_ hf rfl rfl rfl (e_assign hf rfl) fun a hf => ?_
     refine pl_nil ?_
     refine then_n ?_
     obtain ⟨x76, h77, h62⟩ := bind_some h62
     refine seq_join (fun a w => ∃ (t74 : Bool), t74 = x76 ∧ Has 72 a [(1, vP b5 (0)), (4, vP b46 (0)), (18, vL A2 (d1.Nodes) c3), (19, vI ((d1.Nodes.length : Int))), (20, vI (n23)), (32, vL A43 (e34.Next) c44), (33, vI ((e34.Next.length : Int))), (34, vI (n56)), (69, .bool (t74))] ∧ Mem C w [.box b46 [.bool (e34.Final), vS (e34.Letters), vL A43 (e34.Next) c44] 76, .box b5 [vL A2 (d1.Nodes) c3] 26] [.lit b70 (o71 + (n56 : Int).toNat * 1) [vI (e65)], .dat (sliceRep intRep) e34.Next [vL A43 e34.Next c44], .lit b39 (o40 + (n23 : Int).toNat * 3) [.bool (e34.Final), vS (e34.Letters), vL A43 (e34.Next) c44], .dat (sliceRep NodeRep) d1.Nodes [vL A2 d1.Nodes c3]]) ?_ ?_
     ·obtain ⟨w78, hw⟩ : ∃ x, x = w58.drew := ⟨_, rfl⟩
      refine region_pi (.q 0 (.q 1 (.q 2 (.q 3 (.l 4 (.q 5 (.q 6 (.q 7 (.q 8 (.q 9 (.q 10 (.q 11 (.q 12 (.q 13 (.q 14 (.q 15 (.q 16 (.q 17 (.q 18 (.q 19 (.q 20 (.q 21 (.q 22 (.q 23 (.q 24 (.q 25 (.q 26 (.q 27 (.l 28 (.q 29 (.q 30 (.nil)))))))))))))))))))))))))))))))) (Ext w78) rfl (by kernel_rfl) ?_
      have hM := hM.drew
      rw [← hw] at hM ⊢
      clear hw
      refine pi_q hf rfl rfl rfl rfl (Ext.refl _) (e_field hf rfl Tryd.underlying76 rfl Tryd.sizeOf9 (o' := 1) rfl) fun a hf => ?_
      refine pi_q hf rfl rfl rfl rfl (Ext.refl _) (e_load1 hf rfl Tryd.isAgg9 (hM.boxCell (k := 0) rfl rfl)) fun a hf => ?_
      refine pi_q hf rfl rfl rfl rfl (Ext.refl _) (e_move hf rfl) fun a hf => ?_
      obtain ⟨c79, hz80, h77⟩ := bind_some h77
      refine pi_q hf rfl rfl rfl rfl (Ext.refl _) (e_indexS hf (x := e34.Letters) rfl rfl Tryd.underlying9 hz80) fun a hf => ?_
      refine pi_one ?_
      obtain ⟨y81, hz82, h77⟩ := bind_some h77
      refine pi_l hf rfl rfl rfl rfl (w_call hf Tryd.call101 rfl (r_impl_formByte ⟨_, Sh C _ _, none_, hM.sh_lt, none_not, C.G, hM.g_lt, g_none, hM.tabs⟩ c79 _ hz82) ?_)
      rintro _ w83 ⟨rfl, hM2⟩
      obtain ⟨hM, hx84, hup85⟩ := hM.back hM2
      dsimp only [List.cons_append, List.nil_append] at hM hup85
      clear hM2
      refine ⟨_, rfl, Ext w83, fun _ h => Ext.trans hx84 h, Ext.refl _, fun a hf => ?_⟩
      refine pi_q hf rfl rfl rfl rfl (Ext.refl _) (e_not hf rfl) fun a hf => ?_
      refine pi_q hf rfl rfl rfl rfl (Ext.refl _) (e_move hf rfl) fun a hf => ?_
      rcases cond_some h77 with ⟨hc86, h77⟩ | ⟨hc86, h77⟩
      ·iterate 3 refine pi_gs hf rfl (wanted_f hf rfl rfl rfl rfl hc86) rfl rfl (Ext.refl _) fun a hf => ?_
       iterate 10 refine pi_gs hf rfl (wanted_u hf rfl rfl rfl rfl) rfl rfl (Ext.refl _) fun a hf => ?_
       refine pi_gs hf rfl (wanted_f hf rfl rfl rfl rfl hc86) rfl rfl (Ext.refl _) fun a hf => ?_
       refine pi_q hf rfl rfl rfl rfl (Ext.refl _) (e_pick_t hf rfl hc86 rfl) fun a hf => ?_
       refine pi_q hf rfl rfl rfl rfl (Ext.refl _) (e_move hf rfl) fun a hf => ?_
       iterate 5 refine pi_gs hf rfl (wanted_f hf rfl rfl rfl rfl rfl) rfl rfl (Ext.refl _) fun a hf => ?_
       refine pi_one ?_
       refine pi_ls hf rfl (wanted_f hf rfl rfl rfl rfl rfl) rfl rfl (Ext.refl _) fun a hf => ?_
       refine pi_gs hf rfl (wanted_f hf rfl rfl rfl rfl rfl) rfl rfl (Ext.refl _) fun a hf => ?_
       refine pi_q hf rfl rfl rfl rfl (Ext.refl _) (e_pick_t hf rfl rfl rfl) fun a hf => ?_
       refine pi_nil ?_
       obtain rfl := some_inj h77
       refine then_n ?_
       exact ⟨true, rfl, hf.keep ⟨rfl, rfl, rfl, rfl, rfl, rfl, rfl, rfl, rfl, trivial⟩, hM.pick [0, 1, 2, 3] rfl⟩
      refine pi_gq hf rfl (wanted_t hf rfl rfl rfl rfl hc86) rfl rfl (Ext.refl _) (e_move hf rfl) fun a hf => ?_
      refine pi_gq hf rfl (wanted_t hf rfl rfl rfl rfl hc86) rfl rfl (Ext.refl _) (e_gt hf (x := n56) (y := 0) rfl rfl) fun a hf => ?_
      refine pi_gq hf rfl (wanted_t hf rfl rfl rfl rfl hc86) rfl rfl (Ext.refl _) (e_move hf rfl) fun a hf => ?_
      rcases cond_some h77 with ⟨hc88, h77⟩ | ⟨hc88, h77⟩
      ·refine pi_gq hf rfl (wanted_t hf rfl rfl rfl rfl hc88) rfl rfl (Ext.refl _) (e_field hf rfl Tryd.underlying76 rfl Tryd.sizeOf9 (o' := 1) rfl) fun a hf => ?_
       refine pi_gq hf rfl (wanted_t hf rfl rfl rfl rfl hc88) rfl rfl (Ext.refl _) (e_load1 hf rfl Tryd.isAgg9 (hM.boxCell (k := 0) rfl rfl)) fun a hf => ?_
       refine pi_gq hf rfl (wanted_t hf rfl rfl rfl rfl hc88) rfl rfl (Ext.refl _) (e_move hf rfl) fun a hf => ?_
       obtain ⟨z89, hz90, h77⟩ := bind_some h77
       refine pi_gq hf rfl (wanted_t hf rfl rfl rfl rfl hc88) rfl rfl (Ext.refl _) (e_sub hf rfl rfl hz90) fun a hf => ?_
       obtain ⟨c91, hz92, h77⟩ := bind_some h77
       refine pi_gq hf rfl (wanted_t hf rfl rfl rfl rfl hc88) rfl rfl (Ext.refl _) (e_indexS hf (x := e34.Letters) rfl rfl Tryd.underlying9 hz92) fun a hf => ?_
       refine pi_gq hf rfl (wanted_t hf rfl rfl rfl rfl hc88) rfl rfl (Ext.refl _) (e_field hf rfl Tryd.underlying76 rfl Tryd.sizeOf9 (o' := 1) rfl) fun a hf => ?_
       refine pi_gq hf rfl (wanted_t hf rfl rfl rfl rfl hc88) rfl rfl (Ext.refl _) (e_load1 hf rfl Tryd.isAgg9 (hM.boxCell (k := 0) rfl rfl)) fun a hf => ?_
       refine pi_gq hf rfl (wanted_t hf rfl rfl rfl rfl hc88) rfl rfl (Ext.refl _) (e_move hf rfl) fun a hf => ?_
       obtain ⟨c93, hz94, h77⟩ := bind_some h77
       refine pi_gq hf rfl (wanted_t hf rfl rfl rfl rfl hc88) rfl rfl (Ext.refl _) (e_indexS hf (x := e34.Letters) rfl rfl Tryd.underlying9 hz94) fun a hf => ?_
       refine pi_gq hf rfl (wanted_t hf rfl rfl rfl rfl hc88) rfl rfl (Ext.refl _) (e_geB hf (x := c91) (y := c93) rfl rfl) fun a hf => ?_
       refine pi_gq hf rfl (wanted_t hf rfl rfl rfl rfl hc86) rfl rfl (Ext.refl _) (e_pick_t hf rfl hc88 rfl) fun a hf => ?_
       refine pi_q hf rfl rfl rfl rfl (Ext.refl _) (e_pick_f hf rfl hc86 rfl) fun a hf => ?_
       refine pi_q hf rfl rfl rfl rfl (Ext.refl _) (e_move hf rfl) fun a hf => ?_
       rcases cond_some h77 with ⟨hc95, h77⟩ | ⟨hc95, h77⟩
       ·iterate 5 refine pi_gs hf rfl (wanted_f hf rfl rfl rfl rfl hc95) rfl rfl (Ext.refl _) fun a hf => ?_
        refine pi_one ?_
        refine pi_ls hf rfl (wanted_f hf rfl rfl rfl rfl hc95) rfl rfl (Ext.refl _) fun a hf => ?_
        refine pi_gs hf rfl (wanted_f hf rfl rfl rfl rfl hc95) rfl rfl (Ext.refl _) fun a hf => ?_
        refine pi_q hf rfl rfl rfl rfl (Ext.refl _) (e_pick_t hf rfl hc95 rfl) fun a hf => ?_
        refine pi_nil ?_
        obtain rfl := some_inj h77
        refine then_n ?_
        exact ⟨true, rfl, hf.keep ⟨rfl, rfl, rfl, rfl, rfl, rfl, rfl, rfl, rfl, trivial⟩, hM.pick [0, 1, 2, 3] rfl⟩
       refine pi_gq hf rfl (wanted_t hf rfl rfl rfl rfl hc95) rfl rfl (Ext.refl _) (e_move hf rfl) fun a hf => ?_
       refine pi_gq hf rfl (wanted_t hf rfl rfl rfl rfl hc95) rfl rfl (Ext.refl _) (e_field hf rfl Tryd.underlying26 rfl Tryd.sizeOf24 (o' := 0) rfl) fun a hf => ?_
       refine pi_gq hf rfl (wanted_t hf rfl rfl rfl rfl hc95) rfl rfl (Ext.refl _) (e_load1 hf rfl Tryd.isAgg24 (hM.boxCell (k := 1) rfl rfl)) fun a hf => ?_
       have hl97 := slice_len (hM.dat (k := 3) rfl)
       refine pi_gq hf rfl (wanted_t hf rfl rfl rfl rfl hc95) rfl rfl (Ext.refl _) (e_lenL hf (x := d1.Nodes) rfl Tryd.underlying24) fun a hf => ?_
       obtain ⟨z98, hz99, h77⟩ := bind_some h77
       refine pi_gq hf rfl (wanted_t hf rfl rfl rfl rfl hc95) rfl rfl (Ext.refl _) (e_sub hf rfl rfl hz99) fun a hf => ?_
       refine pi_one ?_
       obtain ⟨y100, hz101, h77⟩ := bind_some h77
       refine pi_gl hf rfl (wanted_t hf rfl rfl rfl rfl hc95) rfl rfl (w_call hf Tryd.call50 rfl (r_impl_within ⟨_, Sh C _ _, none_, hM.sh_lt, none_not, C.G, hM.g_lt, g_none, hM.tabs⟩ e65 hv73 0 (R64_lit rfl) z98 (chk_R hz99) _ hz101) ?_)
       rintro _ w102 ⟨rfl, hM2⟩
       obtain ⟨hM, hx103, hup104⟩ := hM.back hM2
       dsimp only [List.cons_append, List.nil_append] at hM hup104
       clear hM2
       refine ⟨_, rfl, Ext w102, fun _ h => Ext.trans hx103 h, Ext.refl _, fun a hf => ?_⟩
       refine pi_gq hf rfl (wanted_t hf rfl rfl rfl rfl hc95) rfl rfl (Ext.refl _) (e_not hf rfl) fun a hf => ?_
       refine pi_q hf rfl rfl rfl rfl (Ext.refl _) (e_pick_f hf rfl hc95 rfl) fun a hf => ?_
       refine pi_nil ?_
       obtain rfl := some_inj h77
       refine then_n ?_
       exact ⟨(!y100), rfl, hf.keep ⟨rfl, rfl, rfl, rfl, rfl, rfl, rfl, rfl, rfl, trivial⟩, hM.pick [0, 1, 2, 3] rfl⟩
      iterate 10 refine pi_gs hf rfl (wanted_f hf rfl rfl rfl rfl hc88) rfl rfl (Ext.refl _) fun a hf => ?_
      refine pi_gq hf rfl (wanted_t hf rfl rfl rfl rfl hc86) rfl rfl (Ext.refl _) (e_pick_f hf rfl hc88 rfl) fun a hf => ?_
      refine pi_q hf rfl rfl rfl rfl (Ext.refl _) (e_pick_f hf rfl hc86 rfl) fun a hf => ?_
      refine pi_q hf rfl rfl rfl rfl (Ext.refl _) (e_move hf rfl) fun a hf => ?_
      refine pi_gq hf rfl (wanted_t hf rfl rfl rfl rfl rfl) rfl rfl (Ext.refl _) (e_move hf rfl) fun a hf => ?_
      refine pi_gq hf rfl (wanted_t hf rfl rfl rfl rfl rfl) rfl rfl (Ext.refl _) (e_field hf rfl Tryd.underlying26 rfl Tryd.sizeOf24 (o' := 0) rfl) fun a hf => ?_
      refine pi_gq hf rfl (wanted_t hf rfl rfl rfl rfl rfl) rfl rfl (Ext.refl _) (e_load1 hf rfl Tryd.isAgg24 (hM.boxCell (k := 1) rfl rfl)) fun a hf => ?_
      have hl106 := slice_len (hM.dat (k := 3) rfl)
      refine pi_gq hf rfl (wanted_t hf rfl rfl rfl rfl rfl) rfl rfl (Ext.refl _) (e_lenL hf (x := d1.Nodes) rfl Tryd.underlying24) fun a hf => ?_
      obtain ⟨z107, hz108, h77⟩ := bind_some h77
      refine pi_gq hf rfl (wanted_t hf rfl rfl rfl rfl rfl) rfl rfl (Ext.refl _) (e_sub hf rfl rfl hz108) fun a hf => ?_
      refine pi_one ?_
      obtain ⟨y109, hz110, h77⟩ := bind_some h77
      refine pi_gl hf rfl (wanted_t hf rfl rfl rfl rfl rfl) rfl rfl (w_call hf Tryd.call50 rfl (r_impl_within ⟨_, Sh C _ _, none_, hM.sh_lt, none_not, C.G, hM.g_lt, g_none, hM.tabs⟩ e65 hv73 0 (R64_lit rfl) z107 (chk_R hz108) _ hz110) ?_)
      rintro _ w111 ⟨rfl, hM2⟩
      obtain ⟨hM, hx112, hup113⟩ := hM.back hM2
      dsimp only [List.cons_append, List.nil_append] at hM hup113
      clear hM2
      refine ⟨_, rfl, Ext w111, fun _ h => Ext.trans hx112 h, Ext.refl _, fun a hf => ?_⟩
      refine pi_gq hf rfl (wanted_t hf rfl rfl rfl rfl rfl) rfl rfl (Ext.refl _) (e_not hf rfl) fun a hf => ?_
      refine pi_q hf rfl rfl rfl rfl (Ext.refl _) (e_pick_f hf rfl rfl rfl) fun a hf => ?_
      refine pi_nil ?_
      obtain rfl := some_inj h77
      refine then_n ?_
      exact ⟨(!y109), rfl, hf.keep ⟨rfl, rfl, rfl, rfl, rfl, rfl, rfl, rfl, rfl, trivial⟩, hM.pick [0, 1, 2, 3] rfl⟩
     rintro a w115 ⟨t74, rfl, hf, hM⟩
     try dsimp only at h62
     rcases cond_some h62 with ⟨hc116, h62⟩ | ⟨hc116, h62⟩
     ·refine cond_t hf rfl hc116 ?_
      refine wp_seq ?_
      refine region_pl ?_
      refine q_ hf rfl rfl rfl (e_assign hf rfl) fun a hf => ?_
      refine pl_nil ?_
      refine then_n ?_
      refine wp_ret ?_
      refine blk_r ?_
      refine then_r ?_
      obtain rfl := some_inj h62
      obtain rfl := hd63 _ rfl
      try dsimp only at h33
      refine then_r ?_
      iterate 2 refine blk_r ?_
      obtain rfl := some_inj h33
      try dsimp only at h29
      refine then_r ?_
      obtain rfl := some_inj h29
      obtain rfl := hd30 _ rfl
      try dsimp only at h21
      refine then_r ?_
      refine blk_r ?_
      obtain rfl := some_inj h21
      try dsimp only at h
      refine then_r ?_
      obtain rfl := some_inj h
      have hM := hM.outs (own' := []) 0 rfl
      exact leave1 hf rfl rfl ⟨rfl, hM.fin⟩
     refine cond_f hf rfl hc116 ?_
     refine wp_skip ?_
     refine blk_n ?_
     refine then_n ?_
     refine region_pl ?_
     obtain ⟨z117, hz118, h62⟩ := bind_some h62
     refine q_ hf rfl rfl rfl (e_add hf rfl rfl hz118) fun a hf => ?_
     refine q_ hf rfl rfl rfl (e_move hf rfl) fun a hf => ?_
     refine pl_nil ?_
     obtain rfl := some_inj h62
     refine then_n ⟨_, rfl, ?_⟩
     exact ⟨z117, rfl, hf.keep ⟨rfl, rfl, rfl, rfl, rfl, rfl, rfl, rfl, trivial⟩, hM.pick [1, 2, 3] rfl, (chk_R hz118)⟩
    refine cond_f hf rfl hc64 ?_
    refine wp_exit ?_
    refine then_x ?_
    obtain rfl := some_inj h62
    obtain rfl := hd63 _ rfl
    try dsimp only at h33
    refine then_x ?_
    refine exit_hit ?_
    refine blk_n ?_
    obtain rfl := some_inj h33
    refine then_n ?_
    exact ⟨rfl, hf.keep ⟨rfl, rfl, rfl, rfl, trivial⟩, (hM.drop (.cons _ (.cons_cons _ .slnil))).pick [2] rfl⟩
   rintro a w125 ⟨rfl, hf, hM⟩
   try dsimp only at h29
   refine region_pl ?_
   obtain ⟨z126, hz127, h29⟩ := bind_some h29
   refine q_ hf rfl rfl rfl (e_add hf rfl rfl hz127) fun a hf => ?_
   refine q_ hf rfl rfl rfl (e_move hf rfl) fun a hf => ?_
   refine pl_nil ?_
   obtain rfl := some_inj h29
   refine then_n ⟨_, rfl, ?_⟩
   exact ⟨z126, rfl, hf.keep ⟨rfl, rfl, rfl, rfl, trivial⟩, hM.pick [0] rfl, (chk_R hz127)⟩
  refine cond_f hf rfl hc31 ?_
  refine wp_exit ?_
  refine then_x ?_
  obtain rfl := some_inj h29
  obtain rfl := hd30 _ rfl
  try dsimp only at h21
  refine then_x ?_
  refine exit_hit ?_
  obtain rfl := some_inj h21
  refine then_n ?_
  exact ⟨rfl, hf.keep trivial, hM.pick [0] rfl⟩
 rintro a w135 ⟨rfl, hf, hM⟩
 try dsimp only at h
 refine wp_seq ?_
 refine region_pl ?_
 refine q_ hf rfl rfl rfl (e_assign hf rfl) fun a hf => ?_
 refine pl_nil ?_
 refine then_n ?_
 refine wp_ret ?_
 obtain rfl := some_inj h
 have hM := hM.outs (own' := []) 0 rfl
 exact leave1 hf rfl rfl ⟨rfl, hM.fin⟩

def Ct_impl_inspector_visit (rc : inspector → Int → Option (Bool × inspector)) : Prop := ∀ (C : Cx) (x1 : inspector) (b2 : Nat) (A3 : Option Addr) (c4 : Nat) (hp5 : (sliceRep NodeRep).R C.w0 C.S0 x1.d.Nodes [vL A3 x1.d.Nodes c4]) (hp6 : R64 x1.met) (A7 : Option Addr) (c8 : Nat) (A9 : Option Addr) (c10 : Nat) (A11 : Option Addr) (c12 : Nat) (k13 : Int) (hp14 : R64 k13) (hO : Mem C C.w0 [.box b2 [vL A3 (x1.d.Nodes) c4, vI (x1.met), vL A7 (x1.open_) c8, vL A9 (x1.strings) c10, vL A11 (x1.longest) c12] 111, .row boolRep A7 c8 4 x1.open_ true, .row intRep A9 c10 2 x1.strings true, .row intRep A11 c12 3 x1.longest true] []) (hd : ∀ b, C.S0 b → ¬ ownB [.box b2 [vL A3 (x1.d.Nodes) c4, vI (x1.met), vL A7 (x1.open_) c8, vL A9 (x1.strings) c10, vL A11 (x1.longest) c12] 111, .row boolRep A7 c8 4 x1.open_ true, .row intRep A9 c10 2 x1.strings true, .row intRep A11 c12 3 x1.longest true] b) (r : (Bool × inspector)) (h : rc x1 k13 = some r),
    Calls Tryd.prog 77 #[vP b2 (0), vI (k13)] C.w0 fun e w => ∃ (A_1 : Option Addr), ∃ (c_1 : Nat), ∃ (A_2 : Option Addr), ∃ (c_2 : Nat), ∃ (A_3 : Option Addr), ∃ (c_3 : Nat), e = .returned (.bool (r.1)) ∧ Mem C w [.box b2 [vL A3 (x1.d.Nodes) c4, vI (r.2.met), vL A_1 (r.2.open_) c_1, vL A_2 (r.2.strings) c_2, vL A_3 (r.2.longest) c_3] 111, .row boolRep A_1 c_1 4 r.2.open_ true, .row intRep A_2 c_2 2 r.2.strings true, .row intRep A_3 c_3 3 r.2.longest true] [] ∧ R64 r.2.met

set_option maxRecDepth 100000 in
set_option maxHeartbeats 4000000 in
theorem r_impl_inspector_visit_b (rc : inspector → Int → Option (Bool × inspector)) (ih : Ct_impl_inspector_visit rc) : Ct_impl_inspector_visit (m_impl_inspector_visit_b rc) := by
 intro C x1 b2 A3 c4 hp5 hp6 A7 c8 A9 c10 A11 c12 k13 hp14 hO hd r h
 have hM := hO
 have hM := hM.addIn hd (y := .dat (sliceRep NodeRep) x1.d.Nodes [vL A3 x1.d.Nodes c4]) hp5
 refine enter Tryd.func77 rfl Tryd.ntmps77 rfl fun a hf => ?_
 unfold m_impl_inspector_visit_b at h
 refine wp_seq ?_
 refine region_pl ?_
 refine q_ hf rfl rfl rfl (e_assign hf rfl) fun a hf => ?_
 refine pl_nil ?_
 refine then_n ?_
 iterate 2 refine wp_seq ?_
 refine region_pl ?_
 iterate 2 refine q_ hf rfl rfl rfl (e_move hf rfl) fun a hf => ?_
 refine q_ hf rfl rfl rfl (e_nil hf rfl) fun a hf => ?_
 refine q_ hf rfl rfl rfl (e_field hf rfl Tryd.underlying111 rfl Tryd.sizeOf2 (o' := 1) rfl) fun a hf => ?_
 refine q_ hf rfl rfl rfl (e_load1 hf rfl Tryd.isAgg2 (hM.boxCell (k := 0) rfl rfl)) fun a hf => ?_
 refine q_ hf rfl rfl rfl (e_lt hf (x := k13) (y := x1.met) rfl rfl) fun a hf => ?_
 refine pl_nil ?_
 refine then_n ?_
 rcases cond_some h with ⟨hc15, h⟩ | ⟨hc15, h⟩
 ·refine cond_t hf rfl hc15 ?_
  refine wp_seq ?_
  refine region_pl ?_
  refine q_ hf rfl rfl rfl (e_move hf rfl) fun a hf => ?_
  refine q_ hf rfl rfl rfl (e_nil hf rfl) fun a hf => ?_
  refine q_ hf rfl rfl rfl (e_field hf rfl Tryd.underlying111 rfl Tryd.sizeOf108 (o' := 2) rfl) fun a hf => ?_
  refine q_ hf rfl rfl rfl (e_load1 hf rfl Tryd.isAgg108 (hM.boxCell (k := 0) rfl rfl)) fun a hf => ?_
  refine q_ hf rfl rfl rfl (e_move hf rfl) fun a hf => ?_
  obtain ⟨e16, hz17, h⟩ := bind_some h
  obtain ⟨b22, _, hA23, h18, h19, hr20, hcell21⟩ := hM.rowElemN (k := 1) rfl (n := 1) rfl hz17
  obtain rfl : _ = _ := hr20
  refine q_ hf rfl rfl rfl (e_indexAddr (A := A7) (b := b22) (o := 0) (xs := x1.open_) (i := k13) hf hA23 rfl rfl Tryd.underlying108 Tryd.sizeOf4 h18 h19) fun a hf => ?_
  refine q_ hf rfl rfl rfl (e_load1 hf rfl Tryd.isAgg4 (hcell21 0 _ rfl)) fun a hf => ?_
  refine q_ hf rfl rfl rfl (e_not hf rfl) fun a hf => ?_
  refine q_ hf rfl rfl rfl (e_assign hf rfl) fun a hf => ?_
  refine pl_nil ?_
  refine then_n ?_
  refine wp_ret ?_
  refine then_r ?_
  obtain rfl := some_inj h
  exact leave1 hf rfl rfl ⟨A7, c8, A9, c10, A11, c12, rfl, hM.fin, hp6⟩
 refine cond_f hf rfl hc15 ?_
 refine wp_skip ?_
 refine then_n ?_
 iterate 2 refine wp_seq ?_
 refine region_pl ?_
 iterate 2 refine q_ hf rfl rfl rfl (e_move hf rfl) fun a hf => ?_
 refine q_ hf rfl rfl rfl (e_nil hf rfl) fun a hf => ?_
 refine q_ hf rfl rfl rfl (e_field hf rfl Tryd.underlying111 rfl Tryd.sizeOf2 (o' := 1) rfl) fun a hf => ?_
 refine q_ hf rfl rfl rfl (e_load1 hf rfl Tryd.isAgg2 (hM.boxCell (k := 0) rfl rfl)) fun a hf => ?_
 refine q_ hf rfl rfl rfl (e_gt hf (x := k13) (y := x1.met) rfl rfl) fun a hf => ?_
 refine pl_nil ?_
 refine then_n ?_
 rcases cond_some h with ⟨hc24, h⟩ | ⟨hc24, h⟩
 ·refine cond_t hf rfl hc24 ?_
  refine wp_seq ?_
  refine region_pl ?_
  refine q_ hf rfl rfl rfl (e_assign hf rfl) fun a hf => ?_
  refine pl_nil ?_
  refine then_n ?_
  refine wp_ret ?_
  refine then_r ?_
  obtain rfl := some_inj h
  exact leave1 hf rfl rfl ⟨A7, c8, A9, c10, A11, c12, rfl, hM.fin, hp6⟩
 refine cond_f hf rfl hc24 ?_
 refine wp_skip ?_
 refine then_n ?_
 refine wp_seq ?_
 refine region_pl ?_
 refine q_ hf rfl rfl rfl (e_move hf rfl) fun a hf => ?_
 refine q_ hf rfl rfl rfl (e_nil hf rfl) fun a hf => ?_
 refine q_ hf rfl rfl rfl (e_field hf rfl Tryd.underlying111 rfl Tryd.sizeOf2 (o' := 1) rfl) fun a hf => ?_
 refine q_ hf rfl rfl rfl (e_load1 hf rfl Tryd.isAgg2 (hM.boxCell (k := 0) rfl rfl)) fun a hf => ?_
 obtain ⟨z25, hz26, h⟩ := bind_some h
 refine q_ hf rfl rfl rfl (e_add hf rfl rfl hz26) fun a hf => ?_
 refine q_ hf rfl rfl rfl (e_nil hf rfl) fun a hf => ?_
 refine q_ hf rfl rfl rfl (e_field hf rfl Tryd.underlying111 rfl Tryd.sizeOf2 (o' := 1) rfl) fun a hf => ?_
 refine pl_0 hf rfl rfl (w_store hf hM (us := [vI (z25)]) (cs' := [vL A3 (x1.d.Nodes) c4, vI (z25), vL A7 (x1.open_) c8, vL A9 (x1.strings) c10, vL A11 (x1.longest) c12]) rfl rfl (k := 0) rfl rfl Tryd.sizeOf2 rfl rfl rfl fun w27 hM => ?_)
 dsimp only [List.set] at hM
 refine pl_nil ?_
 refine then_n ?_
 refine wp_seq ?_
 refine region_pl ?_
 refine q_ hf rfl rfl rfl (e_move hf rfl) fun a hf => ?_
 refine q_ hf rfl rfl rfl (e_nil hf rfl) fun a hf => ?_
 refine q_ hf rfl rfl rfl (e_field hf rfl Tryd.underlying111 rfl Tryd.sizeOf108 (o' := 2) rfl) fun a hf => ?_
 refine q_ hf rfl rfl rfl (e_load1 hf rfl Tryd.isAgg108 (hM.boxCell (k := 0) rfl rfl)) fun a hf => ?_
 refine q_ hf rfl rfl rfl (e_move hf rfl) fun a hf => ?_
 obtain ⟨e30, hz31, h⟩ := bind_some h
 obtain ⟨b36, _, hA37, h32, h33, hr34, hcell35⟩ := hM.rowElemN (k := 1) rfl (n := 1) rfl hz31
 obtain rfl : _ = _ := hr34
 refine q_ hf rfl rfl rfl (e_indexAddr (A := A7) (b := b36) (o := 0) (xs := x1.open_) (i := k13) hf hA37 rfl rfl Tryd.underlying108 Tryd.sizeOf4 h32 h33) fun a hf => ?_
 obtain ⟨xs39, hz40, h⟩ := bind_some h
 refine pl_0 hf rfl rfl (w_storeElem hf hM (x := true) (row := [.bool (true)]) (i := k13) rfl rfl rfl hA37 (k := 1) rfl rfl Tryd.sizeOf4 rfl hz40 fun w38 hM => ?_)
 dsimp only [List.set] at hM
 have hf := hf.alter (d := 38) (v := vL A7 (xs39) c8) rfl (vL_len (setL_len hz40))
 rw [vL_len (A := A7) (c := c8) (setL_len hz40)] at hM
 refine pl_nil ?_
 refine then_n ?_
 refine wp_seq ?_
 refine region_pl ?_
 refine q_ hf rfl rfl rfl (e_move hf rfl) fun a hf => ?_
 refine q_ hf rfl rfl rfl (e_nil hf rfl) fun a hf => ?_
 refine q_ hf rfl rfl rfl (e_field hf rfl Tryd.underlying111 rfl Tryd.sizeOf26 (o' := 0) rfl) fun a hf => ?_
 refine q_ hf rfl rfl rfl (e_field hf rfl Tryd.underlying26 rfl Tryd.sizeOf24 (o' := 0) rfl) fun a hf => ?_
 refine q_ hf rfl rfl rfl (e_load1 hf rfl Tryd.isAgg24 (hM.boxCell (k := 0) rfl rfl)) fun a hf => ?_
 refine q_ hf rfl rfl rfl (e_move hf rfl) fun a hf => ?_
 obtain ⟨e41, hz42, h⟩ := bind_some h
 obtain ⟨b46, o47, _, hA48, h43, h44, hr45, hM⟩ := hM.elem (hM.dat (k := 0) rfl) (n := 3) rfl hz42
 obtain ⟨A50, c51, rfl, hv49, hv52⟩ := NodeRep_open hr45
 have hM := hM.add (y := .dat (sliceRep intRep) e41.Next [vL A50 e41.Next c51]) hv52
 refine q_ hf rfl rfl rfl (e_indexAddr (A := A3) (b := b46) (o := o47) (xs := x1.d.Nodes) (i := k13) hf hA48 rfl rfl Tryd.underlying24 Tryd.sizeOf76 h43 h44) fun a hf => ?_
 refine q_ hf rfl rfl rfl (e_loadA hf (us := [.bool (e41.Final), vS (e41.Letters), vL A50 (e41.Next) c51]) rfl ⟨Tryd.isAgg76, Tryd.sizeOf76⟩ rfl (hM.litSub (k := 1) (d := 0) (us := [.bool (e41.Final), vS (e41.Letters), vL A50 (e41.Next) c51]) rfl rfl rfl)) fun a hf => ?_
 refine pl_l hf rfl rfl rfl (w_alloc hM (cs := [.bool (false), vS (([] : Str)), vL none (([] : (List Int))) 0]) Tryd.zeroValue76 rfl fun b53 w54 hx55 hM a hf => ?_)
 refine pl_0 hf rfl rfl (w_store hf hM (us := [.bool (e41.Final), vS (e41.Letters), vL A50 (e41.Next) c51]) (cs' := [.bool (e41.Final), vS (e41.Letters), vL A50 (e41.Next) c51]) rfl rfl (k := 0) rfl rfl Tryd.sizeOf76 rfl rfl rfl fun w57 hM => ?_)
 dsimp only [List.set] at hM
 refine pl_nil ?_
 refine then_n ?_
 obtain ⟨x62, h63, h⟩ := bind_some h
 refine seq_join (fun a w => ∃ (xs60 : (List Int)), xs60 = x62 ∧ Has 131 a [(0, vP b2 (0)), (1, vI (k13)), (5, vP b53 (0))] ∧ Mem C w [.box b53 [.bool (e41.Final), vS (e41.Letters), vL A50 (e41.Next) c51] 76, .box b2 [vL A3 (x1.d.Nodes) c4, vI (z25), vL A7 (xs39) c8, vL A9 (xs60) c10, vL A11 (x1.longest) c12] 111, .row boolRep A7 c8 4 xs39 true, .row intRep A9 c10 2 xs60 true, .row intRep A11 c12 3 x1.longest true] [.dat (sliceRep intRep) e41.Next [vL A50 e41.Next c51], .lit b46 (o47 + (k13 : Int).toNat * 3) [.bool (e41.Final), vS (e41.Letters), vL A50 (e41.Next) c51], .dat (sliceRep NodeRep) x1.d.Nodes [vL A3 x1.d.Nodes c4]] ∧ xs60.length = x1.strings.length) ?_ ?_
 ·refine wp_seq ?_
  refine region_pl ?_
  refine q_ hf rfl rfl rfl (e_field hf rfl Tryd.underlying76 rfl Tryd.sizeOf4 (o' := 0) rfl) fun a hf => ?_
  refine q_ hf rfl rfl rfl (e_load1 hf rfl Tryd.isAgg4 (hM.boxCell (k := 0) rfl rfl)) fun a hf => ?_
  refine pl_nil ?_
  refine then_n ?_
  rcases cond_some h63 with ⟨hc64, h63⟩ | ⟨hc64, h63⟩
  ·refine cond_t hf rfl hc64 ?_
   refine region_pl ?_
   refine q_ hf rfl rfl rfl (e_move hf rfl) fun a hf => ?_
   refine q_ hf rfl rfl rfl (e_nil hf rfl) fun a hf => ?_
   refine q_ hf rfl rfl rfl (e_field hf rfl Tryd.underlying111 rfl Tryd.sizeOf31 (o' := 3) rfl) fun a hf => ?_
   refine q_ hf rfl rfl rfl (e_load1 hf rfl Tryd.isAgg31 (hM.boxCell (k := 1) rfl rfl)) fun a hf => ?_
   refine q_ hf rfl rfl rfl (e_move hf rfl) fun a hf => ?_
   obtain ⟨e65, hz66, h63⟩ := bind_some h63
   obtain ⟨b71, _, hA72, h67, h68, hr69, hcell70⟩ := hM.rowElemN (k := 3) rfl (n := 1) rfl hz66
   obtain ⟨rfl, hv73⟩ := hr69
   refine q_ hf rfl rfl rfl (e_indexAddr (A := A9) (b := b71) (o := 0) (xs := x1.strings) (i := k13) hf hA72 rfl rfl Tryd.underlying31 Tryd.sizeOf2 h67 h68) fun a hf => ?_
   obtain ⟨xs75, hz76, h63⟩ := bind_some h63
   refine pl_0 hf rfl rfl (w_storeElem hf hM (x := 1) (row := [vI (1)]) (i := k13) rfl rfl rfl hA72 (k := 3) rfl rfl Tryd.sizeOf2 ⟨rfl, (R64_lit rfl)⟩ hz76 fun w74 hM => ?_)
   dsimp only [List.set] at hM
   have hf := hf.alter (d := 54) (v := vL A9 (xs75) c10) rfl (vL_len (setL_len hz76))
   rw [vL_len (A := A9) (c := c10) (setL_len hz76)] at hM
   refine pl_nil ?_
   obtain rfl := some_inj h63
   refine then_n ?_
   exact ⟨xs75, rfl, hf.keep ⟨rfl, rfl, rfl, trivial⟩, hM.pick [0, 1, 2] rfl, (setL_len hz76)⟩
  refine cond_f hf rfl hc64 ?_
  refine wp_skip ?_
  obtain rfl := some_inj h63
  refine then_n ?_
  exact ⟨x1.strings, rfl, hf.keep ⟨rfl, rfl, rfl, trivial⟩, hM.pick [0, 1, 2] rfl, rfl⟩
 rintro a w79 ⟨xs60, rfl, hf, hM, hl61⟩
 try dsimp only at h
 obtain ⟨x91, h92, h⟩ := bind_some h
 refine seq_join (fun a w => ∃ (n80 : Int) (xs82 : (List Bool)) (xs85 : (List Int)) (xs88 : (List Int)) (A83 : Option Addr) (c84 : Nat) (A86 : Option Addr) (c87 : Nat) (A89 : Option Addr) (c90 : Nat), (.inl (n80, xs82, xs85, xs88)) = x91 ∧ Has 131 a [(0, vP b2 (0)), (1, vI (k13))] ∧ Mem C w [.box b53 [.bool (e41.Final), vS (e41.Letters), vL A50 (e41.Next) c51] 76, .box b2 [vL A3 (x1.d.Nodes) c4, vI (n80), vL A83 (xs82) c84, vL A86 (xs85) c87, vL A89 (xs88) c90] 111, .row boolRep A83 c84 4 xs82 true, .row intRep A86 c87 2 xs85 true, .row intRep A89 c90 3 xs88 true] [.dat (sliceRep intRep) e41.Next [vL A50 e41.Next c51], .lit b46 (o47 + (k13 : Int).toNat * 3) [.bool (e41.Final), vS (e41.Letters), vL A50 (e41.Next) c51], .dat (sliceRep NodeRep) x1.d.Nodes [vL A3 x1.d.Nodes c4]] ∧ R64 n80) ?_ ?_
 ·refine wp_seq ?_
  refine region_pl ?_
  refine q_ hf rfl rfl rfl (e_field hf rfl Tryd.underlying76 rfl Tryd.sizeOf31 (o' := 2) rfl) fun a hf => ?_
  refine q_ hf rfl rfl rfl (e_load1 hf rfl Tryd.isAgg31 (hM.boxCell (k := 0) rfl rfl)) fun a hf => ?_
  have hl93 := slice_len (hM.dat (k := 0) rfl)
  refine q_ hf rfl rfl rfl (e_lenL hf (x := e41.Next) rfl Tryd.underlying31) fun a hf => ?_
  refine q_ hf rfl rfl rfl (e_move hf rfl) fun a hf => ?_
  refine pl_nil ?_
  refine then_n ?_
  refine wp_block ?_
  obtain ⟨x119, h120, h92⟩ := bind_some h92
  refine wp_loopM h120 (fun s a w => ∃ (n94 : Int) (xs96 : (List Bool)) (xs99 : (List Int)) (xs102 : (List Int)) (n105 : Int) (A97 : Option Addr) (c98 : Nat) (A100 : Option Addr) (c101 : Nat) (A103 : Option Addr) (c104 : Nat), (n94, xs96, xs99, xs102, n105) = s ∧ Has 131 a [(0, vP b2 (0)), (1, vI (k13)), (58, vL A50 (e41.Next) c51), (59, vI ((e41.Next.length : Int))), (60, vI (n105))] ∧ Mem C w [.box b53 [.bool (e41.Final), vS (e41.Letters), vL A50 (e41.Next) c51] 76, .box b2 [vL A3 (x1.d.Nodes) c4, vI (n94), vL A97 (xs96) c98, vL A100 (xs99) c101, vL A103 (xs102) c104] 111, .row boolRep A97 c98 4 xs96 true, .row intRep A100 c101 2 xs99 true, .row intRep A103 c104 3 xs102 true] [.dat (sliceRep intRep) e41.Next [vL A50 e41.Next c51], .lit b46 (o47 + (k13 : Int).toNat * 3) [.bool (e41.Final), vS (e41.Letters), vL A50 (e41.Next) c51], .dat (sliceRep NodeRep) x1.d.Nodes [vL A3 x1.d.Nodes c4]] ∧ R64 n94 ∧ R64 n105) ?_ ?_
  ·exact ⟨z25, xs39, xs60, x1.longest, 0, A7, c8, A9, c10, A11, c12, rfl, hf.keep ⟨rfl, rfl, rfl, rfl, rfl, trivial⟩, hM.pick [0, 1, 2] rfl, (chk_R hz26), (R64_lit rfl)⟩
  rintro s o121 a w107 ⟨n94, xs96, xs99, xs102, n105, A97, c98, A100, c101, A103, c104, rfl, hf, hM, hv95, hv106⟩ h122 hd123
  replace h122 : m_impl_inspector_visit_l1 e41 rc x1 k13 n94 xs96 xs99 xs102 n105 = some o121 := h122
  unfold m_impl_inspector_visit_l1 at h122
  refine wp_seq ?_
  refine region_pl ?_
  refine q_ hf rfl rfl rfl (e_lt hf (x := n105) (y := (e41.Next.length : Int)) rfl rfl) fun a hf => ?_
  refine pl_nil ?_
  refine then_n ?_
  refine wp_seq ?_
  rcases cond_some h122 with ⟨hc124, h122⟩ | ⟨hc124, h122⟩
  ·refine cond_t hf rfl hc124 ?_
   refine wp_skip ?_
   refine then_n ?_
   refine wp_seq ?_
   refine wp_block ?_
   refine wp_seq ?_
   refine region_pl ?_
   obtain ⟨e125, hz126, h122⟩ := bind_some h122
   obtain ⟨b130, o131, _, hA132, h127, h128, hr129, hM⟩ := hM.elem (hM.dat (k := 0) rfl) (n := 1) rfl hz126
   obtain ⟨rfl, hv133⟩ := hr129
   refine q_ hf rfl rfl rfl (e_indexAddr (A := A50) (b := b130) (o := o131) (xs := e41.Next) (i := n105) hf hA132 rfl rfl Tryd.underlying31 Tryd.sizeOf2 h127 h128) fun a hf => ?_
   refine q_ hf rfl rfl rfl (e_load1 hf rfl Tryd.isAgg2 (hM.litCell (k := 0) (j := 0) rfl rfl rfl)) fun a hf => ?_
   refine q_ hf rfl rfl rfl (e_assign hf rfl) fun a hf => ?_
   refine pl_nil ?_
   refine then_n ?_
   iterate 2 refine wp_seq ?_
   refine region_pl ?_
   iterate 2 refine q_ hf rfl rfl rfl (e_move hf rfl) fun a hf => ?_
   have hM := hM.front (k := 4) rfl
   dsimp only [List.eraseIdx] at hM
   have hM := hM.front (k := 4) rfl
   dsimp only [List.eraseIdx] at hM
   have hM := hM.front (k := 4) rfl
   dsimp only [List.eraseIdx] at hM
   have hM := hM.front (k := 4) rfl
   dsimp only [List.eraseIdx] at hM
   have hM : Mem C _ ([.box b2 [vL A3 (x1.d.Nodes) c4, vI (n94), vL A97 (xs96) c98, vL A100 (xs99) c101, vL A103 (xs102) c104] 111, .row boolRep A97 c98 4 xs96 true, .row intRep A100 c101 2 xs99 true, .row intRep A103 c104 3 xs102 true] ++ [.box b53 [.bool (e41.Final), vS (e41.Letters), vL A50 (e41.Next) c51] 76]) _ := hM
   obtain ⟨y134, hz135, h122⟩ := bind_some h122
   refine pl_l hf rfl rfl rfl (w_call hf Tryd.call77 rfl (ih ⟨_, Sh C _ _, ownB _, hM.sh_lt, sub_dis, C.G, hM.g_lt, hM.g_own, hM.tabs⟩ (⟨⟨x1.d.Nodes⟩, n94, xs96, xs99, xs102⟩ : inspector) _ _ _ (hM.dat (k := 3) rfl) hv95 _ _ _ _ _ _ e125 hv133 hM.sub sub_dis _ hz135) ?_)
   rintro _ w143 ⟨A137, c138, A139, c140, A141, c142, rfl, hM2, hv136⟩
   obtain ⟨hM, hup145⟩ := hM.backG hM2
   dsimp only [List.cons_append, List.nil_append] at hM hup145
   clear hM2
   refine ⟨_, rfl, fun a hf => ?_⟩
   refine q_ hf rfl rfl rfl (e_not hf rfl) fun a hf => ?_
   refine pl_nil ?_
   refine then_n ?_
   rcases cond_some h122 with ⟨hc146, h122⟩ | ⟨hc146, h122⟩
   ·refine cond_t hf rfl hc146 ?_
    refine wp_seq ?_
    refine region_pl ?_
    refine q_ hf rfl rfl rfl (e_assign hf rfl) fun a hf => ?_
    refine pl_nil ?_
    refine then_n ?_
    refine wp_ret ?_
    refine then_r ?_
    refine blk_r ?_
    refine then_r ?_
    obtain rfl := some_inj h122
    obtain rfl := hd123 _ rfl
    try dsimp only at h92
    refine then_r ?_
    refine blk_r ?_
    obtain rfl := some_inj h92
    try dsimp only at h
    refine then_r ?_
    obtain rfl := some_inj h
    have hM := hM.outs (own' := [.box b2 [vL A3 (x1.d.Nodes) c4, vI (y134.2.met), vL A137 (y134.2.open_) c138, vL A139 (y134.2.strings) c140, vL A141 (y134.2.longest) c142] 111, .row boolRep A137 c138 4 y134.2.open_ true, .row intRep A139 c140 2 y134.2.strings true, .row intRep A141 c142 3 y134.2.longest true]) 4 rfl
    exact leave1 hf rfl rfl ⟨A137, c138, A139, c140, A141, c142, rfl, hM.fin, hv136⟩
   refine cond_f hf rfl hc146 ?_
   refine wp_skip ?_
   refine then_n ?_
   refine wp_seq ?_
   obtain ⟨w147, hw⟩ : ∃ x, x = w143.drew := ⟨_, rfl⟩
   refine region_pi (.q 0 (.q 1 (.q 2 (.q 3 (.q 4 (.q 5 (.q 6 (.q 7 (.q 8 (.q 9 (.q 10 (.q 11 (.q 12 (.q 13 (.q 14 (.q 15 (.q 16 (.q 17 (.q 18 (.q 19 (.q 20 (.q 21 (.l 22 (.nil)))))))))))))))))))))))) (Ext w147) rfl (by kernel_rfl) ?_
   have hM := hM.drew
   rw [← hw] at hM ⊢
   clear hw
   refine pi_q hf rfl rfl rfl rfl (Ext.refl _) (e_move hf rfl) fun a hf => ?_
   refine pi_q hf rfl rfl rfl rfl (Ext.refl _) (e_nil hf rfl) fun a hf => ?_
   refine pi_q hf rfl rfl rfl rfl (Ext.refl _) (e_field hf rfl Tryd.underlying111 rfl Tryd.sizeOf31 (o' := 3) rfl) fun a hf => ?_
   refine pi_q hf rfl rfl rfl rfl (Ext.refl _) (e_load1 hf rfl Tryd.isAgg31 (hM.boxCell (k := 0) rfl rfl)) fun a hf => ?_
   iterate 2 refine pi_q hf rfl rfl rfl rfl (Ext.refl _) (e_move hf rfl) fun a hf => ?_
   refine pi_q hf rfl rfl rfl rfl (Ext.refl _) (e_nil hf rfl) fun a hf => ?_
   refine pi_q hf rfl rfl rfl rfl (Ext.refl _) (e_field hf rfl Tryd.underlying111 rfl Tryd.sizeOf31 (o' := 3) rfl) fun a hf => ?_
   refine pi_q hf rfl rfl rfl rfl (Ext.refl _) (e_load1 hf rfl Tryd.isAgg31 (hM.boxCell (k := 0) rfl rfl)) fun a hf => ?_
   refine pi_q hf rfl rfl rfl rfl (Ext.refl _) (e_move hf rfl) fun a hf => ?_
   obtain ⟨e148, hz149, h122⟩ := bind_some h122
   obtain ⟨b154, _, hA155, h150, h151, hr152, hcell153⟩ := hM.rowElemN (k := 2) rfl (n := 1) rfl hz149
   obtain ⟨rfl, hv156⟩ := hr152
   refine pi_q hf rfl rfl rfl rfl (Ext.refl _) (e_indexAddr (A := A139) (b := b154) (o := 0) (xs := y134.2.strings) (i := k13) hf hA155 rfl rfl Tryd.underlying31 Tryd.sizeOf2 h150 h151) fun a hf => ?_
   refine pi_q hf rfl rfl rfl rfl (Ext.refl _) (e_load1 hf rfl Tryd.isAgg2 (hcell153 0 _ rfl)) fun a hf => ?_
   refine pi_q hf rfl rfl rfl rfl (Ext.refl _) (e_move hf rfl) fun a hf => ?_
   refine pi_q hf rfl rfl rfl rfl (Ext.refl _) (e_nil hf rfl) fun a hf => ?_
   refine pi_q hf rfl rfl rfl rfl (Ext.refl _) (e_field hf rfl Tryd.underlying111 rfl Tryd.sizeOf31 (o' := 3) rfl) fun a hf => ?_
   refine pi_q hf rfl rfl rfl rfl (Ext.refl _) (e_load1 hf rfl Tryd.isAgg31 (hM.boxCell (k := 0) rfl rfl)) fun a hf => ?_
   refine pi_q hf rfl rfl rfl rfl (Ext.refl _) (e_move hf rfl) fun a hf => ?_
   obtain ⟨e157, hz158, h122⟩ := bind_some h122
   obtain ⟨b163, _, hA164, h159, h160, hr161, hcell162⟩ := hM.rowElemN (k := 2) rfl (n := 1) rfl hz158
   obtain ⟨rfl, hv165⟩ := hr161
   refine pi_q hf rfl rfl rfl rfl (Ext.refl _) (e_indexAddr (A := A139) (b := b163) (o := 0) (xs := y134.2.strings) (i := e125) hf hA164 rfl rfl Tryd.underlying31 Tryd.sizeOf2 h159 h160) fun a hf => ?_
   refine pi_q hf rfl rfl rfl rfl (Ext.refl _) (e_load1 hf rfl Tryd.isAgg2 (hcell162 0 _ rfl)) fun a hf => ?_
   obtain ⟨z166, hz167, h122⟩ := bind_some h122
   refine pi_q hf rfl rfl rfl rfl (Ext.refl _) (e_add hf rfl rfl hz167) fun a hf => ?_
   refine pi_q hf rfl rfl rfl rfl (Ext.refl _) (e_min hf rfl rfl) fun a hf => ?_
   obtain ⟨e168, hz169, h122⟩ := bind_some h122
   obtain ⟨b174, _, hA175, h170, h171, hr172, hcell173⟩ := hM.rowElemN (k := 2) rfl (n := 1) rfl hz169
   obtain ⟨rfl, hv176⟩ := hr172
   refine pi_q hf rfl rfl rfl rfl (Ext.refl _) (e_indexAddr (A := A139) (b := b174) (o := 0) (xs := y134.2.strings) (i := k13) hf hA175 rfl rfl Tryd.underlying31 Tryd.sizeOf2 h170 h171) fun a hf => ?_
   refine pi_one ?_
   obtain ⟨xs178, hz179, h122⟩ := bind_some h122
   refine pi_z0 hf rfl rfl rfl (by kernel_rfl) (w_storeElem hf hM (x := min z166 3001) (row := [vI (min z166 3001)]) (i := k13) rfl rfl rfl hA175 (k := 2) rfl rfl Tryd.sizeOf2 ⟨rfl, (R64_min (chk_R hz167) (R64_lit rfl))⟩ hz179 fun w177 hM => ?_)
   dsimp only [List.set] at hM
   have hf := hf.alter (d := 71) (v := vL A139 (xs178) c140) rfl (vL_len (setL_len hz179))
   have hf := hf.alter (d := 76) (v := vL A139 (xs178) c140) rfl (vL_len (setL_len hz179))
   have hf := hf.alter (d := 83) (v := vL A139 (xs178) c140) rfl (vL_len (setL_len hz179))
   rw [vL_len (A := A139) (c := c140) (setL_len hz179)] at hM
   refine pi_nil ?_
   refine then_n ?_
   obtain ⟨w180, hw⟩ : ∃ x, x = w177.drew := ⟨_, rfl⟩
   refine region_pi (.q 0 (.q 1 (.q 2 (.q 3 (.q 4 (.q 5 (.q 6 (.q 7 (.q 8 (.q 9 (.q 10 (.q 11 (.q 12 (.q 13 (.q 14 (.q 15 (.q 16 (.q 17 (.q 18 (.q 19 (.q 20 (.q 21 (.l 22 (.nil)))))))))))))))))))))))) (Ext w180) rfl (by kernel_rfl) ?_
   have hM := hM.drew
   rw [← hw] at hM ⊢
   clear hw
   refine pi_q hf rfl rfl rfl rfl (Ext.refl _) (e_move hf rfl) fun a hf => ?_
   refine pi_q hf rfl rfl rfl rfl (Ext.refl _) (e_nil hf rfl) fun a hf => ?_
   refine pi_q hf rfl rfl rfl rfl (Ext.refl _) (e_field hf rfl Tryd.underlying111 rfl Tryd.sizeOf109 (o' := 4) rfl) fun a hf => ?_
   refine pi_q hf rfl rfl rfl rfl (Ext.refl _) (e_load1 hf rfl Tryd.isAgg109 (hM.boxCell (k := 0) rfl rfl)) fun a hf => ?_
   iterate 2 refine pi_q hf rfl rfl rfl rfl (Ext.refl _) (e_move hf rfl) fun a hf => ?_
   refine pi_q hf rfl rfl rfl rfl (Ext.refl _) (e_nil hf rfl) fun a hf => ?_
   refine pi_q hf rfl rfl rfl rfl (Ext.refl _) (e_field hf rfl Tryd.underlying111 rfl Tryd.sizeOf109 (o' := 4) rfl) fun a hf => ?_
   refine pi_q hf rfl rfl rfl rfl (Ext.refl _) (e_load1 hf rfl Tryd.isAgg109 (hM.boxCell (k := 0) rfl rfl)) fun a hf => ?_
   refine pi_q hf rfl rfl rfl rfl (Ext.refl _) (e_move hf rfl) fun a hf => ?_
   obtain ⟨e181, hz182, h122⟩ := bind_some h122
   obtain ⟨b187, _, hA188, h183, h184, hr185, hcell186⟩ := hM.rowElemN (k := 3) rfl (n := 1) rfl hz182
   obtain ⟨rfl, hv189⟩ := hr185
   refine pi_q hf rfl rfl rfl rfl (Ext.refl _) (e_indexAddr (A := A141) (b := b187) (o := 0) (xs := y134.2.longest) (i := k13) hf hA188 rfl rfl Tryd.underlying109 Tryd.sizeOf3 h183 h184) fun a hf => ?_
   refine pi_q hf rfl rfl rfl rfl (Ext.refl _) (e_load1 hf rfl Tryd.isAgg3 (hcell186 0 _ rfl)) fun a hf => ?_
   refine pi_q hf rfl rfl rfl rfl (Ext.refl _) (e_move hf rfl) fun a hf => ?_
   refine pi_q hf rfl rfl rfl rfl (Ext.refl _) (e_nil hf rfl) fun a hf => ?_
   refine pi_q hf rfl rfl rfl rfl (Ext.refl _) (e_field hf rfl Tryd.underlying111 rfl Tryd.sizeOf109 (o' := 4) rfl) fun a hf => ?_
   refine pi_q hf rfl rfl rfl rfl (Ext.refl _) (e_load1 hf rfl Tryd.isAgg109 (hM.boxCell (k := 0) rfl rfl)) fun a hf => ?_
   refine pi_q hf rfl rfl rfl rfl (Ext.refl _) (e_move hf rfl) fun a hf => ?_
   obtain ⟨e190, hz191, h122⟩ := bind_some h122
   obtain ⟨b196, _, hA197, h192, h193, hr194, hcell195⟩ := hM.rowElemN (k := 3) rfl (n := 1) rfl hz191
   obtain ⟨rfl, hv198⟩ := hr194
   refine pi_q hf rfl rfl rfl rfl (Ext.refl _) (e_indexAddr (A := A141) (b := b196) (o := 0) (xs := y134.2.longest) (i := e125) hf hA197 rfl rfl Tryd.underlying109 Tryd.sizeOf3 h192 h193) fun a hf => ?_
   refine pi_q hf rfl rfl rfl rfl (Ext.refl _) (e_load1 hf rfl Tryd.isAgg3 (hcell195 0 _ rfl)) fun a hf => ?_
   obtain ⟨z199, hz200, h122⟩ := bind_some h122
   refine pi_q hf rfl rfl rfl rfl (Ext.refl _) (e_add hf rfl rfl hz200) fun a hf => ?_
   refine pi_q hf rfl rfl rfl rfl (Ext.refl _) (e_max hf rfl rfl) fun a hf => ?_
   obtain ⟨e201, hz202, h122⟩ := bind_some h122
   obtain ⟨b207, _, hA208, h203, h204, hr205, hcell206⟩ := hM.rowElemN (k := 3) rfl (n := 1) rfl hz202
   obtain ⟨rfl, hv209⟩ := hr205
   refine pi_q hf rfl rfl rfl rfl (Ext.refl _) (e_indexAddr (A := A141) (b := b207) (o := 0) (xs := y134.2.longest) (i := k13) hf hA208 rfl rfl Tryd.underlying109 Tryd.sizeOf3 h203 h204) fun a hf => ?_
   refine pi_one ?_
   obtain ⟨xs211, hz212, h122⟩ := bind_some h122
   refine pi_z0 hf rfl rfl rfl (by kernel_rfl) (w_storeElem hf hM (x := max e181 z199) (row := [vI (max e181 z199)]) (i := k13) rfl rfl rfl hA208 (k := 3) rfl rfl Tryd.sizeOf3 ⟨rfl, (R64_max hv189 (chk_R hz200))⟩ hz212 fun w210 hM => ?_)
   dsimp only [List.set] at hM
   have hf := hf.alter (d := 93) (v := vL A141 (xs211) c142) rfl (vL_len (setL_len hz212))
   have hf := hf.alter (d := 98) (v := vL A141 (xs211) c142) rfl (vL_len (setL_len hz212))
   have hf := hf.alter (d := 105) (v := vL A141 (xs211) c142) rfl (vL_len (setL_len hz212))
   rw [vL_len (A := A141) (c := c142) (setL_len hz212)] at hM
   refine pi_nil ?_
   refine blk_n ?_
   refine then_n ?_
   refine region_pl ?_
   obtain ⟨z213, hz214, h122⟩ := bind_some h122
   refine q_ hf rfl rfl rfl (e_add hf rfl rfl hz214) fun a hf => ?_
   refine q_ hf rfl rfl rfl (e_move hf rfl) fun a hf => ?_
   refine pl_nil ?_
   obtain rfl := some_inj h122
   refine then_n ⟨_, rfl, ?_⟩
   have hM := hM.front (k := 3) rfl
   dsimp only [List.eraseIdx] at hM
   have hM := hM.front (k := 3) rfl
   dsimp only [List.eraseIdx] at hM
   have hM := hM.front (k := 3) rfl
   dsimp only [List.eraseIdx] at hM
   have hM := hM.front (k := 3) rfl
   dsimp only [List.eraseIdx] at hM
   have hM := hM.front (k := 4) rfl
   dsimp only [List.eraseIdx] at hM
   exact ⟨y134.2.met, y134.2.open_, xs178, xs211, z213, A137, c138, A139, c140, A141, c142, rfl, hf.keep ⟨rfl, rfl, rfl, rfl, rfl, trivial⟩, hM.pick [1, 2, 3] rfl, hv136, (chk_R hz214)⟩
  refine cond_f hf rfl hc124 ?_
  refine wp_exit ?_
  refine then_x ?_
  obtain rfl := some_inj h122
  obtain rfl := hd123 _ rfl
  try dsimp only at h92
  refine then_x ?_
  refine exit_hit ?_
  obtain rfl := some_inj h92
  refine then_n ?_
  exact ⟨n94, xs96, xs99, xs102, A97, c98, A100, c101, A103, c104, rfl, hf.keep ⟨rfl, rfl, trivial⟩, hM.pick [0, 1, 2] rfl, hv95⟩
 rintro a w221 ⟨n80, xs82, xs85, xs88, A83, c84, A86, c87, A89, c90, rfl, hf, hM, hv81⟩
 try dsimp only at h
 refine wp_seq ?_
 refine region_pl ?_
 refine q_ hf rfl rfl rfl (e_move hf rfl) fun a hf => ?_
 refine q_ hf rfl rfl rfl (e_nil hf rfl) fun a hf => ?_
 refine q_ hf rfl rfl rfl (e_field hf rfl Tryd.underlying111 rfl Tryd.sizeOf108 (o' := 2) rfl) fun a hf => ?_
 refine q_ hf rfl rfl rfl (e_load1 hf rfl Tryd.isAgg108 (hM.boxCell (k := 1) rfl rfl)) fun a hf => ?_
 refine q_ hf rfl rfl rfl (e_move hf rfl) fun a hf => ?_
 obtain ⟨e222, hz223, h⟩ := bind_some h
 obtain ⟨b228, _, hA229, h224, h225, hr226, hcell227⟩ := hM.rowElemN (k := 2) rfl (n := 1) rfl hz223
 obtain rfl : _ = _ := hr226
 refine q_ hf rfl rfl rfl (e_indexAddr (A := A83) (b := b228) (o := 0) (xs := xs82) (i := k13) hf hA229 rfl rfl Tryd.underlying108 Tryd.sizeOf4 h224 h225) fun a hf => ?_
 obtain ⟨xs231, hz232, h⟩ := bind_some h
 refine pl_0 hf rfl rfl (w_storeElem hf hM (x := false) (row := [.bool (false)]) (i := k13) rfl rfl rfl hA229 (k := 2) rfl rfl Tryd.sizeOf4 rfl hz232 fun w230 hM => ?_)
 dsimp only [List.set] at hM
 have hf := hf.alter (d := 116) (v := vL A83 (xs231) c84) rfl (vL_len (setL_len hz232))
 rw [vL_len (A := A83) (c := c84) (setL_len hz232)] at hM
 refine pl_nil ?_
 refine then_n ?_
 obtain ⟨x235, h236, h⟩ := bind_some h
 refine seq_join (fun a w => ∃ (t233 : Bool), t233 = x235 ∧ Has 131 a [(4, .bool (t233))] ∧ Mem C w [.box b53 [.bool (e41.Final), vS (e41.Letters), vL A50 (e41.Next) c51] 76, .box b2 [vL A3 (x1.d.Nodes) c4, vI (n80), vL A83 (xs231) c84, vL A86 (xs85) c87, vL A89 (xs88) c90] 111, .row boolRep A83 c84 4 xs231 true, .row intRep A86 c87 2 xs85 true, .row intRep A89 c90 3 xs88 true] [.dat (sliceRep intRep) e41.Next [vL A50 e41.Next c51], .lit b46 (o47 + (k13 : Int).toNat * 3) [.bool (e41.Final), vS (e41.Letters), vL A50 (e41.Next) c51], .dat (sliceRep NodeRep) x1.d.Nodes [vL A3 x1.d.Nodes c4]]) ?_ ?_
 ·refine region_pl ?_
  refine q_ hf rfl rfl rfl (e_move hf rfl) fun a hf => ?_
  refine q_ hf rfl rfl rfl (e_nil hf rfl) fun a hf => ?_
  refine q_ hf rfl rfl rfl (e_field hf rfl Tryd.underlying111 rfl Tryd.sizeOf31 (o' := 3) rfl) fun a hf => ?_
  refine q_ hf rfl rfl rfl (e_load1 hf rfl Tryd.isAgg31 (hM.boxCell (k := 1) rfl rfl)) fun a hf => ?_
  refine q_ hf rfl rfl rfl (e_move hf rfl) fun a hf => ?_
  obtain ⟨e237, hz238, h236⟩ := bind_some h236
  obtain ⟨b243, _, hA244, h239, h240, hr241, hcell242⟩ := hM.rowElemN (k := 3) rfl (n := 1) rfl hz238
  obtain ⟨rfl, hv245⟩ := hr241
  refine q_ hf rfl rfl rfl (e_indexAddr (A := A86) (b := b243) (o := 0) (xs := xs85) (i := k13) hf hA244 rfl rfl Tryd.underlying31 Tryd.sizeOf2 h239 h240) fun a hf => ?_
  refine q_ hf rfl rfl rfl (e_load1 hf rfl Tryd.isAgg2 (hcell242 0 _ rfl)) fun a hf => ?_
  refine q_ hf rfl rfl rfl (e_gt hf (x := e237) (y := 0) rfl rfl) fun a hf => ?_
  refine q_ hf rfl rfl rfl (e_move hf rfl) fun a hf => ?_
  rcases cond_some h236 with ⟨hc246, h236⟩ | ⟨hc246, h236⟩
  ·iterate 2 refine pl_gs (wanted_f hf rfl rfl rfl rfl hc246) hf rfl rfl fun a hf => ?_
   refine q_ hf rfl rfl rfl (e_pick_t hf rfl hc246 rfl) fun a hf => ?_
   refine q_ hf rfl rfl rfl (e_assign hf rfl) fun a hf => ?_
   refine pl_nil ?_
   obtain rfl := some_inj h236
   refine then_n ?_
   exact ⟨true, rfl, hf.keep ⟨rfl, trivial⟩, hM.pick [0, 1, 2] rfl⟩
  refine gq (wanted_t hf rfl rfl rfl rfl hc246) hf rfl rfl (e_move hf rfl) fun a hf => ?_
  refine gq (wanted_t hf rfl rfl rfl rfl hc246) hf rfl rfl (e_eq hf (x := k13) (y := 0) rfl rfl) fun a hf => ?_
  refine q_ hf rfl rfl rfl (e_pick_f hf rfl hc246 rfl) fun a hf => ?_
  refine q_ hf rfl rfl rfl (e_assign hf rfl) fun a hf => ?_
  refine pl_nil ?_
  obtain rfl := some_inj h236
  refine then_n ?_
  exact ⟨(k13 == 0), rfl, hf.keep ⟨rfl, trivial⟩, hM.pick [0, 1, 2] rfl⟩
 rintro a w249 ⟨t233, rfl, hf, hM⟩
 try dsimp only at h
 refine wp_ret ?_
 obtain rfl := some_inj h
 have hM := hM.front (k := 4) rfl
 dsimp only [List.eraseIdx] at hM
 have hM := hM.front (k := 4) rfl
 dsimp only [List.eraseIdx] at hM
 have hM := hM.front (k := 4) rfl
 dsimp only [List.eraseIdx] at hM
 have hM := hM.front (k := 4) rfl
 dsimp only [List.eraseIdx] at hM
 have hM := hM.outs (own' := [.box b2 [vL A3 (x1.d.Nodes) c4, vI (n80), vL A83 (xs231) c84, vL A86 (xs85) c87, vL A89 (xs88) c90] 111, .row boolRep A83 c84 4 xs231 true, .row intRep A86 c87 2 xs85 true, .row intRep A89 c90 3 xs88 true]) 4 rfl
 exact leave1 hf rfl rfl ⟨A83, c84, A86, c87, A89, c90, rfl, hM.fin, hv81⟩

theorem r_impl_inspector_visit_n : ∀ n, Ct_impl_inspector_visit (m_impl_inspector_visit_n n)
  | 0 => fun C x1 b2 A3 c4 hp5 hp6 A7 c8 A9 c10 A11 c12 k13 hp14 hO hd r h => by cases h
  | n + 1 => r_impl_inspector_visit_b _ (r_impl_inspector_visit_n n)

theorem r_impl_inspector_visit : Ct_impl_inspector_visit (m_impl_inspector_visit) := r_impl_inspector_visit_n fuelN

set_option maxRecDepth 100000 in
set_option maxHeartbeats 4000000 in
theorem r_strings_Builder_copyCheck (C : Cx) (b1 : Str) (b2 : Nat) (p3 : Value) (hp4 : AddrOk b2 p3) (A5 : Option Addr) (c6 : Nat) (hO : Mem C C.w0 [.box b2 [p3, vL A5 (b1) c6] 147, .row byteRep A5 c6 5 b1 true] []) (hd : ∀ b, C.S0 b → ¬ ownB [.box b2 [p3, vL A5 (b1) c6] 147, .row byteRep A5 c6 5 b1 true] b) (r : Str) (h : m_strings_Builder_copyCheck b1 = some r) :
    Calls Tryd.prog 119 #[vP b2 (0)] C.w0 fun e w => ∃ (p_1 : Value), ∃ (A_1 : Option Addr), ∃ (c_1 : Nat), e = .returned (.tuple #[]) ∧ Mem C w [.box b2 [p_1, vL A_1 (r) c_1] 147, .row byteRep A_1 c_1 5 r true] [] ∧ AddrOk b2 p_1 := by
 have hM := hO
 refine enter Tryd.func119 rfl Tryd.ntmps119 rfl fun a hf => ?_
 unfold m_strings_Builder_copyCheck at h
 rcases hp4 with rfl | rfl
 ·refine wp_seq ?_
  refine region_pl ?_
  refine q_ hf rfl rfl rfl (e_move hf rfl) fun a hf => ?_
  refine q_ hf rfl rfl rfl (e_nil hf rfl) fun a hf => ?_
  refine q_ hf rfl rfl rfl (e_field hf rfl Tryd.underlying147 rfl Tryd.sizeOf145 (o' := 0) rfl) fun a hf => ?_
  refine q_ hf rfl rfl rfl (e_load1 hf rfl Tryd.isAgg145 (hM.boxCell (k := 0) rfl rfl)) fun a hf => ?_
  refine q_ hf rfl rfl rfl (e_eqPN hf rfl rfl Tryd.underlying145) fun a hf => ?_
  refine pl_nil ?_
  refine then_n ?_
  refine cond_t hf rfl rfl ?_
  refine region_pl ?_
  iterate 2 refine q_ hf rfl rfl rfl (e_move hf rfl) fun a hf => ?_
  refine q_ hf rfl rfl rfl (e_toUnsafe hf hM (k := 0) (n := 2) rfl rfl Tryd.underlying145 Tryd.underlying166 (by kernel_rfl) rfl rfl) fun a hf => ?_
  refine q_ hf rfl rfl rfl (e_noEscape hf (f := 122) rfl Tryd.func122 rfl rfl (by kernel_rfl) (by kernel_rfl)) fun a hf => ?_
  refine q_ hf rfl rfl rfl (e_fromUnsafe hf hM (k := 0) (n := 2) rfl rfl Tryd.underlying166 Tryd.underlying145 (by kernel_rfl) (by kernel_rfl)) fun a hf => ?_
  refine q_ hf rfl rfl rfl (e_nil hf rfl) fun a hf => ?_
  refine q_ hf rfl rfl rfl (e_field hf rfl Tryd.underlying147 rfl Tryd.sizeOf145 (o' := 0) rfl) fun a hf => ?_
  refine pl_0 hf rfl rfl (w_store hf hM (us := [vP b2 0]) (cs' := [vP b2 0, vL A5 (b1) c6]) rfl rfl (k := 0) rfl rfl Tryd.sizeOf145 rfl rfl rfl fun w7 hM => ?_)
  dsimp only [List.set] at hM
  refine pl_nil ?_
  obtain rfl := some_inj h
  exact leave0n hf rfl ⟨(vP b2 0), A5, c6, rfl, hM.fin, (AddrOk.self _)⟩
 refine wp_seq ?_
 refine region_pl ?_
 refine q_ hf rfl rfl rfl (e_move hf rfl) fun a hf => ?_
 refine q_ hf rfl rfl rfl (e_nil hf rfl) fun a hf => ?_
 refine q_ hf rfl rfl rfl (e_field hf rfl Tryd.underlying147 rfl Tryd.sizeOf145 (o' := 0) rfl) fun a hf => ?_
 refine q_ hf rfl rfl rfl (e_load1 hf rfl Tryd.isAgg145 (hM.boxCell (k := 0) rfl rfl)) fun a hf => ?_
 refine q_ hf rfl rfl rfl (e_eqPS hf rfl rfl Tryd.underlying145) fun a hf => ?_
 refine pl_nil ?_
 refine then_n ?_
 refine cond_f hf rfl rfl ?_
 refine wp_seq ?_
 refine region_pl ?_
 refine q_ hf rfl rfl rfl (e_move hf rfl) fun a hf => ?_
 refine q_ hf rfl rfl rfl (e_nil hf rfl) fun a hf => ?_
 refine q_ hf rfl rfl rfl (e_field hf rfl Tryd.underlying147 rfl Tryd.sizeOf145 (o' := 0) rfl) fun a hf => ?_
 refine q_ hf rfl rfl rfl (e_load1 hf rfl Tryd.isAgg145 (hM.boxCell (k := 0) rfl rfl)) fun a hf => ?_
 refine q_ hf rfl rfl rfl (e_move hf rfl) fun a hf => ?_
 refine q_ hf rfl rfl rfl (e_nePS hf (n := 2) rfl rfl Tryd.underlying145 (by kernel_rfl)) fun a hf => ?_
 refine pl_nil ?_
 refine then_n ?_
 refine cond_f hf rfl rfl ?_
 refine wp_skip ?_
 obtain rfl := some_inj h
 exact leave0n hf rfl ⟨(vP b2 0), A5, c6, rfl, hM.fin, (AddrOk.self _)⟩

set_option maxRecDepth 100000 in
set_option maxHeartbeats 4000000 in
theorem r_strings_Builder_WriteByte (C : Cx) (b1 : Str) (b2 : Nat) (p3 : Value) (hp4 : AddrOk b2 p3) (A5 : Option Addr) (c6 : Nat) (c7 : UInt8) (hO : Mem C C.w0 [.box b2 [p3, vL A5 (b1) c6] 147, .row byteRep A5 c6 5 b1 true] []) (hd : ∀ b, C.S0 b → ¬ ownB [.box b2 [p3, vL A5 (b1) c6] 147, .row byteRep A5 c6 5 b1 true] b) (r : (Unit × Str)) (h : m_strings_Builder_WriteByte b1 c7 = some r) :
    Calls Tryd.prog 102 #[vP b2 (0), vB (c7)] C.w0 fun e w => ∃ (p_1 : Value), ∃ (A_1 : Option Addr), ∃ (c_1 : Nat), e = .returned (.nilIface) ∧ Mem C w [.box b2 [p_1, vL A_1 (r.2) c_1] 147, .row byteRep A_1 c_1 5 r.2 true] [] ∧ AddrOk b2 p_1 := by
 have hM := hO
 refine enter Tryd.func102 rfl Tryd.ntmps102 rfl fun a hf => ?_
 unfold m_strings_Builder_WriteByte at h
 refine wp_seq ?_
 refine region_pl ?_
 refine q_ hf rfl rfl rfl (e_assign hf rfl) fun a hf => ?_
 refine pl_nil ?_
 refine then_n ?_
 refine wp_seq ?_
 refine region_pl ?_
 refine q_ hf rfl rfl rfl (e_move hf rfl) fun a hf => ?_
 have hM : Mem C _ ([.box b2 [p3, vL A5 (b1) c6] 147, .row byteRep A5 c6 5 b1 true] ++ []) _ := hM
 obtain ⟨y8, hz9, h⟩ := bind_some h
 refine pl_l hf rfl rfl rfl (w_call hf Tryd.call119 rfl (r_strings_Builder_copyCheck ⟨_, Sh C _ _, ownB _, hM.sh_lt, sub_dis, C.G, hM.g_lt, hM.g_own, hM.tabs⟩ b1 _ _ hp4 _ _ hM.sub sub_dis _ hz9) ?_)
 rintro _ w14 ⟨p10, A12, c13, rfl, hM2, hv11⟩
 obtain ⟨hM, hup16⟩ := hM.backG hM2
 dsimp only [List.cons_append, List.nil_append] at hM hup16
 clear hM2
 refine ⟨_, rfl, fun a hf => ?_⟩
 refine pl_nil ?_
 refine then_n ?_
 refine wp_seq ?_
 refine region_pl ?_
 iterate 2 refine q_ hf rfl rfl rfl (e_move hf rfl) fun a hf => ?_
 refine q_ hf rfl rfl rfl (e_nil hf rfl) fun a hf => ?_
 refine q_ hf rfl rfl rfl (e_field hf rfl Tryd.underlying147 rfl Tryd.sizeOf22 (o' := 1) rfl) fun a hf => ?_
 refine q_ hf rfl rfl rfl (e_load1 hf rfl Tryd.isAgg22 (hM.boxCell (k := 0) rfl rfl)) fun a hf => ?_
 refine q_ hf rfl rfl rfl (e_move hf rfl) fun a hf => ?_
 refine pl_l hf rfl rfl rfl (w_slice hf hM (K := byteRep) (xs := ([c7] : Str)) (os := [.tmp 12]) Tryd.underlying22 ei_5 rfl rfl rfl rfl rfl ⟨⟨[vB (c7)], rfl, rfl⟩, trivial⟩ rfl fun b17 w18 hx19 hM a hf => ?_)
 obtain ⟨xs20, hz21, h⟩ := bind_some h
 refine pl_l hf rfl rfl rfl (w_append hf hM Tryd.underlying22 ei_5 rfl rfl rfl (k := 2) rfl (hM.srcRow (k := 0) rfl) hz21 fun A22 c23 w24 hM a hf => ?_)
 dsimp only [List.set] at hM
 refine q_ hf rfl rfl rfl (e_nil hf rfl) fun a hf => ?_
 refine q_ hf rfl rfl rfl (e_field hf rfl Tryd.underlying147 rfl Tryd.sizeOf22 (o' := 1) rfl) fun a hf => ?_
 refine pl_0 hf rfl rfl (w_store hf hM (us := [vL A22 (xs20) c23]) (cs' := [p10, vL A22 (xs20) c23]) rfl rfl (k := 1) rfl rfl Tryd.sizeOf22 rfl rfl rfl fun w27 hM => ?_)
 dsimp only [List.set] at hM
 refine pl_nil ?_
 refine then_n ?_
 refine wp_seq ?_
 refine region_pl ?_
 refine q_ hf rfl rfl rfl (e_assign hf rfl) fun a hf => ?_
 refine pl_nil ?_
 refine then_n ?_
 refine wp_ret ?_
 obtain rfl := some_inj h
 have hM := hM.front (k := 2) rfl
 dsimp only [List.eraseIdx] at hM
 have hM := hM.front (k := 2) rfl
 dsimp only [List.eraseIdx] at hM
 have hM := hM.outs (own' := [.box b2 [p10, vL A22 (xs20) c23] 147, .row byteRep A22 c23 5 xs20 true]) 2 rfl
 exact leave1 hf rfl rfl ⟨p10, A22, c23, rfl, hM.fin, hv11⟩

set_option maxRecDepth 100000 in
set_option maxHeartbeats 4000000 in
theorem r_impl_Decimal (C : Cx) (n1 : Int) (hp2 : R64 n1) (r : Str) (h : m_impl_Decimal n1 = some r) :
    Calls Tryd.prog 104 #[vI (n1)] C.w0 fun e w => e = .returned (vS (r)) ∧ Mem C w [] [] ∧ r.length ≤ maxLen := by
 have hM := Mem.begin C [] trivial
 refine enter Tryd.func104 rfl Tryd.ntmps104 rfl fun a hf => ?_
 unfold m_impl_Decimal at h
 refine wp_seq ?_
 refine region_pl ?_
 refine q_ hf rfl rfl rfl (e_assign hf rfl) fun a hf => ?_
 refine pl_nil ?_
 refine then_n ?_
 refine wp_seq ?_
 refine region_pl ?_
 refine q_ hf rfl rfl rfl (e_move hf rfl) fun a hf => ?_
 obtain ⟨y3, hz4, h⟩ := bind_some h
 refine pl_l hf rfl rfl rfl (w_call hf Tryd.call120 rfl (r_strconv_FormatInt ⟨_, Sh C _ _, none_, hM.sh_lt, none_not, C.G, hM.g_lt, g_none, hM.tabs⟩ n1 hp2 10 (R64_lit rfl) _ hz4) ?_)
 rintro _ w6 ⟨rfl, hM2, hv5⟩
 obtain ⟨hM, hx7, hup8⟩ := hM.back hM2
 dsimp only [List.cons_append, List.nil_append] at hM hup8
 clear hM2
 refine ⟨_, rfl, fun a hf => ?_⟩
 refine q_ hf rfl rfl rfl (e_assign hf rfl) fun a hf => ?_
 refine pl_nil ?_
 refine then_n ?_
 refine wp_ret ?_
 obtain rfl := some_inj h
 exact leave1 hf rfl rfl ⟨rfl, hM.fin, hv5⟩

set_option maxRecDepth 100000 in
set_option maxHeartbeats 4000000 in
theorem r_strings_Builder_WriteString (C : Cx) (b1 : Str) (b2 : Nat) (p3 : Value) (hp4 : AddrOk b2 p3) (A5 : Option Addr) (c6 : Nat) (s7 : Str) (hp8 : s7.length ≤ maxLen) (hO : Mem C C.w0 [.box b2 [p3, vL A5 (b1) c6] 147, .row byteRep A5 c6 5 b1 true] []) (hd : ∀ b, C.S0 b → ¬ ownB [.box b2 [p3, vL A5 (b1) c6] 147, .row byteRep A5 c6 5 b1 true] b) (r : (Int × Unit × Str)) (h : m_strings_Builder_WriteString b1 s7 = some r) :
    Calls Tryd.prog 103 #[vP b2 (0), vS (s7)] C.w0 fun e w => ∃ (p_1 : Value), ∃ (A_1 : Option Addr), ∃ (c_1 : Nat), e = .returned (.tuple #[vI (r.1), .nilIface]) ∧ Mem C w [.box b2 [p_1, vL A_1 (r.2.2) c_1] 147, .row byteRep A_1 c_1 5 r.2.2 true] [] ∧ AddrOk b2 p_1 ∧ R64 r.1 := by
 have hM := hO
 refine enter Tryd.func103 rfl Tryd.ntmps103 rfl fun a hf => ?_
 unfold m_strings_Builder_WriteString at h
 refine wp_seq ?_
 refine region_pl ?_
 iterate 2 refine q_ hf rfl rfl rfl (e_assign hf rfl) fun a hf => ?_
 refine pl_nil ?_
 refine then_n ?_
 refine wp_seq ?_
 refine region_pl ?_
 refine q_ hf rfl rfl rfl (e_move hf rfl) fun a hf => ?_
 have hM : Mem C _ ([.box b2 [p3, vL A5 (b1) c6] 147, .row byteRep A5 c6 5 b1 true] ++ []) _ := hM
 obtain ⟨y9, hz10, h⟩ := bind_some h
 refine pl_l hf rfl rfl rfl (w_call hf Tryd.call119 rfl (r_strings_Builder_copyCheck ⟨_, Sh C _ _, ownB _, hM.sh_lt, sub_dis, C.G, hM.g_lt, hM.g_own, hM.tabs⟩ b1 _ _ hp4 _ _ hM.sub sub_dis _ hz10) ?_)
 rintro _ w15 ⟨p11, A13, c14, rfl, hM2, hv12⟩
 obtain ⟨hM, hup17⟩ := hM.backG hM2
 dsimp only [List.cons_append, List.nil_append] at hM hup17
 clear hM2
 refine ⟨_, rfl, fun a hf => ?_⟩
 refine pl_nil ?_
 refine then_n ?_
 refine wp_seq ?_
 refine region_pl ?_
 iterate 2 refine q_ hf rfl rfl rfl (e_move hf rfl) fun a hf => ?_
 refine q_ hf rfl rfl rfl (e_nil hf rfl) fun a hf => ?_
 refine q_ hf rfl rfl rfl (e_field hf rfl Tryd.underlying147 rfl Tryd.sizeOf22 (o' := 1) rfl) fun a hf => ?_
 refine q_ hf rfl rfl rfl (e_load1 hf rfl Tryd.isAgg22 (hM.boxCell (k := 0) rfl rfl)) fun a hf => ?_
 refine q_ hf rfl rfl rfl (e_move hf rfl) fun a hf => ?_
 obtain ⟨xs18, hz19, h⟩ := bind_some h
 refine pl_l hf rfl rfl rfl (w_appendS hf hM Tryd.underlying22 Tryd.underlying9 (by kernel_rfl) rfl rfl (k := 1) rfl hz19 fun A20 c21 w22 hM a hf => ?_)
 dsimp only [List.set] at hM
 refine q_ hf rfl rfl rfl (e_nil hf rfl) fun a hf => ?_
 refine q_ hf rfl rfl rfl (e_field hf rfl Tryd.underlying147 rfl Tryd.sizeOf22 (o' := 1) rfl) fun a hf => ?_
 refine pl_0 hf rfl rfl (w_store hf hM (us := [vL A20 (xs18) c21]) (cs' := [p11, vL A20 (xs18) c21]) rfl rfl (k := 0) rfl rfl Tryd.sizeOf22 rfl rfl rfl fun w23 hM => ?_)
 dsimp only [List.set] at hM
 refine pl_nil ?_
 refine then_n ?_
 refine wp_seq ?_
 refine region_pl ?_
 refine q_ hf rfl rfl rfl (e_move hf rfl) fun a hf => ?_
 refine q_ hf rfl rfl rfl (e_lenS hf (x := s7) rfl Tryd.underlying9) fun a hf => ?_
 iterate 2 refine q_ hf rfl rfl rfl (e_assign hf rfl) fun a hf => ?_
 refine pl_nil ?_
 refine then_n ?_
 refine wp_ret ?_
 obtain rfl := some_inj h
 exact leave2 hf rfl rfl rfl ⟨p11, A20, c21, rfl, hM.fin, hv12, (R64_len hp8)⟩

end Go.Proofs.YtdaoecpkgobelaaDoor
