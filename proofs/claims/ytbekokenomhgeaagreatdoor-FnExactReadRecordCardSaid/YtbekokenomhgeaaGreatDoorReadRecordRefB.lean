/- The functions that this law reaches do what their models say. Printed by gen.py. -/
import Derived.Test.YtbekokenomhgeaaGreatDoorMod
import Derived.Test.YtbekokenomhgeaaGreatDoorLib
import Derived.Test.YtbekokenomhgeaaGreatDoorReadRecordRef
namespace Go.Proofs.YtbekokenomhgeaaGreatDoor
open Go Go.RowKit
set_option linter.unusedSimpArgs false
set_option linter.unusedVariables false

set_option maxRecDepth 100000 in
set_option maxHeartbeats 4000000 in
theorem r_impl_ReadPlay (C : Cx) (s1 : Str) (hp2 : s1.length ≤ maxLen) (r : (Play × Bool)) (h : m_impl_ReadPlay s1 = some r) :
    Calls Tryz.prog 55 #[vS (s1)] C.w0 fun e w => e = .returned (.tuple #[.agg #[vI (r.1.Row), vI (r.1.Col), .bool (r.1.Down), vS (r.1.Word)], .bool (r.2)]) ∧ Mem C w [] [] ∧ R64 r.1.Row ∧ R64 r.1.Col ∧ r.1.Word.length ≤ maxLen := by
 have hM := Mem.begin C [] trivial
 refine enter Tryz.func55 rfl Tryz.ntmps55 rfl fun a hf => ?_
 unfold m_impl_ReadPlay at h
 refine wp_seq ?_
 refine region_pl ?_
 refine pl_l hf rfl rfl rfl (w_alloc hM (cs := [vI (0), vI (0), .bool (false), vS (([] : Str))]) Tryz.zeroValue41 rfl fun b3 w4 hx5 hM a hf => ?_)
 refine q_ hf rfl rfl rfl (e_assign hf rfl) fun a hf => ?_
 refine pl_nil ?_
 refine then_n ?_
 refine wp_seq ?_
 refine region_pl ?_
 refine q_ hf rfl rfl rfl (e_move hf rfl) fun a hf => ?_
 obtain ⟨y7, hz8, h⟩ := bind_some h
 refine pl_l hf rfl rfl rfl (w_call hf Tryz.call53 rfl (r_strings_Cut ⟨_, Sh C _ _, none_, hM.sh_lt, none_not, C.G, hM.g_lt, g_none, hM.tabs⟩ s1 hp2 ([32] : Str) (lit_len rfl) _ hz8) ?_)
 rintro _ w11 ⟨rfl, hM2, hv9, hv10⟩
 obtain ⟨hM, hx12, hup13⟩ := hM.back hM2
 dsimp only [List.cons_append, List.nil_append] at hM hup13
 clear hM2
 refine ⟨_, rfl, fun a hf => ?_⟩
 refine q_ hf rfl rfl rfl (e_move hf rfl) fun a hf => ?_
 iterate 3 refine q_ hf rfl rfl rfl (e_extract hf rfl rfl) fun a hf => ?_
 iterate 3 refine q_ hf rfl rfl rfl (e_assign hf rfl) fun a hf => ?_
 refine pl_nil ?_
 refine then_n ?_
 iterate 2 refine wp_seq ?_
 refine region_pl ?_
 refine q_ hf rfl rfl rfl (e_move hf rfl) fun a hf => ?_
 refine q_ hf rfl rfl rfl (e_lenS hf (x := y7.1) rfl Tryz.underlying9) fun a hf => ?_
 refine q_ hf rfl rfl rfl (e_lt hf (x := (y7.1.length : Int)) (y := 2) rfl rfl) fun a hf => ?_
 refine pl_nil ?_
 refine then_n ?_
 rcases cond_some h with ⟨hc14, h⟩ | ⟨hc14, h⟩
 ·refine cond_t hf rfl hc14 ?_
  refine wp_seq ?_
  refine region_pl ?_
  refine q_ hf rfl rfl rfl (e_build hf Tryz.zeroValue41 Tryz.underlying41 (bp_41 _ Tryz.underlying41.symm) rfl (cs := #[vI (0), vI (0), .bool (false), vS (([] : Str))]) (by kernel_rfl)) fun a hf => ?_
  refine pl_0 hf rfl rfl (w_store hf hM (us := [vI (0), vI (0), .bool (false), vS (([] : Str))]) (cs' := [vI (0), vI (0), .bool (false), vS (([] : Str))]) rfl rfl (k := 0) rfl rfl Tryz.sizeOf41 rfl rfl rfl fun w15 hM => ?_)
  dsimp only [List.set] at hM
  refine q_ hf rfl rfl rfl (e_assign hf rfl) fun a hf => ?_
  refine pl_nil ?_
  refine then_n ?_
  refine wp_ret ?_
  refine then_r ?_
  obtain rfl := some_inj h
  have hres18 := leaveV2 (P := Tryz.prog) (w := w15) Tryz.results55 (res_agg hf rfl ⟨Tryz.isAgg41, Tryz.sizeOf41⟩ (us := [vI (0), vI (0), .bool (false), vS (([] : Str))]) rfl (hM.boxSub (k := 0) (o := 0) rfl rfl)) (res_tmp hf rfl)
  have hM := hM.outs (own' := []) 0 rfl
  exact bodyPost_ret hres18 hf.defers ⟨rfl, hM.fin, (R64_lit rfl), (R64_lit rfl), (lit_len rfl)⟩
 refine cond_f hf rfl hc14 ?_
 refine wp_skip ?_
 refine then_n ?_
 refine wp_seq ?_
 refine region_pl ?_
 iterate 2 refine q_ hf rfl rfl rfl (e_move hf rfl) fun a hf => ?_
 obtain ⟨c19, hz20, h⟩ := bind_some h
 refine q_ hf rfl rfl rfl (e_indexS hf (x := y7.1) rfl rfl Tryz.underlying9 hz20) fun a hf => ?_
 obtain ⟨y21, hz22, h⟩ := bind_some h
 refine pl_l hf rfl rfl rfl (w_call hf Tryz.call115 rfl (r_impl_small ⟨_, Sh C _ _, none_, hM.sh_lt, none_not, C.G, hM.g_lt, g_none, hM.tabs⟩ c19 _ hz22) ?_)
 rintro _ w23 ⟨rfl, hM2⟩
 obtain ⟨hM, hx24, hup25⟩ := hM.back hM2
 dsimp only [List.cons_append, List.nil_append] at hM hup25
 clear hM2
 refine ⟨_, rfl, fun a hf => ?_⟩
 refine q_ hf rfl rfl rfl (e_build hf Tryz.zeroValue41 Tryz.underlying41 (bp_41 _ Tryz.underlying41.symm) rfl (cs := #[vI (0), vI (0), .bool (y21), vS (y7.2.1)]) (by kernel_rfl)) fun a hf => ?_
 refine pl_l hf rfl rfl rfl (w_alloc hM (cs := [vI (0), vI (0), .bool (false), vS (([] : Str))]) Tryz.zeroValue41 rfl fun b26 w27 hx28 hM a hf => ?_)
 refine pl_0 hf rfl rfl (w_store hf hM (us := [vI (0), vI (0), .bool (y21), vS (y7.2.1)]) (cs' := [vI (0), vI (0), .bool (y21), vS (y7.2.1)]) rfl rfl (k := 0) rfl rfl Tryz.sizeOf41 rfl rfl rfl fun w30 hM => ?_)
 dsimp only [List.set] at hM
 refine pl_nil ?_
 refine then_n ?_
 refine wp_seq ?_
 obtain ⟨w33, hw⟩ : ∃ x, x = w30.drew := ⟨_, rfl⟩
 refine region_pi (.q 0 (.q 1 (.q 2 (.q 3 (.q 4 (.q 5 (.q 6 (.q 7 (.q 8 (.q 9 (.q 10 (.q 11 (.nil))))))))))))) (Ext w33) rfl (by kernel_rfl) ?_
 have hM := hM.drew
 rw [← hw] at hM ⊢
 clear hw
 iterate 2 refine pi_q hf rfl rfl rfl rfl (Ext.refl _) (e_move hf rfl) fun a hf => ?_
 refine pi_q hf rfl rfl rfl rfl (Ext.refl _) (e_lenS hf (x := y7.1) rfl Tryz.underlying9) fun a hf => ?_
 obtain ⟨z34, hz35, h⟩ := bind_some h
 refine pi_q hf rfl rfl rfl rfl (Ext.refl _) (e_sub hf rfl rfl hz35) fun a hf => ?_
 obtain ⟨s36, hz37, h⟩ := bind_some h
 refine pi_q hf rfl rfl rfl rfl (Ext.refl _) (e_subSh hf (x := y7.1) rfl rfl Tryz.underlying9 hz37) fun a hf => ?_
 iterate 2 refine pi_q hf rfl rfl rfl rfl (Ext.refl _) (e_move hf rfl) fun a hf => ?_
 refine pi_q hf rfl rfl rfl rfl (Ext.refl _) (e_lenS hf (x := y7.1) rfl Tryz.underlying9) fun a hf => ?_
 obtain ⟨z38, hz39, h⟩ := bind_some h
 refine pi_q hf rfl rfl rfl rfl (Ext.refl _) (e_sub hf rfl rfl hz39) fun a hf => ?_
 obtain ⟨c40, hz41, h⟩ := bind_some h
 refine pi_q hf rfl rfl rfl rfl (Ext.refl _) (e_indexS hf (x := y7.1) rfl rfl Tryz.underlying9 hz41) fun a hf => ?_
 iterate 2 refine pi_q hf rfl rfl rfl rfl (Ext.refl _) (e_assign hf rfl) fun a hf => ?_
 refine pi_nil ?_
 refine then_n ?_
 obtain ⟨x46, h47, h⟩ := bind_some h
 refine seq_join (fun a w => ∃ (letter42 : Str) (row44 : UInt8), (letter42, row44) = x46 ∧ Has 65 a [(0, vS (s1)), (2, vP b3 (0)), (7, vP b26 (0)), (8, vS (letter42)), (9, vB (row44))] ∧ Mem C w [.box b26 [vI (0), vI (0), .bool (y21), vS (y7.2.1)] 41, .box b3 [vI (0), vI (0), .bool (false), vS (([] : Str))] 41] [] ∧ letter42.length ≤ maxLen) ?_ ?_
 ·refine wp_seq ?_
  refine region_pl ?_
  refine q_ hf rfl rfl rfl (e_field hf rfl Tryz.underlying41 rfl Tryz.sizeOf4 (o' := 2) rfl) fun a hf => ?_
  refine q_ hf rfl rfl rfl (e_load1 hf rfl Tryz.isAgg4 (hM.boxCell (k := 0) rfl rfl)) fun a hf => ?_
  refine pl_nil ?_
  refine then_n ?_
  rcases cond_some h47 with ⟨hc48, h47⟩ | ⟨hc48, h47⟩
  ·refine cond_t hf rfl hc48 ?_
   obtain ⟨w49, hw⟩ : ∃ x, x = w33.drew := ⟨_, rfl⟩
   refine region_pi (.q 0 (.q 1 (.q 2 (.q 3 (.q 4 (.q 5 (.nil))))))) (Ext w49) rfl (by kernel_rfl) ?_
   have hM := hM.drew
   rw [← hw] at hM ⊢
   clear hw
   refine pi_q hf rfl rfl rfl rfl (Ext.refl _) (e_move hf rfl) fun a hf => ?_
   obtain ⟨s50, hz51, h47⟩ := bind_some h47
   refine pi_q hf rfl rfl rfl rfl (Ext.refl _) (e_subSl hf (x := y7.1) rfl rfl Tryz.underlying9 hz51) fun a hf => ?_
   refine pi_q hf rfl rfl rfl rfl (Ext.refl _) (e_move hf rfl) fun a hf => ?_
   obtain ⟨c52, hz53, h47⟩ := bind_some h47
   refine pi_q hf rfl rfl rfl rfl (Ext.refl _) (e_indexS hf (x := y7.1) rfl rfl Tryz.underlying9 hz53) fun a hf => ?_
   iterate 2 refine pi_q hf rfl rfl rfl rfl (Ext.refl _) (e_assign hf rfl) fun a hf => ?_
   refine pi_nil ?_
   obtain rfl := some_inj h47
   refine then_n ?_
   exact ⟨s50, c52, rfl, hf.keep ⟨rfl, rfl, rfl, rfl, rfl, trivial⟩, hM.pick [] rfl, (sub_len hz51 hv9)⟩
  refine cond_f hf rfl hc48 ?_
  refine wp_skip ?_
  obtain rfl := some_inj h47
  refine then_n ?_
  exact ⟨s36, c40, rfl, hf.keep ⟨rfl, rfl, rfl, rfl, rfl, trivial⟩, hM.pick [] rfl, (sub_len hz37 hv9)⟩
 rintro a w56 ⟨letter42, row44, rfl, hf, hM, hv43⟩
 try dsimp only at h
 refine wp_seq ?_
 refine region_pl ?_
 refine q_ hf rfl rfl rfl (e_move hf rfl) fun a hf => ?_
 obtain ⟨y57, hz58, h⟩ := bind_some h
 refine pl_l hf rfl rfl rfl (w_call hf Tryz.call60 rfl (r_impl_ReadDecimal ⟨_, Sh C _ _, none_, hM.sh_lt, none_not, C.G, hM.g_lt, g_none, hM.tabs⟩ letter42 hv43 _ hz58) ?_)
 rintro _ w60 ⟨rfl, hM2, hv59⟩
 obtain ⟨hM, hx61, hup62⟩ := hM.back hM2
 dsimp only [List.cons_append, List.nil_append] at hM hup62
 clear hM2
 refine ⟨_, rfl, fun a hf => ?_⟩
 refine q_ hf rfl rfl rfl (e_move hf rfl) fun a hf => ?_
 iterate 2 refine q_ hf rfl rfl rfl (e_extract hf rfl rfl) fun a hf => ?_
 iterate 2 refine q_ hf rfl rfl rfl (e_assign hf rfl) fun a hf => ?_
 refine pl_nil ?_
 refine then_n ?_
 refine wp_seq ?_
 refine region_pl ?_
 refine q_ hf rfl rfl rfl (e_move hf rfl) fun a hf => ?_
 obtain ⟨z63, hz64, h⟩ := bind_some h
 refine q_ hf rfl rfl rfl (e_sub hf rfl rfl hz64) fun a hf => ?_
 refine q_ hf rfl rfl rfl (e_move hf rfl) fun a hf => ?_
 refine q_ hf rfl rfl rfl (e_convBI hf (x := row44) rfl Tryz.underlying5 Tryz.underlying2) fun a hf => ?_
 obtain ⟨z65, hz66, h⟩ := bind_some h
 refine q_ hf rfl rfl rfl (e_sub hf rfl rfl hz66) fun a hf => ?_
 refine q_ hf rfl rfl rfl (e_field hf rfl Tryz.underlying41 rfl Tryz.sizeOf2 (o' := 0) rfl) fun a hf => ?_
 refine pl_0 hf rfl rfl (w_store hf hM (us := [vI (z63)]) (cs' := [vI (z63), vI (0), .bool (y21), vS (y7.2.1)]) rfl rfl (k := 0) rfl rfl Tryz.sizeOf2 rfl rfl rfl fun w67 hM => ?_)
 dsimp only [List.set] at hM
 refine q_ hf rfl rfl rfl (e_field hf rfl Tryz.underlying41 rfl Tryz.sizeOf2 (o' := 1) rfl) fun a hf => ?_
 refine pl_0 hf rfl rfl (w_store hf hM (us := [vI (z65)]) (cs' := [vI (z63), vI (z65), .bool (y21), vS (y7.2.1)]) rfl rfl (k := 0) rfl rfl Tryz.sizeOf2 rfl rfl rfl fun w70 hM => ?_)
 dsimp only [List.set] at hM
 refine pl_nil ?_
 refine then_n ?_
 refine wp_seq ?_
 obtain ⟨x75, h76, h⟩ := bind_some h
 refine seq_join (fun a w => ∃ (t73 : Bool), t73 = x75 ∧ Has 65 a [(2, vP b3 (0)), (7, vP b26 (0)), (62, .bool (t73))] ∧ Mem C w [.box b26 [vI (z63), vI (z65), .bool (y21), vS (y7.2.1)] 41, .box b3 [vI (0), vI (0), .bool (false), vS (([] : Str))] 41] []) ?_ ?_
 ·refine region_pl ?_
  refine q_ hf rfl rfl rfl (e_move hf rfl) fun a hf => ?_
  refine q_ hf rfl rfl rfl (e_eqS hf (x := s1) (y := ([] : Str)) rfl rfl) fun a hf => ?_
  refine q_ hf rfl rfl rfl (e_move hf rfl) fun a hf => ?_
  rcases cond_some h76 with ⟨hc77, h76⟩ | ⟨hc77, h76⟩
  ·iterate 4 refine pl_gs (wanted_f hf rfl rfl rfl rfl hc77) hf rfl rfl fun a hf => ?_
   refine q_ hf rfl rfl rfl (e_pick_t hf rfl hc77 rfl) fun a hf => ?_
   refine pl_nil ?_
   obtain rfl := some_inj h76
   refine then_n ?_
   exact ⟨true, rfl, hf.keep ⟨rfl, rfl, rfl, trivial⟩, hM.pick [] rfl⟩
  refine gq (wanted_t hf rfl rfl rfl rfl hc77) hf rfl rfl (e_loadA hf (us := [vI (z63), vI (z65), .bool (y21), vS (y7.2.1)]) rfl ⟨Tryz.isAgg41, Tryz.sizeOf41⟩ rfl (hM.boxSub (k := 0) (us := [vI (z63), vI (z65), .bool (y21), vS (y7.2.1)]) (o := 0) rfl rfl)) fun a hf => ?_
  obtain ⟨y79, hz80, h76⟩ := bind_some h76
  refine pl_gl (wanted_t hf rfl rfl rfl rfl hc77) hf rfl rfl (w_call hf Tryz.call116 rfl (r_impl_PlayText ⟨_, Sh C _ _, none_, hM.sh_lt, none_not, C.G, hM.g_lt, g_none, hM.tabs⟩ (⟨z63, z65, y21, y7.2.1⟩ : Play) (chk_R hz64) (chk_R hz66) hv10 _ hz80) ?_)
  rintro _ w82 ⟨rfl, hM2, hv81⟩
  obtain ⟨hM, hx83, hup84⟩ := hM.back hM2
  dsimp only [List.cons_append, List.nil_append] at hM hup84
  clear hM2
  refine ⟨_, rfl, fun a hf => ?_⟩
  refine gq (wanted_t hf rfl rfl rfl rfl hc77) hf rfl rfl (e_move hf rfl) fun a hf => ?_
  refine gq (wanted_t hf rfl rfl rfl rfl hc77) hf rfl rfl (e_neS hf (x := y79) (y := s1) rfl rfl) fun a hf => ?_
  refine q_ hf rfl rfl rfl (e_pick_f hf rfl hc77 rfl) fun a hf => ?_
  refine pl_nil ?_
  obtain rfl := some_inj h76
  refine then_n ?_
  exact ⟨(y79 != s1), rfl, hf.keep ⟨rfl, rfl, rfl, trivial⟩, hM.pick [] rfl⟩
 rintro a w86 ⟨t73, rfl, hf, hM⟩
 try dsimp only at h
 rcases cond_some h with ⟨hc87, h⟩ | ⟨hc87, h⟩
 ·refine cond_t hf rfl hc87 ?_
  refine wp_seq ?_
  refine region_pl ?_
  refine q_ hf rfl rfl rfl (e_build hf Tryz.zeroValue41 Tryz.underlying41 (bp_41 _ Tryz.underlying41.symm) rfl (cs := #[vI (0), vI (0), .bool (false), vS (([] : Str))]) (by kernel_rfl)) fun a hf => ?_
  refine pl_0 hf rfl rfl (w_store hf hM (us := [vI (0), vI (0), .bool (false), vS (([] : Str))]) (cs' := [vI (0), vI (0), .bool (false), vS (([] : Str))]) rfl rfl (k := 1) rfl rfl Tryz.sizeOf41 rfl rfl rfl fun w88 hM => ?_)
  dsimp only [List.set] at hM
  refine q_ hf rfl rfl rfl (e_assign hf rfl) fun a hf => ?_
  refine pl_nil ?_
  refine then_n ?_
  refine wp_ret ?_
  refine then_r ?_
  obtain rfl := some_inj h
  have hres91 := leaveV2 (P := Tryz.prog) (w := w88) Tryz.results55 (res_agg hf rfl ⟨Tryz.isAgg41, Tryz.sizeOf41⟩ (us := [vI (0), vI (0), .bool (false), vS (([] : Str))]) rfl (hM.boxSub (k := 1) (o := 0) rfl rfl)) (res_tmp hf rfl)
  have hM := hM.outs (own' := []) 0 rfl
  exact bodyPost_ret hres91 hf.defers ⟨rfl, hM.fin, (R64_lit rfl), (R64_lit rfl), (lit_len rfl)⟩
 refine cond_f hf rfl hc87 ?_
 refine wp_skip ?_
 refine then_n ?_
 refine wp_seq ?_
 refine region_pl ?_
 refine q_ hf rfl rfl rfl (e_loadA hf (us := [vI (z63), vI (z65), .bool (y21), vS (y7.2.1)]) rfl ⟨Tryz.isAgg41, Tryz.sizeOf41⟩ rfl (hM.boxSub (k := 0) (us := [vI (z63), vI (z65), .bool (y21), vS (y7.2.1)]) (o := 0) rfl rfl)) fun a hf => ?_
 refine pl_0 hf rfl rfl (w_store hf hM (us := [vI (z63), vI (z65), .bool (y21), vS (y7.2.1)]) (cs' := [vI (z63), vI (z65), .bool (y21), vS (y7.2.1)]) rfl rfl (k := 1) rfl rfl Tryz.sizeOf41 rfl rfl rfl fun w92 hM => ?_)
 dsimp only [List.set] at hM
 refine q_ hf rfl rfl rfl (e_assign hf rfl) fun a hf => ?_
 refine pl_nil ?_
 refine then_n ?_
 refine wp_ret ?_
 obtain rfl := some_inj h
 have hres95 := leaveV2 (P := Tryz.prog) (w := w92) Tryz.results55 (res_agg hf rfl ⟨Tryz.isAgg41, Tryz.sizeOf41⟩ (us := [vI (z63), vI (z65), .bool (y21), vS (y7.2.1)]) rfl (hM.boxSub (k := 1) (o := 0) rfl rfl)) (res_tmp hf rfl)
 have hM := hM.outs (own' := []) 0 rfl
 exact bodyPost_ret hres95 hf.defers ⟨rfl, hM.fin, (chk_R hz64), (chk_R hz66), hv10⟩

set_option maxRecDepth 100000 in
set_option maxHeartbeats 4000000 in
theorem r_impl_ReadAction_1 (C : Cx) (p1 : Action) (b2 : Nat) (hp3 : R64 p1.Kind) (hp4 : R64 p1.Play.Row) (hp5 : R64 p1.Play.Col) (hp6 : p1.Play.Word.length ≤ maxLen) (hp7 : p1.Tiles.length ≤ maxLen) (hp8 : R64 p1.Seconds) (p9 : (List Str)) (b10 : Nat) (o11 : Nat) (hp12 : (ptrRep (sliceRep strRep)).R C.w0 C.S0 p9 [vP b10 o11]) (hO : Mem C C.w0 [.box b2 [vI (p1.Kind), vI (p1.Play.Row), vI (p1.Play.Col), .bool (p1.Play.Down), vS (p1.Play.Word), vS (p1.Tiles), vI (p1.Seconds)] 55] []) (hd : ∀ b, C.S0 b → ¬ ownB [.box b2 [vI (p1.Kind), vI (p1.Play.Row), vI (p1.Play.Col), .bool (p1.Play.Down), vS (p1.Play.Word), vS (p1.Tiles), vI (p1.Seconds)] 55] b) (r : Action) (h : m_impl_ReadAction_1 p1 p9 = some r) :
    Calls Tryz.prog 61 #[vP b2 (0), vP b10 (o11)] C.w0 fun e w => e = .returned (.tuple #[]) ∧ Mem C w [.box b2 [vI (r.Kind), vI (r.Play.Row), vI (r.Play.Col), .bool (r.Play.Down), vS (r.Play.Word), vS (r.Tiles), vI (r.Seconds)] 55] [] ∧ R64 r.Kind ∧ R64 r.Play.Row ∧ R64 r.Play.Col ∧ r.Play.Word.length ≤ maxLen ∧ r.Tiles.length ≤ maxLen ∧ R64 r.Seconds := by
 have hM := hO
 have hM := hM.addIn hd (y := .dat (ptrRep (sliceRep strRep)) p9 [vP b10 o11]) hp12
 refine enter Tryz.func61 rfl Tryz.ntmps61 rfl fun a hf => ?_
 unfold m_impl_ReadAction_1 at h
 refine wp_seq ?_
 refine region_pl ?_
 refine q_ hf rfl rfl rfl (e_field hf rfl Tryz.underlying55 rfl Tryz.sizeOf2 (o' := 0) rfl) fun a hf => ?_
 refine pl_0 hf rfl rfl (w_store hf hM (us := [vI (1)]) (cs' := [vI (1), vI (p1.Play.Row), vI (p1.Play.Col), .bool (p1.Play.Down), vS (p1.Play.Word), vS (p1.Tiles), vI (p1.Seconds)]) rfl rfl (k := 0) rfl rfl Tryz.sizeOf2 rfl rfl rfl fun w13 hM => ?_)
 dsimp only [List.set] at hM
 refine pl_nil ?_
 refine then_n ?_
 refine wp_seq ?_
 refine region_pl ?_
 obtain ⟨_, hr16, hM⟩ := hM.deref (hM.dat (k := 0) rfl)
 obtain ⟨A17, c18, rfl, hv19⟩ := slice_form hr16
 have hM := hM.add (y := .dat (sliceRep strRep) p9 [vL A17 p9 c18]) hv19
 refine q_ hf rfl rfl rfl (e_load1 hf rfl Tryz.isAgg91 (hM.litCell (k := 1) (j := 0) rfl rfl rfl)) fun a hf => ?_
 have hl20 := slice_len (hM.dat (k := 0) rfl)
 refine q_ hf rfl rfl rfl (e_lenL hf (x := p9) rfl Tryz.underlying91) fun a hf => ?_
 refine q_ hf rfl rfl rfl (e_eq hf (x := (p9.length : Int)) (y := 4) rfl rfl) fun a hf => ?_
 refine pl_nil ?_
 refine then_n ?_
 rcases cond_some h with ⟨hc21, h⟩ | ⟨hc21, h⟩
 ·refine cond_t hf rfl hc21 ?_
  obtain ⟨w22, hw⟩ : ∃ x, x = w13.drew := ⟨_, rfl⟩
  refine region_pi (.q 0 (.q 1 (.q 2 (.q 3 (.q 4 (.q 5 (.l 6 (.l 7 (.l 8 (.q 9 (.q 10 (.q 11 (.q 12 (.l 13 (.nil))))))))))))))) (ExtM [some b2] w22) rfl (by kernel_rfl) ?_
  have hM := hM.drew
  rw [← hw] at hM ⊢
  clear hw
  refine pi_q hf rfl rfl rfl rfl (ExtM.refl _ _) (e_load1M hf rfl Tryz.isAgg91 (hM.litCell (k := 1) (j := 0) rfl rfl rfl) (hM.apartS (js := [0]) rfl (hM.at_ (k := 1) rfl).1)) fun a hf => ?_
  obtain ⟨e23, hz24, h⟩ := bind_some h
  obtain ⟨b28, o29, _, hA30, h25, h26, hr27, hM⟩ := hM.elem (hM.dat (k := 0) rfl) (n := 1) rfl hz24
  obtain ⟨rfl, hv31⟩ := hr27
  refine pi_q hf rfl rfl rfl rfl (ExtM.refl _ _) (e_indexAddr (A := A17) (b := b28) (o := o29) (xs := p9) (i := 1) hf hA30 rfl rfl Tryz.underlying91 Tryz.sizeOf9 h25 h26) fun a hf => ?_
  refine pi_q hf rfl rfl rfl rfl (ExtM.refl _ _) (e_load1M hf rfl Tryz.isAgg9 (hM.litCell (k := 0) (j := 0) rfl rfl rfl) (hM.apartS (js := [0]) rfl (hM.at_ (k := 0) rfl).1)) fun a hf => ?_
  refine pi_q hf rfl rfl rfl rfl (ExtM.refl _ _) (e_load1M hf rfl Tryz.isAgg91 (hM.litCell (k := 2) (j := 0) rfl rfl rfl) (hM.apartS (js := [0]) rfl (hM.at_ (k := 2) rfl).1)) fun a hf => ?_
  obtain ⟨e32, hz33, h⟩ := bind_some h
  obtain ⟨b37, o38, _, hA39, h34, h35, hr36, hM⟩ := hM.elem (hM.dat (k := 1) rfl) (n := 1) rfl hz33
  obtain ⟨rfl, hv40⟩ := hr36
  refine pi_q hf rfl rfl rfl rfl (ExtM.refl _ _) (e_indexAddr (A := A17) (b := b37) (o := o38) (xs := p9) (i := 2) hf hA39 rfl rfl Tryz.underlying91 Tryz.sizeOf9 h34 h35) fun a hf => ?_
  refine pi_q hf rfl rfl rfl rfl (ExtM.refl _ _) (e_load1M hf rfl Tryz.isAgg9 (hM.litCell (k := 0) (j := 0) rfl rfl rfl) (hM.apartS (js := [0]) rfl (hM.at_ (k := 0) rfl).1)) fun a hf => ?_
  refine pi_one ?_
  refine pi_l hf rfl rfl rfl rfl (w_slice hf hM (K := strRep) (xs := ([e23, e32] : (List Str))) (os := [.tmp 9, .tmp 12]) Tryz.underlying91 ei_9 rfl rfl rfl rfl rfl ⟨⟨[vS (e23)], rfl, ⟨rfl, hv31⟩⟩, ⟨[vS (e32)], rfl, ⟨rfl, hv40⟩⟩, trivial⟩ rfl fun b41 w42 hx43 hM => ⟨ExtM [some b2] w42, fun _ h => ExtM.trans hx43 h, ExtM.refl _ _, fun a hf => ?_⟩)
  refine pi_one ?_
  obtain ⟨y44, hz45, h⟩ := bind_some h
  refine pi_l hf rfl rfl rfl rfl (w_call hf Tryz.call62 rfl (r_impl_joined ⟨_, All C _ _, none_, hM.all_lt, none_not, C.G, hM.g_lt, g_none, hM.tabs⟩ ([e23, e32] : (List Str)) _ _ (hM.lendRow (k := 0) rfl) _ hz45) ?_)
  rintro _ w47 ⟨rfl, hM2, hv46⟩
  obtain ⟨hM, hx48⟩ := hM.backA hM2
  clear hM2
  refine ⟨_, rfl, ExtM [some b2] w47, fun _ h => ExtM.trans hx48 h, ExtM.refl _ _, fun a hf => ?_⟩
  refine pi_one ?_
  obtain ⟨y50, hz51, h⟩ := bind_some h
  refine pi_l hf rfl rfl rfl rfl (w_call hf Tryz.call55 rfl (r_impl_ReadPlay ⟨_, Sh C _ _, none_, hM.sh_lt, none_not, C.G, hM.g_lt, g_none, hM.tabs⟩ y44 hv46 _ hz51) ?_)
  rintro _ w55 ⟨rfl, hM2, hv52, hv53, hv54⟩
  obtain ⟨hM, hx56, hup57⟩ := hM.back hM2
  dsimp only [List.cons_append, List.nil_append] at hM hup57
  clear hM2
  refine ⟨_, rfl, ExtM [some b2] w55, fun _ h => ExtM.trans hx56 h, ExtM.refl _ _, fun a hf => ?_⟩
  refine pi_q hf rfl rfl rfl rfl (ExtM.refl _ _) (e_move hf rfl) fun a hf => ?_
  iterate 2 refine pi_q hf rfl rfl rfl rfl (ExtM.refl _ _) (e_extract hf rfl rfl) fun a hf => ?_
  refine pi_q hf rfl rfl rfl rfl (ExtM.refl _ _) (e_field hf rfl Tryz.underlying55 rfl Tryz.sizeOf41 (o' := 1) rfl) fun a hf => ?_
  refine pi_one ?_
  refine pi_l0 hf rfl rfl rfl (w_storeM hf (List.mem_of_getElem? (i := 0) rfl) hM (us := [vI (y50.1.Row), vI (y50.1.Col), .bool (y50.1.Down), vS (y50.1.Word)]) (cs' := [vI (1), vI (y50.1.Row), vI (y50.1.Col), .bool (y50.1.Down), vS (y50.1.Word), vS (p1.Tiles), vI (p1.Seconds)]) rfl rfl (k := 1) rfl rfl Tryz.sizeOf41 rfl rfl rfl fun w58 hxm59 hsz60 hM => ⟨Ext w58, fun _ h => ExtM.last hxm59 hsz60 h, Ext.refl _, ?_⟩)
  dsimp only [List.set] at hM
  refine pi_nil ?_
  obtain rfl := some_inj h
  have hM := hM.front (k := 1) rfl
  dsimp only [List.eraseIdx] at hM
  have hM := hM.outs (own' := [.box b2 [vI (1), vI (y50.1.Row), vI (y50.1.Col), .bool (y50.1.Down), vS (y50.1.Word), vS (p1.Tiles), vI (p1.Seconds)] 55]) 1 rfl
  exact leave0n hf rfl ⟨rfl, hM.fin, (R64_lit rfl), hv52, hv53, hv54, hp7, hp8⟩
 refine cond_f hf rfl hc21 ?_
 refine wp_skip ?_
 obtain rfl := some_inj h
 exact leave0n hf rfl ⟨rfl, hM.fin, (R64_lit rfl), hp4, hp5, hp6, hp7, hp8⟩

set_option maxRecDepth 100000 in
set_option maxHeartbeats 4000000 in
theorem r_impl_ReadAction_2 (C : Cx) (p1 : Action) (b2 : Nat) (hp3 : R64 p1.Kind) (hp4 : R64 p1.Play.Row) (hp5 : R64 p1.Play.Col) (hp6 : p1.Play.Word.length ≤ maxLen) (hp7 : p1.Tiles.length ≤ maxLen) (hp8 : R64 p1.Seconds) (p9 : (List Str)) (b10 : Nat) (o11 : Nat) (hp12 : (ptrRep (sliceRep strRep)).R C.w0 C.S0 p9 [vP b10 o11]) (hO : Mem C C.w0 [.box b2 [vI (p1.Kind), vI (p1.Play.Row), vI (p1.Play.Col), .bool (p1.Play.Down), vS (p1.Play.Word), vS (p1.Tiles), vI (p1.Seconds)] 55] []) (hd : ∀ b, C.S0 b → ¬ ownB [.box b2 [vI (p1.Kind), vI (p1.Play.Row), vI (p1.Play.Col), .bool (p1.Play.Down), vS (p1.Play.Word), vS (p1.Tiles), vI (p1.Seconds)] 55] b) (r : Action) (h : m_impl_ReadAction_2 p1 p9 = some r) :
    Calls Tryz.prog 63 #[vP b2 (0), vP b10 (o11)] C.w0 fun e w => e = .returned (.tuple #[]) ∧ Mem C w [.box b2 [vI (r.Kind), vI (r.Play.Row), vI (r.Play.Col), .bool (r.Play.Down), vS (r.Play.Word), vS (r.Tiles), vI (r.Seconds)] 55] [] ∧ R64 r.Kind ∧ R64 r.Play.Row ∧ R64 r.Play.Col ∧ r.Play.Word.length ≤ maxLen ∧ r.Tiles.length ≤ maxLen ∧ R64 r.Seconds := by
 have hM := hO
 have hM := hM.addIn hd (y := .dat (ptrRep (sliceRep strRep)) p9 [vP b10 o11]) hp12
 refine enter Tryz.func63 rfl Tryz.ntmps63 rfl fun a hf => ?_
 unfold m_impl_ReadAction_2 at h
 refine wp_seq ?_
 refine region_pl ?_
 refine q_ hf rfl rfl rfl (e_field hf rfl Tryz.underlying55 rfl Tryz.sizeOf2 (o' := 0) rfl) fun a hf => ?_
 refine pl_0 hf rfl rfl (w_store hf hM (us := [vI (2)]) (cs' := [vI (2), vI (p1.Play.Row), vI (p1.Play.Col), .bool (p1.Play.Down), vS (p1.Play.Word), vS (p1.Tiles), vI (p1.Seconds)]) rfl rfl (k := 0) rfl rfl Tryz.sizeOf2 rfl rfl rfl fun w13 hM => ?_)
 dsimp only [List.set] at hM
 refine pl_nil ?_
 refine then_n ?_
 refine wp_seq ?_
 refine region_pl ?_
 obtain ⟨_, hr16, hM⟩ := hM.deref (hM.dat (k := 0) rfl)
 obtain ⟨A17, c18, rfl, hv19⟩ := slice_form hr16
 have hM := hM.add (y := .dat (sliceRep strRep) p9 [vL A17 p9 c18]) hv19
 refine q_ hf rfl rfl rfl (e_load1 hf rfl Tryz.isAgg91 (hM.litCell (k := 1) (j := 0) rfl rfl rfl)) fun a hf => ?_
 have hl20 := slice_len (hM.dat (k := 0) rfl)
 refine q_ hf rfl rfl rfl (e_lenL hf (x := p9) rfl Tryz.underlying91) fun a hf => ?_
 refine q_ hf rfl rfl rfl (e_eq hf (x := (p9.length : Int)) (y := 3) rfl rfl) fun a hf => ?_
 refine pl_nil ?_
 refine then_n ?_
 rcases cond_some h with ⟨hc21, h⟩ | ⟨hc21, h⟩
 ·refine cond_t hf rfl hc21 ?_
  refine region_pl ?_
  refine q_ hf rfl rfl rfl (e_load1 hf rfl Tryz.isAgg91 (hM.litCell (k := 1) (j := 0) rfl rfl rfl)) fun a hf => ?_
  obtain ⟨e22, hz23, h⟩ := bind_some h
  obtain ⟨b27, o28, _, hA29, h24, h25, hr26, hM⟩ := hM.elem (hM.dat (k := 0) rfl) (n := 1) rfl hz23
  obtain ⟨rfl, hv30⟩ := hr26
  refine q_ hf rfl rfl rfl (e_indexAddr (A := A17) (b := b27) (o := o28) (xs := p9) (i := 1) hf hA29 rfl rfl Tryz.underlying91 Tryz.sizeOf9 h24 h25) fun a hf => ?_
  refine q_ hf rfl rfl rfl (e_load1 hf rfl Tryz.isAgg9 (hM.litCell (k := 0) (j := 0) rfl rfl rfl)) fun a hf => ?_
  refine q_ hf rfl rfl rfl (e_field hf rfl Tryz.underlying55 rfl Tryz.sizeOf9 (o' := 5) rfl) fun a hf => ?_
  refine pl_0 hf rfl rfl (w_store hf hM (us := [vS (e22)]) (cs' := [vI (2), vI (p1.Play.Row), vI (p1.Play.Col), .bool (p1.Play.Down), vS (p1.Play.Word), vS (e22), vI (p1.Seconds)]) rfl rfl (k := 0) rfl rfl Tryz.sizeOf9 rfl rfl rfl fun w31 hM => ?_)
  dsimp only [List.set] at hM
  refine pl_nil ?_
  obtain rfl := some_inj h
  exact leave0n hf rfl ⟨rfl, hM.fin, (R64_lit rfl), hp4, hp5, hp6, hv30, hp8⟩
 refine cond_f hf rfl hc21 ?_
 refine wp_skip ?_
 obtain rfl := some_inj h
 exact leave0n hf rfl ⟨rfl, hM.fin, (R64_lit rfl), hp4, hp5, hp6, hp7, hp8⟩

set_option maxRecDepth 100000 in
set_option maxHeartbeats 4000000 in
theorem r_impl_ReadAction_3 (C : Cx) (p1 : Action) (b2 : Nat) (hp3 : R64 p1.Kind) (hp4 : R64 p1.Play.Row) (hp5 : R64 p1.Play.Col) (hp6 : p1.Play.Word.length ≤ maxLen) (hp7 : p1.Tiles.length ≤ maxLen) (hp8 : R64 p1.Seconds) (hO : Mem C C.w0 [.box b2 [vI (p1.Kind), vI (p1.Play.Row), vI (p1.Play.Col), .bool (p1.Play.Down), vS (p1.Play.Word), vS (p1.Tiles), vI (p1.Seconds)] 55] []) (hd : ∀ b, C.S0 b → ¬ ownB [.box b2 [vI (p1.Kind), vI (p1.Play.Row), vI (p1.Play.Col), .bool (p1.Play.Down), vS (p1.Play.Word), vS (p1.Tiles), vI (p1.Seconds)] 55] b) (r : Action) (h : m_impl_ReadAction_3 p1 = some r) :
    Calls Tryz.prog 64 #[vP b2 (0)] C.w0 fun e w => e = .returned (.tuple #[]) ∧ Mem C w [.box b2 [vI (r.Kind), vI (r.Play.Row), vI (r.Play.Col), .bool (r.Play.Down), vS (r.Play.Word), vS (r.Tiles), vI (r.Seconds)] 55] [] ∧ R64 r.Kind ∧ R64 r.Play.Row ∧ R64 r.Play.Col ∧ r.Play.Word.length ≤ maxLen ∧ r.Tiles.length ≤ maxLen ∧ R64 r.Seconds := by
 have hM := hO
 refine enter Tryz.func64 rfl Tryz.ntmps64 rfl fun a hf => ?_
 unfold m_impl_ReadAction_3 at h
 refine region_pl ?_
 refine q_ hf rfl rfl rfl (e_field hf rfl Tryz.underlying55 rfl Tryz.sizeOf2 (o' := 0) rfl) fun a hf => ?_
 refine pl_0 hf rfl rfl (w_store hf hM (us := [vI (3)]) (cs' := [vI (3), vI (p1.Play.Row), vI (p1.Play.Col), .bool (p1.Play.Down), vS (p1.Play.Word), vS (p1.Tiles), vI (p1.Seconds)]) rfl rfl (k := 0) rfl rfl Tryz.sizeOf2 rfl rfl rfl fun w9 hM => ?_)
 dsimp only [List.set] at hM
 refine pl_nil ?_
 obtain rfl := some_inj h
 exact leave0n hf rfl ⟨rfl, hM.fin, (R64_lit rfl), hp4, hp5, hp6, hp7, hp8⟩

set_option maxRecDepth 100000 in
set_option maxHeartbeats 4000000 in
theorem r_impl_ReadAction_4 (C : Cx) (p1 : Action) (b2 : Nat) (hp3 : R64 p1.Kind) (hp4 : R64 p1.Play.Row) (hp5 : R64 p1.Play.Col) (hp6 : p1.Play.Word.length ≤ maxLen) (hp7 : p1.Tiles.length ≤ maxLen) (hp8 : R64 p1.Seconds) (hO : Mem C C.w0 [.box b2 [vI (p1.Kind), vI (p1.Play.Row), vI (p1.Play.Col), .bool (p1.Play.Down), vS (p1.Play.Word), vS (p1.Tiles), vI (p1.Seconds)] 55] []) (hd : ∀ b, C.S0 b → ¬ ownB [.box b2 [vI (p1.Kind), vI (p1.Play.Row), vI (p1.Play.Col), .bool (p1.Play.Down), vS (p1.Play.Word), vS (p1.Tiles), vI (p1.Seconds)] 55] b) (r : Action) (h : m_impl_ReadAction_4 p1 = some r) :
    Calls Tryz.prog 65 #[vP b2 (0)] C.w0 fun e w => e = .returned (.tuple #[]) ∧ Mem C w [.box b2 [vI (r.Kind), vI (r.Play.Row), vI (r.Play.Col), .bool (r.Play.Down), vS (r.Play.Word), vS (r.Tiles), vI (r.Seconds)] 55] [] ∧ R64 r.Kind ∧ R64 r.Play.Row ∧ R64 r.Play.Col ∧ r.Play.Word.length ≤ maxLen ∧ r.Tiles.length ≤ maxLen ∧ R64 r.Seconds := by
 have hM := hO
 refine enter Tryz.func65 rfl Tryz.ntmps65 rfl fun a hf => ?_
 unfold m_impl_ReadAction_4 at h
 refine region_pl ?_
 refine q_ hf rfl rfl rfl (e_field hf rfl Tryz.underlying55 rfl Tryz.sizeOf2 (o' := 0) rfl) fun a hf => ?_
 refine pl_0 hf rfl rfl (w_store hf hM (us := [vI (4)]) (cs' := [vI (4), vI (p1.Play.Row), vI (p1.Play.Col), .bool (p1.Play.Down), vS (p1.Play.Word), vS (p1.Tiles), vI (p1.Seconds)]) rfl rfl (k := 0) rfl rfl Tryz.sizeOf2 rfl rfl rfl fun w9 hM => ?_)
 dsimp only [List.set] at hM
 refine pl_nil ?_
 obtain rfl := some_inj h
 exact leave0n hf rfl ⟨rfl, hM.fin, (R64_lit rfl), hp4, hp5, hp6, hp7, hp8⟩

set_option maxRecDepth 100000 in
set_option maxHeartbeats 4000000 in
theorem r_impl_place (C : Cx) (tile1 : UInt8) (r : Int) (h : m_impl_place tile1 = some r) :
    Calls Tryz.prog 148 #[vB (tile1)] C.w0 fun e w => e = .returned (vI (r)) ∧ Mem C w [] [] ∧ R64 r := by
 have hM := Mem.begin C [] trivial
 refine enter Tryz.func148 rfl Tryz.ntmps148 rfl fun a hf => ?_
 unfold m_impl_place at h
 refine wp_seq ?_
 refine region_pl ?_
 refine q_ hf rfl rfl rfl (e_assign hf rfl) fun a hf => ?_
 refine pl_nil ?_
 refine then_n ?_
 refine wp_seq ?_
 refine wp_block ?_
 refine wp_seq ?_
 refine region_pl ?_
 refine q_ hf rfl rfl rfl (e_move hf rfl) fun a hf => ?_
 refine q_ hf rfl rfl rfl (e_eqB hf (x := tile1) (y := 63) rfl rfl) fun a hf => ?_
 refine q_ hf rfl rfl rfl (e_assign hf rfl) fun a hf => ?_
 refine pl_nil ?_
 refine then_n ?_
 rcases cond_some h with ⟨hc2, h⟩ | ⟨hc2, h⟩
 ·refine cond_t hf rfl hc2 ?_
  refine wp_seq ?_
  refine region_pl ?_
  refine q_ hf rfl rfl rfl (e_assign hf rfl) fun a hf => ?_
  refine pl_nil ?_
  refine then_n ?_
  refine wp_ret ?_
  refine blk_r ?_
  refine then_r ?_
  obtain rfl := some_inj h
  exact leave1 hf rfl rfl ⟨rfl, hM.fin, (R64_lit rfl)⟩
 refine cond_f hf rfl hc2 ?_
 refine wp_seq ?_
 refine region_pl ?_
 refine q_ hf rfl rfl rfl (e_move hf rfl) fun a hf => ?_
 obtain ⟨y3, hz4, h⟩ := bind_some h
 refine pl_l hf rfl rfl rfl (w_call hf Tryz.call115 rfl (r_impl_small ⟨_, Sh C _ _, none_, hM.sh_lt, none_not, C.G, hM.g_lt, g_none, hM.tabs⟩ tile1 _ hz4) ?_)
 rintro _ w5 ⟨rfl, hM2⟩
 obtain ⟨hM, hx6, hup7⟩ := hM.back hM2
 dsimp only [List.cons_append, List.nil_append] at hM hup7
 clear hM2
 refine ⟨_, rfl, fun a hf => ?_⟩
 refine q_ hf rfl rfl rfl (e_assign hf rfl) fun a hf => ?_
 refine pl_nil ?_
 refine then_n ?_
 rcases cond_some h with ⟨hc8, h⟩ | ⟨hc8, h⟩
 ·refine cond_t hf rfl hc8 ?_
  refine wp_seq ?_
  refine region_pl ?_
  refine q_ hf rfl rfl rfl (e_move hf rfl) fun a hf => ?_
  refine q_ hf rfl rfl rfl (e_subB hf (x := tile1) (y := 97) rfl rfl) fun a hf => ?_
  refine q_ hf rfl rfl rfl (e_convBI hf (x := tile1 - 97) rfl Tryz.underlying5 Tryz.underlying3) fun a hf => ?_
  obtain ⟨z9, hz10, h⟩ := bind_some h
  refine q_ hf rfl rfl rfl (e_add hf rfl rfl hz10) fun a hf => ?_
  refine q_ hf rfl rfl rfl (e_assign hf rfl) fun a hf => ?_
  refine pl_nil ?_
  refine then_n ?_
  refine wp_ret ?_
  refine blk_r ?_
  refine then_r ?_
  obtain rfl := some_inj h
  exact leave1 hf rfl rfl ⟨rfl, hM.fin, (chk_R hz10)⟩
 refine cond_f hf rfl hc8 ?_
 refine wp_skip ?_
 refine blk_n ?_
 refine then_n ?_
 refine wp_seq ?_
 refine region_pl ?_
 refine q_ hf rfl rfl rfl (e_assign hf rfl) fun a hf => ?_
 refine pl_nil ?_
 refine then_n ?_
 refine wp_ret ?_
 obtain rfl := some_inj h
 exact leave1 hf rfl rfl ⟨rfl, hM.fin, (R64_lit rfl)⟩

set_option maxRecDepth 100000 in
set_option maxHeartbeats 4000000 in
theorem r_impl_onlyTiles (C : Cx) (s1 : Str) (hp2 : s1.length ≤ maxLen) (r : Bool) (h : m_impl_onlyTiles s1 = some r) :
    Calls Tryz.prog 144 #[vS (s1)] C.w0 fun e w => e = .returned (.bool (r)) ∧ Mem C w [] [] := by
 have hM := Mem.begin C [] trivial
 refine enter Tryz.func144 rfl Tryz.ntmps144 rfl fun a hf => ?_
 unfold m_impl_onlyTiles at h
 refine wp_seq ?_
 refine region_pl ?_
 refine q_ hf rfl rfl rfl (e_assign hf rfl) fun a hf => ?_
 refine pl_nil ?_
 refine then_n ?_
 obtain ⟨x3, h4, h⟩ := bind_some h
 refine seq_join (fun a w => (.inl ()) = x3 ∧ Has 15 a [] ∧ Mem C w [] []) ?_ ?_
 ·refine wp_seq ?_
  refine region_pl ?_
  refine q_ hf rfl rfl rfl (e_assign hf rfl) fun a hf => ?_
  refine pl_nil ?_
  refine then_n ?_
  refine wp_block ?_
  obtain ⟨x8, h9, h4⟩ := bind_some h4
  refine wp_loopM h9 (fun s a w => ∃ (n5 : Int), n5 = s ∧ Has 15 a [(0, vS (s1)), (3, vI (n5))] ∧ Mem C w [] [] ∧ R64 n5) ?_ ?_
  ·exact ⟨0, rfl, hf.keep ⟨rfl, rfl, trivial⟩, hM.pick [] rfl, (R64_lit rfl)⟩
  rintro s o10 a w7 ⟨n5, rfl, hf, hM, hv6⟩ h11 hd12
  replace h11 : m_impl_onlyTiles_l1 s1 n5 = some o10 := h11
  unfold m_impl_onlyTiles_l1 at h11
  iterate 2 refine wp_seq ?_
  refine region_pl ?_
  iterate 2 refine q_ hf rfl rfl rfl (e_move hf rfl) fun a hf => ?_
  refine q_ hf rfl rfl rfl (e_lenS hf (x := s1) rfl Tryz.underlying9) fun a hf => ?_
  refine q_ hf rfl rfl rfl (e_lt hf (x := n5) (y := (s1.length : Int)) rfl rfl) fun a hf => ?_
  refine pl_nil ?_
  refine then_n ?_
  rcases cond_some h11 with ⟨hc13, h11⟩ | ⟨hc13, h11⟩
  ·refine cond_t hf rfl hc13 ?_
   refine wp_skip ?_
   refine then_n ?_
   refine wp_seq ?_
   refine wp_block ?_
   refine wp_seq ?_
   refine region_pl ?_
   iterate 2 refine q_ hf rfl rfl rfl (e_move hf rfl) fun a hf => ?_
   obtain ⟨c14, hz15, h11⟩ := bind_some h11
   refine q_ hf rfl rfl rfl (e_indexS hf (x := s1) rfl rfl Tryz.underlying9 hz15) fun a hf => ?_
   obtain ⟨y16, hz17, h11⟩ := bind_some h11
   refine pl_l hf rfl rfl rfl (w_call hf Tryz.call148 rfl (r_impl_place ⟨_, Sh C _ _, none_, hM.sh_lt, none_not, C.G, hM.g_lt, g_none, hM.tabs⟩ c14 _ hz17) ?_)
   rintro _ w19 ⟨rfl, hM2, hv18⟩
   obtain ⟨hM, hx20, hup21⟩ := hM.back hM2
   dsimp only [List.cons_append, List.nil_append] at hM hup21
   clear hM2
   refine ⟨_, rfl, fun a hf => ?_⟩
   refine q_ hf rfl rfl rfl (e_lt hf (x := y16) (y := 0) rfl rfl) fun a hf => ?_
   refine pl_nil ?_
   refine then_n ?_
   rcases cond_some h11 with ⟨hc22, h11⟩ | ⟨hc22, h11⟩
   ·refine cond_t hf rfl hc22 ?_
    refine wp_seq ?_
    refine region_pl ?_
    refine q_ hf rfl rfl rfl (e_assign hf rfl) fun a hf => ?_
    refine pl_nil ?_
    refine then_n ?_
    refine wp_ret ?_
    refine blk_r ?_
    refine then_r ?_
    obtain rfl := some_inj h11
    obtain rfl := hd12 _ rfl
    try dsimp only at h4
    refine then_r ?_
    refine blk_r ?_
    obtain rfl := some_inj h4
    try dsimp only at h
    refine then_r ?_
    obtain rfl := some_inj h
    exact leave1 hf rfl rfl ⟨rfl, hM.fin⟩
   refine cond_f hf rfl hc22 ?_
   refine wp_skip ?_
   refine blk_n ?_
   refine then_n ?_
   refine region_pl ?_
   refine q_ hf rfl rfl rfl (e_move hf rfl) fun a hf => ?_
   obtain ⟨z23, hz24, h11⟩ := bind_some h11
   refine q_ hf rfl rfl rfl (e_add hf rfl rfl hz24) fun a hf => ?_
   refine q_ hf rfl rfl rfl (e_assign hf rfl) fun a hf => ?_
   refine pl_nil ?_
   obtain rfl := some_inj h11
   refine then_n ⟨_, rfl, ?_⟩
   exact ⟨z23, rfl, hf.keep ⟨rfl, rfl, trivial⟩, hM.pick [] rfl, (chk_R hz24)⟩
  refine cond_f hf rfl hc13 ?_
  refine wp_exit ?_
  refine then_x ?_
  obtain rfl := some_inj h11
  obtain rfl := hd12 _ rfl
  try dsimp only at h4
  refine then_x ?_
  refine exit_hit ?_
  obtain rfl := some_inj h4
  refine then_n ?_
  exact ⟨rfl, hf.keep trivial, hM.pick [] rfl⟩
 rintro a w31 ⟨rfl, hf, hM⟩
 try dsimp only at h
 refine wp_seq ?_
 refine region_pl ?_
 refine q_ hf rfl rfl rfl (e_assign hf rfl) fun a hf => ?_
 refine pl_nil ?_
 refine then_n ?_
 refine wp_ret ?_
 obtain rfl := some_inj h
 exact leave1 hf rfl rfl ⟨rfl, hM.fin⟩

set_option maxRecDepth 100000 in
set_option maxHeartbeats 4000000 in
theorem r_impl_ValidPile (C : Cx) (s1 : Str) (hp2 : s1.length ≤ maxLen) (r : Bool) (h : m_impl_ValidPile s1 = some r) :
    Calls Tryz.prog 98 #[vS (s1)] C.w0 fun e w => e = .returned (.bool (r)) ∧ Mem C w [] [] := by
 have hM := Mem.begin C [] trivial
 refine enter Tryz.func98 rfl Tryz.ntmps98 rfl fun a hf => ?_
 unfold m_impl_ValidPile at h
 refine wp_seq ?_
 refine region_pl ?_
 refine q_ hf rfl rfl rfl (e_assign hf rfl) fun a hf => ?_
 refine pl_nil ?_
 refine then_n ?_
 refine wp_seq ?_
 obtain ⟨x5, h6, h⟩ := bind_some h
 refine seq_join (fun a w => ∃ (t3 : Bool), t3 = x5 ∧ Has 26 a [(0, vS (s1)), (11, .bool (t3))] ∧ Mem C w [] []) ?_ ?_
 ·refine region_pl ?_
  refine q_ hf rfl rfl rfl (e_move hf rfl) fun a hf => ?_
  refine q_ hf rfl rfl rfl (e_lenS hf (x := s1) rfl Tryz.underlying9) fun a hf => ?_
  refine q_ hf rfl rfl rfl (e_gt hf (x := (s1.length : Int)) (y := 120) rfl rfl) fun a hf => ?_
  refine q_ hf rfl rfl rfl (e_move hf rfl) fun a hf => ?_
  rcases cond_some h6 with ⟨hc7, h6⟩ | ⟨hc7, h6⟩
  ·iterate 3 refine pl_gs (wanted_f hf rfl rfl rfl rfl hc7) hf rfl rfl fun a hf => ?_
   refine q_ hf rfl rfl rfl (e_pick_t hf rfl hc7 rfl) fun a hf => ?_
   refine pl_nil ?_
   obtain rfl := some_inj h6
   refine then_n ?_
   exact ⟨true, rfl, hf.keep ⟨rfl, rfl, trivial⟩, hM.pick [] rfl⟩
  refine gq (wanted_t hf rfl rfl rfl rfl hc7) hf rfl rfl (e_move hf rfl) fun a hf => ?_
  obtain ⟨y9, hz10, h6⟩ := bind_some h6
  refine pl_gl (wanted_t hf rfl rfl rfl rfl hc7) hf rfl rfl (w_call hf Tryz.call144 rfl (r_impl_onlyTiles ⟨_, Sh C _ _, none_, hM.sh_lt, none_not, C.G, hM.g_lt, g_none, hM.tabs⟩ s1 hp2 _ hz10) ?_)
  rintro _ w11 ⟨rfl, hM2⟩
  obtain ⟨hM, hx12, hup13⟩ := hM.back hM2
  dsimp only [List.cons_append, List.nil_append] at hM hup13
  clear hM2
  refine ⟨_, rfl, fun a hf => ?_⟩
  refine gq (wanted_t hf rfl rfl rfl rfl hc7) hf rfl rfl (e_not hf rfl) fun a hf => ?_
  refine q_ hf rfl rfl rfl (e_pick_f hf rfl hc7 rfl) fun a hf => ?_
  refine pl_nil ?_
  obtain rfl := some_inj h6
  refine then_n ?_
  exact ⟨(!y9), rfl, hf.keep ⟨rfl, rfl, trivial⟩, hM.pick [] rfl⟩
 rintro a w15 ⟨t3, rfl, hf, hM⟩
 try dsimp only at h
 rcases cond_some h with ⟨hc16, h⟩ | ⟨hc16, h⟩
 ·refine cond_t hf rfl hc16 ?_
  refine wp_seq ?_
  refine region_pl ?_
  refine q_ hf rfl rfl rfl (e_assign hf rfl) fun a hf => ?_
  refine pl_nil ?_
  refine then_n ?_
  refine wp_ret ?_
  refine then_r ?_
  obtain rfl := some_inj h
  exact leave1 hf rfl rfl ⟨rfl, hM.fin⟩
 refine cond_f hf rfl hc16 ?_
 refine wp_skip ?_
 refine then_n ?_
 obtain ⟨x17, h18, h⟩ := bind_some h
 refine seq_join (fun a w => (.inl ()) = x17 ∧ Has 26 a [] ∧ Mem C w [] []) ?_ ?_
 ·refine wp_seq ?_
  refine region_pl ?_
  refine q_ hf rfl rfl rfl (e_assign hf rfl) fun a hf => ?_
  refine pl_nil ?_
  refine then_n ?_
  refine wp_block ?_
  obtain ⟨x22, h23, h18⟩ := bind_some h18
  refine wp_loopM h23 (fun s a w => ∃ (n19 : Int), n19 = s ∧ Has 26 a [(0, vS (s1)), (3, vI (n19))] ∧ Mem C w [] [] ∧ R64 n19) ?_ ?_
  ·exact ⟨1, rfl, hf.keep ⟨rfl, rfl, trivial⟩, hM.pick [] rfl, (R64_lit rfl)⟩
  rintro s o24 a w21 ⟨n19, rfl, hf, hM, hv20⟩ h25 hd26
  replace h25 : m_impl_ValidPile_l1 s1 n19 = some o24 := h25
  unfold m_impl_ValidPile_l1 at h25
  iterate 2 refine wp_seq ?_
  refine region_pl ?_
  iterate 2 refine q_ hf rfl rfl rfl (e_move hf rfl) fun a hf => ?_
  refine q_ hf rfl rfl rfl (e_lenS hf (x := s1) rfl Tryz.underlying9) fun a hf => ?_
  refine q_ hf rfl rfl rfl (e_lt hf (x := n19) (y := (s1.length : Int)) rfl rfl) fun a hf => ?_
  refine pl_nil ?_
  refine then_n ?_
  rcases cond_some h25 with ⟨hc27, h25⟩ | ⟨hc27, h25⟩
  ·refine cond_t hf rfl hc27 ?_
   refine wp_skip ?_
   refine then_n ?_
   refine wp_seq ?_
   refine wp_block ?_
   refine wp_seq ?_
   obtain ⟨w28, hw⟩ : ∃ x, x = w21.drew := ⟨_, rfl⟩
   refine region_pi (.q 0 (.q 1 (.q 2 (.q 3 (.q 4 (.q 5 (.q 6 (.q 7 (.nil))))))))) (Ext w28) rfl (by kernel_rfl) ?_
   have hM := hM.drew
   rw [← hw] at hM ⊢
   clear hw
   iterate 2 refine pi_q hf rfl rfl rfl rfl (Ext.refl _) (e_move hf rfl) fun a hf => ?_
   obtain ⟨z29, hz30, h25⟩ := bind_some h25
   refine pi_q hf rfl rfl rfl rfl (Ext.refl _) (e_sub hf rfl rfl hz30) fun a hf => ?_
   obtain ⟨c31, hz32, h25⟩ := bind_some h25
   refine pi_q hf rfl rfl rfl rfl (Ext.refl _) (e_indexS hf (x := s1) rfl rfl Tryz.underlying9 hz32) fun a hf => ?_
   iterate 2 refine pi_q hf rfl rfl rfl rfl (Ext.refl _) (e_move hf rfl) fun a hf => ?_
   obtain ⟨c33, hz34, h25⟩ := bind_some h25
   refine pi_q hf rfl rfl rfl rfl (Ext.refl _) (e_indexS hf (x := s1) rfl rfl Tryz.underlying9 hz34) fun a hf => ?_
   refine pi_q hf rfl rfl rfl rfl (Ext.refl _) (e_gtB hf (x := c31) (y := c33) rfl rfl) fun a hf => ?_
   refine pi_nil ?_
   refine then_n ?_
   rcases cond_some h25 with ⟨hc35, h25⟩ | ⟨hc35, h25⟩
   ·refine cond_t hf rfl hc35 ?_
    refine wp_seq ?_
    refine region_pl ?_
    refine q_ hf rfl rfl rfl (e_assign hf rfl) fun a hf => ?_
    refine pl_nil ?_
    refine then_n ?_
    refine wp_ret ?_
    refine blk_r ?_
    refine then_r ?_
    obtain rfl := some_inj h25
    obtain rfl := hd26 _ rfl
    try dsimp only at h18
    refine then_r ?_
    refine blk_r ?_
    obtain rfl := some_inj h18
    try dsimp only at h
    refine then_r ?_
    obtain rfl := some_inj h
    exact leave1 hf rfl rfl ⟨rfl, hM.fin⟩
   refine cond_f hf rfl hc35 ?_
   refine wp_skip ?_
   refine blk_n ?_
   refine then_n ?_
   refine region_pl ?_
   refine q_ hf rfl rfl rfl (e_move hf rfl) fun a hf => ?_
   obtain ⟨z36, hz37, h25⟩ := bind_some h25
   refine q_ hf rfl rfl rfl (e_add hf rfl rfl hz37) fun a hf => ?_
   refine q_ hf rfl rfl rfl (e_assign hf rfl) fun a hf => ?_
   refine pl_nil ?_
   obtain rfl := some_inj h25
   refine then_n ⟨_, rfl, ?_⟩
   exact ⟨z36, rfl, hf.keep ⟨rfl, rfl, trivial⟩, hM.pick [] rfl, (chk_R hz37)⟩
  refine cond_f hf rfl hc27 ?_
  refine wp_exit ?_
  refine then_x ?_
  obtain rfl := some_inj h25
  obtain rfl := hd26 _ rfl
  try dsimp only at h18
  refine then_x ?_
  refine exit_hit ?_
  obtain rfl := some_inj h18
  refine then_n ?_
  exact ⟨rfl, hf.keep trivial, hM.pick [] rfl⟩
 rintro a w44 ⟨rfl, hf, hM⟩
 try dsimp only at h
 refine wp_seq ?_
 refine region_pl ?_
 refine q_ hf rfl rfl rfl (e_assign hf rfl) fun a hf => ?_
 refine pl_nil ?_
 refine then_n ?_
 refine wp_ret ?_
 obtain rfl := some_inj h
 exact leave1 hf rfl rfl ⟨rfl, hM.fin⟩

set_option maxRecDepth 100000 in
set_option maxHeartbeats 4000000 in
theorem r_impl_ValidRack (C : Cx) (s1 : Str) (hp2 : s1.length ≤ maxLen) (r : Bool) (h : m_impl_ValidRack s1 = some r) :
    Calls Tryz.prog 45 #[vS (s1)] C.w0 fun e w => e = .returned (.bool (r)) ∧ Mem C w [] [] := by
 have hM := Mem.begin C [] trivial
 refine enter Tryz.func45 rfl Tryz.ntmps45 rfl fun a hf => ?_
 unfold m_impl_ValidRack at h
 refine wp_seq ?_
 refine region_pl ?_
 refine q_ hf rfl rfl rfl (e_assign hf rfl) fun a hf => ?_
 refine pl_nil ?_
 refine then_n ?_
 obtain ⟨x5, h6, h⟩ := bind_some h
 refine seq_join (fun a w => ∃ (t3 : Bool), t3 = x5 ∧ Has 10 a [(2, .bool (t3))] ∧ Mem C w [] []) ?_ ?_
 ·refine region_pl ?_
  refine q_ hf rfl rfl rfl (e_move hf rfl) fun a hf => ?_
  refine q_ hf rfl rfl rfl (e_lenS hf (x := s1) rfl Tryz.underlying9) fun a hf => ?_
  refine q_ hf rfl rfl rfl (e_le hf (x := (s1.length : Int)) (y := 7) rfl rfl) fun a hf => ?_
  refine q_ hf rfl rfl rfl (e_move hf rfl) fun a hf => ?_
  rcases cond_some h6 with ⟨hc7, h6⟩ | ⟨hc7, h6⟩
  ·refine gq (wanted_t hf rfl rfl rfl rfl hc7) hf rfl rfl (e_move hf rfl) fun a hf => ?_
   obtain ⟨y8, hz9, h6⟩ := bind_some h6
   refine pl_gl (wanted_t hf rfl rfl rfl rfl hc7) hf rfl rfl (w_call hf Tryz.call98 rfl (r_impl_ValidPile ⟨_, Sh C _ _, none_, hM.sh_lt, none_not, C.G, hM.g_lt, g_none, hM.tabs⟩ s1 hp2 _ hz9) ?_)
   rintro _ w10 ⟨rfl, hM2⟩
   obtain ⟨hM, hx11, hup12⟩ := hM.back hM2
   dsimp only [List.cons_append, List.nil_append] at hM hup12
   clear hM2
   refine ⟨_, rfl, fun a hf => ?_⟩
   refine q_ hf rfl rfl rfl (e_pick_t hf rfl hc7 rfl) fun a hf => ?_
   refine q_ hf rfl rfl rfl (e_assign hf rfl) fun a hf => ?_
   refine pl_nil ?_
   obtain rfl := some_inj h6
   refine then_n ?_
   exact ⟨y8, rfl, hf.keep ⟨rfl, trivial⟩, hM.pick [] rfl⟩
  iterate 2 refine pl_gs (wanted_f hf rfl rfl rfl rfl hc7) hf rfl rfl fun a hf => ?_
  refine q_ hf rfl rfl rfl (e_pick_f hf rfl hc7 rfl) fun a hf => ?_
  refine q_ hf rfl rfl rfl (e_assign hf rfl) fun a hf => ?_
  refine pl_nil ?_
  obtain rfl := some_inj h6
  refine then_n ?_
  exact ⟨false, rfl, hf.keep ⟨rfl, trivial⟩, hM.pick [] rfl⟩
 rintro a w15 ⟨t3, rfl, hf, hM⟩
 try dsimp only at h
 refine wp_ret ?_
 obtain rfl := some_inj h
 exact leave1 hf rfl rfl ⟨rfl, hM.fin⟩

set_option maxRecDepth 100000 in
set_option maxHeartbeats 4000000 in
theorem r_impl_ValidAction (C : Cx) (a1 : Action) (hp2 : R64 a1.Kind) (hp3 : R64 a1.Play.Row) (hp4 : R64 a1.Play.Col) (hp5 : a1.Play.Word.length ≤ maxLen) (hp6 : a1.Tiles.length ≤ maxLen) (hp7 : R64 a1.Seconds) (r : Bool) (h : m_impl_ValidAction a1 = some r) :
    Calls Tryz.prog 66 #[.agg #[vI (a1.Kind), vI (a1.Play.Row), vI (a1.Play.Col), .bool (a1.Play.Down), vS (a1.Play.Word), vS (a1.Tiles), vI (a1.Seconds)]] C.w0 fun e w => e = .returned (.bool (r)) ∧ Mem C w [] [] := by
 have hM := Mem.begin C [] trivial
 refine enter Tryz.func66 rfl Tryz.ntmps66 rfl fun a hf => ?_
 unfold m_impl_ValidAction at h
 refine wp_seq ?_
 refine region_pl ?_
 refine pl_l hf rfl rfl rfl (w_box hf hM (cs := [vI (a1.Kind), vI (a1.Play.Row), vI (a1.Play.Col), .bool (a1.Play.Down), vS (a1.Play.Word), vS (a1.Tiles), vI (a1.Seconds)]) rfl rfl fun b8 w9 hx10 hM a hf => ?_)
 refine q_ hf rfl rfl rfl (e_assign hf rfl) fun a hf => ?_
 refine pl_nil ?_
 refine then_n ?_
 iterate 2 refine wp_seq ?_
 refine region_pl ?_
 refine q_ hf rfl rfl rfl (e_field hf rfl Tryz.underlying55 rfl Tryz.sizeOf2 (o' := 6) rfl) fun a hf => ?_
 refine q_ hf rfl rfl rfl (e_load1 hf rfl Tryz.isAgg2 (hM.boxCell (k := 0) rfl rfl)) fun a hf => ?_
 obtain ⟨y12, hz13, h⟩ := bind_some h
 refine pl_l hf rfl rfl rfl (w_call hf Tryz.call124 rfl (r_impl_within ⟨_, Sh C _ _, none_, hM.sh_lt, none_not, C.G, hM.g_lt, g_none, hM.tabs⟩ a1.Seconds hp7 0 (R64_lit rfl) 36000 (R64_lit rfl) _ hz13) ?_)
 rintro _ w14 ⟨rfl, hM2⟩
 obtain ⟨hM, hx15, hup16⟩ := hM.back hM2
 dsimp only [List.cons_append, List.nil_append] at hM hup16
 clear hM2
 refine ⟨_, rfl, fun a hf => ?_⟩
 refine q_ hf rfl rfl rfl (e_not hf rfl) fun a hf => ?_
 refine pl_nil ?_
 refine then_n ?_
 rcases cond_some h with ⟨hc17, h⟩ | ⟨hc17, h⟩
 ·refine cond_t hf rfl hc17 ?_
  refine wp_seq ?_
  refine region_pl ?_
  refine q_ hf rfl rfl rfl (e_assign hf rfl) fun a hf => ?_
  refine pl_nil ?_
  refine then_n ?_
  refine wp_ret ?_
  refine then_r ?_
  obtain rfl := some_inj h
  have hM := hM.outs (own' := []) 0 rfl
  exact leave1 hf rfl rfl ⟨rfl, hM.fin⟩
 refine cond_f hf rfl hc17 ?_
 refine wp_skip ?_
 refine then_n ?_
 iterate 2 refine wp_seq ?_
 refine region_pl ?_
 refine q_ hf rfl rfl rfl (e_field hf rfl Tryz.underlying55 rfl Tryz.sizeOf2 (o' := 0) rfl) fun a hf => ?_
 refine q_ hf rfl rfl rfl (e_load1 hf rfl Tryz.isAgg2 (hM.boxCell (k := 0) rfl rfl)) fun a hf => ?_
 refine pl_nil ?_
 refine then_n ?_
 refine wp_block ?_
 refine wp_seq ?_
 refine region_pl ?_
 refine q_ hf rfl rfl rfl (e_eq hf (x := a1.Kind) (y := 1) rfl rfl) fun a hf => ?_
 refine q_ hf rfl rfl rfl (e_assign hf rfl) fun a hf => ?_
 refine pl_nil ?_
 refine then_n ?_
 rcases cond_some h with ⟨hc18, h⟩ | ⟨hc18, h⟩
 ·refine cond_t hf rfl hc18 ?_
  obtain ⟨x21, h22, h⟩ := bind_some h
  refine seq_join (fun a w => ∃ (t19 : Bool), t19 = x21 ∧ Has 48 a [(2, .bool (t19))] ∧ Mem C w [.box b8 [vI (a1.Kind), vI (a1.Play.Row), vI (a1.Play.Col), .bool (a1.Play.Down), vS (a1.Play.Word), vS (a1.Tiles), vI (a1.Seconds)] 55] []) ?_ ?_
  ·refine region_pl ?_
   refine q_ hf rfl rfl rfl (e_field hf rfl Tryz.underlying55 rfl Tryz.sizeOf41 (o' := 1) rfl) fun a hf => ?_
   refine q_ hf rfl rfl rfl (e_loadA hf (us := [vI (a1.Play.Row), vI (a1.Play.Col), .bool (a1.Play.Down), vS (a1.Play.Word)]) rfl ⟨Tryz.isAgg41, Tryz.sizeOf41⟩ rfl (hM.boxSub (k := 0) (us := [vI (a1.Play.Row), vI (a1.Play.Col), .bool (a1.Play.Down), vS (a1.Play.Word)]) (o := 1) rfl rfl)) fun a hf => ?_
   obtain ⟨y23, hz24, h22⟩ := bind_some h22
   refine pl_l hf rfl rfl rfl (w_call hf Tryz.call116 rfl (r_impl_PlayText ⟨_, Sh C _ _, none_, hM.sh_lt, none_not, C.G, hM.g_lt, g_none, hM.tabs⟩ a1.Play hp3 hp4 hp5 _ hz24) ?_)
   rintro _ w26 ⟨rfl, hM2, hv25⟩
   obtain ⟨hM, hx27, hup28⟩ := hM.back hM2
   dsimp only [List.cons_append, List.nil_append] at hM hup28
   clear hM2
   refine ⟨_, rfl, fun a hf => ?_⟩
   refine q_ hf rfl rfl rfl (e_neS hf (x := y23) (y := ([] : Str)) rfl rfl) fun a hf => ?_
   refine q_ hf rfl rfl rfl (e_move hf rfl) fun a hf => ?_
   rcases cond_some h22 with ⟨hc29, h22⟩ | ⟨hc29, h22⟩
   ·refine gq (wanted_t hf rfl rfl rfl rfl hc29) hf rfl rfl (e_field hf rfl Tryz.underlying55 rfl Tryz.sizeOf9 (o' := 5) rfl) fun a hf => ?_
    refine gq (wanted_t hf rfl rfl rfl rfl hc29) hf rfl rfl (e_load1 hf rfl Tryz.isAgg9 (hM.boxCell (k := 0) rfl rfl)) fun a hf => ?_
    refine gq (wanted_t hf rfl rfl rfl rfl hc29) hf rfl rfl (e_eqS hf (x := a1.Tiles) (y := ([] : Str)) rfl rfl) fun a hf => ?_
    refine q_ hf rfl rfl rfl (e_pick_t hf rfl hc29 rfl) fun a hf => ?_
    refine q_ hf rfl rfl rfl (e_assign hf rfl) fun a hf => ?_
    refine pl_nil ?_
    obtain rfl := some_inj h22
    refine then_n ?_
    exact ⟨(a1.Tiles == ([] : Str)), rfl, hf.keep ⟨rfl, trivial⟩, hM.pick [] rfl⟩
   iterate 3 refine pl_gs (wanted_f hf rfl rfl rfl rfl hc29) hf rfl rfl fun a hf => ?_
   refine q_ hf rfl rfl rfl (e_pick_f hf rfl hc29 rfl) fun a hf => ?_
   refine q_ hf rfl rfl rfl (e_assign hf rfl) fun a hf => ?_
   refine pl_nil ?_
   obtain rfl := some_inj h22
   refine then_n ?_
   exact ⟨false, rfl, hf.keep ⟨rfl, trivial⟩, hM.pick [] rfl⟩
  rintro a w32 ⟨t19, rfl, hf, hM⟩
  try dsimp only at h
  refine wp_ret ?_
  refine blk_r ?_
  refine then_r ?_
  obtain rfl := some_inj h
  have hM := hM.outs (own' := []) 0 rfl
  exact leave1 hf rfl rfl ⟨rfl, hM.fin⟩
 refine cond_f hf rfl hc18 ?_
 refine wp_seq ?_
 refine region_pl ?_
 refine q_ hf rfl rfl rfl (e_eq hf (x := a1.Kind) (y := 2) rfl rfl) fun a hf => ?_
 refine q_ hf rfl rfl rfl (e_assign hf rfl) fun a hf => ?_
 refine pl_nil ?_
 refine then_n ?_
 rcases cond_some h with ⟨hc33, h⟩ | ⟨hc33, h⟩
 ·refine cond_t hf rfl hc33 ?_
  obtain ⟨x36, h37, h⟩ := bind_some h
  refine seq_join (fun a w => ∃ (t34 : Bool), t34 = x36 ∧ Has 48 a [(2, .bool (t34))] ∧ Mem C w [.box b8 [vI (a1.Kind), vI (a1.Play.Row), vI (a1.Play.Col), .bool (a1.Play.Down), vS (a1.Play.Word), vS (a1.Tiles), vI (a1.Seconds)] 55] []) ?_ ?_
  ·refine region_pl ?_
   refine q_ hf rfl rfl rfl (e_field hf rfl Tryz.underlying55 rfl Tryz.sizeOf41 (o' := 1) rfl) fun a hf => ?_
   refine q_ hf rfl rfl rfl (e_loadA hf (us := [vI (a1.Play.Row), vI (a1.Play.Col), .bool (a1.Play.Down), vS (a1.Play.Word)]) rfl ⟨Tryz.isAgg41, Tryz.sizeOf41⟩ rfl (hM.boxSub (k := 0) (us := [vI (a1.Play.Row), vI (a1.Play.Col), .bool (a1.Play.Down), vS (a1.Play.Word)]) (o := 1) rfl rfl)) fun a hf => ?_
   refine q_ hf rfl rfl rfl (e_build hf Tryz.zeroValue41 Tryz.underlying41 (bp_41 _ Tryz.underlying41.symm) rfl (cs := #[vI (0), vI (0), .bool (false), vS (([] : Str))]) (by kernel_rfl)) fun a hf => ?_
   refine q_ hf rfl rfl rfl (Play_eql hf (x := a1.Play) (y := (⟨0, 0, false, ([] : Str)⟩ : Play)) rfl rfl) fun a hf => ?_
   refine q_ hf rfl rfl rfl (e_move hf rfl) fun a hf => ?_
   rcases cond_some h37 with ⟨hc38, h37⟩ | ⟨hc38, h37⟩
   ·refine gq (wanted_t hf rfl rfl rfl rfl hc38) hf rfl rfl (e_field hf rfl Tryz.underlying55 rfl Tryz.sizeOf9 (o' := 5) rfl) fun a hf => ?_
    refine gq (wanted_t hf rfl rfl rfl rfl hc38) hf rfl rfl (e_load1 hf rfl Tryz.isAgg9 (hM.boxCell (k := 0) rfl rfl)) fun a hf => ?_
    refine gq (wanted_t hf rfl rfl rfl rfl hc38) hf rfl rfl (e_neS hf (x := a1.Tiles) (y := ([] : Str)) rfl rfl) fun a hf => ?_
    refine q_ hf rfl rfl rfl (e_pick_t hf rfl hc38 rfl) fun a hf => ?_
    refine q_ hf rfl rfl rfl (e_move hf rfl) fun a hf => ?_
    rcases cond_some h37 with ⟨hc39, h37⟩ | ⟨hc39, h37⟩
    ·refine gq (wanted_t hf rfl rfl rfl rfl hc39) hf rfl rfl (e_field hf rfl Tryz.underlying55 rfl Tryz.sizeOf9 (o' := 5) rfl) fun a hf => ?_
     refine gq (wanted_t hf rfl rfl rfl rfl hc39) hf rfl rfl (e_load1 hf rfl Tryz.isAgg9 (hM.boxCell (k := 0) rfl rfl)) fun a hf => ?_
     obtain ⟨y40, hz41, h37⟩ := bind_some h37
     refine pl_gl (wanted_t hf rfl rfl rfl rfl hc39) hf rfl rfl (w_call hf Tryz.call45 rfl (r_impl_ValidRack ⟨_, Sh C _ _, none_, hM.sh_lt, none_not, C.G, hM.g_lt, g_none, hM.tabs⟩ a1.Tiles hp6 _ hz41) ?_)
     rintro _ w42 ⟨rfl, hM2⟩
     obtain ⟨hM, hx43, hup44⟩ := hM.back hM2
     dsimp only [List.cons_append, List.nil_append] at hM hup44
     clear hM2
     refine ⟨_, rfl, fun a hf => ?_⟩
     refine q_ hf rfl rfl rfl (e_pick_t hf rfl hc39 rfl) fun a hf => ?_
     refine q_ hf rfl rfl rfl (e_assign hf rfl) fun a hf => ?_
     refine pl_nil ?_
     obtain rfl := some_inj h37
     refine then_n ?_
     exact ⟨y40, rfl, hf.keep ⟨rfl, trivial⟩, hM.pick [] rfl⟩
    iterate 3 refine pl_gs (wanted_f hf rfl rfl rfl rfl hc39) hf rfl rfl fun a hf => ?_
    refine q_ hf rfl rfl rfl (e_pick_f hf rfl hc39 rfl) fun a hf => ?_
    refine q_ hf rfl rfl rfl (e_assign hf rfl) fun a hf => ?_
    refine pl_nil ?_
    obtain rfl := some_inj h37
    refine then_n ?_
    exact ⟨false, rfl, hf.keep ⟨rfl, trivial⟩, hM.pick [] rfl⟩
   iterate 3 refine pl_gs (wanted_f hf rfl rfl rfl rfl hc38) hf rfl rfl fun a hf => ?_
   refine q_ hf rfl rfl rfl (e_pick_f hf rfl hc38 rfl) fun a hf => ?_
   refine q_ hf rfl rfl rfl (e_move hf rfl) fun a hf => ?_
   iterate 3 refine pl_gs (wanted_f hf rfl rfl rfl rfl rfl) hf rfl rfl fun a hf => ?_
   refine q_ hf rfl rfl rfl (e_pick_f hf rfl rfl rfl) fun a hf => ?_
   refine q_ hf rfl rfl rfl (e_assign hf rfl) fun a hf => ?_
   refine pl_nil ?_
   obtain rfl := some_inj h37
   refine then_n ?_
   exact ⟨false, rfl, hf.keep ⟨rfl, trivial⟩, hM.pick [] rfl⟩
  rintro a w48 ⟨t34, rfl, hf, hM⟩
  try dsimp only at h
  refine wp_ret ?_
  refine blk_r ?_
  refine then_r ?_
  obtain rfl := some_inj h
  have hM := hM.outs (own' := []) 0 rfl
  exact leave1 hf rfl rfl ⟨rfl, hM.fin⟩
 refine cond_f hf rfl hc33 ?_
 obtain ⟨x51, h52, h⟩ := bind_some h
 refine seq_join (fun a w => ∃ (t49 : Bool), t49 = x51 ∧ Has 48 a [(1, vP b8 (0)), (36, .bool (t49))] ∧ Mem C w [.box b8 [vI (a1.Kind), vI (a1.Play.Row), vI (a1.Play.Col), .bool (a1.Play.Down), vS (a1.Play.Word), vS (a1.Tiles), vI (a1.Seconds)] 55] []) ?_ ?_
 ·refine wp_seq ?_
  refine region_pl ?_
  refine q_ hf rfl rfl rfl (e_eq hf (x := a1.Kind) (y := 3) rfl rfl) fun a hf => ?_
  refine q_ hf rfl rfl rfl (e_assign hf rfl) fun a hf => ?_
  refine pl_nil ?_
  refine then_n ?_
  rcases cond_some h52 with ⟨hc53, h52⟩ | ⟨hc53, h52⟩
  ·refine cond_t hf rfl hc53 ?_
   refine wp_skip ?_
   obtain rfl := some_inj h52
   refine then_n ?_
   exact ⟨(a1.Kind == 3), rfl, hf.keep ⟨rfl, rfl, trivial⟩, hM.pick [] rfl⟩
  refine cond_f hf rfl hc53 ?_
  refine region_pl ?_
  refine q_ hf rfl rfl rfl (e_eq hf (x := a1.Kind) (y := 4) rfl rfl) fun a hf => ?_
  refine q_ hf rfl rfl rfl (e_assign hf rfl) fun a hf => ?_
  refine pl_nil ?_
  obtain rfl := some_inj h52
  refine then_n ?_
  exact ⟨(a1.Kind == 4), rfl, hf.keep ⟨rfl, rfl, trivial⟩, hM.pick [] rfl⟩
 rintro a w56 ⟨t49, rfl, hf, hM⟩
 try dsimp only at h
 rcases cond_some h with ⟨hc57, h⟩ | ⟨hc57, h⟩
 ·refine cond_t hf rfl hc57 ?_
  obtain ⟨x60, h61, h⟩ := bind_some h
  refine seq_join (fun a w => ∃ (t58 : Bool), t58 = x60 ∧ Has 48 a [(2, .bool (t58))] ∧ Mem C w [.box b8 [vI (a1.Kind), vI (a1.Play.Row), vI (a1.Play.Col), .bool (a1.Play.Down), vS (a1.Play.Word), vS (a1.Tiles), vI (a1.Seconds)] 55] []) ?_ ?_
  ·refine region_pl ?_
   refine q_ hf rfl rfl rfl (e_field hf rfl Tryz.underlying55 rfl Tryz.sizeOf41 (o' := 1) rfl) fun a hf => ?_
   refine q_ hf rfl rfl rfl (e_loadA hf (us := [vI (a1.Play.Row), vI (a1.Play.Col), .bool (a1.Play.Down), vS (a1.Play.Word)]) rfl ⟨Tryz.isAgg41, Tryz.sizeOf41⟩ rfl (hM.boxSub (k := 0) (us := [vI (a1.Play.Row), vI (a1.Play.Col), .bool (a1.Play.Down), vS (a1.Play.Word)]) (o := 1) rfl rfl)) fun a hf => ?_
   refine q_ hf rfl rfl rfl (e_build hf Tryz.zeroValue41 Tryz.underlying41 (bp_41 _ Tryz.underlying41.symm) rfl (cs := #[vI (0), vI (0), .bool (false), vS (([] : Str))]) (by kernel_rfl)) fun a hf => ?_
   refine q_ hf rfl rfl rfl (Play_eql hf (x := a1.Play) (y := (⟨0, 0, false, ([] : Str)⟩ : Play)) rfl rfl) fun a hf => ?_
   refine q_ hf rfl rfl rfl (e_move hf rfl) fun a hf => ?_
   rcases cond_some h61 with ⟨hc62, h61⟩ | ⟨hc62, h61⟩
   ·refine gq (wanted_t hf rfl rfl rfl rfl hc62) hf rfl rfl (e_field hf rfl Tryz.underlying55 rfl Tryz.sizeOf9 (o' := 5) rfl) fun a hf => ?_
    refine gq (wanted_t hf rfl rfl rfl rfl hc62) hf rfl rfl (e_load1 hf rfl Tryz.isAgg9 (hM.boxCell (k := 0) rfl rfl)) fun a hf => ?_
    refine gq (wanted_t hf rfl rfl rfl rfl hc62) hf rfl rfl (e_eqS hf (x := a1.Tiles) (y := ([] : Str)) rfl rfl) fun a hf => ?_
    refine q_ hf rfl rfl rfl (e_pick_t hf rfl hc62 rfl) fun a hf => ?_
    refine q_ hf rfl rfl rfl (e_assign hf rfl) fun a hf => ?_
    refine pl_nil ?_
    obtain rfl := some_inj h61
    refine then_n ?_
    exact ⟨(a1.Tiles == ([] : Str)), rfl, hf.keep ⟨rfl, trivial⟩, hM.pick [] rfl⟩
   iterate 3 refine pl_gs (wanted_f hf rfl rfl rfl rfl hc62) hf rfl rfl fun a hf => ?_
   refine q_ hf rfl rfl rfl (e_pick_f hf rfl hc62 rfl) fun a hf => ?_
   refine q_ hf rfl rfl rfl (e_assign hf rfl) fun a hf => ?_
   refine pl_nil ?_
   obtain rfl := some_inj h61
   refine then_n ?_
   exact ⟨false, rfl, hf.keep ⟨rfl, trivial⟩, hM.pick [] rfl⟩
  rintro a w65 ⟨t58, rfl, hf, hM⟩
  try dsimp only at h
  refine wp_ret ?_
  refine blk_r ?_
  refine then_r ?_
  obtain rfl := some_inj h
  have hM := hM.outs (own' := []) 0 rfl
  exact leave1 hf rfl rfl ⟨rfl, hM.fin⟩
 refine cond_f hf rfl hc57 ?_
 refine wp_skip ?_
 refine blk_n ?_
 refine then_n ?_
 refine wp_seq ?_
 refine region_pl ?_
 refine q_ hf rfl rfl rfl (e_assign hf rfl) fun a hf => ?_
 refine pl_nil ?_
 refine then_n ?_
 refine wp_ret ?_
 obtain rfl := some_inj h
 have hM := hM.outs (own' := []) 0 rfl
 exact leave1 hf rfl rfl ⟨rfl, hM.fin⟩

set_option maxRecDepth 100000 in
set_option maxHeartbeats 4000000 in
theorem r_impl_ActionText (C : Cx) (a1 : Action) (hp2 : R64 a1.Kind) (hp3 : R64 a1.Play.Row) (hp4 : R64 a1.Play.Col) (hp5 : a1.Play.Word.length ≤ maxLen) (hp6 : a1.Tiles.length ≤ maxLen) (hp7 : R64 a1.Seconds) (r : Str) (h : m_impl_ActionText a1 = some r) :
    Calls Tryz.prog 67 #[.agg #[vI (a1.Kind), vI (a1.Play.Row), vI (a1.Play.Col), .bool (a1.Play.Down), vS (a1.Play.Word), vS (a1.Tiles), vI (a1.Seconds)]] C.w0 fun e w => e = .returned (vS (r)) ∧ Mem C w [] [] ∧ r.length ≤ maxLen := by
 have hM := Mem.begin C [] trivial
 refine enter Tryz.func67 rfl Tryz.ntmps67 rfl fun a hf => ?_
 unfold m_impl_ActionText at h
 refine wp_seq ?_
 refine region_pl ?_
 refine pl_l hf rfl rfl rfl (w_box hf hM (cs := [vI (a1.Kind), vI (a1.Play.Row), vI (a1.Play.Col), .bool (a1.Play.Down), vS (a1.Play.Word), vS (a1.Tiles), vI (a1.Seconds)]) rfl rfl fun b8 w9 hx10 hM a hf => ?_)
 refine q_ hf rfl rfl rfl (e_assign hf rfl) fun a hf => ?_
 refine pl_nil ?_
 refine then_n ?_
 iterate 2 refine wp_seq ?_
 refine region_pl ?_
 refine q_ hf rfl rfl rfl (e_loadA hf (us := [vI (a1.Kind), vI (a1.Play.Row), vI (a1.Play.Col), .bool (a1.Play.Down), vS (a1.Play.Word), vS (a1.Tiles), vI (a1.Seconds)]) rfl ⟨Tryz.isAgg55, Tryz.sizeOf55⟩ rfl (hM.boxSub (k := 0) (us := [vI (a1.Kind), vI (a1.Play.Row), vI (a1.Play.Col), .bool (a1.Play.Down), vS (a1.Play.Word), vS (a1.Tiles), vI (a1.Seconds)]) (o := 0) rfl rfl)) fun a hf => ?_
 obtain ⟨y12, hz13, h⟩ := bind_some h
 refine pl_l hf rfl rfl rfl (w_call hf Tryz.call66 rfl (r_impl_ValidAction ⟨_, Sh C _ _, none_, hM.sh_lt, none_not, C.G, hM.g_lt, g_none, hM.tabs⟩ a1 hp2 hp3 hp4 hp5 hp6 hp7 _ hz13) ?_)
 rintro _ w14 ⟨rfl, hM2⟩
 obtain ⟨hM, hx15, hup16⟩ := hM.back hM2
 dsimp only [List.cons_append, List.nil_append] at hM hup16
 clear hM2
 refine ⟨_, rfl, fun a hf => ?_⟩
 refine q_ hf rfl rfl rfl (e_not hf rfl) fun a hf => ?_
 refine pl_nil ?_
 refine then_n ?_
 rcases cond_some h with ⟨hc17, h⟩ | ⟨hc17, h⟩
 ·refine cond_t hf rfl hc17 ?_
  refine wp_seq ?_
  refine region_pl ?_
  refine q_ hf rfl rfl rfl (e_assign hf rfl) fun a hf => ?_
  refine pl_nil ?_
  refine then_n ?_
  refine wp_ret ?_
  refine then_r ?_
  obtain rfl := some_inj h
  have hM := hM.outs (own' := []) 0 rfl
  exact leave1 hf rfl rfl ⟨rfl, hM.fin, (lit_len rfl)⟩
 refine cond_f hf rfl hc17 ?_
 refine wp_skip ?_
 refine then_n ?_
 refine wp_seq ?_
 refine region_pl ?_
 refine q_ hf rfl rfl rfl (e_field hf rfl Tryz.underlying55 rfl Tryz.sizeOf2 (o' := 6) rfl) fun a hf => ?_
 refine q_ hf rfl rfl rfl (e_load1 hf rfl Tryz.isAgg2 (hM.boxCell (k := 0) rfl rfl)) fun a hf => ?_
 obtain ⟨y18, hz19, h⟩ := bind_some h
 refine pl_l hf rfl rfl rfl (w_call hf Tryz.call125 rfl (r_impl_Decimal ⟨_, Sh C _ _, none_, hM.sh_lt, none_not, C.G, hM.g_lt, g_none, hM.tabs⟩ a1.Seconds hp7 _ hz19) ?_)
 rintro _ w21 ⟨rfl, hM2, hv20⟩
 obtain ⟨hM, hx22, hup23⟩ := hM.back hM2
 dsimp only [List.cons_append, List.nil_append] at hM hup23
 clear hM2
 refine ⟨_, rfl, fun a hf => ?_⟩
 refine q_ hf rfl rfl rfl (e_assign hf rfl) fun a hf => ?_
 refine pl_nil ?_
 refine then_n ?_
 iterate 2 refine wp_seq ?_
 refine region_pl ?_
 refine q_ hf rfl rfl rfl (e_field hf rfl Tryz.underlying55 rfl Tryz.sizeOf2 (o' := 0) rfl) fun a hf => ?_
 refine q_ hf rfl rfl rfl (e_load1 hf rfl Tryz.isAgg2 (hM.boxCell (k := 0) rfl rfl)) fun a hf => ?_
 refine pl_nil ?_
 refine then_n ?_
 refine wp_block ?_
 refine wp_seq ?_
 refine region_pl ?_
 refine q_ hf rfl rfl rfl (e_eq hf (x := a1.Kind) (y := 1) rfl rfl) fun a hf => ?_
 refine q_ hf rfl rfl rfl (e_assign hf rfl) fun a hf => ?_
 refine pl_nil ?_
 refine then_n ?_
 rcases cond_some h with ⟨hc24, h⟩ | ⟨hc24, h⟩
 ·refine cond_t hf rfl hc24 ?_
  refine wp_seq ?_
  refine region_pl ?_
  refine q_ hf rfl rfl rfl (e_field hf rfl Tryz.underlying55 rfl Tryz.sizeOf41 (o' := 1) rfl) fun a hf => ?_
  refine q_ hf rfl rfl rfl (e_loadA hf (us := [vI (a1.Play.Row), vI (a1.Play.Col), .bool (a1.Play.Down), vS (a1.Play.Word)]) rfl ⟨Tryz.isAgg41, Tryz.sizeOf41⟩ rfl (hM.boxSub (k := 0) (us := [vI (a1.Play.Row), vI (a1.Play.Col), .bool (a1.Play.Down), vS (a1.Play.Word)]) (o := 1) rfl rfl)) fun a hf => ?_
  obtain ⟨y25, hz26, h⟩ := bind_some h
  refine pl_l hf rfl rfl rfl (w_call hf Tryz.call116 rfl (r_impl_PlayText ⟨_, Sh C _ _, none_, hM.sh_lt, none_not, C.G, hM.g_lt, g_none, hM.tabs⟩ a1.Play hp3 hp4 hp5 _ hz26) ?_)
  rintro _ w28 ⟨rfl, hM2, hv27⟩
  obtain ⟨hM, hx29, hup30⟩ := hM.back hM2
  dsimp only [List.cons_append, List.nil_append] at hM hup30
  clear hM2
  refine ⟨_, rfl, fun a hf => ?_⟩
  refine q_ hf rfl rfl rfl (e_move hf rfl) fun a hf => ?_
  refine pl_l hf rfl rfl rfl (w_slice hf hM (K := strRep) (xs := ([([112, 108, 97, 121] : Str), y25, y18] : (List Str))) (os := [.const (.string ⟨#[112, 108, 97, 121]⟩), .tmp 16, .tmp 17]) Tryz.underlying91 ei_9 rfl rfl rfl rfl rfl ⟨⟨[vS (([112, 108, 97, 121] : Str))], rfl, ⟨rfl, (lit_len rfl)⟩⟩, ⟨[vS (y25)], rfl, ⟨rfl, hv27⟩⟩, ⟨[vS (y18)], rfl, ⟨rfl, hv20⟩⟩, trivial⟩ rfl fun b31 w32 hx33 hM a hf => ?_)
  obtain ⟨y34, hz35, h⟩ := bind_some h
  refine pl_l hf rfl rfl rfl (w_call hf Tryz.call62 rfl (r_impl_joined ⟨_, All C _ _, none_, hM.all_lt, none_not, C.G, hM.g_lt, g_none, hM.tabs⟩ ([([112, 108, 97, 121] : Str), y25, y18] : (List Str)) _ _ (hM.lendRow (k := 0) rfl) _ hz35) ?_)
  rintro _ w37 ⟨rfl, hM2, hv36⟩
  obtain ⟨hM, hx38⟩ := hM.backA hM2
  clear hM2
  refine ⟨_, rfl, fun a hf => ?_⟩
  refine q_ hf rfl rfl rfl (e_assign hf rfl) fun a hf => ?_
  refine pl_nil ?_
  refine then_n ?_
  refine wp_ret ?_
  refine blk_r ?_
  refine then_r ?_
  obtain rfl := some_inj h
  have hM := hM.outs (own' := []) 0 rfl
  exact leave1 hf rfl rfl ⟨rfl, hM.fin, hv36⟩
 refine cond_f hf rfl hc24 ?_
 refine wp_seq ?_
 refine region_pl ?_
 refine q_ hf rfl rfl rfl (e_eq hf (x := a1.Kind) (y := 2) rfl rfl) fun a hf => ?_
 refine q_ hf rfl rfl rfl (e_assign hf rfl) fun a hf => ?_
 refine pl_nil ?_
 refine then_n ?_
 rcases cond_some h with ⟨hc40, h⟩ | ⟨hc40, h⟩
 ·refine cond_t hf rfl hc40 ?_
  refine wp_seq ?_
  refine region_pl ?_
  refine q_ hf rfl rfl rfl (e_field hf rfl Tryz.underlying55 rfl Tryz.sizeOf9 (o' := 5) rfl) fun a hf => ?_
  refine q_ hf rfl rfl rfl (e_load1 hf rfl Tryz.isAgg9 (hM.boxCell (k := 0) rfl rfl)) fun a hf => ?_
  refine q_ hf rfl rfl rfl (e_move hf rfl) fun a hf => ?_
  refine pl_l hf rfl rfl rfl (w_slice hf hM (K := strRep) (xs := ([([101, 120, 99, 104, 97, 110, 103, 101] : Str), a1.Tiles, y18] : (List Str))) (os := [.const (.string ⟨#[101, 120, 99, 104, 97, 110, 103, 101]⟩), .tmp 23, .tmp 24]) Tryz.underlying91 ei_9 rfl rfl rfl rfl rfl ⟨⟨[vS (([101, 120, 99, 104, 97, 110, 103, 101] : Str))], rfl, ⟨rfl, (lit_len rfl)⟩⟩, ⟨[vS (a1.Tiles)], rfl, ⟨rfl, hp6⟩⟩, ⟨[vS (y18)], rfl, ⟨rfl, hv20⟩⟩, trivial⟩ rfl fun b41 w42 hx43 hM a hf => ?_)
  obtain ⟨y44, hz45, h⟩ := bind_some h
  refine pl_l hf rfl rfl rfl (w_call hf Tryz.call62 rfl (r_impl_joined ⟨_, All C _ _, none_, hM.all_lt, none_not, C.G, hM.g_lt, g_none, hM.tabs⟩ ([([101, 120, 99, 104, 97, 110, 103, 101] : Str), a1.Tiles, y18] : (List Str)) _ _ (hM.lendRow (k := 0) rfl) _ hz45) ?_)
  rintro _ w47 ⟨rfl, hM2, hv46⟩
  obtain ⟨hM, hx48⟩ := hM.backA hM2
  clear hM2
  refine ⟨_, rfl, fun a hf => ?_⟩
  refine q_ hf rfl rfl rfl (e_assign hf rfl) fun a hf => ?_
  refine pl_nil ?_
  refine then_n ?_
  refine wp_ret ?_
  refine blk_r ?_
  refine then_r ?_
  obtain rfl := some_inj h
  have hM := hM.outs (own' := []) 0 rfl
  exact leave1 hf rfl rfl ⟨rfl, hM.fin, hv46⟩
 refine cond_f hf rfl hc40 ?_
 refine wp_seq ?_
 refine region_pl ?_
 refine q_ hf rfl rfl rfl (e_eq hf (x := a1.Kind) (y := 3) rfl rfl) fun a hf => ?_
 refine q_ hf rfl rfl rfl (e_assign hf rfl) fun a hf => ?_
 refine pl_nil ?_
 refine then_n ?_
 rcases cond_some h with ⟨hc50, h⟩ | ⟨hc50, h⟩
 ·refine cond_t hf rfl hc50 ?_
  refine wp_seq ?_
  refine region_pl ?_
  refine q_ hf rfl rfl rfl (e_move hf rfl) fun a hf => ?_
  refine pl_l hf rfl rfl rfl (w_slice hf hM (K := strRep) (xs := ([([112, 97, 115, 115] : Str), y18] : (List Str))) (os := [.const (.string ⟨#[112, 97, 115, 115]⟩), .tmp 29]) Tryz.underlying91 ei_9 rfl rfl rfl rfl rfl ⟨⟨[vS (([112, 97, 115, 115] : Str))], rfl, ⟨rfl, (lit_len rfl)⟩⟩, ⟨[vS (y18)], rfl, ⟨rfl, hv20⟩⟩, trivial⟩ rfl fun b51 w52 hx53 hM a hf => ?_)
  obtain ⟨y54, hz55, h⟩ := bind_some h
  refine pl_l hf rfl rfl rfl (w_call hf Tryz.call62 rfl (r_impl_joined ⟨_, All C _ _, none_, hM.all_lt, none_not, C.G, hM.g_lt, g_none, hM.tabs⟩ ([([112, 97, 115, 115] : Str), y18] : (List Str)) _ _ (hM.lendRow (k := 0) rfl) _ hz55) ?_)
  rintro _ w57 ⟨rfl, hM2, hv56⟩
  obtain ⟨hM, hx58⟩ := hM.backA hM2
  clear hM2
  refine ⟨_, rfl, fun a hf => ?_⟩
  refine q_ hf rfl rfl rfl (e_assign hf rfl) fun a hf => ?_
  refine pl_nil ?_
  refine then_n ?_
  refine wp_ret ?_
  refine blk_r ?_
  refine then_r ?_
  obtain rfl := some_inj h
  have hM := hM.outs (own' := []) 0 rfl
  exact leave1 hf rfl rfl ⟨rfl, hM.fin, hv56⟩
 refine cond_f hf rfl hc50 ?_
 refine wp_skip ?_
 refine blk_n ?_
 refine then_n ?_
 refine wp_seq ?_
 refine region_pl ?_
 refine q_ hf rfl rfl rfl (e_move hf rfl) fun a hf => ?_
 refine pl_l hf rfl rfl rfl (w_slice hf hM (K := strRep) (xs := ([([99, 104, 97, 108, 108, 101, 110, 103, 101] : Str), y18] : (List Str))) (os := [.const (.string ⟨#[99, 104, 97, 108, 108, 101, 110, 103, 101]⟩), .tmp 32]) Tryz.underlying91 ei_9 rfl rfl rfl rfl rfl ⟨⟨[vS (([99, 104, 97, 108, 108, 101, 110, 103, 101] : Str))], rfl, ⟨rfl, (lit_len rfl)⟩⟩, ⟨[vS (y18)], rfl, ⟨rfl, hv20⟩⟩, trivial⟩ rfl fun b60 w61 hx62 hM a hf => ?_)
 obtain ⟨y63, hz64, h⟩ := bind_some h
 refine pl_l hf rfl rfl rfl (w_call hf Tryz.call62 rfl (r_impl_joined ⟨_, All C _ _, none_, hM.all_lt, none_not, C.G, hM.g_lt, g_none, hM.tabs⟩ ([([99, 104, 97, 108, 108, 101, 110, 103, 101] : Str), y18] : (List Str)) _ _ (hM.lendRow (k := 0) rfl) _ hz64) ?_)
 rintro _ w66 ⟨rfl, hM2, hv65⟩
 obtain ⟨hM, hx67⟩ := hM.backA hM2
 clear hM2
 refine ⟨_, rfl, fun a hf => ?_⟩
 refine q_ hf rfl rfl rfl (e_assign hf rfl) fun a hf => ?_
 refine pl_nil ?_
 refine then_n ?_
 refine wp_ret ?_
 obtain rfl := some_inj h
 have hM := hM.outs (own' := []) 0 rfl
 exact leave1 hf rfl rfl ⟨rfl, hM.fin, hv65⟩

def actV (b a : Nat) : Nat → Value
  | 0 => .func (.func 61) #[] #[vP b 0, vP a 0]
  | 1 => .func (.func 63) #[] #[vP b 0, vP a 0]
  | 2 => .func (.func 64) #[] #[vP b 0]
  | 3 => .func (.func 65) #[] #[vP b 0]
  | _ => .nilFunc

set_option maxRecDepth 100000 in
set_option maxHeartbeats 4000000 in
theorem r_impl_ReadAction (C : Cx) (s1 : Str) (hp2 : s1.length ≤ maxLen) (r : (Action × Bool)) (h : m_impl_ReadAction s1 = some r) :
    Calls Tryz.prog 28 #[vS (s1)] C.w0 fun e w => e = .returned (.tuple #[.agg #[vI (r.1.Kind), vI (r.1.Play.Row), vI (r.1.Play.Col), .bool (r.1.Play.Down), vS (r.1.Play.Word), vS (r.1.Tiles), vI (r.1.Seconds)], .bool (r.2)]) ∧ Mem C w [] [] ∧ R64 r.1.Kind ∧ R64 r.1.Play.Row ∧ R64 r.1.Play.Col ∧ r.1.Play.Word.length ≤ maxLen ∧ r.1.Tiles.length ≤ maxLen ∧ R64 r.1.Seconds := by
 have hM := Mem.begin C [] trivial
 refine enter Tryz.func28 rfl Tryz.ntmps28 rfl fun a hf => ?_
 unfold m_impl_ReadAction at h
 refine wp_seq ?_
 refine region_pl ?_
 refine pl_l hf rfl rfl rfl (w_alloc hM (cs := [vI (0), vI (0), vI (0), .bool (false), vS (([] : Str)), vS (([] : Str)), vI (0)]) Tryz.zeroValue55 rfl fun b3 w4 hx5 hM a hf => ?_)
 refine q_ hf rfl rfl rfl (e_assign hf rfl) fun a hf => ?_
 refine pl_nil ?_
 refine then_n ?_
 refine wp_seq ?_
 refine region_pl ?_
 refine q_ hf rfl rfl rfl (e_move hf rfl) fun a hf => ?_
 obtain ⟨y7, hz8, h⟩ := bind_some h
 refine pl_l hf rfl rfl rfl (w_call hf Tryz.call59 rfl (r_strings_Split ⟨_, Sh C _ _, none_, hM.sh_lt, none_not, C.G, hM.g_lt, g_none, hM.tabs⟩ s1 hp2 ([32] : Str) (lit_len rfl) _ hz8) ?_)
 rintro _ w12 ⟨A9, c10, rfl, hM2, hv11⟩
 obtain ⟨hM, hx13, hup14⟩ := hM.back hM2
 dsimp only [List.cons_append, List.nil_append] at hM hup14
 clear hM2
 have hM := hM.add (y := .dat (sliceRep strRep) y7 [vL A9 y7 c10]) (hup14 hv11)
 refine ⟨_, rfl, fun a hf => ?_⟩
 refine pl_l hf rfl rfl rfl (w_alloc hM (cs := [vL none (([] : (List Str))) 0]) Tryz.zeroValue91 rfl fun b15 w16 hx17 hM a hf => ?_)
 refine pl_0 hf rfl rfl (w_store hf hM (us := [vL A9 (y7) c10]) (cs' := [vL A9 (y7) c10]) rfl rfl (k := 0) rfl rfl Tryz.sizeOf91 rfl rfl rfl fun w19 hM => ?_)
 dsimp only [List.set] at hM
 refine pl_nil ?_
 refine then_n ?_
 refine wp_seq ?_
 refine region_pl ?_
 refine q_ hf rfl rfl rfl (e_build hf Tryz.zeroValue55 Tryz.underlying55 (bp_55 _ Tryz.underlying55.symm) rfl (cs := #[vI (0), vI (0), vI (0), .bool (false), vS (([] : Str)), vS (([] : Str)), vI (0)]) (by kernel_rfl)) fun a hf => ?_
 refine pl_l hf rfl rfl rfl (w_alloc hM (cs := [vI (0), vI (0), vI (0), .bool (false), vS (([] : Str)), vS (([] : Str)), vI (0)]) Tryz.zeroValue55 rfl fun b22 w23 hx24 hM a hf => ?_)
 refine pl_0 hf rfl rfl (w_store hf hM (us := [vI (0), vI (0), vI (0), .bool (false), vS (([] : Str)), vS (([] : Str)), vI (0)]) (cs' := [vI (0), vI (0), vI (0), .bool (false), vS (([] : Str)), vS (([] : Str)), vI (0)]) rfl rfl (k := 0) rfl rfl Tryz.sizeOf55 rfl rfl rfl fun w26 hM => ?_)
 dsimp only [List.set] at hM
 refine pl_nil ?_
 refine then_n ?_
 refine wp_seq ?_
 refine region_pl ?_
 iterate 2 refine q_ hf rfl rfl rfl (e_load1 hf rfl Tryz.isAgg91 (hM.boxCell (k := 1) rfl rfl)) fun a hf => ?_
 have hl29 := slice_len (hM.dat (k := 0) rfl)
 refine q_ hf rfl rfl rfl (e_lenL hf (x := y7) rfl Tryz.underlying91) fun a hf => ?_
 obtain ⟨z30, hz31, h⟩ := bind_some h
 refine q_ hf rfl rfl rfl (e_sub hf rfl rfl hz31) fun a hf => ?_
 obtain ⟨e32, hz33, h⟩ := bind_some h
 obtain ⟨b37, o38, _, hA39, h34, h35, hr36, hM⟩ := hM.elem (hM.dat (k := 0) rfl) (n := 1) rfl hz33
 obtain ⟨rfl, hv40⟩ := hr36
 refine q_ hf rfl rfl rfl (e_indexAddr (A := A9) (b := b37) (o := o38) (xs := y7) (i := z30) hf hA39 rfl rfl Tryz.underlying91 Tryz.sizeOf9 h34 h35) fun a hf => ?_
 refine q_ hf rfl rfl rfl (e_load1 hf rfl Tryz.isAgg9 (hM.litCell (k := 0) (j := 0) rfl rfl rfl)) fun a hf => ?_
 obtain ⟨y41, hz42, h⟩ := bind_some h
 refine pl_l hf rfl rfl rfl (w_call hf Tryz.call60 rfl (r_impl_ReadDecimal ⟨_, Sh C _ _, none_, hM.sh_lt, none_not, C.G, hM.g_lt, g_none, hM.tabs⟩ e32 hv40 _ hz42) ?_)
 rintro _ w44 ⟨rfl, hM2, hv43⟩
 obtain ⟨hM, hx45, hup46⟩ := hM.back hM2
 dsimp only [List.cons_append, List.nil_append] at hM hup46
 clear hM2
 refine ⟨_, rfl, fun a hf => ?_⟩
 refine q_ hf rfl rfl rfl (e_move hf rfl) fun a hf => ?_
 iterate 2 refine q_ hf rfl rfl rfl (e_extract hf rfl rfl) fun a hf => ?_
 refine q_ hf rfl rfl rfl (e_field hf rfl Tryz.underlying55 rfl Tryz.sizeOf2 (o' := 6) rfl) fun a hf => ?_
 refine pl_0 hf rfl rfl (w_store hf hM (us := [vI (y41.1)]) (cs' := [vI (0), vI (0), vI (0), .bool (false), vS (([] : Str)), vS (([] : Str)), vI (y41.1)]) rfl rfl (k := 0) rfl rfl Tryz.sizeOf2 rfl rfl rfl fun w47 hM => ?_)
 dsimp only [List.set] at hM
 refine pl_nil ?_
 refine then_n ?_
 refine wp_seq ?_
 refine region_pl ?_
 refine pl_l hf rfl rfl rfl (w_makeMap (α := Str) fS (actV b22 b15) hM fun bM wM hxM hM a hf => ?_)
 refine q_ hf rfl rfl rfl (w_makeFunc hf rfl) fun a hf => ?_
 refine pl_0 hf rfl rfl (w_mapInsert (fk := fS) (fv := (actV b22 b15)) hf hM (keyS Tryz.underlying9) Tryz.underlying96 (k := ([112, 108, 97, 121] : Str)) (v := 0) rfl rfl rfl (n := 0) rfl fun wM0 hM => ?_)
 dsimp only [List.set] at hM
 rw [show putM ([] : List (Str × Nat)) ([112, 108, 97, 121] : Str) 0 = ([(([112, 108, 97, 121] : Str), 0)] : List (Str × Nat)) from rfl] at hM
 refine q_ hf rfl rfl rfl (w_makeFunc hf rfl) fun a hf => ?_
 refine pl_0 hf rfl rfl (w_mapInsert (fk := fS) (fv := (actV b22 b15)) hf hM (keyS Tryz.underlying9) Tryz.underlying96 (k := ([101, 120, 99, 104, 97, 110, 103, 101] : Str)) (v := 1) rfl rfl rfl (n := 0) rfl fun wM1 hM => ?_)
 dsimp only [List.set] at hM
 rw [show putM ([(([112, 108, 97, 121] : Str), 0)] : List (Str × Nat)) ([101, 120, 99, 104, 97, 110, 103, 101] : Str) 1 = ([(([112, 108, 97, 121] : Str), 0), (([101, 120, 99, 104, 97, 110, 103, 101] : Str), 1)] : List (Str × Nat)) from rfl] at hM
 refine q_ hf rfl rfl rfl (w_makeFunc hf rfl) fun a hf => ?_
 refine pl_0 hf rfl rfl (w_mapInsert (fk := fS) (fv := (actV b22 b15)) hf hM (keyS Tryz.underlying9) Tryz.underlying96 (k := ([112, 97, 115, 115] : Str)) (v := 2) rfl rfl rfl (n := 0) rfl fun wM2 hM => ?_)
 dsimp only [List.set] at hM
 rw [show putM ([(([112, 108, 97, 121] : Str), 0), (([101, 120, 99, 104, 97, 110, 103, 101] : Str), 1)] : List (Str × Nat)) ([112, 97, 115, 115] : Str) 2 = ([(([112, 108, 97, 121] : Str), 0), (([101, 120, 99, 104, 97, 110, 103, 101] : Str), 1), (([112, 97, 115, 115] : Str), 2)] : List (Str × Nat)) from rfl] at hM
 refine q_ hf rfl rfl rfl (w_makeFunc hf rfl) fun a hf => ?_
 refine pl_0 hf rfl rfl (w_mapInsert (fk := fS) (fv := (actV b22 b15)) hf hM (keyS Tryz.underlying9) Tryz.underlying96 (k := ([99, 104, 97, 108, 108, 101, 110, 103, 101] : Str)) (v := 3) rfl rfl rfl (n := 0) rfl fun wM3 hM => ?_)
 dsimp only [List.set] at hM
 rw [show putM ([(([112, 108, 97, 121] : Str), 0), (([101, 120, 99, 104, 97, 110, 103, 101] : Str), 1), (([112, 97, 115, 115] : Str), 2)] : List (Str × Nat)) ([99, 104, 97, 108, 108, 101, 110, 103, 101] : Str) 3 = ([(([112, 108, 97, 121] : Str), 0), (([101, 120, 99, 104, 97, 110, 103, 101] : Str), 1), (([112, 97, 115, 115] : Str), 2), (([99, 104, 97, 108, 108, 101, 110, 103, 101] : Str), 3)] : List (Str × Nat)) from rfl] at hM
 refine q_ hf rfl rfl rfl (e_move hf rfl) fun a hf => ?_
 refine q_ hf rfl rfl rfl (e_assign hf rfl) fun a hf => ?_
 refine pl_nil ?_
 refine then_n ?_
 obtain ⟨x64, h65, h⟩ := bind_some h
 refine seq_join (fun a w => ∃ (n50 : Int) (n52 : Int) (n54 : Int) (t56 : Bool) (s58 : Str) (s60 : Str) (n62 : Int), (n50, n52, n54, t56, s58, s60, n62) = x64 ∧ Has 51 a [(0, vS (s1)), (2, vP b3 (0)), (5, vP b22 (0))] ∧ Mem C w [.box b22 [vI (n50), vI (n52), vI (n54), .bool (t56), vS (s58), vS (s60), vI (n62)] 55, .box b3 [vI (0), vI (0), vI (0), .bool (false), vS (([] : Str)), vS (([] : Str)), vI (0)] 55] [.lit b37 (o38 + (z30 : Int).toNat * 1) [vS (e32)], .dat (sliceRep strRep) y7 [vL A9 y7 c10]] ∧ R64 n50 ∧ R64 n52 ∧ R64 n54 ∧ s58.length ≤ maxLen ∧ s60.length ≤ maxLen ∧ R64 n62) ?_ ?_
 ·refine wp_seq ?_
  refine region_pl ?_
  refine q_ hf rfl rfl rfl (e_move hf rfl) fun a hf => ?_
  refine q_ hf rfl rfl rfl (e_load1 hf rfl Tryz.isAgg91 (hM.boxCell (k := 2) rfl rfl)) fun a hf => ?_
  obtain ⟨e66, hz67, h65⟩ := bind_some h65
  obtain ⟨b71, o72, _, hA73, h68, h69, hr70, hM⟩ := hM.elem (hM.dat (k := 1) rfl) (n := 1) rfl hz67
  obtain ⟨rfl, hv74⟩ := hr70
  refine q_ hf rfl rfl rfl (e_indexAddr (A := A9) (b := b71) (o := o72) (xs := y7) (i := 0) hf hA73 rfl rfl Tryz.underlying91 Tryz.sizeOf9 h68 h69) fun a hf => ?_
  refine q_ hf rfl rfl rfl (e_load1 hf rfl Tryz.isAgg9 (hM.litCell (k := 0) (j := 0) rfl rfl rfl)) fun a hf => ?_
  refine q_ hf rfl rfl rfl (e_lookupOk (fk := fS) (fv := (actV b22 b15)) hf (keyS Tryz.underlying9) Tryz.underlying96 (k := e66) (z := 4) rfl rfl Tryz.zeroValue1 (hM.ownAt (k := 0) rfl)) fun a hf => ?_
  refine q_ hf rfl rfl rfl (e_move hf rfl) fun a hf => ?_
  iterate 2 refine q_ hf rfl rfl rfl (e_extract hf rfl rfl) fun a hf => ?_
  iterate 2 refine q_ hf rfl rfl rfl (e_assign hf rfl) fun a hf => ?_
  have hM := hM.drop (.cons _ (List.Sublist.refl _))
  refine pl_nil ?_
  refine then_n ?_
  refine wp_seq ?_
  refine region_pl ?_
  refine q_ hf rfl rfl rfl (e_move hf rfl) fun a hf => ?_
  refine pl_nil ?_
  refine then_n ?_
  rcases cond_some h65 with ⟨hc75, h65⟩ | ⟨hc75, h65⟩
  ·have hq : getM ([(([112, 108, 97, 121] : Str), 0), (([101, 120, 99, 104, 97, 110, 103, 101] : Str), 1), (([112, 97, 115, 115] : Str), 2), (([99, 104, 97, 108, 108, 101, 110, 103, 101] : Str), 3)] : List (Str × Nat)) e66 = some 0 := (getM_hit (eq_of_beq hc75))
   rw [hq] at hf
   refine cond_t hf rfl rfl ?_
   refine region_pl ?_
   refine q_ hf rfl rfl rfl (e_move hf rfl) fun a hf => ?_
   have hM := hM.freezeBox (k := 1) rfl rfl
   dsimp only [List.eraseIdx] at hM
   have hM : Mem C _ ([.box b22 [vI (0), vI (0), vI (0), .bool (false), vS (([] : Str)), vS (([] : Str)), vI (y41.1)] 55] ++ [.box b3 [vI (0), vI (0), vI (0), .bool (false), vS (([] : Str)), vS (([] : Str)), vI (0)] 55]) _ := hM
   obtain ⟨y76, hz77, h65⟩ := bind_some h65
   refine pl_l hf rfl rfl rfl (w_callV hf (fk := 61) (fc := [vP b22 (0), vP b15 (0)]) rfl Tryz.call61 rfl (r_impl_ReadAction_1 ⟨_, Sh C _ _, ownB _, hM.sh_lt, sub_dis, C.G, hM.g_lt, hM.g_own, hM.tabs⟩ (⟨0, ⟨0, 0, false, ([] : Str)⟩, ([] : Str), y41.1⟩ : Action) _ (R64_lit rfl) (R64_lit rfl) (R64_lit rfl) (lit_len rfl) (lit_len rfl) hv43 y7 _ _ (hM.litPtr (k := 0) (d := 0) (us := [vL A9 (y7) c10]) rfl rfl rfl (hM.dat (k := 3) rfl)) hM.sub sub_dis _ hz77) ?_)
   rintro _ w84 ⟨rfl, hM2, hv78, hv79, hv80, hv81, hv82, hv83⟩
   obtain ⟨hM, hup86⟩ := hM.backG hM2
   dsimp only [List.cons_append, List.nil_append] at hM hup86
   clear hM2
   refine ⟨_, rfl, fun a hf => ?_⟩
   refine pl_nil ?_
   obtain rfl := some_inj h65
   refine then_n ?_
   exact ⟨y76.Kind, y76.Play.Row, y76.Play.Col, y76.Play.Down, y76.Play.Word, y76.Tiles, y76.Seconds, rfl, hf.keep ⟨rfl, rfl, rfl, trivial⟩, hM.pick [2, 3] rfl, hv78, hv79, hv80, hv81, hv82, hv83⟩
  skip
  rcases cond_some h65 with ⟨hc88, h65⟩ | ⟨hc88, h65⟩
  ·have hq : getM ([(([112, 108, 97, 121] : Str), 0), (([101, 120, 99, 104, 97, 110, 103, 101] : Str), 1), (([112, 97, 115, 115] : Str), 2), (([99, 104, 97, 108, 108, 101, 110, 103, 101] : Str), 3)] : List (Str × Nat)) e66 = some 1 := ((getM_miss (ne_of_beq_false hc75)).trans (getM_hit (eq_of_beq hc88)))
   rw [hq] at hf
   refine cond_t hf rfl rfl ?_
   refine region_pl ?_
   refine q_ hf rfl rfl rfl (e_move hf rfl) fun a hf => ?_
   have hM := hM.freezeBox (k := 1) rfl rfl
   dsimp only [List.eraseIdx] at hM
   have hM : Mem C _ ([.box b22 [vI (0), vI (0), vI (0), .bool (false), vS (([] : Str)), vS (([] : Str)), vI (y41.1)] 55] ++ [.box b3 [vI (0), vI (0), vI (0), .bool (false), vS (([] : Str)), vS (([] : Str)), vI (0)] 55]) _ := hM
   obtain ⟨y89, hz90, h65⟩ := bind_some h65
   refine pl_l hf rfl rfl rfl (w_callV hf (fk := 63) (fc := [vP b22 (0), vP b15 (0)]) rfl Tryz.call63 rfl (r_impl_ReadAction_2 ⟨_, Sh C _ _, ownB _, hM.sh_lt, sub_dis, C.G, hM.g_lt, hM.g_own, hM.tabs⟩ (⟨0, ⟨0, 0, false, ([] : Str)⟩, ([] : Str), y41.1⟩ : Action) _ (R64_lit rfl) (R64_lit rfl) (R64_lit rfl) (lit_len rfl) (lit_len rfl) hv43 y7 _ _ (hM.litPtr (k := 0) (d := 0) (us := [vL A9 (y7) c10]) rfl rfl rfl (hM.dat (k := 3) rfl)) hM.sub sub_dis _ hz90) ?_)
   rintro _ w97 ⟨rfl, hM2, hv91, hv92, hv93, hv94, hv95, hv96⟩
   obtain ⟨hM, hup99⟩ := hM.backG hM2
   dsimp only [List.cons_append, List.nil_append] at hM hup99
   clear hM2
   refine ⟨_, rfl, fun a hf => ?_⟩
   refine pl_nil ?_
   obtain rfl := some_inj h65
   refine then_n ?_
   exact ⟨y89.Kind, y89.Play.Row, y89.Play.Col, y89.Play.Down, y89.Play.Word, y89.Tiles, y89.Seconds, rfl, hf.keep ⟨rfl, rfl, rfl, trivial⟩, hM.pick [2, 3] rfl, hv91, hv92, hv93, hv94, hv95, hv96⟩
  skip
  rcases cond_some h65 with ⟨hc101, h65⟩ | ⟨hc101, h65⟩
  ·have hq : getM ([(([112, 108, 97, 121] : Str), 0), (([101, 120, 99, 104, 97, 110, 103, 101] : Str), 1), (([112, 97, 115, 115] : Str), 2), (([99, 104, 97, 108, 108, 101, 110, 103, 101] : Str), 3)] : List (Str × Nat)) e66 = some 2 := ((getM_miss (ne_of_beq_false hc75)).trans ((getM_miss (ne_of_beq_false hc88)).trans (getM_hit (eq_of_beq hc101))))
   rw [hq] at hf
   refine cond_t hf rfl rfl ?_
   refine region_pl ?_
   refine q_ hf rfl rfl rfl (e_move hf rfl) fun a hf => ?_
   have hM : Mem C _ ([.box b22 [vI (0), vI (0), vI (0), .bool (false), vS (([] : Str)), vS (([] : Str)), vI (y41.1)] 55] ++ [.box b15 [vL A9 (y7) c10] 91, .box b3 [vI (0), vI (0), vI (0), .bool (false), vS (([] : Str)), vS (([] : Str)), vI (0)] 55]) _ := hM
   obtain ⟨y102, hz103, h65⟩ := bind_some h65
   refine pl_l hf rfl rfl rfl (w_callV hf (fk := 64) (fc := [vP b22 (0)]) rfl Tryz.call64 rfl (r_impl_ReadAction_3 ⟨_, Sh C _ _, ownB _, hM.sh_lt, sub_dis, C.G, hM.g_lt, hM.g_own, hM.tabs⟩ (⟨0, ⟨0, 0, false, ([] : Str)⟩, ([] : Str), y41.1⟩ : Action) _ (R64_lit rfl) (R64_lit rfl) (R64_lit rfl) (lit_len rfl) (lit_len rfl) hv43 hM.sub sub_dis _ hz103) ?_)
   rintro _ w110 ⟨rfl, hM2, hv104, hv105, hv106, hv107, hv108, hv109⟩
   obtain ⟨hM, hup112⟩ := hM.backG hM2
   dsimp only [List.cons_append, List.nil_append] at hM hup112
   clear hM2
   refine ⟨_, rfl, fun a hf => ?_⟩
   refine pl_nil ?_
   obtain rfl := some_inj h65
   refine then_n ?_
   exact ⟨y102.Kind, y102.Play.Row, y102.Play.Col, y102.Play.Down, y102.Play.Word, y102.Tiles, y102.Seconds, rfl, hf.keep ⟨rfl, rfl, rfl, trivial⟩, (hM.drop (.cons_cons _ (.cons _ (.cons_cons _ .slnil)))).pick [1, 2] rfl, hv104, hv105, hv106, hv107, hv108, hv109⟩
  skip
  rcases cond_some h65 with ⟨hc114, h65⟩ | ⟨hc114, h65⟩
  ·have hq : getM ([(([112, 108, 97, 121] : Str), 0), (([101, 120, 99, 104, 97, 110, 103, 101] : Str), 1), (([112, 97, 115, 115] : Str), 2), (([99, 104, 97, 108, 108, 101, 110, 103, 101] : Str), 3)] : List (Str × Nat)) e66 = some 3 := ((getM_miss (ne_of_beq_false hc75)).trans ((getM_miss (ne_of_beq_false hc88)).trans ((getM_miss (ne_of_beq_false hc101)).trans (getM_hit (eq_of_beq hc114)))))
   rw [hq] at hf
   refine cond_t hf rfl rfl ?_
   refine region_pl ?_
   refine q_ hf rfl rfl rfl (e_move hf rfl) fun a hf => ?_
   have hM : Mem C _ ([.box b22 [vI (0), vI (0), vI (0), .bool (false), vS (([] : Str)), vS (([] : Str)), vI (y41.1)] 55] ++ [.box b15 [vL A9 (y7) c10] 91, .box b3 [vI (0), vI (0), vI (0), .bool (false), vS (([] : Str)), vS (([] : Str)), vI (0)] 55]) _ := hM
   obtain ⟨y115, hz116, h65⟩ := bind_some h65
   refine pl_l hf rfl rfl rfl (w_callV hf (fk := 65) (fc := [vP b22 (0)]) rfl Tryz.call65 rfl (r_impl_ReadAction_4 ⟨_, Sh C _ _, ownB _, hM.sh_lt, sub_dis, C.G, hM.g_lt, hM.g_own, hM.tabs⟩ (⟨0, ⟨0, 0, false, ([] : Str)⟩, ([] : Str), y41.1⟩ : Action) _ (R64_lit rfl) (R64_lit rfl) (R64_lit rfl) (lit_len rfl) (lit_len rfl) hv43 hM.sub sub_dis _ hz116) ?_)
   rintro _ w123 ⟨rfl, hM2, hv117, hv118, hv119, hv120, hv121, hv122⟩
   obtain ⟨hM, hup125⟩ := hM.backG hM2
   dsimp only [List.cons_append, List.nil_append] at hM hup125
   clear hM2
   refine ⟨_, rfl, fun a hf => ?_⟩
   refine pl_nil ?_
   obtain rfl := some_inj h65
   refine then_n ?_
   exact ⟨y115.Kind, y115.Play.Row, y115.Play.Col, y115.Play.Down, y115.Play.Word, y115.Tiles, y115.Seconds, rfl, hf.keep ⟨rfl, rfl, rfl, trivial⟩, (hM.drop (.cons_cons _ (.cons _ (.cons_cons _ .slnil)))).pick [1, 2] rfl, hv117, hv118, hv119, hv120, hv121, hv122⟩
  have hq : getM ([(([112, 108, 97, 121] : Str), 0), (([101, 120, 99, 104, 97, 110, 103, 101] : Str), 1), (([112, 97, 115, 115] : Str), 2), (([99, 104, 97, 108, 108, 101, 110, 103, 101] : Str), 3)] : List (Str × Nat)) e66 = none := ((getM_miss (ne_of_beq_false hc75)).trans ((getM_miss (ne_of_beq_false hc88)).trans ((getM_miss (ne_of_beq_false hc101)).trans ((getM_miss (ne_of_beq_false hc114)).trans rfl))))
  rw [hq] at hf
  refine cond_f hf rfl rfl ?_
  refine wp_skip ?_
  obtain rfl := some_inj h65
  refine then_n ?_
  exact ⟨0, 0, 0, false, ([] : Str), ([] : Str), y41.1, rfl, hf.keep ⟨rfl, rfl, rfl, trivial⟩, (hM.drop (.cons_cons _ (.cons _ (.cons_cons _ .slnil)))).pick [1, 2] rfl, (R64_lit rfl), (R64_lit rfl), (R64_lit rfl), (lit_len rfl), (lit_len rfl), hv43⟩
 rintro a w128 ⟨n50, n52, n54, t56, s58, s60, n62, rfl, hf, hM, hv51, hv53, hv55, hv59, hv61, hv63⟩
 try dsimp only at h
 refine wp_seq ?_
 obtain ⟨x131, h132, h⟩ := bind_some h
 refine seq_join (fun a w => ∃ (t129 : Bool), t129 = x131 ∧ Has 51 a [(2, vP b3 (0)), (5, vP b22 (0)), (48, .bool (t129))] ∧ Mem C w [.box b22 [vI (n50), vI (n52), vI (n54), .bool (t56), vS (s58), vS (s60), vI (n62)] 55, .box b3 [vI (0), vI (0), vI (0), .bool (false), vS (([] : Str)), vS (([] : Str)), vI (0)] 55] [.lit b37 (o38 + (z30 : Int).toNat * 1) [vS (e32)], .dat (sliceRep strRep) y7 [vL A9 y7 c10]]) ?_ ?_
 ·refine region_pl ?_
  refine q_ hf rfl rfl rfl (e_loadA hf (us := [vI (n50), vI (n52), vI (n54), .bool (t56), vS (s58), vS (s60), vI (n62)]) rfl ⟨Tryz.isAgg55, Tryz.sizeOf55⟩ rfl (hM.boxSub (k := 0) (us := [vI (n50), vI (n52), vI (n54), .bool (t56), vS (s58), vS (s60), vI (n62)]) (o := 0) rfl rfl)) fun a hf => ?_
  obtain ⟨y133, hz134, h132⟩ := bind_some h132
  refine pl_l hf rfl rfl rfl (w_call hf Tryz.call66 rfl (r_impl_ValidAction ⟨_, Sh C _ _, none_, hM.sh_lt, none_not, C.G, hM.g_lt, g_none, hM.tabs⟩ (⟨n50, ⟨n52, n54, t56, s58⟩, s60, n62⟩ : Action) hv51 hv53 hv55 hv59 hv61 hv63 _ hz134) ?_)
  rintro _ w135 ⟨rfl, hM2⟩
  obtain ⟨hM, hx136, hup137⟩ := hM.back hM2
  dsimp only [List.cons_append, List.nil_append] at hM hup137
  clear hM2
  refine ⟨_, rfl, fun a hf => ?_⟩
  refine q_ hf rfl rfl rfl (e_not hf rfl) fun a hf => ?_
  refine q_ hf rfl rfl rfl (e_move hf rfl) fun a hf => ?_
  rcases cond_some h132 with ⟨hc138, h132⟩ | ⟨hc138, h132⟩
  ·iterate 4 refine pl_gs (wanted_f hf rfl rfl rfl rfl hc138) hf rfl rfl fun a hf => ?_
   refine q_ hf rfl rfl rfl (e_pick_t hf rfl hc138 rfl) fun a hf => ?_
   refine pl_nil ?_
   obtain rfl := some_inj h132
   refine then_n ?_
   exact ⟨true, rfl, hf.keep ⟨rfl, rfl, rfl, trivial⟩, hM.pick [0, 1] rfl⟩
  refine gq (wanted_t hf rfl rfl rfl rfl hc138) hf rfl rfl (e_loadA hf (us := [vI (n50), vI (n52), vI (n54), .bool (t56), vS (s58), vS (s60), vI (n62)]) rfl ⟨Tryz.isAgg55, Tryz.sizeOf55⟩ rfl (hM.boxSub (k := 0) (us := [vI (n50), vI (n52), vI (n54), .bool (t56), vS (s58), vS (s60), vI (n62)]) (o := 0) rfl rfl)) fun a hf => ?_
  obtain ⟨y140, hz141, h132⟩ := bind_some h132
  refine pl_gl (wanted_t hf rfl rfl rfl rfl hc138) hf rfl rfl (w_call hf Tryz.call67 rfl (r_impl_ActionText ⟨_, Sh C _ _, none_, hM.sh_lt, none_not, C.G, hM.g_lt, g_none, hM.tabs⟩ (⟨n50, ⟨n52, n54, t56, s58⟩, s60, n62⟩ : Action) hv51 hv53 hv55 hv59 hv61 hv63 _ hz141) ?_)
  rintro _ w143 ⟨rfl, hM2, hv142⟩
  obtain ⟨hM, hx144, hup145⟩ := hM.back hM2
  dsimp only [List.cons_append, List.nil_append] at hM hup145
  clear hM2
  refine ⟨_, rfl, fun a hf => ?_⟩
  refine gq (wanted_t hf rfl rfl rfl rfl hc138) hf rfl rfl (e_move hf rfl) fun a hf => ?_
  refine gq (wanted_t hf rfl rfl rfl rfl hc138) hf rfl rfl (e_neS hf (x := y140) (y := s1) rfl rfl) fun a hf => ?_
  refine q_ hf rfl rfl rfl (e_pick_f hf rfl hc138 rfl) fun a hf => ?_
  refine pl_nil ?_
  obtain rfl := some_inj h132
  refine then_n ?_
  exact ⟨(y140 != s1), rfl, hf.keep ⟨rfl, rfl, rfl, trivial⟩, hM.pick [0, 1] rfl⟩
 rintro a w147 ⟨t129, rfl, hf, hM⟩
 try dsimp only at h
 rcases cond_some h with ⟨hc148, h⟩ | ⟨hc148, h⟩
 ·refine cond_t hf rfl hc148 ?_
  refine wp_seq ?_
  refine region_pl ?_
  refine q_ hf rfl rfl rfl (e_build hf Tryz.zeroValue55 Tryz.underlying55 (bp_55 _ Tryz.underlying55.symm) rfl (cs := #[vI (0), vI (0), vI (0), .bool (false), vS (([] : Str)), vS (([] : Str)), vI (0)]) (by kernel_rfl)) fun a hf => ?_
  refine pl_0 hf rfl rfl (w_store hf hM (us := [vI (0), vI (0), vI (0), .bool (false), vS (([] : Str)), vS (([] : Str)), vI (0)]) (cs' := [vI (0), vI (0), vI (0), .bool (false), vS (([] : Str)), vS (([] : Str)), vI (0)]) rfl rfl (k := 1) rfl rfl Tryz.sizeOf55 rfl rfl rfl fun w149 hM => ?_)
  dsimp only [List.set] at hM
  refine q_ hf rfl rfl rfl (e_assign hf rfl) fun a hf => ?_
  refine pl_nil ?_
  refine then_n ?_
  refine wp_ret ?_
  refine then_r ?_
  obtain rfl := some_inj h
  have hres152 := leaveV2 (P := Tryz.prog) (w := w149) Tryz.results28 (res_agg hf rfl ⟨Tryz.isAgg55, Tryz.sizeOf55⟩ (us := [vI (0), vI (0), vI (0), .bool (false), vS (([] : Str)), vS (([] : Str)), vI (0)]) rfl (hM.boxSub (k := 1) (o := 0) rfl rfl)) (res_tmp hf rfl)
  have hM := hM.outs (own' := []) 0 rfl
  exact bodyPost_ret hres152 hf.defers ⟨rfl, hM.fin, (R64_lit rfl), (R64_lit rfl), (R64_lit rfl), (lit_len rfl), (lit_len rfl), (R64_lit rfl)⟩
 refine cond_f hf rfl hc148 ?_
 refine wp_skip ?_
 refine then_n ?_
 refine wp_seq ?_
 refine region_pl ?_
 refine q_ hf rfl rfl rfl (e_loadA hf (us := [vI (n50), vI (n52), vI (n54), .bool (t56), vS (s58), vS (s60), vI (n62)]) rfl ⟨Tryz.isAgg55, Tryz.sizeOf55⟩ rfl (hM.boxSub (k := 0) (us := [vI (n50), vI (n52), vI (n54), .bool (t56), vS (s58), vS (s60), vI (n62)]) (o := 0) rfl rfl)) fun a hf => ?_
 refine pl_0 hf rfl rfl (w_store hf hM (us := [vI (n50), vI (n52), vI (n54), .bool (t56), vS (s58), vS (s60), vI (n62)]) (cs' := [vI (n50), vI (n52), vI (n54), .bool (t56), vS (s58), vS (s60), vI (n62)]) rfl rfl (k := 1) rfl rfl Tryz.sizeOf55 rfl rfl rfl fun w153 hM => ?_)
 dsimp only [List.set] at hM
 refine q_ hf rfl rfl rfl (e_assign hf rfl) fun a hf => ?_
 refine pl_nil ?_
 refine then_n ?_
 refine wp_ret ?_
 obtain rfl := some_inj h
 have hres156 := leaveV2 (P := Tryz.prog) (w := w153) Tryz.results28 (res_agg hf rfl ⟨Tryz.isAgg55, Tryz.sizeOf55⟩ (us := [vI (n50), vI (n52), vI (n54), .bool (t56), vS (s58), vS (s60), vI (n62)]) rfl (hM.boxSub (k := 1) (o := 0) rfl rfl)) (res_tmp hf rfl)
 have hM := hM.outs (own' := []) 0 rfl
 exact bodyPost_ret hres156 hf.defers ⟨rfl, hM.fin, hv51, hv53, hv55, hv59, hv61, hv63⟩

set_option maxRecDepth 100000 in
set_option maxHeartbeats 4000000 in
theorem r_impl_ValidRecord (C : Cx) (r1 : Record) (hp2 : R64 r1.Seed) (A3 : Option Addr) (c4 : Nat) (hp5 : (sliceRep ActionRep).R C.w0 C.S0 r1.Actions [vL A3 r1.Actions c4]) (r : Bool) (h : m_impl_ValidRecord r1 = some r) :
    Calls Tryz.prog 73 #[.agg #[vI (r1.Seed), vL A3 (r1.Actions) c4]] C.w0 fun e w => e = .returned (.bool (r)) ∧ Mem C w [] [] := by
 have hM := Mem.begin C [.dat (sliceRep ActionRep) r1.Actions [vL A3 r1.Actions c4]] ⟨hp5, trivial⟩
 refine enter Tryz.func73 rfl Tryz.ntmps73 rfl fun a hf => ?_
 unfold m_impl_ValidRecord at h
 refine wp_seq ?_
 refine region_pl ?_
 refine pl_l hf rfl rfl rfl (w_box hf hM (cs := [vI (r1.Seed), vL A3 (r1.Actions) c4]) rfl rfl fun b6 w7 hx8 hM a hf => ?_)
 refine q_ hf rfl rfl rfl (e_assign hf rfl) fun a hf => ?_
 refine pl_nil ?_
 refine then_n ?_
 refine wp_seq ?_
 obtain ⟨x12, h13, h⟩ := bind_some h
 refine seq_join (fun a w => ∃ (t10 : Bool), t10 = x12 ∧ Has 26 a [(1, vP b6 (0)), (14, .bool (t10))] ∧ Mem C w [.box b6 [vI (r1.Seed), vL A3 (r1.Actions) c4] 61] [.dat (sliceRep ActionRep) r1.Actions [vL A3 r1.Actions c4]]) ?_ ?_
 ·refine region_pl ?_
  refine q_ hf rfl rfl rfl (e_field hf rfl Tryz.underlying61 rfl Tryz.sizeOf2 (o' := 0) rfl) fun a hf => ?_
  refine q_ hf rfl rfl rfl (e_load1 hf rfl Tryz.isAgg2 (hM.boxCell (k := 0) rfl rfl)) fun a hf => ?_
  obtain ⟨y14, hz15, h13⟩ := bind_some h13
  refine pl_l hf rfl rfl rfl (w_call hf Tryz.call124 rfl (r_impl_within ⟨_, Sh C _ _, none_, hM.sh_lt, none_not, C.G, hM.g_lt, g_none, hM.tabs⟩ r1.Seed hp2 0 (R64_lit rfl) 2147483647 (R64_lit rfl) _ hz15) ?_)
  rintro _ w16 ⟨rfl, hM2⟩
  obtain ⟨hM, hx17, hup18⟩ := hM.back hM2
  dsimp only [List.cons_append, List.nil_append] at hM hup18
  clear hM2
  refine ⟨_, rfl, fun a hf => ?_⟩
  refine q_ hf rfl rfl rfl (e_not hf rfl) fun a hf => ?_
  refine q_ hf rfl rfl rfl (e_move hf rfl) fun a hf => ?_
  rcases cond_some h13 with ⟨hc19, h13⟩ | ⟨hc19, h13⟩
  ·iterate 4 refine pl_gs (wanted_f hf rfl rfl rfl rfl hc19) hf rfl rfl fun a hf => ?_
   refine q_ hf rfl rfl rfl (e_pick_t hf rfl hc19 rfl) fun a hf => ?_
   refine pl_nil ?_
   obtain rfl := some_inj h13
   refine then_n ?_
   exact ⟨true, rfl, hf.keep ⟨rfl, rfl, trivial⟩, hM.pick [0] rfl⟩
  refine gq (wanted_t hf rfl rfl rfl rfl hc19) hf rfl rfl (e_field hf rfl Tryz.underlying61 rfl Tryz.sizeOf59 (o' := 1) rfl) fun a hf => ?_
  refine gq (wanted_t hf rfl rfl rfl rfl hc19) hf rfl rfl (e_load1 hf rfl Tryz.isAgg59 (hM.boxCell (k := 0) rfl rfl)) fun a hf => ?_
  have hl21 := slice_len (hM.dat (k := 0) rfl)
  refine gq (wanted_t hf rfl rfl rfl rfl hc19) hf rfl rfl (e_lenL hf (x := r1.Actions) rfl Tryz.underlying59) fun a hf => ?_
  refine gq (wanted_t hf rfl rfl rfl rfl hc19) hf rfl rfl (e_gt hf (x := (r1.Actions.length : Int)) (y := 200) rfl rfl) fun a hf => ?_
  refine q_ hf rfl rfl rfl (e_pick_f hf rfl hc19 rfl) fun a hf => ?_
  refine pl_nil ?_
  obtain rfl := some_inj h13
  refine then_n ?_
  exact ⟨(decide (200 < (r1.Actions.length : Int))), rfl, hf.keep ⟨rfl, rfl, trivial⟩, hM.pick [0] rfl⟩
 rintro a w23 ⟨t10, rfl, hf, hM⟩
 try dsimp only at h
 rcases cond_some h with ⟨hc24, h⟩ | ⟨hc24, h⟩
 ·refine cond_t hf rfl hc24 ?_
  refine wp_seq ?_
  refine region_pl ?_
  refine q_ hf rfl rfl rfl (e_assign hf rfl) fun a hf => ?_
  refine pl_nil ?_
  refine then_n ?_
  refine wp_ret ?_
  refine then_r ?_
  obtain rfl := some_inj h
  have hM := hM.outs (own' := []) 0 rfl
  exact leave1 hf rfl rfl ⟨rfl, hM.fin⟩
 refine cond_f hf rfl hc24 ?_
 refine wp_skip ?_
 refine then_n ?_
 obtain ⟨x25, h26, h⟩ := bind_some h
 refine seq_join (fun a w => (.inl ()) = x25 ∧ Has 26 a [] ∧ Mem C w [.box b6 [vI (r1.Seed), vL A3 (r1.Actions) c4] 61] [.dat (sliceRep ActionRep) r1.Actions [vL A3 r1.Actions c4]]) ?_ ?_
 ·refine wp_seq ?_
  refine region_pl ?_
  refine q_ hf rfl rfl rfl (e_field hf rfl Tryz.underlying61 rfl Tryz.sizeOf59 (o' := 1) rfl) fun a hf => ?_
  refine q_ hf rfl rfl rfl (e_load1 hf rfl Tryz.isAgg59 (hM.boxCell (k := 0) rfl rfl)) fun a hf => ?_
  have hl27 := slice_len (hM.dat (k := 0) rfl)
  refine q_ hf rfl rfl rfl (e_lenL hf (x := r1.Actions) rfl Tryz.underlying59) fun a hf => ?_
  refine q_ hf rfl rfl rfl (e_move hf rfl) fun a hf => ?_
  refine pl_nil ?_
  refine then_n ?_
  refine wp_block ?_
  obtain ⟨x31, h32, h26⟩ := bind_some h26
  refine wp_loopM h32 (fun s a w => ∃ (n28 : Int), n28 = s ∧ Has 26 a [(16, vL A3 (r1.Actions) c4), (17, vI ((r1.Actions.length : Int))), (18, vI (n28))] ∧ Mem C w [.box b6 [vI (r1.Seed), vL A3 (r1.Actions) c4] 61] [.dat (sliceRep ActionRep) r1.Actions [vL A3 r1.Actions c4]] ∧ R64 n28) ?_ ?_
  ·exact ⟨0, rfl, hf.keep ⟨rfl, rfl, rfl, trivial⟩, hM.pick [0] rfl, (R64_lit rfl)⟩
  rintro s o33 a w30 ⟨n28, rfl, hf, hM, hv29⟩ h34 hd35
  replace h34 : m_impl_ValidRecord_l1 r1 n28 = some o33 := h34
  unfold m_impl_ValidRecord_l1 at h34
  refine wp_seq ?_
  refine region_pl ?_
  refine q_ hf rfl rfl rfl (e_lt hf (x := n28) (y := (r1.Actions.length : Int)) rfl rfl) fun a hf => ?_
  refine pl_nil ?_
  refine then_n ?_
  refine wp_seq ?_
  rcases cond_some h34 with ⟨hc36, h34⟩ | ⟨hc36, h34⟩
  ·refine cond_t hf rfl hc36 ?_
   refine wp_skip ?_
   refine then_n ?_
   refine wp_seq ?_
   refine wp_block ?_
   refine wp_seq ?_
   refine region_pl ?_
   obtain ⟨e37, hz38, h34⟩ := bind_some h34
   obtain ⟨b42, o43, _, hA44, h39, h40, hr41, hM⟩ := hM.elem (hM.dat (k := 0) rfl) (n := 7) rfl hz38
   obtain ⟨rfl, hv45, hv46, hv47, hv48, hv49, hv50⟩ := ActionRep_open hr41
   refine q_ hf rfl rfl rfl (e_indexAddr (A := A3) (b := b42) (o := o43) (xs := r1.Actions) (i := n28) hf hA44 rfl rfl Tryz.underlying59 Tryz.sizeOf55 h39 h40) fun a hf => ?_
   refine q_ hf rfl rfl rfl (e_loadA hf (us := [vI (e37.Kind), vI (e37.Play.Row), vI (e37.Play.Col), .bool (e37.Play.Down), vS (e37.Play.Word), vS (e37.Tiles), vI (e37.Seconds)]) rfl ⟨Tryz.isAgg55, Tryz.sizeOf55⟩ rfl (hM.litSub (k := 0) (d := 0) (us := [vI (e37.Kind), vI (e37.Play.Row), vI (e37.Play.Col), .bool (e37.Play.Down), vS (e37.Play.Word), vS (e37.Tiles), vI (e37.Seconds)]) rfl rfl rfl)) fun a hf => ?_
   refine pl_l hf rfl rfl rfl (w_alloc hM (cs := [vI (0), vI (0), vI (0), .bool (false), vS (([] : Str)), vS (([] : Str)), vI (0)]) Tryz.zeroValue55 rfl fun b51 w52 hx53 hM a hf => ?_)
   refine pl_0 hf rfl rfl (w_store hf hM (us := [vI (e37.Kind), vI (e37.Play.Row), vI (e37.Play.Col), .bool (e37.Play.Down), vS (e37.Play.Word), vS (e37.Tiles), vI (e37.Seconds)]) (cs' := [vI (e37.Kind), vI (e37.Play.Row), vI (e37.Play.Col), .bool (e37.Play.Down), vS (e37.Play.Word), vS (e37.Tiles), vI (e37.Seconds)]) rfl rfl (k := 0) rfl rfl Tryz.sizeOf55 rfl rfl rfl fun w55 hM => ?_)
   dsimp only [List.set] at hM
   refine pl_nil ?_
   refine then_n ?_
   refine wp_seq ?_
   refine region_pl ?_
   refine q_ hf rfl rfl rfl (e_loadA hf (us := [vI (e37.Kind), vI (e37.Play.Row), vI (e37.Play.Col), .bool (e37.Play.Down), vS (e37.Play.Word), vS (e37.Tiles), vI (e37.Seconds)]) rfl ⟨Tryz.isAgg55, Tryz.sizeOf55⟩ rfl (hM.boxSub (k := 0) (us := [vI (e37.Kind), vI (e37.Play.Row), vI (e37.Play.Col), .bool (e37.Play.Down), vS (e37.Play.Word), vS (e37.Tiles), vI (e37.Seconds)]) (o := 0) rfl rfl)) fun a hf => ?_
   obtain ⟨y58, hz59, h34⟩ := bind_some h34
   refine pl_l hf rfl rfl rfl (w_call hf Tryz.call66 rfl (r_impl_ValidAction ⟨_, Sh C _ _, none_, hM.sh_lt, none_not, C.G, hM.g_lt, g_none, hM.tabs⟩ e37 hv45 hv46 hv47 hv48 hv49 hv50 _ hz59) ?_)
   rintro _ w60 ⟨rfl, hM2⟩
   obtain ⟨hM, hx61, hup62⟩ := hM.back hM2
   dsimp only [List.cons_append, List.nil_append] at hM hup62
   clear hM2
   refine ⟨_, rfl, fun a hf => ?_⟩
   refine q_ hf rfl rfl rfl (e_not hf rfl) fun a hf => ?_
   refine pl_nil ?_
   refine then_n ?_
   rcases cond_some h34 with ⟨hc63, h34⟩ | ⟨hc63, h34⟩
   ·refine cond_t hf rfl hc63 ?_
    refine wp_seq ?_
    refine region_pl ?_
    refine q_ hf rfl rfl rfl (e_assign hf rfl) fun a hf => ?_
    refine pl_nil ?_
    refine then_n ?_
    refine wp_ret ?_
    refine blk_r ?_
    refine then_r ?_
    obtain rfl := some_inj h34
    obtain rfl := hd35 _ rfl
    try dsimp only at h26
    refine then_r ?_
    refine blk_r ?_
    obtain rfl := some_inj h26
    try dsimp only at h
    refine then_r ?_
    obtain rfl := some_inj h
    have hM := hM.outs (own' := []) 0 rfl
    exact leave1 hf rfl rfl ⟨rfl, hM.fin⟩
   refine cond_f hf rfl hc63 ?_
   refine wp_skip ?_
   refine blk_n ?_
   refine then_n ?_
   refine region_pl ?_
   obtain ⟨z64, hz65, h34⟩ := bind_some h34
   refine q_ hf rfl rfl rfl (e_add hf rfl rfl hz65) fun a hf => ?_
   refine q_ hf rfl rfl rfl (e_move hf rfl) fun a hf => ?_
   refine pl_nil ?_
   obtain rfl := some_inj h34
   refine then_n ⟨_, rfl, ?_⟩
   exact ⟨z64, rfl, hf.keep ⟨rfl, rfl, rfl, trivial⟩, (hM.drop (.cons _ (.cons_cons _ .slnil))).pick [1] rfl, (chk_R hz65)⟩
  refine cond_f hf rfl hc36 ?_
  refine wp_exit ?_
  refine then_x ?_
  obtain rfl := some_inj h34
  obtain rfl := hd35 _ rfl
  try dsimp only at h26
  refine then_x ?_
  refine exit_hit ?_
  obtain rfl := some_inj h26
  refine then_n ?_
  exact ⟨rfl, hf.keep trivial, hM.pick [0] rfl⟩
 rintro a w72 ⟨rfl, hf, hM⟩
 try dsimp only at h
 refine wp_seq ?_
 refine region_pl ?_
 refine q_ hf rfl rfl rfl (e_assign hf rfl) fun a hf => ?_
 refine pl_nil ?_
 refine then_n ?_
 refine wp_ret ?_
 obtain rfl := some_inj h
 have hM := hM.outs (own' := []) 0 rfl
 exact leave1 hf rfl rfl ⟨rfl, hM.fin⟩

set_option maxRecDepth 100000 in
set_option maxHeartbeats 4000000 in
theorem r_strings_Builder_copyCheck (C : Cx) (b1 : Str) (b2 : Nat) (p3 : Value) (hp4 : AddrOk b2 p3) (A5 : Option Addr) (c6 : Nat) (hO : Mem C C.w0 [.box b2 [p3, vL A5 (b1) c6] 145, .row byteRep A5 c6 5 b1 true] []) (hd : ∀ b, C.S0 b → ¬ ownB [.box b2 [p3, vL A5 (b1) c6] 145, .row byteRep A5 c6 5 b1 true] b) (r : Str) (h : m_strings_Builder_copyCheck b1 = some r) :
    Calls Tryz.prog 153 #[vP b2 (0)] C.w0 fun e w => ∃ (p_1 : Value), ∃ (A_1 : Option Addr), ∃ (c_1 : Nat), e = .returned (.tuple #[]) ∧ Mem C w [.box b2 [p_1, vL A_1 (r) c_1] 145, .row byteRep A_1 c_1 5 r true] [] ∧ AddrOk b2 p_1 := by
 have hM := hO
 refine enter Tryz.func153 rfl Tryz.ntmps153 rfl fun a hf => ?_
 unfold m_strings_Builder_copyCheck at h
 rcases hp4 with rfl | rfl
 ·refine wp_seq ?_
  refine region_pl ?_
  refine q_ hf rfl rfl rfl (e_move hf rfl) fun a hf => ?_
  refine q_ hf rfl rfl rfl (e_nil hf rfl) fun a hf => ?_
  refine q_ hf rfl rfl rfl (e_field hf rfl Tryz.underlying145 rfl Tryz.sizeOf143 (o' := 0) rfl) fun a hf => ?_
  refine q_ hf rfl rfl rfl (e_load1 hf rfl Tryz.isAgg143 (hM.boxCell (k := 0) rfl rfl)) fun a hf => ?_
  refine q_ hf rfl rfl rfl (e_eqPN hf rfl rfl Tryz.underlying143) fun a hf => ?_
  refine pl_nil ?_
  refine then_n ?_
  refine cond_t hf rfl rfl ?_
  refine region_pl ?_
  iterate 2 refine q_ hf rfl rfl rfl (e_move hf rfl) fun a hf => ?_
  refine q_ hf rfl rfl rfl (e_toUnsafe hf hM (k := 0) (n := 2) rfl rfl Tryz.underlying143 Tryz.underlying184 (by kernel_rfl) rfl rfl) fun a hf => ?_
  refine q_ hf rfl rfl rfl (e_noEscape hf (f := 169) rfl Tryz.func169 rfl rfl (by kernel_rfl) (by kernel_rfl)) fun a hf => ?_
  refine q_ hf rfl rfl rfl (e_fromUnsafe hf hM (k := 0) (n := 2) rfl rfl Tryz.underlying184 Tryz.underlying143 (by kernel_rfl) (by kernel_rfl)) fun a hf => ?_
  refine q_ hf rfl rfl rfl (e_nil hf rfl) fun a hf => ?_
  refine q_ hf rfl rfl rfl (e_field hf rfl Tryz.underlying145 rfl Tryz.sizeOf143 (o' := 0) rfl) fun a hf => ?_
  refine pl_0 hf rfl rfl (w_store hf hM (us := [vP b2 0]) (cs' := [vP b2 0, vL A5 (b1) c6]) rfl rfl (k := 0) rfl rfl Tryz.sizeOf143 rfl rfl rfl fun w7 hM => ?_)
  dsimp only [List.set] at hM
  refine pl_nil ?_
  obtain rfl := some_inj h
  exact leave0n hf rfl ⟨(vP b2 0), A5, c6, rfl, hM.fin, (AddrOk.self _)⟩
 refine wp_seq ?_
 refine region_pl ?_
 refine q_ hf rfl rfl rfl (e_move hf rfl) fun a hf => ?_
 refine q_ hf rfl rfl rfl (e_nil hf rfl) fun a hf => ?_
 refine q_ hf rfl rfl rfl (e_field hf rfl Tryz.underlying145 rfl Tryz.sizeOf143 (o' := 0) rfl) fun a hf => ?_
 refine q_ hf rfl rfl rfl (e_load1 hf rfl Tryz.isAgg143 (hM.boxCell (k := 0) rfl rfl)) fun a hf => ?_
 refine q_ hf rfl rfl rfl (e_eqPS hf rfl rfl Tryz.underlying143) fun a hf => ?_
 refine pl_nil ?_
 refine then_n ?_
 refine cond_f hf rfl rfl ?_
 refine wp_seq ?_
 refine region_pl ?_
 refine q_ hf rfl rfl rfl (e_move hf rfl) fun a hf => ?_
 refine q_ hf rfl rfl rfl (e_nil hf rfl) fun a hf => ?_
 refine q_ hf rfl rfl rfl (e_field hf rfl Tryz.underlying145 rfl Tryz.sizeOf143 (o' := 0) rfl) fun a hf => ?_
 refine q_ hf rfl rfl rfl (e_load1 hf rfl Tryz.isAgg143 (hM.boxCell (k := 0) rfl rfl)) fun a hf => ?_
 refine q_ hf rfl rfl rfl (e_move hf rfl) fun a hf => ?_
 refine q_ hf rfl rfl rfl (e_nePS hf (n := 2) rfl rfl Tryz.underlying143 (by kernel_rfl)) fun a hf => ?_
 refine pl_nil ?_
 refine then_n ?_
 refine cond_f hf rfl rfl ?_
 refine wp_skip ?_
 obtain rfl := some_inj h
 exact leave0n hf rfl ⟨(vP b2 0), A5, c6, rfl, hM.fin, (AddrOk.self _)⟩

set_option maxRecDepth 100000 in
set_option maxHeartbeats 4000000 in
theorem r_strings_Builder_WriteString (C : Cx) (b1 : Str) (b2 : Nat) (p3 : Value) (hp4 : AddrOk b2 p3) (A5 : Option Addr) (c6 : Nat) (s7 : Str) (hp8 : s7.length ≤ maxLen) (hO : Mem C C.w0 [.box b2 [p3, vL A5 (b1) c6] 145, .row byteRep A5 c6 5 b1 true] []) (hd : ∀ b, C.S0 b → ¬ ownB [.box b2 [p3, vL A5 (b1) c6] 145, .row byteRep A5 c6 5 b1 true] b) (r : (Int × Unit × Str)) (h : m_strings_Builder_WriteString b1 s7 = some r) :
    Calls Tryz.prog 117 #[vP b2 (0), vS (s7)] C.w0 fun e w => ∃ (p_1 : Value), ∃ (A_1 : Option Addr), ∃ (c_1 : Nat), e = .returned (.tuple #[vI (r.1), .nilIface]) ∧ Mem C w [.box b2 [p_1, vL A_1 (r.2.2) c_1] 145, .row byteRep A_1 c_1 5 r.2.2 true] [] ∧ AddrOk b2 p_1 ∧ R64 r.1 := by
 have hM := hO
 refine enter Tryz.func117 rfl Tryz.ntmps117 rfl fun a hf => ?_
 unfold m_strings_Builder_WriteString at h
 refine wp_seq ?_
 refine region_pl ?_
 iterate 2 refine q_ hf rfl rfl rfl (e_assign hf rfl) fun a hf => ?_
 refine pl_nil ?_
 refine then_n ?_
 refine wp_seq ?_
 refine region_pl ?_
 refine q_ hf rfl rfl rfl (e_move hf rfl) fun a hf => ?_
 have hM : Mem C _ ([.box b2 [p3, vL A5 (b1) c6] 145, .row byteRep A5 c6 5 b1 true] ++ []) _ := hM
 obtain ⟨y9, hz10, h⟩ := bind_some h
 refine pl_l hf rfl rfl rfl (w_call hf Tryz.call153 rfl (r_strings_Builder_copyCheck ⟨_, Sh C _ _, ownB _, hM.sh_lt, sub_dis, C.G, hM.g_lt, hM.g_own, hM.tabs⟩ b1 _ _ hp4 _ _ hM.sub sub_dis _ hz10) ?_)
 rintro _ w15 ⟨p11, A13, c14, rfl, hM2, hv12⟩
 obtain ⟨hM, hup17⟩ := hM.backG hM2
 dsimp only [List.cons_append, List.nil_append] at hM hup17
 clear hM2
 refine ⟨_, rfl, fun a hf => ?_⟩
 refine pl_nil ?_
 refine then_n ?_
 refine wp_seq ?_
 refine region_pl ?_
 iterate 2 refine q_ hf rfl rfl rfl (e_move hf rfl) fun a hf => ?_
 refine q_ hf rfl rfl rfl (e_nil hf rfl) fun a hf => ?_
 refine q_ hf rfl rfl rfl (e_field hf rfl Tryz.underlying145 rfl Tryz.sizeOf138 (o' := 1) rfl) fun a hf => ?_
 refine q_ hf rfl rfl rfl (e_load1 hf rfl Tryz.isAgg138 (hM.boxCell (k := 0) rfl rfl)) fun a hf => ?_
 refine q_ hf rfl rfl rfl (e_move hf rfl) fun a hf => ?_
 obtain ⟨xs18, hz19, h⟩ := bind_some h
 refine pl_l hf rfl rfl rfl (w_appendS hf hM Tryz.underlying138 Tryz.underlying9 (by kernel_rfl) rfl rfl (k := 1) rfl hz19 fun A20 c21 w22 hM a hf => ?_)
 dsimp only [List.set] at hM
 refine q_ hf rfl rfl rfl (e_nil hf rfl) fun a hf => ?_
 refine q_ hf rfl rfl rfl (e_field hf rfl Tryz.underlying145 rfl Tryz.sizeOf138 (o' := 1) rfl) fun a hf => ?_
 refine pl_0 hf rfl rfl (w_store hf hM (us := [vL A20 (xs18) c21]) (cs' := [p11, vL A20 (xs18) c21]) rfl rfl (k := 0) rfl rfl Tryz.sizeOf138 rfl rfl rfl fun w23 hM => ?_)
 dsimp only [List.set] at hM
 refine pl_nil ?_
 refine then_n ?_
 refine wp_seq ?_
 refine region_pl ?_
 refine q_ hf rfl rfl rfl (e_move hf rfl) fun a hf => ?_
 refine q_ hf rfl rfl rfl (e_lenS hf (x := s7) rfl Tryz.underlying9) fun a hf => ?_
 iterate 2 refine q_ hf rfl rfl rfl (e_assign hf rfl) fun a hf => ?_
 refine pl_nil ?_
 refine then_n ?_
 refine wp_ret ?_
 obtain rfl := some_inj h
 exact leave2 hf rfl rfl rfl ⟨p11, A20, c21, rfl, hM.fin, hv12, (R64_len hp8)⟩

set_option maxRecDepth 100000 in
set_option maxHeartbeats 4000000 in
theorem r_strings_Builder_String (C : Cx) (b1 : Str) (b2 : Nat) (p3 : Value) (hp4 : AddrOk b2 p3) (A5 : Option Addr) (c6 : Nat) (hO : Mem C C.w0 [.box b2 [p3, vL A5 (b1) c6] 145, .row byteRep A5 c6 5 b1 true] []) (hd : ∀ b, C.S0 b → ¬ ownB [.box b2 [p3, vL A5 (b1) c6] 145, .row byteRep A5 c6 5 b1 true] b) (r : Str) (h : m_strings_Builder_String b1 = some r) :
    Calls Tryz.prog 119 #[vP b2 (0)] C.w0 fun e w => e = .returned (vS (r)) ∧ Mem C w [] [] ∧ r.length ≤ maxLen := by
 have hM := hO
 refine enter Tryz.func119 rfl Tryz.ntmps119 rfl fun a hf => ?_
 unfold m_strings_Builder_String at h
 refine wp_seq ?_
 refine region_pl ?_
 refine q_ hf rfl rfl rfl (e_assign hf rfl) fun a hf => ?_
 refine pl_nil ?_
 refine then_n ?_
 refine wp_seq ?_
 obtain ⟨w7, hw⟩ : ∃ x, x = C.w0.drew := ⟨_, rfl⟩
 refine region_pi (.q 0 (.q 1 (.q 2 (.q 3 (.q 5 (.q 6 (.q 7 (.q 8 (.q 9 (.l 4 (.l 10 (.q 11 (.nil))))))))))))) (Ext w7) rfl (by kernel_rfl) ?_
 have hM := hM.drew
 rw [← hw] at hM ⊢
 clear hw
 refine pi_q hf rfl rfl rfl rfl (Ext.refl _) (e_move hf rfl) fun a hf => ?_
 refine pi_q hf rfl rfl rfl rfl (Ext.refl _) (e_nil hf rfl) fun a hf => ?_
 refine pi_q hf rfl rfl rfl rfl (Ext.refl _) (e_field hf rfl Tryz.underlying145 rfl Tryz.sizeOf138 (o' := 1) rfl) fun a hf => ?_
 refine pi_q hf rfl rfl rfl rfl (Ext.refl _) (e_load1 hf rfl Tryz.isAgg138 (hM.boxCell (k := 0) rfl rfl)) fun a hf => ?_
 refine pi_q hf rfl rfl rfl rfl (Ext.refl _) (e_move hf rfl) fun a hf => ?_
 refine pi_q hf rfl rfl rfl rfl (Ext.refl _) (e_nil hf rfl) fun a hf => ?_
 refine pi_q hf rfl rfl rfl rfl (Ext.refl _) (e_field hf rfl Tryz.underlying145 rfl Tryz.sizeOf138 (o' := 1) rfl) fun a hf => ?_
 refine pi_q hf rfl rfl rfl rfl (Ext.refl _) (e_load1 hf rfl Tryz.isAgg138 (hM.boxCell (k := 0) rfl rfl)) fun a hf => ?_
 have hl8 := row_len (hM.ownAt (k := 1) rfl)
 refine pi_q hf rfl rfl rfl rfl (Ext.refl _) (e_lenL hf (x := b1) rfl Tryz.underlying138) fun a hf => ?_
 refine pi_one ?_
 refine pi_l hf rfl rfl rfl rfl (w_sliceData hf hM (k := 1) rfl rfl Tryz.underlying170 fun q9 w10 hx11 hM hq12 => ⟨Ext w10, fun _ h => Ext.trans hx11 h, Ext.refl _, fun a hf => ?_⟩)
 refine pi_one ?_
 have hl14 := row_len (hM.ownAt (k := 1) rfl)
 refine pi_z hf rfl rfl rfl rfl (by kernel_rfl) (w_unsafeString hf hM (k := 1) rfl hq12 rfl rfl Tryz.underlying170 (by kernel_rfl) fun w13 hM a hf => ?_)
 dsimp only [List.eraseIdx] at hM
 refine pi_q hf rfl rfl rfl rfl (Ext.refl _) (e_assign hf rfl) fun a hf => ?_
 refine pi_nil ?_
 refine then_n ?_
 refine wp_ret ?_
 obtain rfl := some_inj h
 have hM := hM.outs (own' := []) 0 rfl
 exact leave1 hf rfl rfl ⟨rfl, hM.fin, hl14⟩

set_option maxRecDepth 100000 in
set_option maxHeartbeats 4000000 in
theorem r_impl_RecordText (C : Cx) (r1 : Record) (hp2 : R64 r1.Seed) (A3 : Option Addr) (c4 : Nat) (hp5 : (sliceRep ActionRep).R C.w0 C.S0 r1.Actions [vL A3 r1.Actions c4]) (r : Str) (h : m_impl_RecordText r1 = some r) :
    Calls Tryz.prog 74 #[.agg #[vI (r1.Seed), vL A3 (r1.Actions) c4]] C.w0 fun e w => e = .returned (vS (r)) ∧ Mem C w [] [] ∧ r.length ≤ maxLen := by
 have hM := Mem.begin C [.dat (sliceRep ActionRep) r1.Actions [vL A3 r1.Actions c4]] ⟨hp5, trivial⟩
 refine enter Tryz.func74 rfl Tryz.ntmps74 rfl fun a hf => ?_
 unfold m_impl_RecordText at h
 refine wp_seq ?_
 refine region_pl ?_
 refine pl_l hf rfl rfl rfl (w_box hf hM (cs := [vI (r1.Seed), vL A3 (r1.Actions) c4]) rfl rfl fun b6 w7 hx8 hM a hf => ?_)
 refine q_ hf rfl rfl rfl (e_assign hf rfl) fun a hf => ?_
 refine pl_nil ?_
 refine then_n ?_
 iterate 2 refine wp_seq ?_
 refine region_pl ?_
 refine q_ hf rfl rfl rfl (e_loadA hf (us := [vI (r1.Seed), vL A3 (r1.Actions) c4]) rfl ⟨Tryz.isAgg61, Tryz.sizeOf61⟩ rfl (hM.boxSub (k := 0) (us := [vI (r1.Seed), vL A3 (r1.Actions) c4]) (o := 0) rfl rfl)) fun a hf => ?_
 obtain ⟨y10, hz11, h⟩ := bind_some h
 refine pl_l hf rfl rfl rfl (w_call hf Tryz.call73 rfl (r_impl_ValidRecord ⟨_, Sh C _ _, none_, hM.sh_lt, none_not, C.G, hM.g_lt, g_none, hM.tabs⟩ r1 hp2 _ _ (hM.dat (k := 0) rfl) _ hz11) ?_)
 rintro _ w12 ⟨rfl, hM2⟩
 obtain ⟨hM, hx13, hup14⟩ := hM.back hM2
 dsimp only [List.cons_append, List.nil_append] at hM hup14
 clear hM2
 refine ⟨_, rfl, fun a hf => ?_⟩
 refine q_ hf rfl rfl rfl (e_not hf rfl) fun a hf => ?_
 refine pl_nil ?_
 refine then_n ?_
 rcases cond_some h with ⟨hc15, h⟩ | ⟨hc15, h⟩
 ·refine cond_t hf rfl hc15 ?_
  refine wp_seq ?_
  refine region_pl ?_
  refine q_ hf rfl rfl rfl (e_assign hf rfl) fun a hf => ?_
  refine pl_nil ?_
  refine then_n ?_
  refine wp_ret ?_
  refine then_r ?_
  obtain rfl := some_inj h
  have hM := hM.outs (own' := []) 0 rfl
  exact leave1 hf rfl rfl ⟨rfl, hM.fin, (lit_len rfl)⟩
 refine cond_f hf rfl hc15 ?_
 refine wp_skip ?_
 refine then_n ?_
 refine wp_seq ?_
 refine region_pl ?_
 refine pl_l hf rfl rfl rfl (w_alloc hM (cs := [.pointer none, vL none (([] : Str)) 0]) Tryz.zeroValue145 rfl fun b16 w17 hx18 hM a hf => ?_)
 have hM := hM.nilRow byteRep 5
 refine pl_nil ?_
 refine then_n ?_
 refine wp_seq ?_
 refine region_pl ?_
 refine q_ hf rfl rfl rfl (e_field hf rfl Tryz.underlying61 rfl Tryz.sizeOf2 (o' := 0) rfl) fun a hf => ?_
 refine q_ hf rfl rfl rfl (e_load1 hf rfl Tryz.isAgg2 (hM.boxCell (k := 2) rfl rfl)) fun a hf => ?_
 obtain ⟨y20, hz21, h⟩ := bind_some h
 refine pl_l hf rfl rfl rfl (w_call hf Tryz.call125 rfl (r_impl_Decimal ⟨_, Sh C _ _, none_, hM.sh_lt, none_not, C.G, hM.g_lt, g_none, hM.tabs⟩ r1.Seed hp2 _ hz21) ?_)
 rintro _ w23 ⟨rfl, hM2, hv22⟩
 obtain ⟨hM, hx24, hup25⟩ := hM.back hM2
 dsimp only [List.cons_append, List.nil_append] at hM hup25
 clear hM2
 refine ⟨_, rfl, fun a hf => ?_⟩
 obtain ⟨s26, hz27, h⟩ := bind_some h
 refine q_ hf rfl rfl rfl (e_cat hf (x := ([115, 101, 101, 100, 32] : Str)) (y := y20) rfl rfl hz27) fun a hf => ?_
 obtain ⟨s28, hz29, h⟩ := bind_some h
 refine q_ hf rfl rfl rfl (e_cat hf (x := s26) (y := ([10] : Str)) rfl rfl hz29) fun a hf => ?_
 have hM := hM.front (k := 0) rfl
 dsimp only [List.eraseIdx] at hM
 have hM := hM.front (k := 1) rfl
 dsimp only [List.eraseIdx] at hM
 have hM : Mem C _ ([.box b16 [.pointer none, vL none (([] : Str)) 0] 145, .row byteRep none 0 5 ([] : Str) true] ++ [.box b6 [vI (r1.Seed), vL A3 (r1.Actions) c4] 61]) _ := hM
 obtain ⟨y30, hz31, h⟩ := bind_some h
 refine pl_l hf rfl rfl rfl (w_call hf Tryz.call117 rfl (r_strings_Builder_WriteString ⟨_, Sh C _ _, ownB _, hM.sh_lt, sub_dis, C.G, hM.g_lt, hM.g_own, hM.tabs⟩ ([] : Str) _ _ (AddrOk.nil _) _ _ s28 (cat_len hz29) hM.sub sub_dis _ hz31) ?_)
 rintro _ w37 ⟨p32, A34, c35, rfl, hM2, hv33, hv36⟩
 obtain ⟨hM, hup39⟩ := hM.backG hM2
 dsimp only [List.cons_append, List.nil_append] at hM hup39
 clear hM2
 refine ⟨_, rfl, fun a hf => ?_⟩
 refine pl_nil ?_
 refine then_n ?_
 obtain ⟨x45, h46, h⟩ := bind_some h
 refine seq_join (fun a w => ∃ (xs42 : Str) (p40 : Value) (A43 : Option Addr) (c44 : Nat), xs42 = x45 ∧ Has 28 a [(3, vP b16 (0))] ∧ Mem C w [.box b16 [p40, vL A43 (xs42) c44] 145, .row byteRep A43 c44 5 xs42 true, .box b6 [vI (r1.Seed), vL A3 (r1.Actions) c4] 61] [.dat (sliceRep ActionRep) r1.Actions [vL A3 r1.Actions c4]] ∧ AddrOk b16 p40) ?_ ?_
 ·refine wp_seq ?_
  refine region_pl ?_
  refine q_ hf rfl rfl rfl (e_field hf rfl Tryz.underlying61 rfl Tryz.sizeOf59 (o' := 1) rfl) fun a hf => ?_
  refine q_ hf rfl rfl rfl (e_load1 hf rfl Tryz.isAgg59 (hM.boxCell (k := 2) rfl rfl)) fun a hf => ?_
  have hl47 := slice_len (hM.dat (k := 0) rfl)
  refine q_ hf rfl rfl rfl (e_lenL hf (x := r1.Actions) rfl Tryz.underlying59) fun a hf => ?_
  refine q_ hf rfl rfl rfl (e_move hf rfl) fun a hf => ?_
  refine pl_nil ?_
  refine then_n ?_
  refine wp_block ?_
  obtain ⟨x61, h62, h46⟩ := bind_some h46
  refine wp_loopM h62 (fun s a w => ∃ (xs50 : Str) (n53 : Int) (p48 : Value) (A51 : Option Addr) (c52 : Nat), (xs50, n53) = s ∧ Has 28 a [(3, vP b16 (0)), (16, vL A3 (r1.Actions) c4), (17, vI ((r1.Actions.length : Int))), (18, vI (n53))] ∧ Mem C w [.box b16 [p48, vL A51 (xs50) c52] 145, .row byteRep A51 c52 5 xs50 true, .box b6 [vI (r1.Seed), vL A3 (r1.Actions) c4] 61] [.dat (sliceRep ActionRep) r1.Actions [vL A3 r1.Actions c4]] ∧ AddrOk b16 p48 ∧ R64 n53) ?_ ?_
  ·exact ⟨y30.2.2, 0, p32, A34, c35, rfl, hf.keep ⟨rfl, rfl, rfl, rfl, trivial⟩, hM.pick [0] rfl, hv33, (R64_lit rfl)⟩
  rintro s o63 a w55 ⟨xs50, n53, p48, A51, c52, rfl, hf, hM, hv49, hv54⟩ h64 hd65
  replace h64 : m_impl_RecordText_l1 r1 xs50 n53 = some o63 := h64
  unfold m_impl_RecordText_l1 at h64
  refine wp_seq ?_
  refine region_pl ?_
  refine q_ hf rfl rfl rfl (e_lt hf (x := n53) (y := (r1.Actions.length : Int)) rfl rfl) fun a hf => ?_
  refine pl_nil ?_
  refine then_n ?_
  refine wp_seq ?_
  rcases cond_some h64 with ⟨hc66, h64⟩ | ⟨hc66, h64⟩
  ·refine cond_t hf rfl hc66 ?_
   refine wp_skip ?_
   refine then_n ?_
   refine wp_seq ?_
   refine wp_block ?_
   refine wp_seq ?_
   refine region_pl ?_
   obtain ⟨e67, hz68, h64⟩ := bind_some h64
   obtain ⟨b72, o73, _, hA74, h69, h70, hr71, hM⟩ := hM.elem (hM.dat (k := 0) rfl) (n := 7) rfl hz68
   obtain ⟨rfl, hv75, hv76, hv77, hv78, hv79, hv80⟩ := ActionRep_open hr71
   refine q_ hf rfl rfl rfl (e_indexAddr (A := A3) (b := b72) (o := o73) (xs := r1.Actions) (i := n53) hf hA74 rfl rfl Tryz.underlying59 Tryz.sizeOf55 h69 h70) fun a hf => ?_
   refine q_ hf rfl rfl rfl (e_loadA hf (us := [vI (e67.Kind), vI (e67.Play.Row), vI (e67.Play.Col), .bool (e67.Play.Down), vS (e67.Play.Word), vS (e67.Tiles), vI (e67.Seconds)]) rfl ⟨Tryz.isAgg55, Tryz.sizeOf55⟩ rfl (hM.litSub (k := 0) (d := 0) (us := [vI (e67.Kind), vI (e67.Play.Row), vI (e67.Play.Col), .bool (e67.Play.Down), vS (e67.Play.Word), vS (e67.Tiles), vI (e67.Seconds)]) rfl rfl rfl)) fun a hf => ?_
   refine pl_l hf rfl rfl rfl (w_alloc hM (cs := [vI (0), vI (0), vI (0), .bool (false), vS (([] : Str)), vS (([] : Str)), vI (0)]) Tryz.zeroValue55 rfl fun b81 w82 hx83 hM a hf => ?_)
   refine pl_0 hf rfl rfl (w_store hf hM (us := [vI (e67.Kind), vI (e67.Play.Row), vI (e67.Play.Col), .bool (e67.Play.Down), vS (e67.Play.Word), vS (e67.Tiles), vI (e67.Seconds)]) (cs' := [vI (e67.Kind), vI (e67.Play.Row), vI (e67.Play.Col), .bool (e67.Play.Down), vS (e67.Play.Word), vS (e67.Tiles), vI (e67.Seconds)]) rfl rfl (k := 0) rfl rfl Tryz.sizeOf55 rfl rfl rfl fun w85 hM => ?_)
   dsimp only [List.set] at hM
   refine pl_nil ?_
   refine then_n ?_
   refine region_pl ?_
   refine q_ hf rfl rfl rfl (e_loadA hf (us := [vI (e67.Kind), vI (e67.Play.Row), vI (e67.Play.Col), .bool (e67.Play.Down), vS (e67.Play.Word), vS (e67.Tiles), vI (e67.Seconds)]) rfl ⟨Tryz.isAgg55, Tryz.sizeOf55⟩ rfl (hM.boxSub (k := 0) (us := [vI (e67.Kind), vI (e67.Play.Row), vI (e67.Play.Col), .bool (e67.Play.Down), vS (e67.Play.Word), vS (e67.Tiles), vI (e67.Seconds)]) (o := 0) rfl rfl)) fun a hf => ?_
   obtain ⟨y88, hz89, h64⟩ := bind_some h64
   refine pl_l hf rfl rfl rfl (w_call hf Tryz.call67 rfl (r_impl_ActionText ⟨_, Sh C _ _, none_, hM.sh_lt, none_not, C.G, hM.g_lt, g_none, hM.tabs⟩ e67 hv75 hv76 hv77 hv78 hv79 hv80 _ hz89) ?_)
   rintro _ w91 ⟨rfl, hM2, hv90⟩
   obtain ⟨hM, hx92, hup93⟩ := hM.back hM2
   dsimp only [List.cons_append, List.nil_append] at hM hup93
   clear hM2
   refine ⟨_, rfl, fun a hf => ?_⟩
   obtain ⟨s94, hz95, h64⟩ := bind_some h64
   refine q_ hf rfl rfl rfl (e_cat hf (x := y88) (y := ([10] : Str)) rfl rfl hz95) fun a hf => ?_
   have hM := hM.front (k := 2) rfl
   dsimp only [List.eraseIdx] at hM
   have hM := hM.front (k := 2) rfl
   dsimp only [List.eraseIdx] at hM
   have hM : Mem C _ ([.box b16 [p48, vL A51 (xs50) c52] 145, .row byteRep A51 c52 5 xs50 true] ++ [.box b81 [vI (e67.Kind), vI (e67.Play.Row), vI (e67.Play.Col), .bool (e67.Play.Down), vS (e67.Play.Word), vS (e67.Tiles), vI (e67.Seconds)] 55, .box b6 [vI (r1.Seed), vL A3 (r1.Actions) c4] 61]) _ := hM
   obtain ⟨y96, hz97, h64⟩ := bind_some h64
   refine pl_l hf rfl rfl rfl (w_call hf Tryz.call117 rfl (r_strings_Builder_WriteString ⟨_, Sh C _ _, ownB _, hM.sh_lt, sub_dis, C.G, hM.g_lt, hM.g_own, hM.tabs⟩ xs50 _ _ hv49 _ _ s94 (cat_len hz95) hM.sub sub_dis _ hz97) ?_)
   rintro _ w103 ⟨p98, A100, c101, rfl, hM2, hv99, hv102⟩
   obtain ⟨hM, hup105⟩ := hM.backG hM2
   dsimp only [List.cons_append, List.nil_append] at hM hup105
   clear hM2
   refine ⟨_, rfl, fun a hf => ?_⟩
   refine pl_nil ?_
   refine blk_n ?_
   refine then_n ?_
   refine region_pl ?_
   obtain ⟨z106, hz107, h64⟩ := bind_some h64
   refine q_ hf rfl rfl rfl (e_add hf rfl rfl hz107) fun a hf => ?_
   refine q_ hf rfl rfl rfl (e_move hf rfl) fun a hf => ?_
   refine pl_nil ?_
   obtain rfl := some_inj h64
   refine then_n ⟨_, rfl, ?_⟩
   exact ⟨y96.2.2, z106, p98, A100, c101, rfl, hf.keep ⟨rfl, rfl, rfl, rfl, trivial⟩, (hM.drop (.cons_cons _ (.cons_cons _ (.cons _ (.cons_cons _ .slnil))))).pick [1] rfl, hv99, (chk_R hz107)⟩
  refine cond_f hf rfl hc66 ?_
  refine wp_exit ?_
  refine then_x ?_
  obtain rfl := some_inj h64
  obtain rfl := hd65 _ rfl
  try dsimp only at h46
  refine then_x ?_
  refine exit_hit ?_
  obtain rfl := some_inj h46
  refine then_n ?_
  exact ⟨xs50, p48, A51, c52, rfl, hf.keep ⟨rfl, trivial⟩, hM.pick [0] rfl, hv49⟩
 rintro a w113 ⟨xs42, p40, A43, c44, rfl, hf, hM, hv41⟩
 try dsimp only at h
 refine wp_seq ?_
 refine region_pl ?_
 have hM : Mem C _ ([.box b16 [p40, vL A43 (xs42) c44] 145, .row byteRep A43 c44 5 xs42 true] ++ [.box b6 [vI (r1.Seed), vL A3 (r1.Actions) c4] 61]) _ := hM
 obtain ⟨y114, hz115, h⟩ := bind_some h
 refine pl_l hf rfl rfl rfl (w_call hf Tryz.call119 rfl (r_strings_Builder_String ⟨_, Sh C _ _, ownB _, hM.sh_lt, sub_dis, C.G, hM.g_lt, hM.g_own, hM.tabs⟩ xs42 _ _ hv41 _ _ hM.sub sub_dis _ hz115) ?_)
 rintro _ w117 ⟨rfl, hM2, hv116⟩
 obtain ⟨hM, hup119⟩ := hM.backG hM2
 dsimp only [List.cons_append, List.nil_append] at hM hup119
 clear hM2
 refine ⟨_, rfl, fun a hf => ?_⟩
 refine q_ hf rfl rfl rfl (e_assign hf rfl) fun a hf => ?_
 refine pl_nil ?_
 refine then_n ?_
 refine wp_ret ?_
 obtain rfl := some_inj h
 have hM := hM.outs (own' := []) 0 rfl
 exact leave1 hf rfl rfl ⟨rfl, hM.fin, hv116⟩

set_option maxRecDepth 100000 in
set_option maxHeartbeats 4000000 in
theorem r_impl_ReadRecord (C : Cx) (s1 : Str) (hp2 : s1.length ≤ maxLen) (r : (Record × Bool)) (h : m_impl_ReadRecord s1 = some r) :
    Calls Tryz.prog 31 #[vS (s1)] C.w0 fun e w => ∃ (A_1 : Option Addr), ∃ (c_1 : Nat), e = .returned (.tuple #[.agg #[vI (r.1.Seed), vL A_1 (r.1.Actions) c_1], .bool (r.2)]) ∧ Mem C w [.row ActionRep A_1 c_1 55 r.1.Actions true] [] ∧ R64 r.1.Seed := by
 have hM := Mem.begin C [] trivial
 refine enter Tryz.func31 rfl Tryz.ntmps31 rfl fun a hf => ?_
 unfold m_impl_ReadRecord at h
 refine wp_seq ?_
 refine region_pl ?_
 refine pl_l hf rfl rfl rfl (w_alloc hM (cs := [vI (0), vL none (([] : (List Action))) 0]) Tryz.zeroValue61 rfl fun b3 w4 hx5 hM a hf => ?_)
 refine q_ hf rfl rfl rfl (e_assign hf rfl) fun a hf => ?_
 refine pl_nil ?_
 refine then_n ?_
 refine wp_seq ?_
 refine region_pl ?_
 refine q_ hf rfl rfl rfl (e_move hf rfl) fun a hf => ?_
 obtain ⟨y7, hz8, h⟩ := bind_some h
 refine pl_l hf rfl rfl rfl (w_call hf Tryz.call71 rfl (r_impl_linesOf ⟨_, Sh C _ _, none_, hM.sh_lt, none_not, C.G, hM.g_lt, g_none, hM.tabs⟩ s1 hp2 _ hz8) ?_)
 rintro _ w12 ⟨A9, c10, rfl, hM2, hv11⟩
 obtain ⟨hM, hx13, hup14⟩ := hM.back hM2
 dsimp only [List.cons_append, List.nil_append] at hM hup14
 clear hM2
 have hM := hM.add (y := .dat (sliceRep strRep) y7.1 [vL A9 y7.1 c10]) (hup14 hv11)
 refine ⟨_, rfl, fun a hf => ?_⟩
 refine q_ hf rfl rfl rfl (e_move hf rfl) fun a hf => ?_
 iterate 2 refine q_ hf rfl rfl rfl (e_extract hf rfl rfl) fun a hf => ?_
 iterate 2 refine q_ hf rfl rfl rfl (e_assign hf rfl) fun a hf => ?_
 refine pl_nil ?_
 refine then_n ?_
 refine wp_seq ?_
 obtain ⟨x17, h18, h⟩ := bind_some h
 refine seq_join (fun a w => ∃ (t15 : Bool), t15 = x17 ∧ Has 72 a [(0, vS (s1)), (2, vP b3 (0)), (4, vL A9 (y7.1) c10), (27, .bool (t15))] ∧ Mem C w [.box b3 [vI (0), vL none (([] : (List Action))) 0] 61] [.dat (sliceRep strRep) y7.1 [vL A9 y7.1 c10]]) ?_ ?_
 ·refine region_pl ?_
  refine q_ hf rfl rfl rfl (e_move hf rfl) fun a hf => ?_
  refine q_ hf rfl rfl rfl (e_not hf rfl) fun a hf => ?_
  refine q_ hf rfl rfl rfl (e_move hf rfl) fun a hf => ?_
  rcases cond_some h18 with ⟨hc19, h18⟩ | ⟨hc19, h18⟩
  ·iterate 3 refine pl_gs (wanted_f hf rfl rfl rfl rfl hc19) hf rfl rfl fun a hf => ?_
   refine q_ hf rfl rfl rfl (e_pick_t hf rfl hc19 rfl) fun a hf => ?_
   refine q_ hf rfl rfl rfl (e_move hf rfl) fun a hf => ?_
   iterate 3 refine pl_gs (wanted_f hf rfl rfl rfl rfl rfl) hf rfl rfl fun a hf => ?_
   refine q_ hf rfl rfl rfl (e_pick_t hf rfl rfl rfl) fun a hf => ?_
   refine pl_nil ?_
   obtain rfl := some_inj h18
   refine then_n ?_
   exact ⟨true, rfl, hf.keep ⟨rfl, rfl, rfl, rfl, trivial⟩, hM.pick [0] rfl⟩
  refine gq (wanted_t hf rfl rfl rfl rfl hc19) hf rfl rfl (e_move hf rfl) fun a hf => ?_
  have hl21 := slice_len (hM.dat (k := 0) rfl)
  refine gq (wanted_t hf rfl rfl rfl rfl hc19) hf rfl rfl (e_lenL hf (x := y7.1) rfl Tryz.underlying91) fun a hf => ?_
  refine gq (wanted_t hf rfl rfl rfl rfl hc19) hf rfl rfl (e_eq hf (x := (y7.1.length : Int)) (y := 0) rfl rfl) fun a hf => ?_
  refine q_ hf rfl rfl rfl (e_pick_f hf rfl hc19 rfl) fun a hf => ?_
  refine q_ hf rfl rfl rfl (e_move hf rfl) fun a hf => ?_
  rcases cond_some h18 with ⟨hc22, h18⟩ | ⟨hc22, h18⟩
  ·iterate 3 refine pl_gs (wanted_f hf rfl rfl rfl rfl hc22) hf rfl rfl fun a hf => ?_
   refine q_ hf rfl rfl rfl (e_pick_t hf rfl hc22 rfl) fun a hf => ?_
   refine pl_nil ?_
   obtain rfl := some_inj h18
   refine then_n ?_
   exact ⟨true, rfl, hf.keep ⟨rfl, rfl, rfl, rfl, trivial⟩, hM.pick [0] rfl⟩
  refine gq (wanted_t hf rfl rfl rfl rfl hc22) hf rfl rfl (e_move hf rfl) fun a hf => ?_
  have hl24 := slice_len (hM.dat (k := 0) rfl)
  refine gq (wanted_t hf rfl rfl rfl rfl hc22) hf rfl rfl (e_lenL hf (x := y7.1) rfl Tryz.underlying91) fun a hf => ?_
  refine gq (wanted_t hf rfl rfl rfl rfl hc22) hf rfl rfl (e_gt hf (x := (y7.1.length : Int)) (y := 201) rfl rfl) fun a hf => ?_
  refine q_ hf rfl rfl rfl (e_pick_f hf rfl hc22 rfl) fun a hf => ?_
  refine pl_nil ?_
  obtain rfl := some_inj h18
  refine then_n ?_
  exact ⟨(decide (201 < (y7.1.length : Int))), rfl, hf.keep ⟨rfl, rfl, rfl, rfl, trivial⟩, hM.pick [0] rfl⟩
 rintro a w26 ⟨t15, rfl, hf, hM⟩
 try dsimp only at h
 rcases cond_some h with ⟨hc27, h⟩ | ⟨hc27, h⟩
 ·refine cond_t hf rfl hc27 ?_
  refine wp_seq ?_
  refine region_pl ?_
  refine q_ hf rfl rfl rfl (e_build hf Tryz.zeroValue61 Tryz.underlying61 (bp_61 _ Tryz.underlying61.symm) rfl (cs := #[vI (0), vL none (([] : (List Action))) 0]) (by kernel_rfl)) fun a hf => ?_
  refine pl_0 hf rfl rfl (w_store hf hM (us := [vI (0), vL none (([] : (List Action))) 0]) (cs' := [vI (0), vL none (([] : (List Action))) 0]) rfl rfl (k := 0) rfl rfl Tryz.sizeOf61 rfl rfl rfl fun w28 hM => ?_)
  dsimp only [List.set] at hM
  refine q_ hf rfl rfl rfl (e_assign hf rfl) fun a hf => ?_
  refine pl_nil ?_
  refine then_n ?_
  refine wp_ret ?_
  refine then_r ?_
  obtain rfl := some_inj h
  have hres31 := leaveV2 (P := Tryz.prog) (w := w28) Tryz.results31 (res_agg hf rfl ⟨Tryz.isAgg61, Tryz.sizeOf61⟩ (us := [vI (0), vL none (([] : (List Action))) 0]) rfl (hM.boxSub (k := 0) (o := 0) rfl rfl)) (res_tmp hf rfl)
  have hM := hM.nilRow ActionRep 55
  have hM := hM.outs (own' := [.row ActionRep none 0 55 ([] : (List Action)) true]) 1 rfl
  exact bodyPost_ret hres31 hf.defers ⟨none, 0, rfl, hM.fin, (R64_lit rfl)⟩
 refine cond_f hf rfl hc27 ?_
 refine wp_skip ?_
 refine then_n ?_
 refine wp_seq ?_
 refine region_pl ?_
 refine q_ hf rfl rfl rfl (e_build hf Tryz.zeroValue61 Tryz.underlying61 (bp_61 _ Tryz.underlying61.symm) rfl (cs := #[vI (0), vL none (([] : (List Action))) 0]) (by kernel_rfl)) fun a hf => ?_
 refine pl_l hf rfl rfl rfl (w_alloc hM (cs := [vI (0), vL none (([] : (List Action))) 0]) Tryz.zeroValue61 rfl fun b32 w33 hx34 hM a hf => ?_)
 refine pl_0 hf rfl rfl (w_store hf hM (us := [vI (0), vL none (([] : (List Action))) 0]) (cs' := [vI (0), vL none (([] : (List Action))) 0]) rfl rfl (k := 0) rfl rfl Tryz.sizeOf61 rfl rfl rfl fun w36 hM => ?_)
 dsimp only [List.set] at hM
 refine pl_nil ?_
 refine then_n ?_
 refine wp_seq ?_
 refine region_pl ?_
 refine q_ hf rfl rfl rfl (e_move hf rfl) fun a hf => ?_
 obtain ⟨e39, hz40, h⟩ := bind_some h
 obtain ⟨b44, o45, _, hA46, h41, h42, hr43, hM⟩ := hM.elem (hM.dat (k := 0) rfl) (n := 1) rfl hz40
 obtain ⟨rfl, hv47⟩ := hr43
 refine q_ hf rfl rfl rfl (e_indexAddr (A := A9) (b := b44) (o := o45) (xs := y7.1) (i := 0) hf hA46 rfl rfl Tryz.underlying91 Tryz.sizeOf9 h41 h42) fun a hf => ?_
 refine q_ hf rfl rfl rfl (e_load1 hf rfl Tryz.isAgg9 (hM.litCell (k := 0) (j := 0) rfl rfl rfl)) fun a hf => ?_
 obtain ⟨y48, hz49, h⟩ := bind_some h
 refine pl_l hf rfl rfl rfl (w_call hf Tryz.call72 rfl (r_strings_TrimPrefix ⟨_, Sh C _ _, none_, hM.sh_lt, none_not, C.G, hM.g_lt, g_none, hM.tabs⟩ e39 hv47 ([115, 101, 101, 100, 32] : Str) (lit_len rfl) _ hz49) ?_)
 rintro _ w51 ⟨rfl, hM2, hv50⟩
 obtain ⟨hM, hx52, hup53⟩ := hM.back hM2
 dsimp only [List.cons_append, List.nil_append] at hM hup53
 clear hM2
 refine ⟨_, rfl, fun a hf => ?_⟩
 obtain ⟨y54, hz55, h⟩ := bind_some h
 refine pl_l hf rfl rfl rfl (w_call hf Tryz.call60 rfl (r_impl_ReadDecimal ⟨_, Sh C _ _, none_, hM.sh_lt, none_not, C.G, hM.g_lt, g_none, hM.tabs⟩ y48 hv50 _ hz55) ?_)
 rintro _ w57 ⟨rfl, hM2, hv56⟩
 obtain ⟨hM, hx58, hup59⟩ := hM.back hM2
 dsimp only [List.cons_append, List.nil_append] at hM hup59
 clear hM2
 refine ⟨_, rfl, fun a hf => ?_⟩
 refine q_ hf rfl rfl rfl (e_move hf rfl) fun a hf => ?_
 iterate 2 refine q_ hf rfl rfl rfl (e_extract hf rfl rfl) fun a hf => ?_
 refine q_ hf rfl rfl rfl (e_field hf rfl Tryz.underlying61 rfl Tryz.sizeOf2 (o' := 0) rfl) fun a hf => ?_
 refine pl_0 hf rfl rfl (w_store hf hM (us := [vI (y54.1)]) (cs' := [vI (y54.1), vL none (([] : (List Action))) 0]) rfl rfl (k := 0) rfl rfl Tryz.sizeOf2 rfl rfl rfl fun w60 hM => ?_)
 dsimp only [List.set] at hM
 refine pl_nil ?_
 refine then_n ?_
 obtain ⟨x69, h70, h⟩ := bind_some h
 refine seq_join (fun a w => ∃ (xs63 : (List Action)) (xs66 : (List Action)) (A64 : Option Addr) (c65 : Nat) (A67 : Option Addr) (c68 : Nat), (.inl (xs63, xs66)) = x69 ∧ Has 72 a [(0, vS (s1)), (2, vP b3 (0)), (6, vP b32 (0))] ∧ Mem C w [.row ActionRep A67 c68 55 xs66 true, .row ActionRep A64 c65 55 xs63 true, .box b32 [vI (y54.1), vL A67 (xs66) c68] 61, .box b3 [vI (0), vL A64 (xs63) c65] 61] [.lit b44 (o45 + (0 : Int).toNat * 1) [vS (e39)], .dat (sliceRep strRep) y7.1 [vL A9 y7.1 c10]]) ?_ ?_
 ·refine wp_seq ?_
  refine region_pl ?_
  refine q_ hf rfl rfl rfl (e_move hf rfl) fun a hf => ?_
  obtain ⟨l71, hz72, h70⟩ := bind_some h70
  obtain ⟨A73, hd74, hA75⟩ := sub_rep (hM.dat (k := 1) rfl) hz72
  have hM := hM.add (y := .dat (sliceRep strRep) l71 [vL A73 l71 (c10 - (1 : Int).toNat)]) hd74
  refine q_ hf rfl rfl rfl (e_subLl hf (xs := y7.1) rfl rfl Tryz.underlying91 Tryz.sizeOf9 (slice_cap (hM.dat (k := 2) rfl)) hz72 hA75) fun a hf => ?_
  have hl76 := slice_len (hM.dat (k := 0) rfl)
  refine q_ hf rfl rfl rfl (e_lenL hf (x := l71) rfl Tryz.underlying91) fun a hf => ?_
  refine q_ hf rfl rfl rfl (e_move hf rfl) fun a hf => ?_
  refine pl_nil ?_
  refine then_n ?_
  refine wp_block ?_
  iterate 2 have hM := hM.nilRow ActionRep 55
  obtain ⟨x86, h87, h70⟩ := bind_some h70
  refine wp_loopM h87 (fun s a w => ∃ (xs77 : (List Action)) (n80 : Int) (A78 : Option Addr) (c79 : Nat), (xs77, n80) = s ∧ Has 72 a [(0, vS (s1)), (2, vP b3 (0)), (6, vP b32 (0)), (40, vL A73 (l71) (c10 - (1 : Int).toNat)), (41, vI ((l71.length : Int))), (42, vI (n80))] ∧ Mem C w [.row ActionRep none 0 55 ([] : (List Action)) true, .row ActionRep A78 c79 55 xs77 true, .box b32 [vI (y54.1), vL A78 (xs77) c79] 61, .box b3 [vI (0), vL none (([] : (List Action))) 0] 61] [.dat (sliceRep strRep) l71 [vL A73 l71 (c10 - (1 : Int).toNat)], .lit b44 (o45 + (0 : Int).toNat * 1) [vS (e39)], .dat (sliceRep strRep) y7.1 [vL A9 y7.1 c10]] ∧ R64 n80) ?_ ?_
  ·exact ⟨([] : (List Action)), 0, none, 0, rfl, hf.keep ⟨rfl, rfl, rfl, rfl, rfl, rfl, trivial⟩, hM.pick [0, 1, 2] rfl, (R64_lit rfl)⟩
  rintro s o88 a w82 ⟨xs77, n80, A78, c79, rfl, hf, hM, hv81⟩ h89 hd90
  replace h89 : m_impl_ReadRecord_l1 l71 xs77 n80 = some o88 := h89
  unfold m_impl_ReadRecord_l1 at h89
  refine wp_seq ?_
  refine region_pl ?_
  refine q_ hf rfl rfl rfl (e_lt hf (x := n80) (y := (l71.length : Int)) rfl rfl) fun a hf => ?_
  refine pl_nil ?_
  refine then_n ?_
  refine wp_seq ?_
  rcases cond_some h89 with ⟨hc91, h89⟩ | ⟨hc91, h89⟩
  ·refine cond_t hf rfl hc91 ?_
   refine wp_skip ?_
   refine then_n ?_
   refine wp_seq ?_
   refine wp_block ?_
   refine wp_seq ?_
   refine region_pl ?_
   obtain ⟨e92, hz93, h89⟩ := bind_some h89
   obtain ⟨b97, o98, _, hA99, h94, h95, hr96, hM⟩ := hM.elem (hM.dat (k := 0) rfl) (n := 1) rfl hz93
   obtain ⟨rfl, hv100⟩ := hr96
   refine q_ hf rfl rfl rfl (e_indexAddr (A := A73) (b := b97) (o := o98) (xs := l71) (i := n80) hf hA99 rfl rfl Tryz.underlying91 Tryz.sizeOf9 h94 h95) fun a hf => ?_
   refine q_ hf rfl rfl rfl (e_load1 hf rfl Tryz.isAgg9 (hM.litCell (k := 0) (j := 0) rfl rfl rfl)) fun a hf => ?_
   refine q_ hf rfl rfl rfl (e_assign hf rfl) fun a hf => ?_
   refine pl_nil ?_
   refine then_n ?_
   refine wp_seq ?_
   refine region_pl ?_
   refine q_ hf rfl rfl rfl (e_move hf rfl) fun a hf => ?_
   obtain ⟨y101, hz102, h89⟩ := bind_some h89
   refine pl_l hf rfl rfl rfl (w_call hf Tryz.call28 rfl (r_impl_ReadAction ⟨_, Sh C _ _, none_, hM.sh_lt, none_not, C.G, hM.g_lt, g_none, hM.tabs⟩ e92 hv100 _ hz102) ?_)
   rintro _ w109 ⟨rfl, hM2, hv103, hv104, hv105, hv106, hv107, hv108⟩
   obtain ⟨hM, hx110, hup111⟩ := hM.back hM2
   dsimp only [List.cons_append, List.nil_append] at hM hup111
   clear hM2
   refine ⟨_, rfl, fun a hf => ?_⟩
   refine q_ hf rfl rfl rfl (e_move hf rfl) fun a hf => ?_
   iterate 2 refine q_ hf rfl rfl rfl (e_extract hf rfl rfl) fun a hf => ?_
   refine pl_l hf rfl rfl rfl (w_alloc hM (cs := [vI (0), vI (0), vI (0), .bool (false), vS (([] : Str)), vS (([] : Str)), vI (0)]) Tryz.zeroValue55 rfl fun b112 w113 hx114 hM a hf => ?_)
   refine pl_0 hf rfl rfl (w_store hf hM (us := [vI (y101.1.Kind), vI (y101.1.Play.Row), vI (y101.1.Play.Col), .bool (y101.1.Play.Down), vS (y101.1.Play.Word), vS (y101.1.Tiles), vI (y101.1.Seconds)]) (cs' := [vI (y101.1.Kind), vI (y101.1.Play.Row), vI (y101.1.Play.Col), .bool (y101.1.Play.Down), vS (y101.1.Play.Word), vS (y101.1.Tiles), vI (y101.1.Seconds)]) rfl rfl (k := 0) rfl rfl Tryz.sizeOf55 rfl rfl rfl fun w116 hM => ?_)
   dsimp only [List.set] at hM
   refine q_ hf rfl rfl rfl (e_assign hf rfl) fun a hf => ?_
   refine pl_nil ?_
   refine then_n ?_
   iterate 2 refine wp_seq ?_
   refine region_pl ?_
   refine q_ hf rfl rfl rfl (e_move hf rfl) fun a hf => ?_
   refine q_ hf rfl rfl rfl (e_not hf rfl) fun a hf => ?_
   refine pl_nil ?_
   refine then_n ?_
   rcases cond_some h89 with ⟨hc119, h89⟩ | ⟨hc119, h89⟩
   ·refine cond_t hf rfl hc119 ?_
    refine wp_seq ?_
    refine region_pl ?_
    refine q_ hf rfl rfl rfl (e_build hf Tryz.zeroValue61 Tryz.underlying61 (bp_61 _ Tryz.underlying61.symm) rfl (cs := #[vI (0), vL none (([] : (List Action))) 0]) (by kernel_rfl)) fun a hf => ?_
    refine pl_0 hf rfl rfl (w_store hf hM (us := [vI (0), vL none (([] : (List Action))) 0]) (cs' := [vI (0), vL none (([] : (List Action))) 0]) rfl rfl (k := 4) rfl rfl Tryz.sizeOf61 rfl rfl rfl fun w120 hM => ?_)
    dsimp only [List.set] at hM
    refine q_ hf rfl rfl rfl (e_assign hf rfl) fun a hf => ?_
    refine pl_nil ?_
    refine then_n ?_
    refine wp_ret ?_
    refine then_r ?_
    refine blk_r ?_
    refine then_r ?_
    obtain rfl := some_inj h89
    obtain rfl := hd90 _ rfl
    try dsimp only at h70
    refine then_r ?_
    refine blk_r ?_
    obtain rfl := some_inj h70
    try dsimp only at h
    refine then_r ?_
    obtain rfl := some_inj h
    have hres125 := leaveV2 (P := Tryz.prog) (w := w120) Tryz.results31 (res_agg hf rfl ⟨Tryz.isAgg61, Tryz.sizeOf61⟩ (us := [vI (0), vL none (([] : (List Action))) 0]) rfl (hM.boxSub (k := 4) (o := 0) rfl rfl)) (res_tmp hf rfl)
    have hM := hM.nilRow ActionRep 55
    have hM := hM.outs (own' := [.row ActionRep none 0 55 ([] : (List Action)) true]) 1 rfl
    exact bodyPost_ret hres125 hf.defers ⟨none, 0, rfl, hM.fin, (R64_lit rfl)⟩
   refine cond_f hf rfl hc119 ?_
   refine wp_skip ?_
   refine then_n ?_
   refine region_pl ?_
   refine q_ hf rfl rfl rfl (e_field hf rfl Tryz.underlying61 rfl Tryz.sizeOf59 (o' := 1) rfl) fun a hf => ?_
   refine q_ hf rfl rfl rfl (e_load1 hf rfl Tryz.isAgg59 (hM.boxCell (k := 3) rfl rfl)) fun a hf => ?_
   refine q_ hf rfl rfl rfl (e_loadA hf (us := [vI (y101.1.Kind), vI (y101.1.Play.Row), vI (y101.1.Play.Col), .bool (y101.1.Play.Down), vS (y101.1.Play.Word), vS (y101.1.Tiles), vI (y101.1.Seconds)]) rfl ⟨Tryz.isAgg55, Tryz.sizeOf55⟩ rfl (hM.boxSub (k := 0) (us := [vI (y101.1.Kind), vI (y101.1.Play.Row), vI (y101.1.Play.Col), .bool (y101.1.Play.Down), vS (y101.1.Play.Word), vS (y101.1.Tiles), vI (y101.1.Seconds)]) (o := 0) rfl rfl)) fun a hf => ?_
   refine pl_l hf rfl rfl rfl (w_slice hf hM (K := ActionRep) (xs := ([y101.1] : (List Action))) (os := [.tmp 56]) Tryz.underlying59 ei_55 rfl rfl rfl rfl rfl ⟨⟨[vI (y101.1.Kind), vI (y101.1.Play.Row), vI (y101.1.Play.Col), .bool (y101.1.Play.Down), vS (y101.1.Play.Word), vS (y101.1.Tiles), vI (y101.1.Seconds)], rfl, (ActionRep_mk (x := y101.1) hv103 hv104 hv105 hv106 hv107 hv108)⟩, trivial⟩ rfl fun b126 w127 hx128 hM a hf => ?_)
   obtain ⟨xs129, hz130, h89⟩ := bind_some h89
   refine pl_l hf rfl rfl rfl (w_append hf hM Tryz.underlying59 ei_55 rfl rfl rfl (k := 3) rfl (hM.srcRow (k := 0) rfl) hz130 fun A131 c132 w133 hM a hf => ?_)
   dsimp only [List.set] at hM
   refine q_ hf rfl rfl rfl (e_field hf rfl Tryz.underlying61 rfl Tryz.sizeOf59 (o' := 1) rfl) fun a hf => ?_
   refine pl_0 hf rfl rfl (w_store hf hM (us := [vL A131 (xs129) c132]) (cs' := [vI (y54.1), vL A131 (xs129) c132]) rfl rfl (k := 4) rfl rfl Tryz.sizeOf59 rfl rfl rfl fun w136 hM => ?_)
   dsimp only [List.set] at hM
   refine pl_nil ?_
   refine blk_n ?_
   refine then_n ?_
   refine region_pl ?_
   obtain ⟨z139, hz140, h89⟩ := bind_some h89
   refine q_ hf rfl rfl rfl (e_add hf rfl rfl hz140) fun a hf => ?_
   refine q_ hf rfl rfl rfl (e_move hf rfl) fun a hf => ?_
   refine pl_nil ?_
   obtain rfl := some_inj h89
   refine then_n ⟨_, rfl, ?_⟩
   exact ⟨xs129, z139, A131, c132, rfl, hf.keep ⟨rfl, rfl, rfl, rfl, rfl, rfl, trivial⟩, (hM.drop (.cons _ (.cons _ (.cons_cons _ (.cons_cons _ (.cons_cons _ (.cons_cons _ .slnil))))))).pick [1, 2, 3] rfl, (chk_R hz140)⟩
  refine cond_f hf rfl hc91 ?_
  refine wp_exit ?_
  refine then_x ?_
  obtain rfl := some_inj h89
  obtain rfl := hd90 _ rfl
  try dsimp only at h70
  refine then_x ?_
  refine exit_hit ?_
  obtain rfl := some_inj h70
  refine then_n ?_
  have hM := hM.front (k := 3) rfl
  dsimp only [List.eraseIdx] at hM
  have hM := hM.front (k := 3) rfl
  dsimp only [List.eraseIdx] at hM
  have hM := hM.front (k := 2) rfl
  dsimp only [List.eraseIdx] at hM
  have hM := hM.front (k := 3) rfl
  dsimp only [List.eraseIdx] at hM
  exact ⟨([] : (List Action)), xs77, none, 0, A78, c79, rfl, hf.keep ⟨rfl, rfl, rfl, trivial⟩, hM.pick [1, 2] rfl⟩
 rintro a w147 ⟨xs63, xs66, A64, c65, A67, c68, rfl, hf, hM⟩
 try dsimp only at h
 refine wp_seq ?_
 obtain ⟨x150, h151, h⟩ := bind_some h
 refine seq_join (fun a w => ∃ (t148 : Bool), t148 = x150 ∧ Has 72 a [(2, vP b3 (0)), (6, vP b32 (0)), (69, .bool (t148))] ∧ Mem C w [.row ActionRep A67 c68 55 xs66 true, .row ActionRep A64 c65 55 xs63 true, .box b32 [vI (y54.1), vL A67 (xs66) c68] 61, .box b3 [vI (0), vL A64 (xs63) c65] 61] [.lit b44 (o45 + (0 : Int).toNat * 1) [vS (e39)], .dat (sliceRep strRep) y7.1 [vL A9 y7.1 c10]]) ?_ ?_
 ·refine region_pl ?_
  refine q_ hf rfl rfl rfl (e_loadA hf (us := [vI (y54.1), vL A67 (xs66) c68]) rfl ⟨Tryz.isAgg61, Tryz.sizeOf61⟩ rfl (hM.boxSub (k := 2) (us := [vI (y54.1), vL A67 (xs66) c68]) (o := 0) rfl rfl)) fun a hf => ?_
  obtain ⟨y152, hz153, h151⟩ := bind_some h151
  refine pl_l hf rfl rfl rfl (w_call hf Tryz.call73 rfl (r_impl_ValidRecord ⟨_, All C _ _, none_, hM.all_lt, none_not, C.G, hM.g_lt, g_none, hM.tabs⟩ (⟨y54.1, xs66⟩ : Record) hv56 _ _ (hM.lendRow (k := 0) rfl) _ hz153) ?_)
  rintro _ w154 ⟨rfl, hM2⟩
  obtain ⟨hM, hx155⟩ := hM.backA hM2
  clear hM2
  refine ⟨_, rfl, fun a hf => ?_⟩
  refine q_ hf rfl rfl rfl (e_not hf rfl) fun a hf => ?_
  refine q_ hf rfl rfl rfl (e_move hf rfl) fun a hf => ?_
  rcases cond_some h151 with ⟨hc157, h151⟩ | ⟨hc157, h151⟩
  ·iterate 4 refine pl_gs (wanted_f hf rfl rfl rfl rfl hc157) hf rfl rfl fun a hf => ?_
   refine q_ hf rfl rfl rfl (e_pick_t hf rfl hc157 rfl) fun a hf => ?_
   refine pl_nil ?_
   obtain rfl := some_inj h151
   refine then_n ?_
   exact ⟨true, rfl, hf.keep ⟨rfl, rfl, rfl, trivial⟩, hM.pick [0, 1] rfl⟩
  refine gq (wanted_t hf rfl rfl rfl rfl hc157) hf rfl rfl (e_loadA hf (us := [vI (y54.1), vL A67 (xs66) c68]) rfl ⟨Tryz.isAgg61, Tryz.sizeOf61⟩ rfl (hM.boxSub (k := 2) (us := [vI (y54.1), vL A67 (xs66) c68]) (o := 0) rfl rfl)) fun a hf => ?_
  obtain ⟨y159, hz160, h151⟩ := bind_some h151
  refine pl_gl (wanted_t hf rfl rfl rfl rfl hc157) hf rfl rfl (w_call hf Tryz.call74 rfl (r_impl_RecordText ⟨_, All C _ _, none_, hM.all_lt, none_not, C.G, hM.g_lt, g_none, hM.tabs⟩ (⟨y54.1, xs66⟩ : Record) hv56 _ _ (hM.lendRow (k := 0) rfl) _ hz160) ?_)
  rintro _ w162 ⟨rfl, hM2, hv161⟩
  obtain ⟨hM, hx163⟩ := hM.backA hM2
  clear hM2
  refine ⟨_, rfl, fun a hf => ?_⟩
  refine gq (wanted_t hf rfl rfl rfl rfl hc157) hf rfl rfl (e_move hf rfl) fun a hf => ?_
  refine gq (wanted_t hf rfl rfl rfl rfl hc157) hf rfl rfl (e_neS hf (x := y159) (y := s1) rfl rfl) fun a hf => ?_
  refine q_ hf rfl rfl rfl (e_pick_f hf rfl hc157 rfl) fun a hf => ?_
  refine pl_nil ?_
  obtain rfl := some_inj h151
  refine then_n ?_
  exact ⟨(y159 != s1), rfl, hf.keep ⟨rfl, rfl, rfl, trivial⟩, hM.pick [0, 1] rfl⟩
 rintro a w166 ⟨t148, rfl, hf, hM⟩
 try dsimp only at h
 rcases cond_some h with ⟨hc167, h⟩ | ⟨hc167, h⟩
 ·refine cond_t hf rfl hc167 ?_
  refine wp_seq ?_
  refine region_pl ?_
  refine q_ hf rfl rfl rfl (e_build hf Tryz.zeroValue61 Tryz.underlying61 (bp_61 _ Tryz.underlying61.symm) rfl (cs := #[vI (0), vL none (([] : (List Action))) 0]) (by kernel_rfl)) fun a hf => ?_
  refine pl_0 hf rfl rfl (w_store hf hM (us := [vI (0), vL none (([] : (List Action))) 0]) (cs' := [vI (0), vL none (([] : (List Action))) 0]) rfl rfl (k := 3) rfl rfl Tryz.sizeOf61 rfl rfl rfl fun w168 hM => ?_)
  dsimp only [List.set] at hM
  refine q_ hf rfl rfl rfl (e_assign hf rfl) fun a hf => ?_
  refine pl_nil ?_
  refine then_n ?_
  refine wp_ret ?_
  refine then_r ?_
  obtain rfl := some_inj h
  have hres171 := leaveV2 (P := Tryz.prog) (w := w168) Tryz.results31 (res_agg hf rfl ⟨Tryz.isAgg61, Tryz.sizeOf61⟩ (us := [vI (0), vL none (([] : (List Action))) 0]) rfl (hM.boxSub (k := 3) (o := 0) rfl rfl)) (res_tmp hf rfl)
  have hM := hM.nilRow ActionRep 55
  have hM := hM.outs (own' := [.row ActionRep none 0 55 ([] : (List Action)) true]) 1 rfl
  exact bodyPost_ret hres171 hf.defers ⟨none, 0, rfl, hM.fin, (R64_lit rfl)⟩
 refine cond_f hf rfl hc167 ?_
 refine wp_skip ?_
 refine then_n ?_
 refine wp_seq ?_
 refine region_pl ?_
 refine q_ hf rfl rfl rfl (e_loadA hf (us := [vI (y54.1), vL A67 (xs66) c68]) rfl ⟨Tryz.isAgg61, Tryz.sizeOf61⟩ rfl (hM.boxSub (k := 2) (us := [vI (y54.1), vL A67 (xs66) c68]) (o := 0) rfl rfl)) fun a hf => ?_
 refine pl_0 hf rfl rfl (w_store hf hM (us := [vI (y54.1), vL A67 (xs66) c68]) (cs' := [vI (y54.1), vL A67 (xs66) c68]) rfl rfl (k := 3) rfl rfl Tryz.sizeOf61 rfl rfl rfl fun w172 hM => ?_)
 dsimp only [List.set] at hM
 refine q_ hf rfl rfl rfl (e_assign hf rfl) fun a hf => ?_
 refine pl_nil ?_
 refine then_n ?_
 refine wp_ret ?_
 obtain rfl := some_inj h
 have hres175 := leaveV2 (P := Tryz.prog) (w := w172) Tryz.results31 (res_agg hf rfl ⟨Tryz.isAgg61, Tryz.sizeOf61⟩ (us := [vI (y54.1), vL A67 (xs66) c68]) rfl (hM.boxSub (k := 3) (o := 0) rfl rfl)) (res_tmp hf rfl)
 have hM := hM.outs (own' := [.row ActionRep A67 c68 55 xs66 true]) 1 rfl
 exact bodyPost_ret hres175 hf.defers ⟨A67, c68, rfl, hM.fin, hv56⟩

set_option maxRecDepth 100000 in
set_option maxHeartbeats 4000000 in
theorem r_laws_eqPlay (C : Cx) (a1 : Play) (hp2 : R64 a1.Row) (hp3 : R64 a1.Col) (hp4 : a1.Word.length ≤ maxLen) (b5 : Play) (hp6 : R64 b5.Row) (hp7 : R64 b5.Col) (hp8 : b5.Word.length ≤ maxLen) (r : Bool) (h : m_laws_eqPlay a1 b5 = some r) :
    Calls Tryz.prog 57 #[.agg #[vI (a1.Row), vI (a1.Col), .bool (a1.Down), vS (a1.Word)], .agg #[vI (b5.Row), vI (b5.Col), .bool (b5.Down), vS (b5.Word)]] C.w0 fun e w => e = .returned (.bool (r)) ∧ Mem C w [] [] := by
 have hM := Mem.begin C [] trivial
 refine enter Tryz.func57 rfl Tryz.ntmps57 rfl fun a hf => ?_
 unfold m_laws_eqPlay at h
 refine wp_seq ?_
 refine region_pl ?_
 refine pl_l hf rfl rfl rfl (w_box hf hM (cs := [vI (a1.Row), vI (a1.Col), .bool (a1.Down), vS (a1.Word)]) rfl rfl fun b9 w10 hx11 hM a hf => ?_)
 refine pl_l hf rfl rfl rfl (w_box hf hM (cs := [vI (b5.Row), vI (b5.Col), .bool (b5.Down), vS (b5.Word)]) rfl rfl fun b13 w14 hx15 hM a hf => ?_)
 refine q_ hf rfl rfl rfl (e_assign hf rfl) fun a hf => ?_
 refine pl_nil ?_
 refine then_n ?_
 iterate 2 refine wp_seq ?_
 refine region_pl ?_
 refine q_ hf rfl rfl rfl (e_field hf rfl Tryz.underlying41 rfl Tryz.sizeOf2 (o' := 0) rfl) fun a hf => ?_
 refine q_ hf rfl rfl rfl (e_load1 hf rfl Tryz.isAgg2 (hM.boxCell (k := 1) rfl rfl)) fun a hf => ?_
 refine q_ hf rfl rfl rfl (e_field hf rfl Tryz.underlying41 rfl Tryz.sizeOf2 (o' := 0) rfl) fun a hf => ?_
 refine q_ hf rfl rfl rfl (e_load1 hf rfl Tryz.isAgg2 (hM.boxCell (k := 0) rfl rfl)) fun a hf => ?_
 refine q_ hf rfl rfl rfl (e_ne hf (x := a1.Row) (y := b5.Row) rfl rfl) fun a hf => ?_
 refine pl_nil ?_
 refine then_n ?_
 rcases cond_some h with ⟨hc17, h⟩ | ⟨hc17, h⟩
 ·refine cond_t hf rfl hc17 ?_
  refine wp_seq ?_
  refine region_pl ?_
  refine q_ hf rfl rfl rfl (e_assign hf rfl) fun a hf => ?_
  refine pl_nil ?_
  refine then_n ?_
  refine wp_ret ?_
  refine then_r ?_
  obtain rfl := some_inj h
  have hM := hM.outs (own' := []) 0 rfl
  exact leave1 hf rfl rfl ⟨rfl, hM.fin⟩
 refine cond_f hf rfl hc17 ?_
 refine wp_skip ?_
 refine then_n ?_
 iterate 2 refine wp_seq ?_
 refine region_pl ?_
 refine q_ hf rfl rfl rfl (e_field hf rfl Tryz.underlying41 rfl Tryz.sizeOf2 (o' := 1) rfl) fun a hf => ?_
 refine q_ hf rfl rfl rfl (e_load1 hf rfl Tryz.isAgg2 (hM.boxCell (k := 1) rfl rfl)) fun a hf => ?_
 refine q_ hf rfl rfl rfl (e_field hf rfl Tryz.underlying41 rfl Tryz.sizeOf2 (o' := 1) rfl) fun a hf => ?_
 refine q_ hf rfl rfl rfl (e_load1 hf rfl Tryz.isAgg2 (hM.boxCell (k := 0) rfl rfl)) fun a hf => ?_
 refine q_ hf rfl rfl rfl (e_ne hf (x := a1.Col) (y := b5.Col) rfl rfl) fun a hf => ?_
 refine pl_nil ?_
 refine then_n ?_
 rcases cond_some h with ⟨hc18, h⟩ | ⟨hc18, h⟩
 ·refine cond_t hf rfl hc18 ?_
  refine wp_seq ?_
  refine region_pl ?_
  refine q_ hf rfl rfl rfl (e_assign hf rfl) fun a hf => ?_
  refine pl_nil ?_
  refine then_n ?_
  refine wp_ret ?_
  refine then_r ?_
  obtain rfl := some_inj h
  have hM := hM.outs (own' := []) 0 rfl
  exact leave1 hf rfl rfl ⟨rfl, hM.fin⟩
 refine cond_f hf rfl hc18 ?_
 refine wp_skip ?_
 refine then_n ?_
 iterate 2 refine wp_seq ?_
 refine region_pl ?_
 refine q_ hf rfl rfl rfl (e_field hf rfl Tryz.underlying41 rfl Tryz.sizeOf4 (o' := 2) rfl) fun a hf => ?_
 refine q_ hf rfl rfl rfl (e_load1 hf rfl Tryz.isAgg4 (hM.boxCell (k := 1) rfl rfl)) fun a hf => ?_
 refine q_ hf rfl rfl rfl (e_field hf rfl Tryz.underlying41 rfl Tryz.sizeOf4 (o' := 2) rfl) fun a hf => ?_
 refine q_ hf rfl rfl rfl (e_load1 hf rfl Tryz.isAgg4 (hM.boxCell (k := 0) rfl rfl)) fun a hf => ?_
 refine q_ hf rfl rfl rfl (e_neT hf rfl rfl Tryz.underlying4) fun a hf => ?_
 refine pl_nil ?_
 refine then_n ?_
 rcases cond_some h with ⟨hc19, h⟩ | ⟨hc19, h⟩
 ·refine cond_t hf rfl hc19 ?_
  refine wp_seq ?_
  refine region_pl ?_
  refine q_ hf rfl rfl rfl (e_assign hf rfl) fun a hf => ?_
  refine pl_nil ?_
  refine then_n ?_
  refine wp_ret ?_
  refine then_r ?_
  obtain rfl := some_inj h
  have hM := hM.outs (own' := []) 0 rfl
  exact leave1 hf rfl rfl ⟨rfl, hM.fin⟩
 refine cond_f hf rfl hc19 ?_
 refine wp_skip ?_
 refine then_n ?_
 iterate 2 refine wp_seq ?_
 refine region_pl ?_
 refine q_ hf rfl rfl rfl (e_field hf rfl Tryz.underlying41 rfl Tryz.sizeOf9 (o' := 3) rfl) fun a hf => ?_
 refine q_ hf rfl rfl rfl (e_load1 hf rfl Tryz.isAgg9 (hM.boxCell (k := 1) rfl rfl)) fun a hf => ?_
 refine q_ hf rfl rfl rfl (e_field hf rfl Tryz.underlying41 rfl Tryz.sizeOf9 (o' := 3) rfl) fun a hf => ?_
 refine q_ hf rfl rfl rfl (e_load1 hf rfl Tryz.isAgg9 (hM.boxCell (k := 0) rfl rfl)) fun a hf => ?_
 refine q_ hf rfl rfl rfl (e_neS hf (x := a1.Word) (y := b5.Word) rfl rfl) fun a hf => ?_
 refine pl_nil ?_
 refine then_n ?_
 rcases cond_some h with ⟨hc20, h⟩ | ⟨hc20, h⟩
 ·refine cond_t hf rfl hc20 ?_
  refine wp_seq ?_
  refine region_pl ?_
  refine q_ hf rfl rfl rfl (e_assign hf rfl) fun a hf => ?_
  refine pl_nil ?_
  refine then_n ?_
  refine wp_ret ?_
  refine then_r ?_
  obtain rfl := some_inj h
  have hM := hM.outs (own' := []) 0 rfl
  exact leave1 hf rfl rfl ⟨rfl, hM.fin⟩
 refine cond_f hf rfl hc20 ?_
 refine wp_skip ?_
 refine then_n ?_
 refine wp_seq ?_
 refine region_pl ?_
 refine q_ hf rfl rfl rfl (e_assign hf rfl) fun a hf => ?_
 refine pl_nil ?_
 refine then_n ?_
 refine wp_ret ?_
 obtain rfl := some_inj h
 have hM := hM.outs (own' := []) 0 rfl
 exact leave1 hf rfl rfl ⟨rfl, hM.fin⟩

set_option maxRecDepth 100000 in
set_option maxHeartbeats 4000000 in
theorem r_laws_eqAction (C : Cx) (a1 : Action) (hp2 : R64 a1.Kind) (hp3 : R64 a1.Play.Row) (hp4 : R64 a1.Play.Col) (hp5 : a1.Play.Word.length ≤ maxLen) (hp6 : a1.Tiles.length ≤ maxLen) (hp7 : R64 a1.Seconds) (b8 : Action) (hp9 : R64 b8.Kind) (hp10 : R64 b8.Play.Row) (hp11 : R64 b8.Play.Col) (hp12 : b8.Play.Word.length ≤ maxLen) (hp13 : b8.Tiles.length ≤ maxLen) (hp14 : R64 b8.Seconds) (r : Bool) (h : m_laws_eqAction a1 b8 = some r) :
    Calls Tryz.prog 29 #[.agg #[vI (a1.Kind), vI (a1.Play.Row), vI (a1.Play.Col), .bool (a1.Play.Down), vS (a1.Play.Word), vS (a1.Tiles), vI (a1.Seconds)], .agg #[vI (b8.Kind), vI (b8.Play.Row), vI (b8.Play.Col), .bool (b8.Play.Down), vS (b8.Play.Word), vS (b8.Tiles), vI (b8.Seconds)]] C.w0 fun e w => e = .returned (.bool (r)) ∧ Mem C w [] [] := by
 have hM := Mem.begin C [] trivial
 refine enter Tryz.func29 rfl Tryz.ntmps29 rfl fun a hf => ?_
 unfold m_laws_eqAction at h
 refine wp_seq ?_
 refine region_pl ?_
 refine pl_l hf rfl rfl rfl (w_box hf hM (cs := [vI (a1.Kind), vI (a1.Play.Row), vI (a1.Play.Col), .bool (a1.Play.Down), vS (a1.Play.Word), vS (a1.Tiles), vI (a1.Seconds)]) rfl rfl fun b15 w16 hx17 hM a hf => ?_)
 refine pl_l hf rfl rfl rfl (w_box hf hM (cs := [vI (b8.Kind), vI (b8.Play.Row), vI (b8.Play.Col), .bool (b8.Play.Down), vS (b8.Play.Word), vS (b8.Tiles), vI (b8.Seconds)]) rfl rfl fun b19 w20 hx21 hM a hf => ?_)
 refine q_ hf rfl rfl rfl (e_assign hf rfl) fun a hf => ?_
 refine pl_nil ?_
 refine then_n ?_
 iterate 2 refine wp_seq ?_
 refine region_pl ?_
 refine q_ hf rfl rfl rfl (e_field hf rfl Tryz.underlying55 rfl Tryz.sizeOf2 (o' := 0) rfl) fun a hf => ?_
 refine q_ hf rfl rfl rfl (e_load1 hf rfl Tryz.isAgg2 (hM.boxCell (k := 1) rfl rfl)) fun a hf => ?_
 refine q_ hf rfl rfl rfl (e_field hf rfl Tryz.underlying55 rfl Tryz.sizeOf2 (o' := 0) rfl) fun a hf => ?_
 refine q_ hf rfl rfl rfl (e_load1 hf rfl Tryz.isAgg2 (hM.boxCell (k := 0) rfl rfl)) fun a hf => ?_
 refine q_ hf rfl rfl rfl (e_ne hf (x := a1.Kind) (y := b8.Kind) rfl rfl) fun a hf => ?_
 refine pl_nil ?_
 refine then_n ?_
 rcases cond_some h with ⟨hc23, h⟩ | ⟨hc23, h⟩
 ·refine cond_t hf rfl hc23 ?_
  refine wp_seq ?_
  refine region_pl ?_
  refine q_ hf rfl rfl rfl (e_assign hf rfl) fun a hf => ?_
  refine pl_nil ?_
  refine then_n ?_
  refine wp_ret ?_
  refine then_r ?_
  obtain rfl := some_inj h
  have hM := hM.outs (own' := []) 0 rfl
  exact leave1 hf rfl rfl ⟨rfl, hM.fin⟩
 refine cond_f hf rfl hc23 ?_
 refine wp_skip ?_
 refine then_n ?_
 iterate 2 refine wp_seq ?_
 refine region_pl ?_
 refine q_ hf rfl rfl rfl (e_field hf rfl Tryz.underlying55 rfl Tryz.sizeOf41 (o' := 1) rfl) fun a hf => ?_
 refine q_ hf rfl rfl rfl (e_loadA hf (us := [vI (a1.Play.Row), vI (a1.Play.Col), .bool (a1.Play.Down), vS (a1.Play.Word)]) rfl ⟨Tryz.isAgg41, Tryz.sizeOf41⟩ rfl (hM.boxSub (k := 1) (us := [vI (a1.Play.Row), vI (a1.Play.Col), .bool (a1.Play.Down), vS (a1.Play.Word)]) (o := 1) rfl rfl)) fun a hf => ?_
 refine q_ hf rfl rfl rfl (e_field hf rfl Tryz.underlying55 rfl Tryz.sizeOf41 (o' := 1) rfl) fun a hf => ?_
 refine q_ hf rfl rfl rfl (e_loadA hf (us := [vI (b8.Play.Row), vI (b8.Play.Col), .bool (b8.Play.Down), vS (b8.Play.Word)]) rfl ⟨Tryz.isAgg41, Tryz.sizeOf41⟩ rfl (hM.boxSub (k := 0) (us := [vI (b8.Play.Row), vI (b8.Play.Col), .bool (b8.Play.Down), vS (b8.Play.Word)]) (o := 1) rfl rfl)) fun a hf => ?_
 obtain ⟨y24, hz25, h⟩ := bind_some h
 refine pl_l hf rfl rfl rfl (w_call hf Tryz.call57 rfl (r_laws_eqPlay ⟨_, Sh C _ _, none_, hM.sh_lt, none_not, C.G, hM.g_lt, g_none, hM.tabs⟩ a1.Play hp3 hp4 hp5 b8.Play hp10 hp11 hp12 _ hz25) ?_)
 rintro _ w26 ⟨rfl, hM2⟩
 obtain ⟨hM, hx27, hup28⟩ := hM.back hM2
 dsimp only [List.cons_append, List.nil_append] at hM hup28
 clear hM2
 refine ⟨_, rfl, fun a hf => ?_⟩
 refine q_ hf rfl rfl rfl (e_not hf rfl) fun a hf => ?_
 refine pl_nil ?_
 refine then_n ?_
 rcases cond_some h with ⟨hc29, h⟩ | ⟨hc29, h⟩
 ·refine cond_t hf rfl hc29 ?_
  refine wp_seq ?_
  refine region_pl ?_
  refine q_ hf rfl rfl rfl (e_assign hf rfl) fun a hf => ?_
  refine pl_nil ?_
  refine then_n ?_
  refine wp_ret ?_
  refine then_r ?_
  obtain rfl := some_inj h
  have hM := hM.outs (own' := []) 0 rfl
  exact leave1 hf rfl rfl ⟨rfl, hM.fin⟩
 refine cond_f hf rfl hc29 ?_
 refine wp_skip ?_
 refine then_n ?_
 iterate 2 refine wp_seq ?_
 refine region_pl ?_
 refine q_ hf rfl rfl rfl (e_field hf rfl Tryz.underlying55 rfl Tryz.sizeOf9 (o' := 5) rfl) fun a hf => ?_
 refine q_ hf rfl rfl rfl (e_load1 hf rfl Tryz.isAgg9 (hM.boxCell (k := 1) rfl rfl)) fun a hf => ?_
 refine q_ hf rfl rfl rfl (e_field hf rfl Tryz.underlying55 rfl Tryz.sizeOf9 (o' := 5) rfl) fun a hf => ?_
 refine q_ hf rfl rfl rfl (e_load1 hf rfl Tryz.isAgg9 (hM.boxCell (k := 0) rfl rfl)) fun a hf => ?_
 refine q_ hf rfl rfl rfl (e_neS hf (x := a1.Tiles) (y := b8.Tiles) rfl rfl) fun a hf => ?_
 refine pl_nil ?_
 refine then_n ?_
 rcases cond_some h with ⟨hc30, h⟩ | ⟨hc30, h⟩
 ·refine cond_t hf rfl hc30 ?_
  refine wp_seq ?_
  refine region_pl ?_
  refine q_ hf rfl rfl rfl (e_assign hf rfl) fun a hf => ?_
  refine pl_nil ?_
  refine then_n ?_
  refine wp_ret ?_
  refine then_r ?_
  obtain rfl := some_inj h
  have hM := hM.outs (own' := []) 0 rfl
  exact leave1 hf rfl rfl ⟨rfl, hM.fin⟩
 refine cond_f hf rfl hc30 ?_
 refine wp_skip ?_
 refine then_n ?_
 iterate 2 refine wp_seq ?_
 refine region_pl ?_
 refine q_ hf rfl rfl rfl (e_field hf rfl Tryz.underlying55 rfl Tryz.sizeOf2 (o' := 6) rfl) fun a hf => ?_
 refine q_ hf rfl rfl rfl (e_load1 hf rfl Tryz.isAgg2 (hM.boxCell (k := 1) rfl rfl)) fun a hf => ?_
 refine q_ hf rfl rfl rfl (e_field hf rfl Tryz.underlying55 rfl Tryz.sizeOf2 (o' := 6) rfl) fun a hf => ?_
 refine q_ hf rfl rfl rfl (e_load1 hf rfl Tryz.isAgg2 (hM.boxCell (k := 0) rfl rfl)) fun a hf => ?_
 refine q_ hf rfl rfl rfl (e_ne hf (x := a1.Seconds) (y := b8.Seconds) rfl rfl) fun a hf => ?_
 refine pl_nil ?_
 refine then_n ?_
 rcases cond_some h with ⟨hc31, h⟩ | ⟨hc31, h⟩
 ·refine cond_t hf rfl hc31 ?_
  refine wp_seq ?_
  refine region_pl ?_
  refine q_ hf rfl rfl rfl (e_assign hf rfl) fun a hf => ?_
  refine pl_nil ?_
  refine then_n ?_
  refine wp_ret ?_
  refine then_r ?_
  obtain rfl := some_inj h
  have hM := hM.outs (own' := []) 0 rfl
  exact leave1 hf rfl rfl ⟨rfl, hM.fin⟩
 refine cond_f hf rfl hc31 ?_
 refine wp_skip ?_
 refine then_n ?_
 refine wp_seq ?_
 refine region_pl ?_
 refine q_ hf rfl rfl rfl (e_assign hf rfl) fun a hf => ?_
 refine pl_nil ?_
 refine then_n ?_
 refine wp_ret ?_
 obtain rfl := some_inj h
 have hM := hM.outs (own' := []) 0 rfl
 exact leave1 hf rfl rfl ⟨rfl, hM.fin⟩

set_option maxRecDepth 100000 in
set_option maxHeartbeats 4000000 in
theorem r_laws_eqActionS (C : Cx) (a1 : (List Action)) (A2 : Option Addr) (c3 : Nat) (hp4 : (sliceRep ActionRep).R C.w0 C.S0 a1 [vL A2 a1 c3]) (b5 : (List Action)) (A6 : Option Addr) (c7 : Nat) (hp8 : (sliceRep ActionRep).R C.w0 C.S0 b5 [vL A6 b5 c7]) (r : Bool) (h : m_laws_eqActionS a1 b5 = some r) :
    Calls Tryz.prog 75 #[vL A2 (a1) c3, vL A6 (b5) c7] C.w0 fun e w => e = .returned (.bool (r)) ∧ Mem C w [] [] := by
 have hM := Mem.begin C [.dat (sliceRep ActionRep) b5 [vL A6 b5 c7], .dat (sliceRep ActionRep) a1 [vL A2 a1 c3]] ⟨hp8, hp4, trivial⟩
 refine enter Tryz.func75 rfl Tryz.ntmps75 rfl fun a hf => ?_
 unfold m_laws_eqActionS at h
 refine wp_seq ?_
 refine region_pl ?_
 refine q_ hf rfl rfl rfl (e_assign hf rfl) fun a hf => ?_
 refine pl_nil ?_
 refine then_n ?_
 iterate 2 refine wp_seq ?_
 refine region_pl ?_
 refine q_ hf rfl rfl rfl (e_move hf rfl) fun a hf => ?_
 have hl9 := slice_len (hM.dat (k := 1) rfl)
 refine q_ hf rfl rfl rfl (e_lenL hf (x := a1) rfl Tryz.underlying59) fun a hf => ?_
 refine q_ hf rfl rfl rfl (e_move hf rfl) fun a hf => ?_
 have hl10 := slice_len (hM.dat (k := 0) rfl)
 refine q_ hf rfl rfl rfl (e_lenL hf (x := b5) rfl Tryz.underlying59) fun a hf => ?_
 refine q_ hf rfl rfl rfl (e_ne hf (x := (a1.length : Int)) (y := (b5.length : Int)) rfl rfl) fun a hf => ?_
 refine pl_nil ?_
 refine then_n ?_
 rcases cond_some h with ⟨hc11, h⟩ | ⟨hc11, h⟩
 ·refine cond_t hf rfl hc11 ?_
  refine wp_seq ?_
  refine region_pl ?_
  refine q_ hf rfl rfl rfl (e_assign hf rfl) fun a hf => ?_
  refine pl_nil ?_
  refine then_n ?_
  refine wp_ret ?_
  refine then_r ?_
  obtain rfl := some_inj h
  exact leave1 hf rfl rfl ⟨rfl, hM.fin⟩
 refine cond_f hf rfl hc11 ?_
 refine wp_skip ?_
 refine then_n ?_
 obtain ⟨x12, h13, h⟩ := bind_some h
 refine seq_join (fun a w => (.inl ()) = x12 ∧ Has 27 a [] ∧ Mem C w [] [.dat (sliceRep ActionRep) b5 [vL A6 b5 c7], .dat (sliceRep ActionRep) a1 [vL A2 a1 c3]]) ?_ ?_
 ·refine wp_seq ?_
  refine region_pl ?_
  refine q_ hf rfl rfl rfl (e_assign hf rfl) fun a hf => ?_
  refine pl_nil ?_
  refine then_n ?_
  refine wp_block ?_
  obtain ⟨x17, h18, h13⟩ := bind_some h13
  refine wp_loopM h18 (fun s a w => ∃ (n14 : Int), n14 = s ∧ Has 27 a [(0, vL A2 (a1) c3), (1, vL A6 (b5) c7), (5, vI (n14))] ∧ Mem C w [] [.dat (sliceRep ActionRep) b5 [vL A6 b5 c7], .dat (sliceRep ActionRep) a1 [vL A2 a1 c3]] ∧ R64 n14) ?_ ?_
  ·exact ⟨0, rfl, hf.keep ⟨rfl, rfl, rfl, trivial⟩, hM.pick [0, 1] rfl, (R64_lit rfl)⟩
  rintro s o19 a w16 ⟨n14, rfl, hf, hM, hv15⟩ h20 hd21
  replace h20 : m_laws_eqActionS_l1 a1 b5 n14 = some o19 := h20
  unfold m_laws_eqActionS_l1 at h20
  iterate 2 refine wp_seq ?_
  refine region_pl ?_
  iterate 2 refine q_ hf rfl rfl rfl (e_move hf rfl) fun a hf => ?_
  have hl22 := slice_len (hM.dat (k := 1) rfl)
  refine q_ hf rfl rfl rfl (e_lenL hf (x := a1) rfl Tryz.underlying59) fun a hf => ?_
  refine q_ hf rfl rfl rfl (e_lt hf (x := n14) (y := (a1.length : Int)) rfl rfl) fun a hf => ?_
  refine pl_nil ?_
  refine then_n ?_
  rcases cond_some h20 with ⟨hc23, h20⟩ | ⟨hc23, h20⟩
  ·refine cond_t hf rfl hc23 ?_
   refine wp_skip ?_
   refine then_n ?_
   refine wp_seq ?_
   refine wp_block ?_
   refine wp_seq ?_
   obtain ⟨w24, hw⟩ : ∃ x, x = w16.drew := ⟨_, rfl⟩
   refine region_pi (.q 0 (.q 1 (.q 2 (.q 3 (.q 4 (.q 5 (.q 6 (.q 7 (.l 8 (.q 9 (.nil))))))))))) (Ext w24) rfl (by kernel_rfl) ?_
   have hM := hM.drew
   rw [← hw] at hM ⊢
   clear hw
   iterate 2 refine pi_q hf rfl rfl rfl rfl (Ext.refl _) (e_move hf rfl) fun a hf => ?_
   obtain ⟨e25, hz26, h20⟩ := bind_some h20
   obtain ⟨b30, o31, _, hA32, h27, h28, hr29, hM⟩ := hM.elem (hM.dat (k := 1) rfl) (n := 7) rfl hz26
   obtain ⟨rfl, hv33, hv34, hv35, hv36, hv37, hv38⟩ := ActionRep_open hr29
   refine pi_q hf rfl rfl rfl rfl (Ext.refl _) (e_indexAddr (A := A2) (b := b30) (o := o31) (xs := a1) (i := n14) hf hA32 rfl rfl Tryz.underlying59 Tryz.sizeOf55 h27 h28) fun a hf => ?_
   refine pi_q hf rfl rfl rfl rfl (Ext.refl _) (e_loadA hf (us := [vI (e25.Kind), vI (e25.Play.Row), vI (e25.Play.Col), .bool (e25.Play.Down), vS (e25.Play.Word), vS (e25.Tiles), vI (e25.Seconds)]) rfl ⟨Tryz.isAgg55, Tryz.sizeOf55⟩ rfl (hM.litSub (k := 0) (d := 0) (us := [vI (e25.Kind), vI (e25.Play.Row), vI (e25.Play.Col), .bool (e25.Play.Down), vS (e25.Play.Word), vS (e25.Tiles), vI (e25.Seconds)]) rfl rfl rfl)) fun a hf => ?_
   iterate 2 refine pi_q hf rfl rfl rfl rfl (Ext.refl _) (e_move hf rfl) fun a hf => ?_
   obtain ⟨e39, hz40, h20⟩ := bind_some h20
   obtain ⟨b44, o45, _, hA46, h41, h42, hr43, hM⟩ := hM.elem (hM.dat (k := 1) rfl) (n := 7) rfl hz40
   obtain ⟨rfl, hv47, hv48, hv49, hv50, hv51, hv52⟩ := ActionRep_open hr43
   refine pi_q hf rfl rfl rfl rfl (Ext.refl _) (e_indexAddr (A := A6) (b := b44) (o := o45) (xs := b5) (i := n14) hf hA46 rfl rfl Tryz.underlying59 Tryz.sizeOf55 h41 h42) fun a hf => ?_
   refine pi_q hf rfl rfl rfl rfl (Ext.refl _) (e_loadA hf (us := [vI (e39.Kind), vI (e39.Play.Row), vI (e39.Play.Col), .bool (e39.Play.Down), vS (e39.Play.Word), vS (e39.Tiles), vI (e39.Seconds)]) rfl ⟨Tryz.isAgg55, Tryz.sizeOf55⟩ rfl (hM.litSub (k := 0) (d := 0) (us := [vI (e39.Kind), vI (e39.Play.Row), vI (e39.Play.Col), .bool (e39.Play.Down), vS (e39.Play.Word), vS (e39.Tiles), vI (e39.Seconds)]) rfl rfl rfl)) fun a hf => ?_
   refine pi_one ?_
   obtain ⟨y53, hz54, h20⟩ := bind_some h20
   refine pi_l hf rfl rfl rfl rfl (w_call hf Tryz.call29 rfl (r_laws_eqAction ⟨_, Sh C _ _, none_, hM.sh_lt, none_not, C.G, hM.g_lt, g_none, hM.tabs⟩ e25 hv33 hv34 hv35 hv36 hv37 hv38 e39 hv47 hv48 hv49 hv50 hv51 hv52 _ hz54) ?_)
   rintro _ w55 ⟨rfl, hM2⟩
   obtain ⟨hM, hx56, hup57⟩ := hM.back hM2
   dsimp only [List.cons_append, List.nil_append] at hM hup57
   clear hM2
   refine ⟨_, rfl, Ext w55, fun _ h => Ext.trans hx56 h, Ext.refl _, fun a hf => ?_⟩
   refine pi_q hf rfl rfl rfl rfl (Ext.refl _) (e_not hf rfl) fun a hf => ?_
   refine pi_nil ?_
   refine then_n ?_
   rcases cond_some h20 with ⟨hc58, h20⟩ | ⟨hc58, h20⟩
   ·refine cond_t hf rfl hc58 ?_
    refine wp_seq ?_
    refine region_pl ?_
    refine q_ hf rfl rfl rfl (e_assign hf rfl) fun a hf => ?_
    refine pl_nil ?_
    refine then_n ?_
    refine wp_ret ?_
    refine blk_r ?_
    refine then_r ?_
    obtain rfl := some_inj h20
    obtain rfl := hd21 _ rfl
    try dsimp only at h13
    refine then_r ?_
    refine blk_r ?_
    obtain rfl := some_inj h13
    try dsimp only at h
    refine then_r ?_
    obtain rfl := some_inj h
    exact leave1 hf rfl rfl ⟨rfl, hM.fin⟩
   refine cond_f hf rfl hc58 ?_
   refine wp_skip ?_
   refine blk_n ?_
   refine then_n ?_
   refine region_pl ?_
   refine q_ hf rfl rfl rfl (e_move hf rfl) fun a hf => ?_
   obtain ⟨z59, hz60, h20⟩ := bind_some h20
   refine q_ hf rfl rfl rfl (e_add hf rfl rfl hz60) fun a hf => ?_
   refine q_ hf rfl rfl rfl (e_assign hf rfl) fun a hf => ?_
   refine pl_nil ?_
   obtain rfl := some_inj h20
   refine then_n ⟨_, rfl, ?_⟩
   exact ⟨z59, rfl, hf.keep ⟨rfl, rfl, rfl, trivial⟩, hM.pick [2, 3] rfl, (chk_R hz60)⟩
  refine cond_f hf rfl hc23 ?_
  refine wp_exit ?_
  refine then_x ?_
  obtain rfl := some_inj h20
  obtain rfl := hd21 _ rfl
  try dsimp only at h13
  refine then_x ?_
  refine exit_hit ?_
  obtain rfl := some_inj h13
  refine then_n ?_
  exact ⟨rfl, hf.keep trivial, hM.pick [0, 1] rfl⟩
 rintro a w67 ⟨rfl, hf, hM⟩
 try dsimp only at h
 refine wp_seq ?_
 refine region_pl ?_
 refine q_ hf rfl rfl rfl (e_assign hf rfl) fun a hf => ?_
 refine pl_nil ?_
 refine then_n ?_
 refine wp_ret ?_
 obtain rfl := some_inj h
 exact leave1 hf rfl rfl ⟨rfl, hM.fin⟩

set_option maxRecDepth 100000 in
set_option maxHeartbeats 4000000 in
theorem r_laws_eqRecord (C : Cx) (a1 : Record) (hp2 : R64 a1.Seed) (A3 : Option Addr) (c4 : Nat) (hp5 : (sliceRep ActionRep).R C.w0 C.S0 a1.Actions [vL A3 a1.Actions c4]) (b6 : Record) (hp7 : R64 b6.Seed) (A8 : Option Addr) (c9 : Nat) (hp10 : (sliceRep ActionRep).R C.w0 C.S0 b6.Actions [vL A8 b6.Actions c9]) (r : Bool) (h : m_laws_eqRecord a1 b6 = some r) :
    Calls Tryz.prog 32 #[.agg #[vI (a1.Seed), vL A3 (a1.Actions) c4], .agg #[vI (b6.Seed), vL A8 (b6.Actions) c9]] C.w0 fun e w => e = .returned (.bool (r)) ∧ Mem C w [] [] := by
 have hM := Mem.begin C [.dat (sliceRep ActionRep) b6.Actions [vL A8 b6.Actions c9], .dat (sliceRep ActionRep) a1.Actions [vL A3 a1.Actions c4]] ⟨hp10, hp5, trivial⟩
 refine enter Tryz.func32 rfl Tryz.ntmps32 rfl fun a hf => ?_
 unfold m_laws_eqRecord at h
 refine wp_seq ?_
 refine region_pl ?_
 refine pl_l hf rfl rfl rfl (w_box hf hM (cs := [vI (a1.Seed), vL A3 (a1.Actions) c4]) rfl rfl fun b11 w12 hx13 hM a hf => ?_)
 refine pl_l hf rfl rfl rfl (w_box hf hM (cs := [vI (b6.Seed), vL A8 (b6.Actions) c9]) rfl rfl fun b15 w16 hx17 hM a hf => ?_)
 refine q_ hf rfl rfl rfl (e_assign hf rfl) fun a hf => ?_
 refine pl_nil ?_
 refine then_n ?_
 iterate 2 refine wp_seq ?_
 refine region_pl ?_
 refine q_ hf rfl rfl rfl (e_field hf rfl Tryz.underlying61 rfl Tryz.sizeOf2 (o' := 0) rfl) fun a hf => ?_
 refine q_ hf rfl rfl rfl (e_load1 hf rfl Tryz.isAgg2 (hM.boxCell (k := 1) rfl rfl)) fun a hf => ?_
 refine q_ hf rfl rfl rfl (e_field hf rfl Tryz.underlying61 rfl Tryz.sizeOf2 (o' := 0) rfl) fun a hf => ?_
 refine q_ hf rfl rfl rfl (e_load1 hf rfl Tryz.isAgg2 (hM.boxCell (k := 0) rfl rfl)) fun a hf => ?_
 refine q_ hf rfl rfl rfl (e_ne hf (x := a1.Seed) (y := b6.Seed) rfl rfl) fun a hf => ?_
 refine pl_nil ?_
 refine then_n ?_
 rcases cond_some h with ⟨hc19, h⟩ | ⟨hc19, h⟩
 ·refine cond_t hf rfl hc19 ?_
  refine wp_seq ?_
  refine region_pl ?_
  refine q_ hf rfl rfl rfl (e_assign hf rfl) fun a hf => ?_
  refine pl_nil ?_
  refine then_n ?_
  refine wp_ret ?_
  refine then_r ?_
  obtain rfl := some_inj h
  have hM := hM.outs (own' := []) 0 rfl
  exact leave1 hf rfl rfl ⟨rfl, hM.fin⟩
 refine cond_f hf rfl hc19 ?_
 refine wp_skip ?_
 refine then_n ?_
 iterate 2 refine wp_seq ?_
 refine region_pl ?_
 refine q_ hf rfl rfl rfl (e_field hf rfl Tryz.underlying61 rfl Tryz.sizeOf59 (o' := 1) rfl) fun a hf => ?_
 refine q_ hf rfl rfl rfl (e_load1 hf rfl Tryz.isAgg59 (hM.boxCell (k := 1) rfl rfl)) fun a hf => ?_
 refine q_ hf rfl rfl rfl (e_field hf rfl Tryz.underlying61 rfl Tryz.sizeOf59 (o' := 1) rfl) fun a hf => ?_
 refine q_ hf rfl rfl rfl (e_load1 hf rfl Tryz.isAgg59 (hM.boxCell (k := 0) rfl rfl)) fun a hf => ?_
 obtain ⟨y20, hz21, h⟩ := bind_some h
 refine pl_l hf rfl rfl rfl (w_call hf Tryz.call75 rfl (r_laws_eqActionS ⟨_, Sh C _ _, none_, hM.sh_lt, none_not, C.G, hM.g_lt, g_none, hM.tabs⟩ a1.Actions _ _ (hM.dat (k := 1) rfl) b6.Actions _ _ (hM.dat (k := 0) rfl) _ hz21) ?_)
 rintro _ w22 ⟨rfl, hM2⟩
 obtain ⟨hM, hx23, hup24⟩ := hM.back hM2
 dsimp only [List.cons_append, List.nil_append] at hM hup24
 clear hM2
 refine ⟨_, rfl, fun a hf => ?_⟩
 refine q_ hf rfl rfl rfl (e_not hf rfl) fun a hf => ?_
 refine pl_nil ?_
 refine then_n ?_
 rcases cond_some h with ⟨hc25, h⟩ | ⟨hc25, h⟩
 ·refine cond_t hf rfl hc25 ?_
  refine wp_seq ?_
  refine region_pl ?_
  refine q_ hf rfl rfl rfl (e_assign hf rfl) fun a hf => ?_
  refine pl_nil ?_
  refine then_n ?_
  refine wp_ret ?_
  refine then_r ?_
  obtain rfl := some_inj h
  have hM := hM.outs (own' := []) 0 rfl
  exact leave1 hf rfl rfl ⟨rfl, hM.fin⟩
 refine cond_f hf rfl hc25 ?_
 refine wp_skip ?_
 refine then_n ?_
 refine wp_seq ?_
 refine region_pl ?_
 refine q_ hf rfl rfl rfl (e_assign hf rfl) fun a hf => ?_
 refine pl_nil ?_
 refine then_n ?_
 refine wp_ret ?_
 obtain rfl := some_inj h
 have hM := hM.outs (own' := []) 0 rfl
 exact leave1 hf rfl rfl ⟨rfl, hM.fin⟩

set_option maxRecDepth 100000 in
set_option maxHeartbeats 4000000 in
theorem r_laws_markText (C : Cx) (k1 : Int) (hp2 : R64 k1) (r : Str) (h : m_laws_markText k1 = some r) :
    Calls Tryz.prog 130 #[vI (k1)] C.w0 fun e w => e = .returned (vS (r)) ∧ Mem C w [] [] ∧ r.length ≤ maxLen := by
 have hM := Mem.begin C [] trivial
 refine enter Tryz.func130 rfl Tryz.ntmps130 rfl fun a hf => ?_
 unfold m_laws_markText at h
 refine wp_seq ?_
 refine region_pl ?_
 refine q_ hf rfl rfl rfl (e_assign hf rfl) fun a hf => ?_
 refine pl_nil ?_
 refine then_n ?_
 iterate 2 refine wp_seq ?_
 refine region_pl ?_
 refine q_ hf rfl rfl rfl (e_move hf rfl) fun a hf => ?_
 refine q_ hf rfl rfl rfl (e_le hf (x := k1) (y := 0) rfl rfl) fun a hf => ?_
 refine pl_nil ?_
 refine then_n ?_
 rcases cond_some h with ⟨hc3, h⟩ | ⟨hc3, h⟩
 ·refine cond_t hf rfl hc3 ?_
  refine wp_seq ?_
  refine region_pl ?_
  refine q_ hf rfl rfl rfl (e_assign hf rfl) fun a hf => ?_
  refine pl_nil ?_
  refine then_n ?_
  refine wp_ret ?_
  refine then_r ?_
  obtain rfl := some_inj h
  exact leave1 hf rfl rfl ⟨rfl, hM.fin, (lit_len rfl)⟩
 refine cond_f hf rfl hc3 ?_
 refine wp_skip ?_
 refine then_n ?_
 refine wp_seq ?_
 refine region_pl ?_
 refine q_ hf rfl rfl rfl (e_assign hf rfl) fun a hf => ?_
 refine pl_nil ?_
 refine then_n ?_
 obtain ⟨x6, h7, h⟩ := bind_some h
 refine seq_join (fun a w => ∃ (s4 : Str), s4 = x6 ∧ Has 20 a [(3, vS (s4))] ∧ Mem C w [] [] ∧ s4.length ≤ maxLen) ?_ ?_
 ·refine wp_block ?_
  obtain ⟨x15, h16, h7⟩ := bind_some h7
  refine wp_loopM h16 (fun s a w => ∃ (k8 : Int) (s10 : Str), (k8, s10) = s ∧ Has 20 a [(0, vI (k8)), (3, vS (s10))] ∧ Mem C w [] [] ∧ R64 k8 ∧ s10.length ≤ maxLen) ?_ ?_
  ·exact ⟨k1, ([] : Str), rfl, hf.keep ⟨rfl, rfl, trivial⟩, hM.pick [] rfl, hp2, (lit_len rfl)⟩
  rintro s o17 a w12 ⟨k8, s10, rfl, hf, hM, hv9, hv11⟩ h18 hd19
  replace h18 : m_laws_markText_l1 k8 s10 = some o17 := h18
  unfold m_laws_markText_l1 at h18
  iterate 2 refine wp_seq ?_
  refine region_pl ?_
  refine q_ hf rfl rfl rfl (e_move hf rfl) fun a hf => ?_
  refine q_ hf rfl rfl rfl (e_gt hf (x := k8) (y := 0) rfl rfl) fun a hf => ?_
  refine pl_nil ?_
  refine then_n ?_
  rcases cond_some h18 with ⟨hc20, h18⟩ | ⟨hc20, h18⟩
  ·refine cond_t hf rfl hc20 ?_
   refine wp_skip ?_
   refine then_n ?_
   refine wp_block ?_
   refine wp_seq ?_
   refine region_pl ?_
   refine q_ hf rfl rfl rfl (e_move hf rfl) fun a hf => ?_
   obtain ⟨z21, hz22, h18⟩ := bind_some h18
   refine q_ hf rfl rfl rfl (e_rem hf rfl rfl hz22) fun a hf => ?_
   obtain ⟨z23, hz24, h18⟩ := bind_some h18
   refine q_ hf rfl rfl rfl (e_add hf rfl rfl hz24) fun a hf => ?_
   refine q_ hf rfl rfl rfl (e_convIB hf rfl Tryz.underlying3 Tryz.underlying5) fun a hf => ?_
   refine pl_l hf rfl rfl rfl (w_slice hf hM (K := byteRep) (xs := ([UInt8.ofNat (z23 % 256).toNat] : Str)) (os := [.tmp 11]) Tryz.underlying138 ei_5 rfl rfl rfl rfl rfl ⟨⟨[vB (UInt8.ofNat (z23 % 256).toNat)], rfl, rfl⟩, trivial⟩ rfl fun b25 w26 hx27 hM a hf => ?_)
   have hl28 := row_len (hM.ownAt (k := 0) rfl)
   refine q_ hf rfl rfl rfl (e_bytesStr hf (xs := ([UInt8.ofNat (z23 % 256).toNat] : Str)) rfl Tryz.underlying138 Tryz.underlying5 Tryz.underlying9 (hM.lendRow (k := 0) rfl)) fun a hf => ?_
   refine q_ hf rfl rfl rfl (e_move hf rfl) fun a hf => ?_
   obtain ⟨s29, hz30, h18⟩ := bind_some h18
   refine q_ hf rfl rfl rfl (e_cat hf (x := ([UInt8.ofNat (z23 % 256).toNat] : Str)) (y := s10) rfl rfl hz30) fun a hf => ?_
   refine q_ hf rfl rfl rfl (e_assign hf rfl) fun a hf => ?_
   refine pl_nil ?_
   refine then_n ?_
   refine region_pl ?_
   refine q_ hf rfl rfl rfl (e_move hf rfl) fun a hf => ?_
   obtain ⟨z31, hz32, h18⟩ := bind_some h18
   refine q_ hf rfl rfl rfl (e_quo hf rfl rfl hz32) fun a hf => ?_
   refine q_ hf rfl rfl rfl (e_assign hf rfl) fun a hf => ?_
   refine pl_nil ?_
   refine blk_n ?_
   obtain rfl := some_inj h18
   refine then_n ⟨_, rfl, ?_⟩
   exact ⟨z31, s29, rfl, hf.keep ⟨rfl, rfl, trivial⟩, (hM.drop (.cons _ .slnil)).pick [] rfl, (quoI_R hz32), (cat_len hz30)⟩
  refine cond_f hf rfl hc20 ?_
  refine wp_exit ?_
  refine then_x ?_
  obtain rfl := some_inj h18
  obtain rfl := hd19 _ rfl
  try dsimp only at h7
  refine then_x ?_
  refine exit_hit ?_
  obtain rfl := some_inj h7
  refine then_n ?_
  exact ⟨s10, rfl, hf.keep ⟨rfl, trivial⟩, hM.pick [] rfl, hv11⟩
 rintro a w38 ⟨s4, rfl, hf, hM, hv5⟩
 try dsimp only at h
 refine wp_seq ?_
 refine region_pl ?_
 refine q_ hf rfl rfl rfl (e_move hf rfl) fun a hf => ?_
 obtain ⟨s39, hz40, h⟩ := bind_some h
 refine q_ hf rfl rfl rfl (e_cat hf (x := ([109] : Str)) (y := s4) rfl rfl hz40) fun a hf => ?_
 refine q_ hf rfl rfl rfl (e_assign hf rfl) fun a hf => ?_
 refine pl_nil ?_
 refine then_n ?_
 refine wp_ret ?_
 obtain rfl := some_inj h
 exact leave1 hf rfl rfl ⟨rfl, hM.fin, (cat_len hz40)⟩

set_option maxRecDepth 100000 in
set_option maxHeartbeats 4000000 in
theorem r_laws_markActionS (C : Cx) (a1 : (List Action)) (A2 : Option Addr) (c3 : Nat) (k4 : Int) (hp5 : R64 k4) (hO : Mem C C.w0 [.row ActionRep A2 c3 55 a1 true] []) (hd : ∀ b, C.S0 b → ¬ ownB [.row ActionRep A2 c3 55 a1 true] b) (r : (Int × (List Action))) (h : m_laws_markActionS a1 k4 = some r) :
    Calls Tryz.prog 76 #[vL A2 (a1) c3, vI (k4)] C.w0 fun e w => e = .returned (vI (r.1)) ∧ Mem C w [.row ActionRep A2 c3 55 r.2 true] [] ∧ r.2.length = a1.length ∧ R64 r.1 := by
 have hM := hO
 refine enter Tryz.func76 rfl Tryz.ntmps76 rfl fun a hf => ?_
 unfold m_laws_markActionS at h
 refine wp_seq ?_
 refine region_pl ?_
 refine q_ hf rfl rfl rfl (e_assign hf rfl) fun a hf => ?_
 refine pl_nil ?_
 refine then_n ?_
 obtain ⟨x10, h11, h⟩ := bind_some h
 refine seq_join (fun a w => ∃ (xs6 : (List Action)) (k8 : Int), (xs6, k8) = x10 ∧ Has 70 a [(1, vI (k8))] ∧ Mem C w [.row ActionRep A2 c3 55 xs6 true] [] ∧ xs6.length = a1.length ∧ R64 k8) ?_ ?_
 ·refine wp_seq ?_
  refine region_pl ?_
  refine q_ hf rfl rfl rfl (e_assign hf rfl) fun a hf => ?_
  refine pl_nil ?_
  refine then_n ?_
  refine wp_block ?_
  obtain ⟨x23, h24, h11⟩ := bind_some h11
  refine wp_loopM h24 (fun s a w => ∃ (xs12 : (List Action)) (k14 : Int) (n16 : Int), (xs12, k14, n16) = s ∧ Has 70 a [(0, vL A2 (xs12) c3), (1, vI (k14)), (5, vI (n16))] ∧ Mem C w [.row ActionRep A2 c3 55 xs12 true] [] ∧ xs12.length = a1.length ∧ R64 k14 ∧ R64 n16) ?_ ?_
  ·exact ⟨a1, k4, 0, rfl, hf.keep ⟨rfl, rfl, rfl, trivial⟩, hM.pick [] rfl, rfl, hp5, (R64_lit rfl)⟩
  rintro s o25 a w18 ⟨xs12, k14, n16, rfl, hf, hM, hl13, hv15, hv17⟩ h26 hd27
  replace h26 : m_laws_markActionS_l1 xs12 k14 n16 = some o25 := h26
  unfold m_laws_markActionS_l1 at h26
  iterate 2 refine wp_seq ?_
  refine region_pl ?_
  iterate 2 refine q_ hf rfl rfl rfl (e_move hf rfl) fun a hf => ?_
  have hl28 := row_len (hM.ownAt (k := 0) rfl)
  refine q_ hf rfl rfl rfl (e_lenL hf (x := xs12) rfl Tryz.underlying59) fun a hf => ?_
  refine q_ hf rfl rfl rfl (e_lt hf (x := n16) (y := (xs12.length : Int)) rfl rfl) fun a hf => ?_
  refine pl_nil ?_
  refine then_n ?_
  rcases cond_some h26 with ⟨hc29, h26⟩ | ⟨hc29, h26⟩
  ·refine cond_t hf rfl hc29 ?_
   refine wp_skip ?_
   refine then_n ?_
   refine wp_seq ?_
   refine wp_block ?_
   refine wp_seq ?_
   refine region_pl ?_
   iterate 3 refine q_ hf rfl rfl rfl (e_move hf rfl) fun a hf => ?_
   obtain ⟨e30, hz31, h26⟩ := bind_some h26
   obtain ⟨b36, _, hA37, h32, h33, hr34, hcell35⟩ := hM.rowElemN (k := 0) rfl (n := 7) rfl hz31
   obtain ⟨rfl, hv38, hv39, hv40, hv41, hv42, hv43⟩ := ActionRep_open hr34
   refine q_ hf rfl rfl rfl (e_indexAddr (A := A2) (b := b36) (o := 0) (xs := xs12) (i := n16) hf hA37 rfl rfl Tryz.underlying59 Tryz.sizeOf55 h32 h33) fun a hf => ?_
   refine q_ hf rfl rfl rfl (e_field hf rfl Tryz.underlying55 rfl Tryz.sizeOf2 (o' := (0 + (n16 : Int).toNat * 7) + 0) rfl) fun a hf => ?_
   obtain ⟨xs45, hz46, h26⟩ := bind_some h26
   refine pl_0 hf rfl rfl (w_storePart hf hM (x := (⟨k14, ⟨e30.Play.Row, e30.Play.Col, e30.Play.Down, e30.Play.Word⟩, e30.Tiles, e30.Seconds⟩ : Action)) (us := [vI (k14)]) (row := [vI (e30.Kind), vI (e30.Play.Row), vI (e30.Play.Col), .bool (e30.Play.Down), vS (e30.Play.Word), vS (e30.Tiles), vI (e30.Seconds)]) (i := n16) (d := 0) rfl rfl rfl hA37 (k := 0) rfl rfl Tryz.sizeOf2 hcell35 (ActionRep_mk (x := (⟨k14, ⟨e30.Play.Row, e30.Play.Col, e30.Play.Down, e30.Play.Word⟩, e30.Tiles, e30.Seconds⟩ : Action)) hv15 hv39 hv40 hv41 hv42 hv43) hz46 rfl rfl fun w44 hM => ?_)
   dsimp only [List.set] at hM
   have hf := hf.alter (d := 0) (v := vL A2 (xs45) c3) rfl (vL_len (setL_len hz46))
   have hf := hf.alter (d := 7) (v := vL A2 (xs45) c3) rfl (vL_len (setL_len hz46))
   have hf := hf.alter (d := 12) (v := vL A2 (xs45) c3) rfl (vL_len (setL_len hz46))
   refine pl_nil ?_
   refine then_n ?_
   refine wp_seq ?_
   refine region_pl ?_
   refine q_ hf rfl rfl rfl (e_move hf rfl) fun a hf => ?_
   obtain ⟨z47, hz48, h26⟩ := bind_some h26
   refine q_ hf rfl rfl rfl (e_add hf rfl rfl hz48) fun a hf => ?_
   refine q_ hf rfl rfl rfl (e_assign hf rfl) fun a hf => ?_
   refine pl_nil ?_
   refine then_n ?_
   refine wp_seq ?_
   refine region_pl ?_
   iterate 3 refine q_ hf rfl rfl rfl (e_move hf rfl) fun a hf => ?_
   obtain ⟨e49, hz50, h26⟩ := bind_some h26
   obtain ⟨b55, _, hA56, h51, h52, hr53, hcell54⟩ := hM.rowElemN (k := 0) rfl (n := 7) rfl hz50
   obtain ⟨rfl, hv57, hv58, hv59, hv60, hv61, hv62⟩ := ActionRep_open hr53
   refine q_ hf rfl rfl rfl (e_indexAddr (A := A2) (b := b55) (o := 0) (xs := xs45) (i := n16) hf hA56 rfl rfl Tryz.underlying59 Tryz.sizeOf55 h51 h52) fun a hf => ?_
   refine q_ hf rfl rfl rfl (e_field hf rfl Tryz.underlying55 rfl Tryz.sizeOf41 (o' := (0 + (n16 : Int).toNat * 7) + 1) rfl) fun a hf => ?_
   refine q_ hf rfl rfl rfl (e_field hf rfl Tryz.underlying41 rfl Tryz.sizeOf2 (o' := ((0 + (n16 : Int).toNat * 7) + 1) + 0) rfl) fun a hf => ?_
   obtain ⟨xs64, hz65, h26⟩ := bind_some h26
   refine pl_0 hf rfl rfl (w_storePart hf hM (x := (⟨e49.Kind, ⟨z47, e49.Play.Col, e49.Play.Down, e49.Play.Word⟩, e49.Tiles, e49.Seconds⟩ : Action)) (us := [vI (z47)]) (row := [vI (e49.Kind), vI (e49.Play.Row), vI (e49.Play.Col), .bool (e49.Play.Down), vS (e49.Play.Word), vS (e49.Tiles), vI (e49.Seconds)]) (i := n16) (d := 1) rfl rfl rfl hA56 (k := 0) rfl rfl Tryz.sizeOf2 hcell54 (ActionRep_mk (x := (⟨e49.Kind, ⟨z47, e49.Play.Col, e49.Play.Down, e49.Play.Word⟩, e49.Tiles, e49.Seconds⟩ : Action)) hv57 (chk_R hz48) hv59 hv60 hv61 hv62) hz65 rfl rfl fun w63 hM => ?_)
   dsimp only [List.set] at hM
   have hf := hf.alter (d := 0) (v := vL A2 (xs64) c3) rfl (vL_len (setL_len hz65))
   have hf := hf.alter (d := 7) (v := vL A2 (xs64) c3) rfl (vL_len (setL_len hz65))
   have hf := hf.alter (d := 12) (v := vL A2 (xs64) c3) rfl (vL_len (setL_len hz65))
   have hf := hf.alter (d := 19) (v := vL A2 (xs64) c3) rfl (vL_len (setL_len hz65))
   refine pl_nil ?_
   refine then_n ?_
   refine wp_seq ?_
   refine region_pl ?_
   refine q_ hf rfl rfl rfl (e_move hf rfl) fun a hf => ?_
   obtain ⟨z66, hz67, h26⟩ := bind_some h26
   refine q_ hf rfl rfl rfl (e_add hf rfl rfl hz67) fun a hf => ?_
   refine q_ hf rfl rfl rfl (e_assign hf rfl) fun a hf => ?_
   refine pl_nil ?_
   refine then_n ?_
   refine wp_seq ?_
   refine region_pl ?_
   iterate 3 refine q_ hf rfl rfl rfl (e_move hf rfl) fun a hf => ?_
   obtain ⟨e68, hz69, h26⟩ := bind_some h26
   obtain ⟨b74, _, hA75, h70, h71, hr72, hcell73⟩ := hM.rowElemN (k := 0) rfl (n := 7) rfl hz69
   obtain ⟨rfl, hv76, hv77, hv78, hv79, hv80, hv81⟩ := ActionRep_open hr72
   refine q_ hf rfl rfl rfl (e_indexAddr (A := A2) (b := b74) (o := 0) (xs := xs64) (i := n16) hf hA75 rfl rfl Tryz.underlying59 Tryz.sizeOf55 h70 h71) fun a hf => ?_
   refine q_ hf rfl rfl rfl (e_field hf rfl Tryz.underlying55 rfl Tryz.sizeOf41 (o' := (0 + (n16 : Int).toNat * 7) + 1) rfl) fun a hf => ?_
   refine q_ hf rfl rfl rfl (e_field hf rfl Tryz.underlying41 rfl Tryz.sizeOf2 (o' := ((0 + (n16 : Int).toNat * 7) + 1) + 1) rfl) fun a hf => ?_
   obtain ⟨xs83, hz84, h26⟩ := bind_some h26
   refine pl_0 hf rfl rfl (w_storePart hf hM (x := (⟨e68.Kind, ⟨e68.Play.Row, z66, e68.Play.Down, e68.Play.Word⟩, e68.Tiles, e68.Seconds⟩ : Action)) (us := [vI (z66)]) (row := [vI (e68.Kind), vI (e68.Play.Row), vI (e68.Play.Col), .bool (e68.Play.Down), vS (e68.Play.Word), vS (e68.Tiles), vI (e68.Seconds)]) (i := n16) (d := 2) rfl rfl rfl hA75 (k := 0) rfl rfl Tryz.sizeOf2 hcell73 (ActionRep_mk (x := (⟨e68.Kind, ⟨e68.Play.Row, z66, e68.Play.Down, e68.Play.Word⟩, e68.Tiles, e68.Seconds⟩ : Action)) hv76 hv77 (chk_R hz67) hv79 hv80 hv81) hz84 rfl rfl fun w82 hM => ?_)
   dsimp only [List.set] at hM
   have hf := hf.alter (d := 0) (v := vL A2 (xs83) c3) rfl (vL_len (setL_len hz84))
   have hf := hf.alter (d := 7) (v := vL A2 (xs83) c3) rfl (vL_len (setL_len hz84))
   have hf := hf.alter (d := 12) (v := vL A2 (xs83) c3) rfl (vL_len (setL_len hz84))
   have hf := hf.alter (d := 19) (v := vL A2 (xs83) c3) rfl (vL_len (setL_len hz84))
   have hf := hf.alter (d := 27) (v := vL A2 (xs83) c3) rfl (vL_len (setL_len hz84))
   refine pl_nil ?_
   refine then_n ?_
   refine wp_seq ?_
   refine region_pl ?_
   refine q_ hf rfl rfl rfl (e_move hf rfl) fun a hf => ?_
   obtain ⟨z85, hz86, h26⟩ := bind_some h26
   refine q_ hf rfl rfl rfl (e_add hf rfl rfl hz86) fun a hf => ?_
   refine q_ hf rfl rfl rfl (e_assign hf rfl) fun a hf => ?_
   refine pl_nil ?_
   refine then_n ?_
   refine wp_seq ?_
   refine region_pl ?_
   iterate 3 refine q_ hf rfl rfl rfl (e_move hf rfl) fun a hf => ?_
   obtain ⟨z87, hz88, h26⟩ := bind_some h26
   refine q_ hf rfl rfl rfl (e_rem hf rfl rfl hz88) fun a hf => ?_
   refine q_ hf rfl rfl rfl (e_eq hf (x := z87) (y := 0) rfl rfl) fun a hf => ?_
   obtain ⟨e89, hz90, h26⟩ := bind_some h26
   obtain ⟨b95, _, hA96, h91, h92, hr93, hcell94⟩ := hM.rowElemN (k := 0) rfl (n := 7) rfl hz90
   obtain ⟨rfl, hv97, hv98, hv99, hv100, hv101, hv102⟩ := ActionRep_open hr93
   refine q_ hf rfl rfl rfl (e_indexAddr (A := A2) (b := b95) (o := 0) (xs := xs83) (i := n16) hf hA96 rfl rfl Tryz.underlying59 Tryz.sizeOf55 h91 h92) fun a hf => ?_
   refine q_ hf rfl rfl rfl (e_field hf rfl Tryz.underlying55 rfl Tryz.sizeOf41 (o' := (0 + (n16 : Int).toNat * 7) + 1) rfl) fun a hf => ?_
   refine q_ hf rfl rfl rfl (e_field hf rfl Tryz.underlying41 rfl Tryz.sizeOf4 (o' := ((0 + (n16 : Int).toNat * 7) + 1) + 2) rfl) fun a hf => ?_
   obtain ⟨xs104, hz105, h26⟩ := bind_some h26
   refine pl_0 hf rfl rfl (w_storePart hf hM (x := (⟨e89.Kind, ⟨e89.Play.Row, e89.Play.Col, z87 == 0, e89.Play.Word⟩, e89.Tiles, e89.Seconds⟩ : Action)) (us := [.bool (z87 == 0)]) (row := [vI (e89.Kind), vI (e89.Play.Row), vI (e89.Play.Col), .bool (e89.Play.Down), vS (e89.Play.Word), vS (e89.Tiles), vI (e89.Seconds)]) (i := n16) (d := 3) rfl rfl rfl hA96 (k := 0) rfl rfl Tryz.sizeOf4 hcell94 (ActionRep_mk (x := (⟨e89.Kind, ⟨e89.Play.Row, e89.Play.Col, z87 == 0, e89.Play.Word⟩, e89.Tiles, e89.Seconds⟩ : Action)) hv97 hv98 hv99 hv100 hv101 hv102) hz105 rfl rfl fun w103 hM => ?_)
   dsimp only [List.set] at hM
   have hf := hf.alter (d := 0) (v := vL A2 (xs104) c3) rfl (vL_len (setL_len hz105))
   have hf := hf.alter (d := 7) (v := vL A2 (xs104) c3) rfl (vL_len (setL_len hz105))
   have hf := hf.alter (d := 12) (v := vL A2 (xs104) c3) rfl (vL_len (setL_len hz105))
   have hf := hf.alter (d := 19) (v := vL A2 (xs104) c3) rfl (vL_len (setL_len hz105))
   have hf := hf.alter (d := 27) (v := vL A2 (xs104) c3) rfl (vL_len (setL_len hz105))
   have hf := hf.alter (d := 35) (v := vL A2 (xs104) c3) rfl (vL_len (setL_len hz105))
   refine pl_nil ?_
   refine then_n ?_
   refine wp_seq ?_
   refine region_pl ?_
   refine q_ hf rfl rfl rfl (e_move hf rfl) fun a hf => ?_
   obtain ⟨z106, hz107, h26⟩ := bind_some h26
   refine q_ hf rfl rfl rfl (e_add hf rfl rfl hz107) fun a hf => ?_
   refine q_ hf rfl rfl rfl (e_assign hf rfl) fun a hf => ?_
   refine pl_nil ?_
   refine then_n ?_
   refine wp_seq ?_
   refine region_pl ?_
   iterate 3 refine q_ hf rfl rfl rfl (e_move hf rfl) fun a hf => ?_
   obtain ⟨y108, hz109, h26⟩ := bind_some h26
   refine pl_l hf rfl rfl rfl (w_call hf Tryz.call130 rfl (r_laws_markText ⟨_, Sh C _ _, none_, hM.sh_lt, none_not, C.G, hM.g_lt, g_none, hM.tabs⟩ z106 (chk_R hz107) _ hz109) ?_)
   rintro _ w111 ⟨rfl, hM2, hv110⟩
   obtain ⟨hM, hx112, hup113⟩ := hM.back hM2
   dsimp only [List.cons_append, List.nil_append] at hM hup113
   clear hM2
   refine ⟨_, rfl, fun a hf => ?_⟩
   obtain ⟨e114, hz115, h26⟩ := bind_some h26
   obtain ⟨b120, _, hA121, h116, h117, hr118, hcell119⟩ := hM.rowElemN (k := 0) rfl (n := 7) rfl hz115
   obtain ⟨rfl, hv122, hv123, hv124, hv125, hv126, hv127⟩ := ActionRep_open hr118
   refine q_ hf rfl rfl rfl (e_indexAddr (A := A2) (b := b120) (o := 0) (xs := xs104) (i := n16) hf hA121 rfl rfl Tryz.underlying59 Tryz.sizeOf55 h116 h117) fun a hf => ?_
   refine q_ hf rfl rfl rfl (e_field hf rfl Tryz.underlying55 rfl Tryz.sizeOf41 (o' := (0 + (n16 : Int).toNat * 7) + 1) rfl) fun a hf => ?_
   refine q_ hf rfl rfl rfl (e_field hf rfl Tryz.underlying41 rfl Tryz.sizeOf9 (o' := ((0 + (n16 : Int).toNat * 7) + 1) + 3) rfl) fun a hf => ?_
   obtain ⟨xs129, hz130, h26⟩ := bind_some h26
   refine pl_0 hf rfl rfl (w_storePart hf hM (x := (⟨e114.Kind, ⟨e114.Play.Row, e114.Play.Col, e114.Play.Down, y108⟩, e114.Tiles, e114.Seconds⟩ : Action)) (us := [vS (y108)]) (row := [vI (e114.Kind), vI (e114.Play.Row), vI (e114.Play.Col), .bool (e114.Play.Down), vS (e114.Play.Word), vS (e114.Tiles), vI (e114.Seconds)]) (i := n16) (d := 4) rfl rfl rfl hA121 (k := 0) rfl rfl Tryz.sizeOf9 hcell119 (ActionRep_mk (x := (⟨e114.Kind, ⟨e114.Play.Row, e114.Play.Col, e114.Play.Down, y108⟩, e114.Tiles, e114.Seconds⟩ : Action)) hv122 hv123 hv124 hv110 hv126 hv127) hz130 rfl rfl fun w128 hM => ?_)
   dsimp only [List.set] at hM
   have hf := hf.alter (d := 0) (v := vL A2 (xs129) c3) rfl (vL_len (setL_len hz130))
   have hf := hf.alter (d := 7) (v := vL A2 (xs129) c3) rfl (vL_len (setL_len hz130))
   have hf := hf.alter (d := 12) (v := vL A2 (xs129) c3) rfl (vL_len (setL_len hz130))
   have hf := hf.alter (d := 19) (v := vL A2 (xs129) c3) rfl (vL_len (setL_len hz130))
   have hf := hf.alter (d := 27) (v := vL A2 (xs129) c3) rfl (vL_len (setL_len hz130))
   have hf := hf.alter (d := 35) (v := vL A2 (xs129) c3) rfl (vL_len (setL_len hz130))
   have hf := hf.alter (d := 45) (v := vL A2 (xs129) c3) rfl (vL_len (setL_len hz130))
   refine pl_nil ?_
   refine then_n ?_
   refine wp_seq ?_
   refine region_pl ?_
   refine q_ hf rfl rfl rfl (e_move hf rfl) fun a hf => ?_
   obtain ⟨z131, hz132, h26⟩ := bind_some h26
   refine q_ hf rfl rfl rfl (e_add hf rfl rfl hz132) fun a hf => ?_
   refine q_ hf rfl rfl rfl (e_assign hf rfl) fun a hf => ?_
   refine pl_nil ?_
   refine then_n ?_
   refine wp_seq ?_
   refine region_pl ?_
   iterate 3 refine q_ hf rfl rfl rfl (e_move hf rfl) fun a hf => ?_
   obtain ⟨y133, hz134, h26⟩ := bind_some h26
   refine pl_l hf rfl rfl rfl (w_call hf Tryz.call130 rfl (r_laws_markText ⟨_, Sh C _ _, none_, hM.sh_lt, none_not, C.G, hM.g_lt, g_none, hM.tabs⟩ z131 (chk_R hz132) _ hz134) ?_)
   rintro _ w136 ⟨rfl, hM2, hv135⟩
   obtain ⟨hM, hx137, hup138⟩ := hM.back hM2
   dsimp only [List.cons_append, List.nil_append] at hM hup138
   clear hM2
   refine ⟨_, rfl, fun a hf => ?_⟩
   obtain ⟨e139, hz140, h26⟩ := bind_some h26
   obtain ⟨b145, _, hA146, h141, h142, hr143, hcell144⟩ := hM.rowElemN (k := 0) rfl (n := 7) rfl hz140
   obtain ⟨rfl, hv147, hv148, hv149, hv150, hv151, hv152⟩ := ActionRep_open hr143
   refine q_ hf rfl rfl rfl (e_indexAddr (A := A2) (b := b145) (o := 0) (xs := xs129) (i := n16) hf hA146 rfl rfl Tryz.underlying59 Tryz.sizeOf55 h141 h142) fun a hf => ?_
   refine q_ hf rfl rfl rfl (e_field hf rfl Tryz.underlying55 rfl Tryz.sizeOf9 (o' := (0 + (n16 : Int).toNat * 7) + 5) rfl) fun a hf => ?_
   obtain ⟨xs154, hz155, h26⟩ := bind_some h26
   refine pl_0 hf rfl rfl (w_storePart hf hM (x := (⟨e139.Kind, ⟨e139.Play.Row, e139.Play.Col, e139.Play.Down, e139.Play.Word⟩, y133, e139.Seconds⟩ : Action)) (us := [vS (y133)]) (row := [vI (e139.Kind), vI (e139.Play.Row), vI (e139.Play.Col), .bool (e139.Play.Down), vS (e139.Play.Word), vS (e139.Tiles), vI (e139.Seconds)]) (i := n16) (d := 5) rfl rfl rfl hA146 (k := 0) rfl rfl Tryz.sizeOf9 hcell144 (ActionRep_mk (x := (⟨e139.Kind, ⟨e139.Play.Row, e139.Play.Col, e139.Play.Down, e139.Play.Word⟩, y133, e139.Seconds⟩ : Action)) hv147 hv148 hv149 hv150 hv135 hv152) hz155 rfl rfl fun w153 hM => ?_)
   dsimp only [List.set] at hM
   have hf := hf.alter (d := 0) (v := vL A2 (xs154) c3) rfl (vL_len (setL_len hz155))
   have hf := hf.alter (d := 7) (v := vL A2 (xs154) c3) rfl (vL_len (setL_len hz155))
   have hf := hf.alter (d := 12) (v := vL A2 (xs154) c3) rfl (vL_len (setL_len hz155))
   have hf := hf.alter (d := 19) (v := vL A2 (xs154) c3) rfl (vL_len (setL_len hz155))
   have hf := hf.alter (d := 27) (v := vL A2 (xs154) c3) rfl (vL_len (setL_len hz155))
   have hf := hf.alter (d := 35) (v := vL A2 (xs154) c3) rfl (vL_len (setL_len hz155))
   have hf := hf.alter (d := 45) (v := vL A2 (xs154) c3) rfl (vL_len (setL_len hz155))
   have hf := hf.alter (d := 54) (v := vL A2 (xs154) c3) rfl (vL_len (setL_len hz155))
   refine pl_nil ?_
   refine then_n ?_
   refine wp_seq ?_
   refine region_pl ?_
   refine q_ hf rfl rfl rfl (e_move hf rfl) fun a hf => ?_
   obtain ⟨z156, hz157, h26⟩ := bind_some h26
   refine q_ hf rfl rfl rfl (e_add hf rfl rfl hz157) fun a hf => ?_
   refine q_ hf rfl rfl rfl (e_assign hf rfl) fun a hf => ?_
   refine pl_nil ?_
   refine then_n ?_
   refine wp_seq ?_
   refine region_pl ?_
   iterate 3 refine q_ hf rfl rfl rfl (e_move hf rfl) fun a hf => ?_
   obtain ⟨e158, hz159, h26⟩ := bind_some h26
   obtain ⟨b164, _, hA165, h160, h161, hr162, hcell163⟩ := hM.rowElemN (k := 0) rfl (n := 7) rfl hz159
   obtain ⟨rfl, hv166, hv167, hv168, hv169, hv170, hv171⟩ := ActionRep_open hr162
   refine q_ hf rfl rfl rfl (e_indexAddr (A := A2) (b := b164) (o := 0) (xs := xs154) (i := n16) hf hA165 rfl rfl Tryz.underlying59 Tryz.sizeOf55 h160 h161) fun a hf => ?_
   refine q_ hf rfl rfl rfl (e_field hf rfl Tryz.underlying55 rfl Tryz.sizeOf2 (o' := (0 + (n16 : Int).toNat * 7) + 6) rfl) fun a hf => ?_
   obtain ⟨xs173, hz174, h26⟩ := bind_some h26
   refine pl_0 hf rfl rfl (w_storePart hf hM (x := (⟨e158.Kind, ⟨e158.Play.Row, e158.Play.Col, e158.Play.Down, e158.Play.Word⟩, e158.Tiles, z156⟩ : Action)) (us := [vI (z156)]) (row := [vI (e158.Kind), vI (e158.Play.Row), vI (e158.Play.Col), .bool (e158.Play.Down), vS (e158.Play.Word), vS (e158.Tiles), vI (e158.Seconds)]) (i := n16) (d := 6) rfl rfl rfl hA165 (k := 0) rfl rfl Tryz.sizeOf2 hcell163 (ActionRep_mk (x := (⟨e158.Kind, ⟨e158.Play.Row, e158.Play.Col, e158.Play.Down, e158.Play.Word⟩, e158.Tiles, z156⟩ : Action)) hv166 hv167 hv168 hv169 hv170 (chk_R hz157)) hz174 rfl rfl fun w172 hM => ?_)
   dsimp only [List.set] at hM
   have hf := hf.alter (d := 0) (v := vL A2 (xs173) c3) rfl (vL_len (setL_len hz174))
   have hf := hf.alter (d := 7) (v := vL A2 (xs173) c3) rfl (vL_len (setL_len hz174))
   have hf := hf.alter (d := 12) (v := vL A2 (xs173) c3) rfl (vL_len (setL_len hz174))
   have hf := hf.alter (d := 19) (v := vL A2 (xs173) c3) rfl (vL_len (setL_len hz174))
   have hf := hf.alter (d := 27) (v := vL A2 (xs173) c3) rfl (vL_len (setL_len hz174))
   have hf := hf.alter (d := 35) (v := vL A2 (xs173) c3) rfl (vL_len (setL_len hz174))
   have hf := hf.alter (d := 45) (v := vL A2 (xs173) c3) rfl (vL_len (setL_len hz174))
   have hf := hf.alter (d := 54) (v := vL A2 (xs173) c3) rfl (vL_len (setL_len hz174))
   have hf := hf.alter (d := 62) (v := vL A2 (xs173) c3) rfl (vL_len (setL_len hz174))
   refine pl_nil ?_
   refine then_n ?_
   refine region_pl ?_
   refine q_ hf rfl rfl rfl (e_move hf rfl) fun a hf => ?_
   obtain ⟨z175, hz176, h26⟩ := bind_some h26
   refine q_ hf rfl rfl rfl (e_add hf rfl rfl hz176) fun a hf => ?_
   refine q_ hf rfl rfl rfl (e_assign hf rfl) fun a hf => ?_
   refine pl_nil ?_
   refine blk_n ?_
   refine then_n ?_
   refine region_pl ?_
   refine q_ hf rfl rfl rfl (e_move hf rfl) fun a hf => ?_
   obtain ⟨z177, hz178, h26⟩ := bind_some h26
   refine q_ hf rfl rfl rfl (e_add hf rfl rfl hz178) fun a hf => ?_
   refine q_ hf rfl rfl rfl (e_assign hf rfl) fun a hf => ?_
   refine pl_nil ?_
   obtain rfl := some_inj h26
   refine then_n ⟨_, rfl, ?_⟩
   exact ⟨xs173, z175, z177, rfl, hf.keep ⟨rfl, rfl, rfl, trivial⟩, hM.pick [] rfl, ((setL_len hz174).trans ((setL_len hz155).trans ((setL_len hz130).trans ((setL_len hz105).trans ((setL_len hz84).trans ((setL_len hz65).trans ((setL_len hz46).trans hl13))))))), (chk_R hz176), (chk_R hz178)⟩
  refine cond_f hf rfl hc29 ?_
  refine wp_exit ?_
  refine then_x ?_
  obtain rfl := some_inj h26
  obtain rfl := hd27 _ rfl
  try dsimp only at h11
  refine then_x ?_
  refine exit_hit ?_
  obtain rfl := some_inj h11
  refine then_n ?_
  exact ⟨xs12, k14, rfl, hf.keep ⟨rfl, trivial⟩, hM.pick [] rfl, hl13, hv15⟩
 rintro a w184 ⟨xs6, k8, rfl, hf, hM, hl7, hv9⟩
 try dsimp only at h
 refine wp_seq ?_
 refine region_pl ?_
 refine q_ hf rfl rfl rfl (e_move hf rfl) fun a hf => ?_
 refine q_ hf rfl rfl rfl (e_assign hf rfl) fun a hf => ?_
 refine pl_nil ?_
 refine then_n ?_
 refine wp_ret ?_
 obtain rfl := some_inj h
 exact leave1 hf rfl rfl ⟨rfl, hM.fin, hl7, hv9⟩

set_option maxRecDepth 100000 in
set_option maxHeartbeats 4000000 in
theorem r_laws_markRecord (C : Cx) (a1 : Record) (hp2 : R64 a1.Seed) (A3 : Option Addr) (c4 : Nat) (k5 : Int) (hp6 : R64 k5) (hO : Mem C C.w0 [.row ActionRep A3 c4 55 a1.Actions true] []) (hd : ∀ b, C.S0 b → ¬ ownB [.row ActionRep A3 c4 55 a1.Actions true] b) (r : (Int × (List Action))) (h : m_laws_markRecord a1 k5 = some r) :
    Calls Tryz.prog 33 #[.agg #[vI (a1.Seed), vL A3 (a1.Actions) c4], vI (k5)] C.w0 fun e w => e = .returned (vI (r.1)) ∧ Mem C w [.row ActionRep A3 c4 55 r.2 true] [] ∧ r.2.length = a1.Actions.length ∧ R64 r.1 := by
 have hM := hO
 refine enter Tryz.func33 rfl Tryz.ntmps33 rfl fun a hf => ?_
 unfold m_laws_markRecord at h
 refine wp_seq ?_
 refine region_pl ?_
 refine pl_l hf rfl rfl rfl (w_box hf hM (cs := [vI (a1.Seed), vL A3 (a1.Actions) c4]) rfl rfl fun b7 w8 hx9 hM a hf => ?_)
 refine q_ hf rfl rfl rfl (e_assign hf rfl) fun a hf => ?_
 refine pl_nil ?_
 refine then_n ?_
 refine wp_seq ?_
 refine region_pl ?_
 refine q_ hf rfl rfl rfl (e_field hf rfl Tryz.underlying61 rfl Tryz.sizeOf59 (o' := 1) rfl) fun a hf => ?_
 refine q_ hf rfl rfl rfl (e_load1 hf rfl Tryz.isAgg59 (hM.boxCell (k := 0) rfl rfl)) fun a hf => ?_
 refine q_ hf rfl rfl rfl (e_move hf rfl) fun a hf => ?_
 have hM := hM.front (k := 1) rfl
 dsimp only [List.eraseIdx] at hM
 have hM : Mem C _ ([.row ActionRep A3 c4 55 a1.Actions true] ++ [.box b7 [vI (a1.Seed), vL A3 (a1.Actions) c4] 61]) _ := hM
 obtain ⟨y11, hz12, h⟩ := bind_some h
 refine pl_l hf rfl rfl rfl (w_call hf Tryz.call76 rfl (r_laws_markActionS ⟨_, Sh C _ _, ownB _, hM.sh_lt, sub_dis, C.G, hM.g_lt, hM.g_own, hM.tabs⟩ a1.Actions _ _ k5 hp6 hM.sub sub_dis _ hz12) ?_)
 rintro _ w15 ⟨rfl, hM2, hl13, hv14⟩
 obtain ⟨hM, hup17⟩ := hM.backG hM2
 dsimp only [List.cons_append, List.nil_append] at hM hup17
 clear hM2
 refine ⟨_, rfl, fun a hf => ?_⟩
 have hf := hf.alter (d := 0) (v := .agg #[vI (a1.Seed), vL A3 (y11.2) c4]) rfl (by rw [vL_len (A := A3) (c := c4) hl13])
 have hf := hf.alter (d := 6) (v := vL A3 (y11.2) c4) rfl (vL_len hl13)
 rw [vL_len (A := A3) (c := c4) hl13] at hM
 refine q_ hf rfl rfl rfl (e_assign hf rfl) fun a hf => ?_
 refine pl_nil ?_
 refine then_n ?_
 refine wp_seq ?_
 refine region_pl ?_
 refine q_ hf rfl rfl rfl (e_move hf rfl) fun a hf => ?_
 refine q_ hf rfl rfl rfl (e_assign hf rfl) fun a hf => ?_
 refine pl_nil ?_
 refine then_n ?_
 refine wp_ret ?_
 obtain rfl := some_inj h
 have hM := hM.outs (own' := [.row ActionRep A3 c4 55 y11.2 true]) 1 rfl
 exact leave1 hf rfl rfl ⟨rfl, hM.fin, hl13, hv14⟩

set_option maxRecDepth 100000 in
set_option maxHeartbeats 4000000 in
theorem r_laws_heldActionS (C : Cx) (a1 : (List Action)) (A2 : Option Addr) (c3 : Nat) (hp4 : (sliceRep ActionRep).R C.w0 C.S0 a1 [vL A2 a1 c3]) (k5 : Int) (hp6 : R64 k5) (r : Int) (h : m_laws_heldActionS a1 k5 = some r) :
    Calls Tryz.prog 77 #[vL A2 (a1) c3, vI (k5)] C.w0 fun e w => e = .returned (vI (r)) ∧ Mem C w [] [] ∧ R64 r := by
 have hM := Mem.begin C [.dat (sliceRep ActionRep) a1 [vL A2 a1 c3]] ⟨hp4, trivial⟩
 refine enter Tryz.func77 rfl Tryz.ntmps77 rfl fun a hf => ?_
 unfold m_laws_heldActionS at h
 refine wp_seq ?_
 refine region_pl ?_
 refine q_ hf rfl rfl rfl (e_assign hf rfl) fun a hf => ?_
 refine pl_nil ?_
 refine then_n ?_
 obtain ⟨x9, h10, h⟩ := bind_some h
 refine seq_join (fun a w => ∃ (k7 : Int), (.inl k7) = x9 ∧ Has 84 a [(1, vI (k7))] ∧ Mem C w [] [.dat (sliceRep ActionRep) a1 [vL A2 a1 c3]] ∧ R64 k7) ?_ ?_
 ·refine wp_seq ?_
  refine region_pl ?_
  refine q_ hf rfl rfl rfl (e_assign hf rfl) fun a hf => ?_
  refine pl_nil ?_
  refine then_n ?_
  refine wp_block ?_
  obtain ⟨x18, h19, h10⟩ := bind_some h10
  refine wp_loopM h19 (fun s a w => ∃ (k11 : Int) (n13 : Int), (k11, n13) = s ∧ Has 84 a [(0, vL A2 (a1) c3), (1, vI (k11)), (5, vI (n13))] ∧ Mem C w [] [.dat (sliceRep ActionRep) a1 [vL A2 a1 c3]] ∧ R64 k11 ∧ R64 n13) ?_ ?_
  ·exact ⟨k5, 0, rfl, hf.keep ⟨rfl, rfl, rfl, trivial⟩, hM.pick [0] rfl, hp6, (R64_lit rfl)⟩
  rintro s o20 a w15 ⟨k11, n13, rfl, hf, hM, hv12, hv14⟩ h21 hd22
  replace h21 : m_laws_heldActionS_l1 a1 k11 n13 = some o20 := h21
  unfold m_laws_heldActionS_l1 at h21
  iterate 2 refine wp_seq ?_
  refine region_pl ?_
  iterate 2 refine q_ hf rfl rfl rfl (e_move hf rfl) fun a hf => ?_
  have hl23 := slice_len (hM.dat (k := 0) rfl)
  refine q_ hf rfl rfl rfl (e_lenL hf (x := a1) rfl Tryz.underlying59) fun a hf => ?_
  refine q_ hf rfl rfl rfl (e_lt hf (x := n13) (y := (a1.length : Int)) rfl rfl) fun a hf => ?_
  refine pl_nil ?_
  refine then_n ?_
  rcases cond_some h21 with ⟨hc24, h21⟩ | ⟨hc24, h21⟩
  ·refine cond_t hf rfl hc24 ?_
   refine wp_skip ?_
   refine then_n ?_
   refine wp_seq ?_
   refine wp_block ?_
   iterate 2 refine wp_seq ?_
   refine region_pl ?_
   iterate 2 refine q_ hf rfl rfl rfl (e_move hf rfl) fun a hf => ?_
   obtain ⟨e25, hz26, h21⟩ := bind_some h21
   obtain ⟨b30, o31, _, hA32, h27, h28, hr29, hM⟩ := hM.elem (hM.dat (k := 0) rfl) (n := 7) rfl hz26
   obtain ⟨rfl, hv33, hv34, hv35, hv36, hv37, hv38⟩ := ActionRep_open hr29
   refine q_ hf rfl rfl rfl (e_indexAddr (A := A2) (b := b30) (o := o31) (xs := a1) (i := n13) hf hA32 rfl rfl Tryz.underlying59 Tryz.sizeOf55 h27 h28) fun a hf => ?_
   refine q_ hf rfl rfl rfl (e_field hf rfl Tryz.underlying55 rfl Tryz.sizeOf2 (o' := (o31 + (n13 : Int).toNat * 7) + 0) rfl) fun a hf => ?_
   refine q_ hf rfl rfl rfl (e_load1 hf rfl Tryz.isAgg2 (hM.litCell (k := 0) (j := 0) rfl rfl rfl)) fun a hf => ?_
   refine q_ hf rfl rfl rfl (e_move hf rfl) fun a hf => ?_
   refine q_ hf rfl rfl rfl (e_ne hf (x := e25.Kind) (y := k11) rfl rfl) fun a hf => ?_
   refine pl_nil ?_
   refine then_n ?_
   rcases cond_some h21 with ⟨hc39, h21⟩ | ⟨hc39, h21⟩
   ·refine cond_t hf rfl hc39 ?_
    refine wp_seq ?_
    refine region_pl ?_
    refine q_ hf rfl rfl rfl (e_assign hf rfl) fun a hf => ?_
    refine pl_nil ?_
    refine then_n ?_
    refine wp_ret ?_
    refine then_r ?_
    refine blk_r ?_
    refine then_r ?_
    obtain rfl := some_inj h21
    obtain rfl := hd22 _ rfl
    try dsimp only at h10
    refine then_r ?_
    refine blk_r ?_
    obtain rfl := some_inj h10
    try dsimp only at h
    refine then_r ?_
    obtain rfl := some_inj h
    exact leave1 hf rfl rfl ⟨rfl, hM.fin, (R64_lit rfl)⟩
   refine cond_f hf rfl hc39 ?_
   refine wp_skip ?_
   refine then_n ?_
   refine wp_seq ?_
   refine region_pl ?_
   refine q_ hf rfl rfl rfl (e_move hf rfl) fun a hf => ?_
   obtain ⟨z40, hz41, h21⟩ := bind_some h21
   refine q_ hf rfl rfl rfl (e_add hf rfl rfl hz41) fun a hf => ?_
   refine q_ hf rfl rfl rfl (e_assign hf rfl) fun a hf => ?_
   refine pl_nil ?_
   refine then_n ?_
   iterate 2 refine wp_seq ?_
   refine region_pl ?_
   iterate 2 refine q_ hf rfl rfl rfl (e_move hf rfl) fun a hf => ?_
   obtain ⟨e42, hz43, h21⟩ := bind_some h21
   obtain ⟨b47, o48, _, hA49, h44, h45, hr46, hM⟩ := hM.elem (hM.dat (k := 1) rfl) (n := 7) rfl hz43
   obtain ⟨rfl, hv50, hv51, hv52, hv53, hv54, hv55⟩ := ActionRep_open hr46
   refine q_ hf rfl rfl rfl (e_indexAddr (A := A2) (b := b47) (o := o48) (xs := a1) (i := n13) hf hA49 rfl rfl Tryz.underlying59 Tryz.sizeOf55 h44 h45) fun a hf => ?_
   refine q_ hf rfl rfl rfl (e_field hf rfl Tryz.underlying55 rfl Tryz.sizeOf41 (o' := (o48 + (n13 : Int).toNat * 7) + 1) rfl) fun a hf => ?_
   refine q_ hf rfl rfl rfl (e_field hf rfl Tryz.underlying41 rfl Tryz.sizeOf2 (o' := ((o48 + (n13 : Int).toNat * 7) + 1) + 0) rfl) fun a hf => ?_
   refine q_ hf rfl rfl rfl (e_load1 hf rfl Tryz.isAgg2 (hM.litCell (k := 0) (j := 1) rfl rfl rfl)) fun a hf => ?_
   refine q_ hf rfl rfl rfl (e_move hf rfl) fun a hf => ?_
   refine q_ hf rfl rfl rfl (e_ne hf (x := e42.Play.Row) (y := z40) rfl rfl) fun a hf => ?_
   refine pl_nil ?_
   refine then_n ?_
   rcases cond_some h21 with ⟨hc56, h21⟩ | ⟨hc56, h21⟩
   ·refine cond_t hf rfl hc56 ?_
    refine wp_seq ?_
    refine region_pl ?_
    refine q_ hf rfl rfl rfl (e_assign hf rfl) fun a hf => ?_
    refine pl_nil ?_
    refine then_n ?_
    refine wp_ret ?_
    refine then_r ?_
    refine blk_r ?_
    refine then_r ?_
    obtain rfl := some_inj h21
    obtain rfl := hd22 _ rfl
    try dsimp only at h10
    refine then_r ?_
    refine blk_r ?_
    obtain rfl := some_inj h10
    try dsimp only at h
    refine then_r ?_
    obtain rfl := some_inj h
    exact leave1 hf rfl rfl ⟨rfl, hM.fin, (R64_lit rfl)⟩
   refine cond_f hf rfl hc56 ?_
   refine wp_skip ?_
   refine then_n ?_
   refine wp_seq ?_
   refine region_pl ?_
   refine q_ hf rfl rfl rfl (e_move hf rfl) fun a hf => ?_
   obtain ⟨z57, hz58, h21⟩ := bind_some h21
   refine q_ hf rfl rfl rfl (e_add hf rfl rfl hz58) fun a hf => ?_
   refine q_ hf rfl rfl rfl (e_assign hf rfl) fun a hf => ?_
   refine pl_nil ?_
   refine then_n ?_
   iterate 2 refine wp_seq ?_
   refine region_pl ?_
   iterate 2 refine q_ hf rfl rfl rfl (e_move hf rfl) fun a hf => ?_
   obtain ⟨e59, hz60, h21⟩ := bind_some h21
   obtain ⟨b64, o65, _, hA66, h61, h62, hr63, hM⟩ := hM.elem (hM.dat (k := 2) rfl) (n := 7) rfl hz60
   obtain ⟨rfl, hv67, hv68, hv69, hv70, hv71, hv72⟩ := ActionRep_open hr63
   refine q_ hf rfl rfl rfl (e_indexAddr (A := A2) (b := b64) (o := o65) (xs := a1) (i := n13) hf hA66 rfl rfl Tryz.underlying59 Tryz.sizeOf55 h61 h62) fun a hf => ?_
   refine q_ hf rfl rfl rfl (e_field hf rfl Tryz.underlying55 rfl Tryz.sizeOf41 (o' := (o65 + (n13 : Int).toNat * 7) + 1) rfl) fun a hf => ?_
   refine q_ hf rfl rfl rfl (e_field hf rfl Tryz.underlying41 rfl Tryz.sizeOf2 (o' := ((o65 + (n13 : Int).toNat * 7) + 1) + 1) rfl) fun a hf => ?_
   refine q_ hf rfl rfl rfl (e_load1 hf rfl Tryz.isAgg2 (hM.litCell (k := 0) (j := 2) rfl rfl rfl)) fun a hf => ?_
   refine q_ hf rfl rfl rfl (e_move hf rfl) fun a hf => ?_
   refine q_ hf rfl rfl rfl (e_ne hf (x := e59.Play.Col) (y := z57) rfl rfl) fun a hf => ?_
   refine pl_nil ?_
   refine then_n ?_
   rcases cond_some h21 with ⟨hc73, h21⟩ | ⟨hc73, h21⟩
   ·refine cond_t hf rfl hc73 ?_
    refine wp_seq ?_
    refine region_pl ?_
    refine q_ hf rfl rfl rfl (e_assign hf rfl) fun a hf => ?_
    refine pl_nil ?_
    refine then_n ?_
    refine wp_ret ?_
    refine then_r ?_
    refine blk_r ?_
    refine then_r ?_
    obtain rfl := some_inj h21
    obtain rfl := hd22 _ rfl
    try dsimp only at h10
    refine then_r ?_
    refine blk_r ?_
    obtain rfl := some_inj h10
    try dsimp only at h
    refine then_r ?_
    obtain rfl := some_inj h
    exact leave1 hf rfl rfl ⟨rfl, hM.fin, (R64_lit rfl)⟩
   refine cond_f hf rfl hc73 ?_
   refine wp_skip ?_
   refine then_n ?_
   refine wp_seq ?_
   refine region_pl ?_
   refine q_ hf rfl rfl rfl (e_move hf rfl) fun a hf => ?_
   obtain ⟨z74, hz75, h21⟩ := bind_some h21
   refine q_ hf rfl rfl rfl (e_add hf rfl rfl hz75) fun a hf => ?_
   refine q_ hf rfl rfl rfl (e_assign hf rfl) fun a hf => ?_
   refine pl_nil ?_
   refine then_n ?_
   iterate 2 refine wp_seq ?_
   refine region_pl ?_
   iterate 2 refine q_ hf rfl rfl rfl (e_move hf rfl) fun a hf => ?_
   obtain ⟨e76, hz77, h21⟩ := bind_some h21
   obtain ⟨b81, o82, _, hA83, h78, h79, hr80, hM⟩ := hM.elem (hM.dat (k := 3) rfl) (n := 7) rfl hz77
   obtain ⟨rfl, hv84, hv85, hv86, hv87, hv88, hv89⟩ := ActionRep_open hr80
   refine q_ hf rfl rfl rfl (e_indexAddr (A := A2) (b := b81) (o := o82) (xs := a1) (i := n13) hf hA83 rfl rfl Tryz.underlying59 Tryz.sizeOf55 h78 h79) fun a hf => ?_
   refine q_ hf rfl rfl rfl (e_field hf rfl Tryz.underlying55 rfl Tryz.sizeOf41 (o' := (o82 + (n13 : Int).toNat * 7) + 1) rfl) fun a hf => ?_
   refine q_ hf rfl rfl rfl (e_field hf rfl Tryz.underlying41 rfl Tryz.sizeOf4 (o' := ((o82 + (n13 : Int).toNat * 7) + 1) + 2) rfl) fun a hf => ?_
   refine q_ hf rfl rfl rfl (e_load1 hf rfl Tryz.isAgg4 (hM.litCell (k := 0) (j := 3) rfl rfl rfl)) fun a hf => ?_
   refine q_ hf rfl rfl rfl (e_move hf rfl) fun a hf => ?_
   obtain ⟨z90, hz91, h21⟩ := bind_some h21
   refine q_ hf rfl rfl rfl (e_rem hf rfl rfl hz91) fun a hf => ?_
   refine q_ hf rfl rfl rfl (e_eq hf (x := z90) (y := 0) rfl rfl) fun a hf => ?_
   refine q_ hf rfl rfl rfl (e_neT hf rfl rfl Tryz.underlying4) fun a hf => ?_
   refine pl_nil ?_
   refine then_n ?_
   rcases cond_some h21 with ⟨hc92, h21⟩ | ⟨hc92, h21⟩
   ·refine cond_t hf rfl hc92 ?_
    refine wp_seq ?_
    refine region_pl ?_
    refine q_ hf rfl rfl rfl (e_assign hf rfl) fun a hf => ?_
    refine pl_nil ?_
    refine then_n ?_
    refine wp_ret ?_
    refine then_r ?_
    refine blk_r ?_
    refine then_r ?_
    obtain rfl := some_inj h21
    obtain rfl := hd22 _ rfl
    try dsimp only at h10
    refine then_r ?_
    refine blk_r ?_
    obtain rfl := some_inj h10
    try dsimp only at h
    refine then_r ?_
    obtain rfl := some_inj h
    exact leave1 hf rfl rfl ⟨rfl, hM.fin, (R64_lit rfl)⟩
   refine cond_f hf rfl hc92 ?_
   refine wp_skip ?_
   refine then_n ?_
   refine wp_seq ?_
   refine region_pl ?_
   refine q_ hf rfl rfl rfl (e_move hf rfl) fun a hf => ?_
   obtain ⟨z93, hz94, h21⟩ := bind_some h21
   refine q_ hf rfl rfl rfl (e_add hf rfl rfl hz94) fun a hf => ?_
   refine q_ hf rfl rfl rfl (e_assign hf rfl) fun a hf => ?_
   refine pl_nil ?_
   refine then_n ?_
   iterate 2 refine wp_seq ?_
   obtain ⟨w95, hw⟩ : ∃ x, x = w15.drew := ⟨_, rfl⟩
   refine region_pi (.q 0 (.q 1 (.q 2 (.q 3 (.q 4 (.q 5 (.q 6 (.l 7 (.q 8 (.nil)))))))))) (Ext w95) rfl (by kernel_rfl) ?_
   have hM := hM.drew
   rw [← hw] at hM ⊢
   clear hw
   iterate 2 refine pi_q hf rfl rfl rfl rfl (Ext.refl _) (e_move hf rfl) fun a hf => ?_
   obtain ⟨e96, hz97, h21⟩ := bind_some h21
   obtain ⟨b101, o102, _, hA103, h98, h99, hr100, hM⟩ := hM.elem (hM.dat (k := 4) rfl) (n := 7) rfl hz97
   obtain ⟨rfl, hv104, hv105, hv106, hv107, hv108, hv109⟩ := ActionRep_open hr100
   refine pi_q hf rfl rfl rfl rfl (Ext.refl _) (e_indexAddr (A := A2) (b := b101) (o := o102) (xs := a1) (i := n13) hf hA103 rfl rfl Tryz.underlying59 Tryz.sizeOf55 h98 h99) fun a hf => ?_
   refine pi_q hf rfl rfl rfl rfl (Ext.refl _) (e_field hf rfl Tryz.underlying55 rfl Tryz.sizeOf41 (o' := (o102 + (n13 : Int).toNat * 7) + 1) rfl) fun a hf => ?_
   refine pi_q hf rfl rfl rfl rfl (Ext.refl _) (e_field hf rfl Tryz.underlying41 rfl Tryz.sizeOf9 (o' := ((o102 + (n13 : Int).toNat * 7) + 1) + 3) rfl) fun a hf => ?_
   refine pi_q hf rfl rfl rfl rfl (Ext.refl _) (e_load1 hf rfl Tryz.isAgg9 (hM.litCell (k := 0) (j := 4) rfl rfl rfl)) fun a hf => ?_
   refine pi_q hf rfl rfl rfl rfl (Ext.refl _) (e_move hf rfl) fun a hf => ?_
   refine pi_one ?_
   obtain ⟨y110, hz111, h21⟩ := bind_some h21
   refine pi_l hf rfl rfl rfl rfl (w_call hf Tryz.call130 rfl (r_laws_markText ⟨_, Sh C _ _, none_, hM.sh_lt, none_not, C.G, hM.g_lt, g_none, hM.tabs⟩ z93 (chk_R hz94) _ hz111) ?_)
   rintro _ w113 ⟨rfl, hM2, hv112⟩
   obtain ⟨hM, hx114, hup115⟩ := hM.back hM2
   dsimp only [List.cons_append, List.nil_append] at hM hup115
   clear hM2
   refine ⟨_, rfl, Ext w113, fun _ h => Ext.trans hx114 h, Ext.refl _, fun a hf => ?_⟩
   refine pi_q hf rfl rfl rfl rfl (Ext.refl _) (e_neS hf (x := e96.Play.Word) (y := y110) rfl rfl) fun a hf => ?_
   refine pi_nil ?_
   refine then_n ?_
   rcases cond_some h21 with ⟨hc116, h21⟩ | ⟨hc116, h21⟩
   ·refine cond_t hf rfl hc116 ?_
    refine wp_seq ?_
    refine region_pl ?_
    refine q_ hf rfl rfl rfl (e_assign hf rfl) fun a hf => ?_
    refine pl_nil ?_
    refine then_n ?_
    refine wp_ret ?_
    refine then_r ?_
    refine blk_r ?_
    refine then_r ?_
    obtain rfl := some_inj h21
    obtain rfl := hd22 _ rfl
    try dsimp only at h10
    refine then_r ?_
    refine blk_r ?_
    obtain rfl := some_inj h10
    try dsimp only at h
    refine then_r ?_
    obtain rfl := some_inj h
    exact leave1 hf rfl rfl ⟨rfl, hM.fin, (R64_lit rfl)⟩
   refine cond_f hf rfl hc116 ?_
   refine wp_skip ?_
   refine then_n ?_
   refine wp_seq ?_
   refine region_pl ?_
   refine q_ hf rfl rfl rfl (e_move hf rfl) fun a hf => ?_
   obtain ⟨z117, hz118, h21⟩ := bind_some h21
   refine q_ hf rfl rfl rfl (e_add hf rfl rfl hz118) fun a hf => ?_
   refine q_ hf rfl rfl rfl (e_assign hf rfl) fun a hf => ?_
   refine pl_nil ?_
   refine then_n ?_
   iterate 2 refine wp_seq ?_
   obtain ⟨w119, hw⟩ : ∃ x, x = w113.drew := ⟨_, rfl⟩
   refine region_pi (.q 0 (.q 1 (.q 2 (.q 3 (.q 4 (.q 5 (.l 6 (.q 7 (.nil))))))))) (Ext w119) rfl (by kernel_rfl) ?_
   have hM := hM.drew
   rw [← hw] at hM ⊢
   clear hw
   iterate 2 refine pi_q hf rfl rfl rfl rfl (Ext.refl _) (e_move hf rfl) fun a hf => ?_
   obtain ⟨e120, hz121, h21⟩ := bind_some h21
   obtain ⟨b125, o126, _, hA127, h122, h123, hr124, hM⟩ := hM.elem (hM.dat (k := 5) rfl) (n := 7) rfl hz121
   obtain ⟨rfl, hv128, hv129, hv130, hv131, hv132, hv133⟩ := ActionRep_open hr124
   refine pi_q hf rfl rfl rfl rfl (Ext.refl _) (e_indexAddr (A := A2) (b := b125) (o := o126) (xs := a1) (i := n13) hf hA127 rfl rfl Tryz.underlying59 Tryz.sizeOf55 h122 h123) fun a hf => ?_
   refine pi_q hf rfl rfl rfl rfl (Ext.refl _) (e_field hf rfl Tryz.underlying55 rfl Tryz.sizeOf9 (o' := (o126 + (n13 : Int).toNat * 7) + 5) rfl) fun a hf => ?_
   refine pi_q hf rfl rfl rfl rfl (Ext.refl _) (e_load1 hf rfl Tryz.isAgg9 (hM.litCell (k := 0) (j := 5) rfl rfl rfl)) fun a hf => ?_
   refine pi_q hf rfl rfl rfl rfl (Ext.refl _) (e_move hf rfl) fun a hf => ?_
   refine pi_one ?_
   obtain ⟨y134, hz135, h21⟩ := bind_some h21
   refine pi_l hf rfl rfl rfl rfl (w_call hf Tryz.call130 rfl (r_laws_markText ⟨_, Sh C _ _, none_, hM.sh_lt, none_not, C.G, hM.g_lt, g_none, hM.tabs⟩ z117 (chk_R hz118) _ hz135) ?_)
   rintro _ w137 ⟨rfl, hM2, hv136⟩
   obtain ⟨hM, hx138, hup139⟩ := hM.back hM2
   dsimp only [List.cons_append, List.nil_append] at hM hup139
   clear hM2
   refine ⟨_, rfl, Ext w137, fun _ h => Ext.trans hx138 h, Ext.refl _, fun a hf => ?_⟩
   refine pi_q hf rfl rfl rfl rfl (Ext.refl _) (e_neS hf (x := e120.Tiles) (y := y134) rfl rfl) fun a hf => ?_
   refine pi_nil ?_
   refine then_n ?_
   rcases cond_some h21 with ⟨hc140, h21⟩ | ⟨hc140, h21⟩
   ·refine cond_t hf rfl hc140 ?_
    refine wp_seq ?_
    refine region_pl ?_
    refine q_ hf rfl rfl rfl (e_assign hf rfl) fun a hf => ?_
    refine pl_nil ?_
    refine then_n ?_
    refine wp_ret ?_
    refine then_r ?_
    refine blk_r ?_
    refine then_r ?_
    obtain rfl := some_inj h21
    obtain rfl := hd22 _ rfl
    try dsimp only at h10
    refine then_r ?_
    refine blk_r ?_
    obtain rfl := some_inj h10
    try dsimp only at h
    refine then_r ?_
    obtain rfl := some_inj h
    exact leave1 hf rfl rfl ⟨rfl, hM.fin, (R64_lit rfl)⟩
   refine cond_f hf rfl hc140 ?_
   refine wp_skip ?_
   refine then_n ?_
   refine wp_seq ?_
   refine region_pl ?_
   refine q_ hf rfl rfl rfl (e_move hf rfl) fun a hf => ?_
   obtain ⟨z141, hz142, h21⟩ := bind_some h21
   refine q_ hf rfl rfl rfl (e_add hf rfl rfl hz142) fun a hf => ?_
   refine q_ hf rfl rfl rfl (e_assign hf rfl) fun a hf => ?_
   refine pl_nil ?_
   refine then_n ?_
   iterate 2 refine wp_seq ?_
   refine region_pl ?_
   iterate 2 refine q_ hf rfl rfl rfl (e_move hf rfl) fun a hf => ?_
   obtain ⟨e143, hz144, h21⟩ := bind_some h21
   obtain ⟨b148, o149, _, hA150, h145, h146, hr147, hM⟩ := hM.elem (hM.dat (k := 6) rfl) (n := 7) rfl hz144
   obtain ⟨rfl, hv151, hv152, hv153, hv154, hv155, hv156⟩ := ActionRep_open hr147
   refine q_ hf rfl rfl rfl (e_indexAddr (A := A2) (b := b148) (o := o149) (xs := a1) (i := n13) hf hA150 rfl rfl Tryz.underlying59 Tryz.sizeOf55 h145 h146) fun a hf => ?_
   refine q_ hf rfl rfl rfl (e_field hf rfl Tryz.underlying55 rfl Tryz.sizeOf2 (o' := (o149 + (n13 : Int).toNat * 7) + 6) rfl) fun a hf => ?_
   refine q_ hf rfl rfl rfl (e_load1 hf rfl Tryz.isAgg2 (hM.litCell (k := 0) (j := 6) rfl rfl rfl)) fun a hf => ?_
   refine q_ hf rfl rfl rfl (e_move hf rfl) fun a hf => ?_
   refine q_ hf rfl rfl rfl (e_ne hf (x := e143.Seconds) (y := z141) rfl rfl) fun a hf => ?_
   refine pl_nil ?_
   refine then_n ?_
   rcases cond_some h21 with ⟨hc157, h21⟩ | ⟨hc157, h21⟩
   ·refine cond_t hf rfl hc157 ?_
    refine wp_seq ?_
    refine region_pl ?_
    refine q_ hf rfl rfl rfl (e_assign hf rfl) fun a hf => ?_
    refine pl_nil ?_
    refine then_n ?_
    refine wp_ret ?_
    refine then_r ?_
    refine blk_r ?_
    refine then_r ?_
    obtain rfl := some_inj h21
    obtain rfl := hd22 _ rfl
    try dsimp only at h10
    refine then_r ?_
    refine blk_r ?_
    obtain rfl := some_inj h10
    try dsimp only at h
    refine then_r ?_
    obtain rfl := some_inj h
    exact leave1 hf rfl rfl ⟨rfl, hM.fin, (R64_lit rfl)⟩
   refine cond_f hf rfl hc157 ?_
   refine wp_skip ?_
   refine then_n ?_
   refine region_pl ?_
   refine q_ hf rfl rfl rfl (e_move hf rfl) fun a hf => ?_
   obtain ⟨z158, hz159, h21⟩ := bind_some h21
   refine q_ hf rfl rfl rfl (e_add hf rfl rfl hz159) fun a hf => ?_
   refine q_ hf rfl rfl rfl (e_assign hf rfl) fun a hf => ?_
   refine pl_nil ?_
   refine blk_n ?_
   refine then_n ?_
   refine region_pl ?_
   refine q_ hf rfl rfl rfl (e_move hf rfl) fun a hf => ?_
   obtain ⟨z160, hz161, h21⟩ := bind_some h21
   refine q_ hf rfl rfl rfl (e_add hf rfl rfl hz161) fun a hf => ?_
   refine q_ hf rfl rfl rfl (e_assign hf rfl) fun a hf => ?_
   refine pl_nil ?_
   obtain rfl := some_inj h21
   refine then_n ⟨_, rfl, ?_⟩
   exact ⟨z158, z160, rfl, hf.keep ⟨rfl, rfl, rfl, trivial⟩, hM.pick [7] rfl, (chk_R hz159), (chk_R hz161)⟩
  refine cond_f hf rfl hc24 ?_
  refine wp_exit ?_
  refine then_x ?_
  obtain rfl := some_inj h21
  obtain rfl := hd22 _ rfl
  try dsimp only at h10
  refine then_x ?_
  refine exit_hit ?_
  obtain rfl := some_inj h10
  refine then_n ?_
  exact ⟨k11, rfl, hf.keep ⟨rfl, trivial⟩, hM.pick [0] rfl, hv12⟩
 rintro a w168 ⟨k7, rfl, hf, hM, hv8⟩
 try dsimp only at h
 refine wp_seq ?_
 refine region_pl ?_
 refine q_ hf rfl rfl rfl (e_move hf rfl) fun a hf => ?_
 refine q_ hf rfl rfl rfl (e_assign hf rfl) fun a hf => ?_
 refine pl_nil ?_
 refine then_n ?_
 refine wp_ret ?_
 obtain rfl := some_inj h
 exact leave1 hf rfl rfl ⟨rfl, hM.fin, hv8⟩

set_option maxRecDepth 100000 in
set_option maxHeartbeats 4000000 in
theorem r_laws_heldRecord (C : Cx) (a1 : Record) (hp2 : R64 a1.Seed) (A3 : Option Addr) (c4 : Nat) (hp5 : (sliceRep ActionRep).R C.w0 C.S0 a1.Actions [vL A3 a1.Actions c4]) (k6 : Int) (hp7 : R64 k6) (r : Int) (h : m_laws_heldRecord a1 k6 = some r) :
    Calls Tryz.prog 34 #[.agg #[vI (a1.Seed), vL A3 (a1.Actions) c4], vI (k6)] C.w0 fun e w => e = .returned (vI (r)) ∧ Mem C w [] [] ∧ R64 r := by
 have hM := Mem.begin C [.dat (sliceRep ActionRep) a1.Actions [vL A3 a1.Actions c4]] ⟨hp5, trivial⟩
 refine enter Tryz.func34 rfl Tryz.ntmps34 rfl fun a hf => ?_
 unfold m_laws_heldRecord at h
 refine wp_seq ?_
 refine region_pl ?_
 refine pl_l hf rfl rfl rfl (w_box hf hM (cs := [vI (a1.Seed), vL A3 (a1.Actions) c4]) rfl rfl fun b8 w9 hx10 hM a hf => ?_)
 refine q_ hf rfl rfl rfl (e_assign hf rfl) fun a hf => ?_
 refine pl_nil ?_
 refine then_n ?_
 refine wp_seq ?_
 refine region_pl ?_
 refine q_ hf rfl rfl rfl (e_field hf rfl Tryz.underlying61 rfl Tryz.sizeOf59 (o' := 1) rfl) fun a hf => ?_
 refine q_ hf rfl rfl rfl (e_load1 hf rfl Tryz.isAgg59 (hM.boxCell (k := 0) rfl rfl)) fun a hf => ?_
 refine q_ hf rfl rfl rfl (e_move hf rfl) fun a hf => ?_
 obtain ⟨y12, hz13, h⟩ := bind_some h
 refine pl_l hf rfl rfl rfl (w_call hf Tryz.call77 rfl (r_laws_heldActionS ⟨_, Sh C _ _, none_, hM.sh_lt, none_not, C.G, hM.g_lt, g_none, hM.tabs⟩ a1.Actions _ _ (hM.dat (k := 0) rfl) k6 hp7 _ hz13) ?_)
 rintro _ w15 ⟨rfl, hM2, hv14⟩
 obtain ⟨hM, hx16, hup17⟩ := hM.back hM2
 dsimp only [List.cons_append, List.nil_append] at hM hup17
 clear hM2
 refine ⟨_, rfl, fun a hf => ?_⟩
 refine q_ hf rfl rfl rfl (e_assign hf rfl) fun a hf => ?_
 refine pl_nil ?_
 refine then_n ?_
 iterate 2 refine wp_seq ?_
 refine region_pl ?_
 refine q_ hf rfl rfl rfl (e_move hf rfl) fun a hf => ?_
 refine q_ hf rfl rfl rfl (e_lt hf (x := y12) (y := 0) rfl rfl) fun a hf => ?_
 refine pl_nil ?_
 refine then_n ?_
 rcases cond_some h with ⟨hc18, h⟩ | ⟨hc18, h⟩
 ·refine cond_t hf rfl hc18 ?_
  refine wp_seq ?_
  refine region_pl ?_
  refine q_ hf rfl rfl rfl (e_assign hf rfl) fun a hf => ?_
  refine pl_nil ?_
  refine then_n ?_
  refine wp_ret ?_
  refine then_r ?_
  obtain rfl := some_inj h
  have hM := hM.outs (own' := []) 0 rfl
  exact leave1 hf rfl rfl ⟨rfl, hM.fin, (R64_lit rfl)⟩
 refine cond_f hf rfl hc18 ?_
 refine wp_skip ?_
 refine then_n ?_
 refine wp_seq ?_
 refine region_pl ?_
 refine q_ hf rfl rfl rfl (e_move hf rfl) fun a hf => ?_
 refine q_ hf rfl rfl rfl (e_assign hf rfl) fun a hf => ?_
 refine pl_nil ?_
 refine then_n ?_
 refine wp_ret ?_
 obtain rfl := some_inj h
 have hM := hM.outs (own' := []) 0 rfl
 exact leave1 hf rfl rfl ⟨rfl, hM.fin, hv14⟩

set_option maxRecDepth 100000 in
set_option maxHeartbeats 4000000 in
theorem r_laws_FnExactReadRecord (C : Cx) (aS1 : Str) (hp2 : aS1.length ≤ maxLen) (r : Bool) (h : m_laws_FnExactReadRecord aS1 = some r) :
    Calls Tryz.prog 8 #[vS (aS1)] C.w0 fun e w => e = .returned (.bool (r)) ∧ Mem C w [] [] := by
 have hM := Mem.begin C [] trivial
 refine enter Tryz.func8 rfl Tryz.ntmps8 rfl fun a hf => ?_
 unfold m_laws_FnExactReadRecord at h
 refine wp_seq ?_
 refine region_pl ?_
 refine q_ hf rfl rfl rfl (e_assign hf rfl) fun a hf => ?_
 refine pl_nil ?_
 refine then_n ?_
 iterate 2 refine wp_seq ?_
 refine region_pl ?_
 refine q_ hf rfl rfl rfl (e_move hf rfl) fun a hf => ?_
 refine q_ hf rfl rfl rfl (e_lenS hf (x := aS1) rfl Tryz.underlying9) fun a hf => ?_
 refine q_ hf rfl rfl rfl (e_gt hf (x := (aS1.length : Int)) (y := 1048576) rfl rfl) fun a hf => ?_
 refine pl_nil ?_
 refine then_n ?_
 rcases cond_some h with ⟨hc3, h⟩ | ⟨hc3, h⟩
 ·refine cond_t hf rfl hc3 ?_
  refine wp_seq ?_
  refine region_pl ?_
  refine q_ hf rfl rfl rfl (e_assign hf rfl) fun a hf => ?_
  refine pl_nil ?_
  refine then_n ?_
  refine wp_ret ?_
  refine then_r ?_
  obtain rfl := some_inj h
  exact leave1 hf rfl rfl ⟨rfl, hM.fin⟩
 refine cond_f hf rfl hc3 ?_
 refine wp_skip ?_
 refine then_n ?_
 refine wp_seq ?_
 refine region_pl ?_
 refine q_ hf rfl rfl rfl (e_move hf rfl) fun a hf => ?_
 obtain ⟨y4, hz5, h⟩ := bind_some h
 refine pl_l hf rfl rfl rfl (w_call hf Tryz.call30 rfl (r_spec_ReadRecord ⟨_, Sh C _ _, none_, hM.sh_lt, none_not, C.G, hM.g_lt, g_none, hM.tabs⟩ aS1 hp2 _ hz5) ?_)
 rintro _ w9 ⟨A7, c8, rfl, hM2, hv6⟩
 obtain ⟨hM, hx10, hup11⟩ := hM.back hM2
 dsimp only [List.cons_append, List.nil_append] at hM hup11
 clear hM2
 refine ⟨_, rfl, fun a hf => ?_⟩
 refine q_ hf rfl rfl rfl (e_move hf rfl) fun a hf => ?_
 iterate 2 refine q_ hf rfl rfl rfl (e_extract hf rfl rfl) fun a hf => ?_
 refine pl_l hf rfl rfl rfl (w_alloc hM (cs := [vI (0), vL none (([] : (List Action))) 0]) Tryz.zeroValue61 rfl fun b12 w13 hx14 hM a hf => ?_)
 refine pl_0 hf rfl rfl (w_store hf hM (us := [vI (y4.1.Seed), vL A7 (y4.1.Actions) c8]) (cs' := [vI (y4.1.Seed), vL A7 (y4.1.Actions) c8]) rfl rfl (k := 0) rfl rfl Tryz.sizeOf61 rfl rfl rfl fun w16 hM => ?_)
 dsimp only [List.set] at hM
 refine q_ hf rfl rfl rfl (e_assign hf rfl) fun a hf => ?_
 refine pl_nil ?_
 refine then_n ?_
 refine wp_seq ?_
 refine region_pl ?_
 refine q_ hf rfl rfl rfl (e_move hf rfl) fun a hf => ?_
 obtain ⟨y19, hz20, h⟩ := bind_some h
 refine pl_l hf rfl rfl rfl (w_call hf Tryz.call31 rfl (r_impl_ReadRecord ⟨_, Sh C _ _, none_, hM.sh_lt, none_not, C.G, hM.g_lt, g_none, hM.tabs⟩ aS1 hp2 _ hz20) ?_)
 rintro _ w24 ⟨A22, c23, rfl, hM2, hv21⟩
 obtain ⟨hM, hx25, hup26⟩ := hM.back hM2
 dsimp only [List.cons_append, List.nil_append] at hM hup26
 clear hM2
 refine ⟨_, rfl, fun a hf => ?_⟩
 refine q_ hf rfl rfl rfl (e_move hf rfl) fun a hf => ?_
 iterate 2 refine q_ hf rfl rfl rfl (e_extract hf rfl rfl) fun a hf => ?_
 refine pl_l hf rfl rfl rfl (w_alloc hM (cs := [vI (0), vL none (([] : (List Action))) 0]) Tryz.zeroValue61 rfl fun b27 w28 hx29 hM a hf => ?_)
 refine pl_0 hf rfl rfl (w_store hf hM (us := [vI (y19.1.Seed), vL A22 (y19.1.Actions) c23]) (cs' := [vI (y19.1.Seed), vL A22 (y19.1.Actions) c23]) rfl rfl (k := 0) rfl rfl Tryz.sizeOf61 rfl rfl rfl fun w31 hM => ?_)
 dsimp only [List.set] at hM
 refine q_ hf rfl rfl rfl (e_assign hf rfl) fun a hf => ?_
 refine pl_nil ?_
 refine then_n ?_
 refine wp_seq ?_
 obtain ⟨x36, h37, h⟩ := bind_some h
 refine seq_join (fun a w => ∃ (t34 : Bool), t34 = x36 ∧ Has 66 a [(0, vS (aS1)), (3, vP b12 (0)), (4, .bool (y4.2)), (5, vP b27 (0)), (32, .bool (t34))] ∧ Mem C w [.box b27 [vI (y19.1.Seed), vL A22 (y19.1.Actions) c23] 61, .row ActionRep A22 c23 55 y19.1.Actions true, .box b12 [vI (y4.1.Seed), vL A7 (y4.1.Actions) c8] 61, .row ActionRep A7 c8 55 y4.1.Actions true] []) ?_ ?_
 ·refine region_pl ?_
  refine q_ hf rfl rfl rfl (e_loadA hf (us := [vI (y19.1.Seed), vL A22 (y19.1.Actions) c23]) rfl ⟨Tryz.isAgg61, Tryz.sizeOf61⟩ rfl (hM.boxSub (k := 0) (us := [vI (y19.1.Seed), vL A22 (y19.1.Actions) c23]) (o := 0) rfl rfl)) fun a hf => ?_
  refine q_ hf rfl rfl rfl (e_loadA hf (us := [vI (y4.1.Seed), vL A7 (y4.1.Actions) c8]) rfl ⟨Tryz.isAgg61, Tryz.sizeOf61⟩ rfl (hM.boxSub (k := 2) (us := [vI (y4.1.Seed), vL A7 (y4.1.Actions) c8]) (o := 0) rfl rfl)) fun a hf => ?_
  obtain ⟨y38, hz39, h37⟩ := bind_some h37
  refine pl_l hf rfl rfl rfl (w_call hf Tryz.call32 rfl (r_laws_eqRecord ⟨_, All C _ _, none_, hM.all_lt, none_not, C.G, hM.g_lt, g_none, hM.tabs⟩ y19.1 hv21 _ _ (hM.lendRow (k := 1) rfl) y4.1 hv6 _ _ (hM.lendRow (k := 3) rfl) _ hz39) ?_)
  rintro _ w40 ⟨rfl, hM2⟩
  obtain ⟨hM, hx41⟩ := hM.backA hM2
  clear hM2
  refine ⟨_, rfl, fun a hf => ?_⟩
  refine q_ hf rfl rfl rfl (e_not hf rfl) fun a hf => ?_
  refine q_ hf rfl rfl rfl (e_move hf rfl) fun a hf => ?_
  rcases cond_some h37 with ⟨hc43, h37⟩ | ⟨hc43, h37⟩
  ·iterate 3 refine pl_gs (wanted_f hf rfl rfl rfl rfl hc43) hf rfl rfl fun a hf => ?_
   refine q_ hf rfl rfl rfl (e_pick_t hf rfl hc43 rfl) fun a hf => ?_
   refine pl_nil ?_
   obtain rfl := some_inj h37
   refine then_n ?_
   exact ⟨true, rfl, hf.keep ⟨rfl, rfl, rfl, rfl, rfl, trivial⟩, hM.pick [] rfl⟩
  iterate 2 refine gq (wanted_t hf rfl rfl rfl rfl hc43) hf rfl rfl (e_move hf rfl) fun a hf => ?_
  refine gq (wanted_t hf rfl rfl rfl rfl hc43) hf rfl rfl (e_neT hf rfl rfl Tryz.underlying4) fun a hf => ?_
  refine q_ hf rfl rfl rfl (e_pick_f hf rfl hc43 rfl) fun a hf => ?_
  refine pl_nil ?_
  obtain rfl := some_inj h37
  refine then_n ?_
  exact ⟨(y19.2 != y4.2), rfl, hf.keep ⟨rfl, rfl, rfl, rfl, rfl, trivial⟩, hM.pick [] rfl⟩
 rintro a w46 ⟨t34, rfl, hf, hM⟩
 try dsimp only at h
 rcases cond_some h with ⟨hc47, h⟩ | ⟨hc47, h⟩
 ·refine cond_t hf rfl hc47 ?_
  refine wp_seq ?_
  refine region_pl ?_
  refine q_ hf rfl rfl rfl (e_assign hf rfl) fun a hf => ?_
  refine pl_nil ?_
  refine then_n ?_
  refine wp_ret ?_
  refine then_r ?_
  obtain rfl := some_inj h
  have hM := hM.outs (own' := []) 0 rfl
  exact leave1 hf rfl rfl ⟨rfl, hM.fin⟩
 refine cond_f hf rfl hc47 ?_
 refine wp_skip ?_
 refine then_n ?_
 refine wp_seq ?_
 refine region_pl ?_
 refine q_ hf rfl rfl rfl (e_assign hf rfl) fun a hf => ?_
 refine pl_nil ?_
 refine then_n ?_
 refine wp_seq ?_
 refine region_pl ?_
 refine q_ hf rfl rfl rfl (e_loadA hf (us := [vI (y19.1.Seed), vL A22 (y19.1.Actions) c23]) rfl ⟨Tryz.isAgg61, Tryz.sizeOf61⟩ rfl (hM.boxSub (k := 0) (us := [vI (y19.1.Seed), vL A22 (y19.1.Actions) c23]) (o := 0) rfl rfl)) fun a hf => ?_
 refine q_ hf rfl rfl rfl (e_move hf rfl) fun a hf => ?_
 have hM := hM.front (k := 1) rfl
 dsimp only [List.eraseIdx] at hM
 have hM : Mem C _ ([.row ActionRep A22 c23 55 y19.1.Actions true] ++ [.box b27 [vI (y19.1.Seed), vL A22 (y19.1.Actions) c23] 61, .box b12 [vI (y4.1.Seed), vL A7 (y4.1.Actions) c8] 61, .row ActionRep A7 c8 55 y4.1.Actions true]) _ := hM
 obtain ⟨y48, hz49, h⟩ := bind_some h
 refine pl_l hf rfl rfl rfl (w_call hf Tryz.call33 rfl (r_laws_markRecord ⟨_, Sh C _ _, ownB _, hM.sh_lt, sub_dis, C.G, hM.g_lt, hM.g_own, hM.tabs⟩ y19.1 hv21 _ _ 1 (R64_lit rfl) hM.sub sub_dis _ hz49) ?_)
 rintro _ w52 ⟨rfl, hM2, hl50, hv51⟩
 obtain ⟨hM, hup54⟩ := hM.backG hM2
 dsimp only [List.cons_append, List.nil_append] at hM hup54
 clear hM2
 refine ⟨_, rfl, fun a hf => ?_⟩
 have hf := hf.alter (d := 33) (v := .agg #[vI (y19.1.Seed), vL A22 (y48.2) c23]) rfl (by rw [vL_len (A := A22) (c := c23) hl50])
 rw [vL_len (A := A22) (c := c23) hl50] at hM
 refine q_ hf rfl rfl rfl (e_assign hf rfl) fun a hf => ?_
 refine pl_nil ?_
 refine then_n ?_
 refine wp_seq ?_
 refine region_pl ?_
 refine q_ hf rfl rfl rfl (e_assign hf rfl) fun a hf => ?_
 refine pl_nil ?_
 refine then_n ?_
 refine wp_seq ?_
 refine region_pl ?_
 refine q_ hf rfl rfl rfl (e_loadA hf (us := [vI (y19.1.Seed), vL A22 (y48.2) c23]) rfl ⟨Tryz.isAgg61, Tryz.sizeOf61⟩ rfl (hM.boxSub (k := 1) (us := [vI (y19.1.Seed), vL A22 (y48.2) c23]) (o := 0) rfl rfl)) fun a hf => ?_
 refine q_ hf rfl rfl rfl (e_move hf rfl) fun a hf => ?_
 obtain ⟨y55, hz56, h⟩ := bind_some h
 refine pl_l hf rfl rfl rfl (w_call hf Tryz.call34 rfl (r_laws_heldRecord ⟨_, All C _ _, none_, hM.all_lt, none_not, C.G, hM.g_lt, g_none, hM.tabs⟩ (⟨y19.1.Seed, y48.2⟩ : Record) hv21 _ _ (hM.lendRow (k := 0) rfl) 1 (R64_lit rfl) _ hz56) ?_)
 rintro _ w58 ⟨rfl, hM2, hv57⟩
 obtain ⟨hM, hx59⟩ := hM.backA hM2
 clear hM2
 refine ⟨_, rfl, fun a hf => ?_⟩
 refine q_ hf rfl rfl rfl (e_assign hf rfl) fun a hf => ?_
 refine pl_nil ?_
 refine then_n ?_
 iterate 2 refine wp_seq ?_
 refine region_pl ?_
 refine q_ hf rfl rfl rfl (e_move hf rfl) fun a hf => ?_
 refine q_ hf rfl rfl rfl (e_lt hf (x := y55) (y := 0) rfl rfl) fun a hf => ?_
 refine pl_nil ?_
 refine then_n ?_
 rcases cond_some h with ⟨hc61, h⟩ | ⟨hc61, h⟩
 ·refine cond_t hf rfl hc61 ?_
  refine wp_seq ?_
  refine region_pl ?_
  refine q_ hf rfl rfl rfl (e_assign hf rfl) fun a hf => ?_
  refine pl_nil ?_
  refine then_n ?_
  refine wp_ret ?_
  refine then_r ?_
  obtain rfl := some_inj h
  have hM := hM.outs (own' := []) 0 rfl
  exact leave1 hf rfl rfl ⟨rfl, hM.fin⟩
 refine cond_f hf rfl hc61 ?_
 refine wp_skip ?_
 refine then_n ?_
 iterate 2 refine wp_seq ?_
 refine region_pl ?_
 iterate 2 refine q_ hf rfl rfl rfl (e_move hf rfl) fun a hf => ?_
 refine q_ hf rfl rfl rfl (e_ne hf (x := y55) (y := y48.1) rfl rfl) fun a hf => ?_
 refine pl_nil ?_
 refine then_n ?_
 rcases cond_some h with ⟨hc62, h⟩ | ⟨hc62, h⟩
 ·refine cond_t hf rfl hc62 ?_
  refine wp_seq ?_
  refine region_pl ?_
  refine q_ hf rfl rfl rfl (e_assign hf rfl) fun a hf => ?_
  refine pl_nil ?_
  refine then_n ?_
  refine wp_ret ?_
  refine then_r ?_
  obtain rfl := some_inj h
  have hM := hM.outs (own' := []) 0 rfl
  exact leave1 hf rfl rfl ⟨rfl, hM.fin⟩
 refine cond_f hf rfl hc62 ?_
 refine wp_skip ?_
 refine then_n ?_
 refine wp_seq ?_
 refine region_pl ?_
 refine q_ hf rfl rfl rfl (e_move hf rfl) fun a hf => ?_
 obtain ⟨y63, hz64, h⟩ := bind_some h
 refine pl_l hf rfl rfl rfl (w_call hf Tryz.call31 rfl (r_impl_ReadRecord ⟨_, Sh C _ _, none_, hM.sh_lt, none_not, C.G, hM.g_lt, g_none, hM.tabs⟩ aS1 hp2 _ hz64) ?_)
 rintro _ w68 ⟨A66, c67, rfl, hM2, hv65⟩
 obtain ⟨hM, hx69, hup70⟩ := hM.back hM2
 dsimp only [List.cons_append, List.nil_append] at hM hup70
 clear hM2
 refine ⟨_, rfl, fun a hf => ?_⟩
 refine q_ hf rfl rfl rfl (e_move hf rfl) fun a hf => ?_
 iterate 2 refine q_ hf rfl rfl rfl (e_extract hf rfl rfl) fun a hf => ?_
 refine pl_l hf rfl rfl rfl (w_alloc hM (cs := [vI (0), vL none (([] : (List Action))) 0]) Tryz.zeroValue61 rfl fun b71 w72 hx73 hM a hf => ?_)
 refine pl_0 hf rfl rfl (w_store hf hM (us := [vI (y63.1.Seed), vL A66 (y63.1.Actions) c67]) (cs' := [vI (y63.1.Seed), vL A66 (y63.1.Actions) c67]) rfl rfl (k := 0) rfl rfl Tryz.sizeOf61 rfl rfl rfl fun w75 hM => ?_)
 dsimp only [List.set] at hM
 refine q_ hf rfl rfl rfl (e_assign hf rfl) fun a hf => ?_
 refine pl_nil ?_
 refine then_n ?_
 refine wp_seq ?_
 obtain ⟨x80, h81, h⟩ := bind_some h
 refine seq_join (fun a w => ∃ (t78 : Bool), t78 = x80 ∧ Has 66 a [(5, vP b27 (0)), (7, vI (y48.1)), (57, .bool (t78))] ∧ Mem C w [.box b71 [vI (y63.1.Seed), vL A66 (y63.1.Actions) c67] 61, .row ActionRep A66 c67 55 y63.1.Actions true, .row ActionRep A22 c23 55 y48.2 true, .box b27 [vI (y19.1.Seed), vL A22 (y48.2) c23] 61, .box b12 [vI (y4.1.Seed), vL A7 (y4.1.Actions) c8] 61, .row ActionRep A7 c8 55 y4.1.Actions true] []) ?_ ?_
 ·refine region_pl ?_
  refine q_ hf rfl rfl rfl (e_loadA hf (us := [vI (y63.1.Seed), vL A66 (y63.1.Actions) c67]) rfl ⟨Tryz.isAgg61, Tryz.sizeOf61⟩ rfl (hM.boxSub (k := 0) (us := [vI (y63.1.Seed), vL A66 (y63.1.Actions) c67]) (o := 0) rfl rfl)) fun a hf => ?_
  refine q_ hf rfl rfl rfl (e_loadA hf (us := [vI (y4.1.Seed), vL A7 (y4.1.Actions) c8]) rfl ⟨Tryz.isAgg61, Tryz.sizeOf61⟩ rfl (hM.boxSub (k := 4) (us := [vI (y4.1.Seed), vL A7 (y4.1.Actions) c8]) (o := 0) rfl rfl)) fun a hf => ?_
  obtain ⟨y82, hz83, h81⟩ := bind_some h81
  refine pl_l hf rfl rfl rfl (w_call hf Tryz.call32 rfl (r_laws_eqRecord ⟨_, All C _ _, none_, hM.all_lt, none_not, C.G, hM.g_lt, g_none, hM.tabs⟩ y63.1 hv65 _ _ (hM.lendRow (k := 1) rfl) y4.1 hv6 _ _ (hM.lendRow (k := 5) rfl) _ hz83) ?_)
  rintro _ w84 ⟨rfl, hM2⟩
  obtain ⟨hM, hx85⟩ := hM.backA hM2
  clear hM2
  refine ⟨_, rfl, fun a hf => ?_⟩
  refine q_ hf rfl rfl rfl (e_not hf rfl) fun a hf => ?_
  refine q_ hf rfl rfl rfl (e_move hf rfl) fun a hf => ?_
  rcases cond_some h81 with ⟨hc87, h81⟩ | ⟨hc87, h81⟩
  ·iterate 3 refine pl_gs (wanted_f hf rfl rfl rfl rfl hc87) hf rfl rfl fun a hf => ?_
   refine q_ hf rfl rfl rfl (e_pick_t hf rfl hc87 rfl) fun a hf => ?_
   refine pl_nil ?_
   obtain rfl := some_inj h81
   refine then_n ?_
   exact ⟨true, rfl, hf.keep ⟨rfl, rfl, rfl, trivial⟩, hM.pick [] rfl⟩
  iterate 2 refine gq (wanted_t hf rfl rfl rfl rfl hc87) hf rfl rfl (e_move hf rfl) fun a hf => ?_
  refine gq (wanted_t hf rfl rfl rfl rfl hc87) hf rfl rfl (e_neT hf rfl rfl Tryz.underlying4) fun a hf => ?_
  refine q_ hf rfl rfl rfl (e_pick_f hf rfl hc87 rfl) fun a hf => ?_
  refine pl_nil ?_
  obtain rfl := some_inj h81
  refine then_n ?_
  exact ⟨(y63.2 != y4.2), rfl, hf.keep ⟨rfl, rfl, rfl, trivial⟩, hM.pick [] rfl⟩
 rintro a w90 ⟨t78, rfl, hf, hM⟩
 try dsimp only at h
 rcases cond_some h with ⟨hc91, h⟩ | ⟨hc91, h⟩
 ·refine cond_t hf rfl hc91 ?_
  refine wp_seq ?_
  refine region_pl ?_
  refine q_ hf rfl rfl rfl (e_assign hf rfl) fun a hf => ?_
  refine pl_nil ?_
  refine then_n ?_
  refine wp_ret ?_
  refine then_r ?_
  obtain rfl := some_inj h
  have hM := hM.outs (own' := []) 0 rfl
  exact leave1 hf rfl rfl ⟨rfl, hM.fin⟩
 refine cond_f hf rfl hc91 ?_
 refine wp_skip ?_
 refine then_n ?_
 refine wp_seq ?_
 refine region_pl ?_
 refine q_ hf rfl rfl rfl (e_assign hf rfl) fun a hf => ?_
 refine pl_nil ?_
 refine then_n ?_
 refine wp_seq ?_
 refine region_pl ?_
 refine q_ hf rfl rfl rfl (e_loadA hf (us := [vI (y19.1.Seed), vL A22 (y48.2) c23]) rfl ⟨Tryz.isAgg61, Tryz.sizeOf61⟩ rfl (hM.boxSub (k := 3) (us := [vI (y19.1.Seed), vL A22 (y48.2) c23]) (o := 0) rfl rfl)) fun a hf => ?_
 refine q_ hf rfl rfl rfl (e_move hf rfl) fun a hf => ?_
 obtain ⟨y92, hz93, h⟩ := bind_some h
 refine pl_l hf rfl rfl rfl (w_call hf Tryz.call34 rfl (r_laws_heldRecord ⟨_, All C _ _, none_, hM.all_lt, none_not, C.G, hM.g_lt, g_none, hM.tabs⟩ (⟨y19.1.Seed, y48.2⟩ : Record) hv21 _ _ (hM.lendRow (k := 2) rfl) 1 (R64_lit rfl) _ hz93) ?_)
 rintro _ w95 ⟨rfl, hM2, hv94⟩
 obtain ⟨hM, hx96⟩ := hM.backA hM2
 clear hM2
 refine ⟨_, rfl, fun a hf => ?_⟩
 refine q_ hf rfl rfl rfl (e_assign hf rfl) fun a hf => ?_
 refine pl_nil ?_
 refine then_n ?_
 iterate 2 refine wp_seq ?_
 refine region_pl ?_
 refine q_ hf rfl rfl rfl (e_move hf rfl) fun a hf => ?_
 refine q_ hf rfl rfl rfl (e_lt hf (x := y92) (y := 0) rfl rfl) fun a hf => ?_
 refine pl_nil ?_
 refine then_n ?_
 rcases cond_some h with ⟨hc98, h⟩ | ⟨hc98, h⟩
 ·refine cond_t hf rfl hc98 ?_
  refine wp_seq ?_
  refine region_pl ?_
  refine q_ hf rfl rfl rfl (e_assign hf rfl) fun a hf => ?_
  refine pl_nil ?_
  refine then_n ?_
  refine wp_ret ?_
  refine then_r ?_
  obtain rfl := some_inj h
  have hM := hM.outs (own' := []) 0 rfl
  exact leave1 hf rfl rfl ⟨rfl, hM.fin⟩
 refine cond_f hf rfl hc98 ?_
 refine wp_skip ?_
 refine then_n ?_
 iterate 2 refine wp_seq ?_
 refine region_pl ?_
 iterate 2 refine q_ hf rfl rfl rfl (e_move hf rfl) fun a hf => ?_
 refine q_ hf rfl rfl rfl (e_ne hf (x := y92) (y := y48.1) rfl rfl) fun a hf => ?_
 refine pl_nil ?_
 refine then_n ?_
 rcases cond_some h with ⟨hc99, h⟩ | ⟨hc99, h⟩
 ·refine cond_t hf rfl hc99 ?_
  refine wp_seq ?_
  refine region_pl ?_
  refine q_ hf rfl rfl rfl (e_assign hf rfl) fun a hf => ?_
  refine pl_nil ?_
  refine then_n ?_
  refine wp_ret ?_
  refine then_r ?_
  obtain rfl := some_inj h
  have hM := hM.outs (own' := []) 0 rfl
  exact leave1 hf rfl rfl ⟨rfl, hM.fin⟩
 refine cond_f hf rfl hc99 ?_
 refine wp_skip ?_
 refine then_n ?_
 refine wp_seq ?_
 refine region_pl ?_
 refine q_ hf rfl rfl rfl (e_assign hf rfl) fun a hf => ?_
 refine pl_nil ?_
 refine then_n ?_
 refine wp_ret ?_
 obtain rfl := some_inj h
 have hM := hM.outs (own' := []) 0 rfl
 exact leave1 hf rfl rfl ⟨rfl, hM.fin⟩

end Go.Proofs.YtbekokenomhgeaaGreatDoor
