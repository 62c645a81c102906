/- The functions that this law reaches do what their models say. Printed by gen.py. -/
import Derived.Test.YtdaoecpkgobelaaDoorMod
import Derived.Test.YtdaoecpkgobelaaDoorLib
import Derived.Test.YtdaoecpkgobelaaDoorFnTailsRefC
namespace Go.Proofs.YtdaoecpkgobelaaDoor
open Go Go.RowKit
set_option linter.unusedSimpArgs false
set_option linter.unusedVariables false

set_option maxRecDepth 100000 in
set_option maxHeartbeats 4000000 in
theorem r_laws_FnTails (C : Cx) (code1 : Str) (A2 : Option Addr) (c3 : Nat) (hp4 : (sliceRep byteRep).R C.w0 C.S0 code1 [vL A2 code1 c3]) (more5 : Str) (A6 : Option Addr) (c7 : Nat) (hp8 : (sliceRep byteRep).R C.w0 C.S0 more5 [vL A6 more5 c7]) (r : Bool) (h : m_laws_FnTails code1 more5 = some r) :
    Calls Tryd.prog 10 #[vL A2 (code1) c3, vL A6 (more5) c7] C.w0 fun e w => e = .returned (.bool (r)) ∧ Mem C w [] [] := by
 have hM := Mem.begin C [.dat (sliceRep byteRep) more5 [vL A6 more5 c7], .dat (sliceRep byteRep) code1 [vL A2 code1 c3]] ⟨hp8, hp4, trivial⟩
 refine enter Tryd.func10 rfl Tryd.ntmps10 rfl fun a hf => ?_
 unfold m_laws_FnTails at h
 refine wp_seq ?_
 refine region_pl ?_
 refine q_ hf rfl rfl rfl (e_assign hf rfl) fun a hf => ?_
 refine pl_nil ?_
 refine then_n ?_
 iterate 2 refine wp_seq ?_
 refine region_pl ?_
 iterate 2 refine q_ hf rfl rfl rfl (e_move hf rfl) fun a hf => ?_
 obtain ⟨y9, hz10, h⟩ := bind_some h
 refine pl_l hf rfl rfl rfl (w_call hf Tryd.call12 rfl (r_laws_a2Long ⟨_, Sh C _ _, none_, hM.sh_lt, none_not, C.G, hM.g_lt, g_none, hM.tabs⟩ code1 _ _ (hM.dat (k := 1) rfl) more5 _ _ (hM.dat (k := 0) rfl) _ hz10) ?_)
 rintro _ w11 ⟨rfl, hM2⟩
 obtain ⟨hM, hx12, hup13⟩ := hM.back hM2
 dsimp only [List.cons_append, List.nil_append] at hM hup13
 clear hM2
 refine ⟨_, rfl, fun a hf => ?_⟩
 refine pl_nil ?_
 refine then_n ?_
 rcases cond_some h with ⟨hc14, h⟩ | ⟨hc14, h⟩
 ·refine cond_t hf rfl hc14 ?_
  refine wp_seq ?_
  refine region_pl ?_
  refine q_ hf rfl rfl rfl (e_assign hf rfl) fun a hf => ?_
  refine pl_nil ?_
  refine then_n ?_
  refine wp_ret ?_
  refine then_r ?_
  obtain rfl := some_inj h
  exact leave1 hf rfl rfl ⟨rfl, hM.fin⟩
 refine cond_f hf rfl hc14 ?_
 refine wp_skip ?_
 refine then_n ?_
 refine wp_seq ?_
 refine region_pl ?_
 refine q_ hf rfl rfl rfl (e_move hf rfl) fun a hf => ?_
 obtain ⟨y15, hz16, h⟩ := bind_some h
 refine pl_l hf rfl rfl rfl (w_call hf Tryd.call13 rfl (r_spec_A2Dawg ⟨_, Sh C _ _, none_, hM.sh_lt, none_not, C.G, hM.g_lt, g_none, hM.tabs⟩ code1 _ _ (hM.dat (k := 1) rfl) _ hz16) ?_)
 rintro _ w20 ⟨A17, c18, rfl, hM2, hv19⟩
 obtain ⟨hM, hx21, hup22⟩ := hM.back hM2
 dsimp only [List.cons_append, List.nil_append] at hM hup22
 clear hM2
 have hM := hM.add (y := .dat (sliceRep NodeRep) y15.Nodes [vL A17 y15.Nodes c18]) (hup22 hv19)
 refine ⟨_, rfl, fun a hf => ?_⟩
 refine pl_l hf rfl rfl rfl (w_alloc hM (cs := [vL none (([] : (List Node))) 0]) Tryd.zeroValue26 rfl fun b23 w24 hx25 hM a hf => ?_)
 refine pl_0 hf rfl rfl (w_store hf hM (us := [vL A17 (y15.Nodes) c18]) (cs' := [vL A17 (y15.Nodes) c18]) rfl rfl (k := 0) rfl rfl Tryd.sizeOf26 rfl rfl rfl fun w27 hM => ?_)
 dsimp only [List.set] at hM
 refine pl_nil ?_
 refine then_n ?_
 refine wp_seq ?_
 refine region_pl ?_
 refine q_ hf rfl rfl rfl (e_move hf rfl) fun a hf => ?_
 obtain ⟨y30, hz31, h⟩ := bind_some h
 refine pl_l hf rfl rfl rfl (w_call hf Tryd.call19 rfl (r_spec_A2Word ⟨_, Sh C _ _, none_, hM.sh_lt, none_not, C.G, hM.g_lt, g_none, hM.tabs⟩ more5 _ _ (hM.dat (k := 1) rfl) _ hz31) ?_)
 rintro _ w33 ⟨rfl, hM2, hv32⟩
 obtain ⟨hM, hx34, hup35⟩ := hM.back hM2
 dsimp only [List.cons_append, List.nil_append] at hM hup35
 clear hM2
 refine ⟨_, rfl, fun a hf => ?_⟩
 refine q_ hf rfl rfl rfl (e_assign hf rfl) fun a hf => ?_
 refine pl_nil ?_
 refine then_n ?_
 refine wp_seq ?_
 refine region_pl ?_
 iterate 2 refine q_ hf rfl rfl rfl (e_move hf rfl) fun a hf => ?_
 refine q_ hf rfl rfl rfl (e_lenS hf (x := y30) rfl Tryd.underlying9) fun a hf => ?_
 obtain ⟨y36, hz37, h⟩ := bind_some h
 refine pl_l hf rfl rfl rfl (w_call hf Tryd.call20 rfl (r_laws_a2At ⟨_, Sh C _ _, none_, hM.sh_lt, none_not, C.G, hM.g_lt, g_none, hM.tabs⟩ more5 _ _ (hM.dat (k := 1) rfl) 0 (R64_lit rfl) (y30.length : Int) (R64_len hv32) _ hz37) ?_)
 rintro _ w39 ⟨rfl, hM2, hv38⟩
 obtain ⟨hM, hx40, hup41⟩ := hM.back hM2
 dsimp only [List.cons_append, List.nil_append] at hM hup41
 clear hM2
 refine ⟨_, rfl, fun a hf => ?_⟩
 refine q_ hf rfl rfl rfl (e_assign hf rfl) fun a hf => ?_
 refine pl_nil ?_
 refine then_n ?_
 refine wp_seq ?_
 obtain ⟨w42, hw⟩ : ∃ x, x = w39.drew := ⟨_, rfl⟩
 refine region_pi (.q 0 (.q 1 (.q 2 (.q 3 (.b 4 8 (.q 5 (.q 6 (.q 7 (.l 8 (.l 9 (.q 10 (.nil))))))) (.l 4 (.q 5 (.q 6 (.q 7 (.l 9 (.q 10 (.nil)))))))))))) (ExtM [] w42) rfl (by kernel_rfl) ?_
 have hM := hM.drew
 rw [← hw] at hM ⊢
 clear hw
 refine pi_q hf rfl rfl rfl rfl (ExtM.refl _ _) (e_loadAM hf (us := [vL A17 (y15.Nodes) c18]) rfl ⟨Tryd.isAgg26, Tryd.sizeOf26⟩ rfl (hM.boxSub (k := 0) (us := [vL A17 (y15.Nodes) c18]) (o := 0) rfl rfl) (hM.apart (js := []) rfl (k := 0) rfl rfl rfl)) fun a hf => ?_
 iterate 2 refine pi_q hf rfl rfl rfl rfl (ExtM.refl _ _) (e_move hf rfl) fun a hf => ?_
 obtain ⟨s43, hz44, h⟩ := bind_some h
 refine pi_q hf rfl rfl rfl rfl (ExtM.refl _ _) (e_subSh hf (x := y30) rfl rfl Tryd.underlying9 hz44) fun a hf => ?_
 obtain ⟨y45, hz46, h⟩ := bind_some h
 refine pi_two ?_ ?_
 ·refine pi_l hf rfl rfl rfl rfl (w_call hf Tryd.call38 rfl (r_impl_TailDawg ⟨_, Sh C _ _, none_, hM.sh_lt, none_not, C.G, hM.g_lt, g_none, hM.tabs⟩ y15 _ _ (hM.dat (k := 0) rfl) s43 (sub_len hz44 hv32) _ hz46) ?_)
  rintro _ w60 ⟨A57, c58, rfl, hM2, hv59⟩
  obtain ⟨hM, hx61, hup62⟩ := hM.back hM2
  dsimp only [List.cons_append, List.nil_append] at hM hup62
  clear hM2
  refine ⟨_, rfl, ExtM [] w60, fun _ h => ExtM.trans hx61 h, ExtM.refl _ _, fun a hf => ?_⟩
  refine pi_q hf rfl rfl rfl rfl (ExtM.refl _ _) (e_move hf rfl) fun a hf => ?_
  iterate 2 refine pi_q hf rfl rfl rfl rfl (ExtM.refl _ _) (e_extract hf rfl rfl) fun a hf => ?_
  refine pi_one ?_
  refine pi_l hf rfl rfl rfl rfl (w_allocM hM (cs := [vL none (([] : (List Node))) 0]) Tryd.zeroValue26 rfl fun b63 w64 hx65 hn66 hM => ⟨ExtM [some b63] w64, fun _ h => ExtM.grow hx65 hn66 h, ExtM.refl _ _, fun a hf => ?_⟩)
  refine pi_one ?_
  refine pi_l0 hf rfl rfl rfl (w_storeM hf (List.mem_of_getElem? (i := 0) rfl) hM (us := [vL A57 (y45.1.Nodes) c58]) (cs' := [vL A57 (y45.1.Nodes) c58]) rfl rfl (k := 0) rfl rfl Tryd.sizeOf26 rfl rfl rfl fun w67 hxm68 hsz69 hM => ⟨Ext w67, fun _ h => ExtM.last hxm68 hsz69 h, Ext.refl _, ?_⟩)
  dsimp only [List.set] at hM
  refine pi_q hf rfl rfl rfl rfl (Ext.refl _) (e_assign hf rfl) fun a hf => ?_
  refine pi_nil ?_
  refine then_n ?_
  iterate 2 refine wp_seq ?_
  refine region_pl ?_
  refine q_ hf rfl rfl rfl (e_move hf rfl) fun a hf => ?_
  refine q_ hf rfl rfl rfl (e_ne hf (x := y45.2) (y := 0) rfl rfl) fun a hf => ?_
  refine pl_nil ?_
  refine then_n ?_
  rcases cond_some h with ⟨hc70, h⟩ | ⟨hc70, h⟩
  ·refine cond_t hf rfl hc70 ?_
   refine wp_seq ?_
   refine region_pl ?_
   refine q_ hf rfl rfl rfl (e_assign hf rfl) fun a hf => ?_
   refine pl_nil ?_
   refine then_n ?_
   refine wp_ret ?_
   refine then_r ?_
   obtain rfl := some_inj h
   have hM := hM.outs (own' := []) 0 rfl
   exact leave1 hf rfl rfl ⟨rfl, hM.fin⟩
  refine cond_f hf rfl hc70 ?_
  refine wp_skip ?_
  refine then_n ?_
  refine wp_seq ?_
  obtain ⟨w71, hw⟩ : ∃ x, x = w67.drew := ⟨_, rfl⟩
  refine region_pi (.q 0 (.q 1 (.q 2 (.q 3 (.l 4 (.q 5 (.q 6 (.q 7 (.q 8 (.q 9 (.q 10 (.q 11 (.nil))))))))))))) (Ext w71) rfl (by kernel_rfl) ?_
  have hM := hM.drew
  rw [← hw] at hM ⊢
  clear hw
  refine pi_q hf rfl rfl rfl rfl (Ext.refl _) (e_loadA hf (us := [vL A17 (y15.Nodes) c18]) rfl ⟨Tryd.isAgg26, Tryd.sizeOf26⟩ rfl (hM.boxSub (k := 2) (us := [vL A17 (y15.Nodes) c18]) (o := 0) rfl rfl)) fun a hf => ?_
  iterate 2 refine pi_q hf rfl rfl rfl rfl (Ext.refl _) (e_move hf rfl) fun a hf => ?_
  obtain ⟨s72, hz73, h⟩ := bind_some h
  refine pi_q hf rfl rfl rfl rfl (Ext.refl _) (e_subSh hf (x := y30) rfl rfl Tryd.underlying9 hz73) fun a hf => ?_
  refine pi_one ?_
  obtain ⟨y74, hz75, h⟩ := bind_some h
  refine pi_l hf rfl rfl rfl rfl (w_call hf Tryd.call36 rfl (r_spec_RangeOf ⟨_, Sh C _ _, none_, hM.sh_lt, none_not, C.G, hM.g_lt, g_none, hM.tabs⟩ y15 _ _ (hM.dat (k := 0) rfl) s72 (sub_len hz73 hv32) _ hz75) ?_)
  rintro _ w79 ⟨rfl, hM2, hv76, hv77, hv78⟩
  obtain ⟨hM, hx80, hup81⟩ := hM.back hM2
  dsimp only [List.cons_append, List.nil_append] at hM hup81
  clear hM2
  refine ⟨_, rfl, Ext w79, fun _ h => Ext.trans hx80 h, Ext.refl _, fun a hf => ?_⟩
  refine pi_q hf rfl rfl rfl rfl (Ext.refl _) (e_move hf rfl) fun a hf => ?_
  iterate 3 refine pi_q hf rfl rfl rfl rfl (Ext.refl _) (e_extract hf rfl rfl) fun a hf => ?_
  iterate 3 refine pi_q hf rfl rfl rfl rfl (Ext.refl _) (e_assign hf rfl) fun a hf => ?_
  refine pi_nil ?_
  refine then_n ?_
  refine wp_seq ?_
  refine region_pl ?_
  refine q_ hf rfl rfl rfl (e_loadA hf (us := [vL A57 (y45.1.Nodes) c58]) rfl ⟨Tryd.isAgg26, Tryd.sizeOf26⟩ rfl (hM.boxSub (k := 0) (us := [vL A57 (y45.1.Nodes) c58]) (o := 0) rfl rfl)) fun a hf => ?_
  obtain ⟨y82, hz83, h⟩ := bind_some h
  refine pl_l hf rfl rfl rfl (w_call hf Tryd.call39 rfl (r_impl_WordsOf ⟨_, All C _ _, none_, hM.all_lt, none_not, C.G, hM.g_lt, g_none, hM.tabs⟩ y45.1 _ _ (hM.lendRow (k := 1) rfl) _ hz83) ?_)
  rintro _ w87 ⟨A84, c85, rfl, hM2, hv86⟩
  obtain ⟨hM, hx88⟩ := hM.backAF strRep_flat hM2
  clear hM2
  refine ⟨_, rfl, fun a hf => ?_⟩
  refine q_ hf rfl rfl rfl (e_move hf rfl) fun a hf => ?_
  iterate 2 refine q_ hf rfl rfl rfl (e_extract hf rfl rfl) fun a hf => ?_
  iterate 2 refine q_ hf rfl rfl rfl (e_assign hf rfl) fun a hf => ?_
  refine pl_nil ?_
  refine then_n ?_
  refine wp_seq ?_
  refine region_pl ?_
  refine q_ hf rfl rfl rfl (e_assign hf rfl) fun a hf => ?_
  refine pl_nil ?_
  refine then_n ?_
  obtain ⟨x92, h93, h⟩ := bind_some h
  refine seq_join (fun a w => ∃ (n90 : Int), n90 = x92 ∧ Has 77 a [(5, vP b23 (0)), (6, vS (y30)), (7, vI (y36)), (8, vP b63 (0)), (11, vI (y74.2.1)), (13, vL A84 (y82.1) c85), (14, vI (y82.2)), (15, vI (n90))] ∧ Mem C w [.row strRep A84 c85 9 y82.1 true, .box b63 [vL A57 (y45.1.Nodes) c58] 26, .row NodeRep A57 c58 76 y45.1.Nodes true, .box b23 [vL A17 (y15.Nodes) c18] 26] [.dat (sliceRep NodeRep) y15.Nodes [vL A17 y15.Nodes c18], .dat (sliceRep byteRep) more5 [vL A6 more5 c7], .dat (sliceRep byteRep) code1 [vL A2 code1 c3]] ∧ R64 n90) ?_ ?_
  ·refine wp_seq ?_
   obtain ⟨w94, hw⟩ : ∃ x, x = w87.drew := ⟨_, rfl⟩
   refine region_pi (.q 0 (.q 1 (.q 2 (.q 3 (.l 4 (.nil)))))) (Ext w94) rfl (by kernel_rfl) ?_
   have hM := hM.drew
   rw [← hw] at hM ⊢
   clear hw
   refine pi_q hf rfl rfl rfl rfl (Ext.refl _) (e_loadA hf (us := [vL A17 (y15.Nodes) c18]) rfl ⟨Tryd.isAgg26, Tryd.sizeOf26⟩ rfl (hM.boxSub (k := 3) (us := [vL A17 (y15.Nodes) c18]) (o := 0) rfl rfl)) fun a hf => ?_
   iterate 2 refine pi_q hf rfl rfl rfl rfl (Ext.refl _) (e_move hf rfl) fun a hf => ?_
   obtain ⟨s95, hz96, h93⟩ := bind_some h93
   refine pi_q hf rfl rfl rfl rfl (Ext.refl _) (e_subSh hf (x := y30) rfl rfl Tryd.underlying9 hz96) fun a hf => ?_
   refine pi_one ?_
   obtain ⟨y97, hz98, h93⟩ := bind_some h93
   refine pi_l hf rfl rfl rfl rfl (w_call hf Tryd.call24 rfl (r_spec_AcceptsWord ⟨_, Sh C _ _, none_, hM.sh_lt, none_not, C.G, hM.g_lt, g_none, hM.tabs⟩ y15 _ _ (hM.dat (k := 0) rfl) s95 (sub_len hz96 hv32) _ hz98) ?_)
   rintro _ w99 ⟨rfl, hM2⟩
   obtain ⟨hM, hx100, hup101⟩ := hM.back hM2
   dsimp only [List.cons_append, List.nil_append] at hM hup101
   clear hM2
   refine ⟨_, rfl, Ext w99, fun _ h => Ext.trans hx100 h, Ext.refl _, fun a hf => ?_⟩
   refine pi_nil ?_
   refine then_n ?_
   rcases cond_some h93 with ⟨hc102, h93⟩ | ⟨hc102, h93⟩
   ·refine cond_t hf rfl hc102 ?_
    refine region_pl ?_
    refine q_ hf rfl rfl rfl (e_assign hf rfl) fun a hf => ?_
    refine pl_nil ?_
    obtain rfl := some_inj h93
    refine then_n ?_
    exact ⟨1, rfl, hf.keep ⟨rfl, rfl, rfl, rfl, rfl, rfl, rfl, rfl, trivial⟩, hM.pick [0, 1, 2] rfl, (R64_lit rfl)⟩
   refine cond_f hf rfl hc102 ?_
   refine wp_skip ?_
   obtain rfl := some_inj h93
   refine then_n ?_
   exact ⟨0, rfl, hf.keep ⟨rfl, rfl, rfl, rfl, rfl, rfl, rfl, rfl, trivial⟩, hM.pick [0, 1, 2] rfl, (R64_lit rfl)⟩
  rintro a w105 ⟨n90, rfl, hf, hM, hv91⟩
  try dsimp only at h
  obtain ⟨x108, h109, h⟩ := bind_some h
  refine seq_join (fun a w => ∃ (word106 : Bool), word106 = x108 ∧ Has 77 a [(4, .bool (word106))] ∧ Mem C w [.row strRep A84 c85 9 y82.1 true, .box b63 [vL A57 (y45.1.Nodes) c58] 26, .row NodeRep A57 c58 76 y45.1.Nodes true, .box b23 [vL A17 (y15.Nodes) c18] 26] [.dat (sliceRep NodeRep) y15.Nodes [vL A17 y15.Nodes c18], .dat (sliceRep byteRep) more5 [vL A6 more5 c7], .dat (sliceRep byteRep) code1 [vL A2 code1 c3]]) ?_ ?_
  ·obtain ⟨w110, hw⟩ : ∃ x, x = w105.drew := ⟨_, rfl⟩
   refine region_pi (.q 0 (.q 1 (.q 2 (.q 3 (.q 4 (.q 5 (.q 6 (.q 7 (.q 8 (.q 9 (.q 10 (.q 11 (.q 12 (.q 13 (.q 14 (.q 16 (.q 17 (.l 15 (.l 18 (.q 19 (.q 20 (.q 21 (.nil))))))))))))))))))))))) (Ext w110) rfl (by kernel_rfl) ?_
   have hM := hM.drew
   rw [← hw] at hM ⊢
   clear hw
   refine pi_q hf rfl rfl rfl rfl (Ext.refl _) (e_move hf rfl) fun a hf => ?_
   refine pi_q hf rfl rfl rfl rfl (Ext.refl _) (e_eq hf (x := y82.2) (y := 0) rfl rfl) fun a hf => ?_
   refine pi_q hf rfl rfl rfl rfl (Ext.refl _) (e_move hf rfl) fun a hf => ?_
   rcases cond_some h109 with ⟨hc111, h109⟩ | ⟨hc111, h109⟩
   ·refine pi_gq hf rfl (wanted_t hf rfl rfl rfl rfl hc111) rfl rfl (Ext.refl _) (e_move hf rfl) fun a hf => ?_
    have hl112 := row_len (hM.ownAt (k := 0) rfl)
    refine pi_gq hf rfl (wanted_t hf rfl rfl rfl rfl hc111) rfl rfl (Ext.refl _) (e_lenL hf (x := y82.1) rfl Tryd.underlying28) fun a hf => ?_
    refine pi_gq hf rfl (wanted_t hf rfl rfl rfl rfl hc111) rfl rfl (Ext.refl _) (e_move hf rfl) fun a hf => ?_
    obtain ⟨z113, hz114, h109⟩ := bind_some h109
    refine pi_gq hf rfl (wanted_t hf rfl rfl rfl rfl hc111) rfl rfl (Ext.refl _) (e_add hf rfl rfl hz114) fun a hf => ?_
    refine pi_gq hf rfl (wanted_t hf rfl rfl rfl rfl hc111) rfl rfl (Ext.refl _) (e_move hf rfl) fun a hf => ?_
    refine pi_gq hf rfl (wanted_t hf rfl rfl rfl rfl hc111) rfl rfl (Ext.refl _) (e_eq hf (x := z113) (y := y74.2.1) rfl rfl) fun a hf => ?_
    refine pi_q hf rfl rfl rfl rfl (Ext.refl _) (e_pick_t hf rfl hc111 rfl) fun a hf => ?_
    refine pi_q hf rfl rfl rfl rfl (Ext.refl _) (e_move hf rfl) fun a hf => ?_
    rcases cond_some h109 with ⟨hc115, h109⟩ | ⟨hc115, h109⟩
    ·refine pi_gq hf rfl (wanted_t hf rfl rfl rfl rfl hc115) rfl rfl (Ext.refl _) (e_loadA hf (us := [vL A57 (y45.1.Nodes) c58]) rfl ⟨Tryd.isAgg26, Tryd.sizeOf26⟩ rfl (hM.boxSub (k := 1) (us := [vL A57 (y45.1.Nodes) c58]) (o := 0) rfl rfl)) fun a hf => ?_
     iterate 2 refine pi_gq hf rfl (wanted_t hf rfl rfl rfl rfl hc115) rfl rfl (Ext.refl _) (e_move hf rfl) fun a hf => ?_
     obtain ⟨s116, hz117, h109⟩ := bind_some h109
     refine pi_gq hf rfl (wanted_t hf rfl rfl rfl rfl hc115) rfl rfl (Ext.refl _) (e_subSl hf (x := y30) rfl rfl Tryd.underlying9 hz117) fun a hf => ?_
     refine pi_gq hf rfl (wanted_t hf rfl rfl rfl rfl hc115) rfl rfl (Ext.refl _) (e_loadA hf (us := [vL A17 (y15.Nodes) c18]) rfl ⟨Tryd.isAgg26, Tryd.sizeOf26⟩ rfl (hM.boxSub (k := 3) (us := [vL A17 (y15.Nodes) c18]) (o := 0) rfl rfl)) fun a hf => ?_
     refine pi_gq hf rfl (wanted_t hf rfl rfl rfl rfl hc115) rfl rfl (Ext.refl _) (e_move hf rfl) fun a hf => ?_
     refine pi_one ?_
     obtain ⟨y118, hz119, h109⟩ := bind_some h109
     refine pi_gl hf rfl (wanted_t hf rfl rfl rfl rfl hc115) rfl rfl (w_call hf Tryd.call26 rfl (r_impl_AcceptsWord ⟨_, All C _ _, none_, hM.all_lt, none_not, C.G, hM.g_lt, g_none, hM.tabs⟩ y45.1 _ _ (hM.lendRow (k := 2) rfl) s116 (sub_len hz117 hv32) _ hz119) ?_)
     rintro _ w120 ⟨rfl, hM2⟩
     obtain ⟨hM, hx121⟩ := hM.backA hM2
     clear hM2
     refine ⟨_, rfl, Ext w120, fun _ h => Ext.trans hx121 h, Ext.refl _, fun a hf => ?_⟩
     refine pi_one ?_
     obtain ⟨y123, hz124, h109⟩ := bind_some h109
     refine pi_gl hf rfl (wanted_t hf rfl rfl rfl rfl hc115) rfl rfl (w_call hf Tryd.call24 rfl (r_spec_AcceptsWord ⟨_, Sh C _ _, none_, hM.sh_lt, none_not, C.G, hM.g_lt, g_none, hM.tabs⟩ y15 _ _ (hM.dat (k := 0) rfl) y30 hv32 _ hz124) ?_)
     rintro _ w125 ⟨rfl, hM2⟩
     obtain ⟨hM, hx126, hup127⟩ := hM.back hM2
     dsimp only [List.cons_append, List.nil_append] at hM hup127
     clear hM2
     refine ⟨_, rfl, Ext w125, fun _ h => Ext.trans hx126 h, Ext.refl _, fun a hf => ?_⟩
     refine pi_gq hf rfl (wanted_t hf rfl rfl rfl rfl hc115) rfl rfl (Ext.refl _) (e_eqT hf rfl rfl Tryd.underlying4) fun a hf => ?_
     refine pi_q hf rfl rfl rfl rfl (Ext.refl _) (e_pick_t hf rfl hc115 rfl) fun a hf => ?_
     refine pi_q hf rfl rfl rfl rfl (Ext.refl _) (e_assign hf rfl) fun a hf => ?_
     refine pi_nil ?_
     obtain rfl := some_inj h109
     refine then_n ?_
     exact ⟨(y118 == y123), rfl, hf.keep ⟨rfl, trivial⟩, hM.pick [0, 1, 2] rfl⟩
    iterate 6 refine pi_gs hf rfl (wanted_f hf rfl rfl rfl rfl hc115) rfl rfl (Ext.refl _) fun a hf => ?_
    refine pi_one ?_
    refine pi_ls hf rfl (wanted_f hf rfl rfl rfl rfl hc115) rfl rfl (Ext.refl _) fun a hf => ?_
    refine pi_one ?_
    refine pi_ls hf rfl (wanted_f hf rfl rfl rfl rfl hc115) rfl rfl (Ext.refl _) fun a hf => ?_
    refine pi_gs hf rfl (wanted_f hf rfl rfl rfl rfl hc115) rfl rfl (Ext.refl _) fun a hf => ?_
    refine pi_q hf rfl rfl rfl rfl (Ext.refl _) (e_pick_f hf rfl hc115 rfl) fun a hf => ?_
    refine pi_q hf rfl rfl rfl rfl (Ext.refl _) (e_assign hf rfl) fun a hf => ?_
    refine pi_nil ?_
    obtain rfl := some_inj h109
    refine then_n ?_
    exact ⟨false, rfl, hf.keep ⟨rfl, trivial⟩, hM.pick [0, 1, 2] rfl⟩
   iterate 6 refine pi_gs hf rfl (wanted_f hf rfl rfl rfl rfl hc111) rfl rfl (Ext.refl _) fun a hf => ?_
   refine pi_q hf rfl rfl rfl rfl (Ext.refl _) (e_pick_f hf rfl hc111 rfl) fun a hf => ?_
   refine pi_q hf rfl rfl rfl rfl (Ext.refl _) (e_move hf rfl) fun a hf => ?_
   iterate 6 refine pi_gs hf rfl (wanted_f hf rfl rfl rfl rfl rfl) rfl rfl (Ext.refl _) fun a hf => ?_
   refine pi_one ?_
   refine pi_ls hf rfl (wanted_f hf rfl rfl rfl rfl rfl) rfl rfl (Ext.refl _) fun a hf => ?_
   refine pi_one ?_
   refine pi_ls hf rfl (wanted_f hf rfl rfl rfl rfl rfl) rfl rfl (Ext.refl _) fun a hf => ?_
   refine pi_gs hf rfl (wanted_f hf rfl rfl rfl rfl rfl) rfl rfl (Ext.refl _) fun a hf => ?_
   refine pi_q hf rfl rfl rfl rfl (Ext.refl _) (e_pick_f hf rfl rfl rfl) fun a hf => ?_
   refine pi_q hf rfl rfl rfl rfl (Ext.refl _) (e_assign hf rfl) fun a hf => ?_
   refine pi_nil ?_
   obtain rfl := some_inj h109
   refine then_n ?_
   exact ⟨false, rfl, hf.keep ⟨rfl, trivial⟩, hM.pick [0, 1, 2] rfl⟩
  rintro a w131 ⟨word106, rfl, hf, hM⟩
  try dsimp only at h
  refine wp_ret ?_
  obtain rfl := some_inj h
  have hM := hM.outs (own' := []) 0 rfl
  exact leave1 hf rfl rfl ⟨rfl, hM.fin⟩
 refine pi_l hf rfl rfl rfl rfl (w_allocM hM (cs := [vL none (([] : (List Node))) 0]) Tryd.zeroValue26 rfl fun b132 w133 hx134 hn135 hM => ⟨ExtM [some b132] w133, fun _ h => ExtM.grow hx134 hn135 h, ExtM.refl _ _, fun a hf => ?_⟩)
 refine pi_one ?_
 refine pi_l hf rfl rfl rfl rfl (w_call hf Tryd.call38 rfl (r_impl_TailDawg ⟨_, Sh C _ _, none_, hM.sh_lt, none_not, C.G, hM.g_lt, g_none, hM.tabs⟩ y15 _ _ (hM.dat (k := 0) rfl) s43 (sub_len hz44 hv32) _ hz46) ?_)
 rintro _ w139 ⟨A136, c137, rfl, hM2, hv138⟩
 obtain ⟨hM, hx140, hup141⟩ := hM.back hM2
 dsimp only [List.cons_append, List.nil_append] at hM hup141
 clear hM2
 refine ⟨_, rfl, ExtM [some b132] w139, fun _ h => ExtM.trans hx140 h, ExtM.refl _ _, fun a hf => ?_⟩
 refine pi_q hf rfl rfl rfl rfl (ExtM.refl _ _) (e_move hf rfl) fun a hf => ?_
 iterate 2 refine pi_q hf rfl rfl rfl rfl (ExtM.refl _ _) (e_extract hf rfl rfl) fun a hf => ?_
 refine pi_one ?_
 refine pi_l0 hf rfl rfl rfl (w_storeM hf (List.mem_of_getElem? (i := 0) rfl) hM (us := [vL A136 (y45.1.Nodes) c137]) (cs' := [vL A136 (y45.1.Nodes) c137]) rfl rfl (k := 1) rfl rfl Tryd.sizeOf26 rfl rfl rfl fun w142 hxm143 hsz144 hM => ⟨Ext w142, fun _ h => ExtM.last hxm143 hsz144 h, Ext.refl _, ?_⟩)
 dsimp only [List.set] at hM
 refine pi_q hf rfl rfl rfl rfl (Ext.refl _) (e_assign hf rfl) fun a hf => ?_
 refine pi_nil ?_
 refine then_n ?_
 iterate 2 refine wp_seq ?_
 refine region_pl ?_
 refine q_ hf rfl rfl rfl (e_move hf rfl) fun a hf => ?_
 refine q_ hf rfl rfl rfl (e_ne hf (x := y45.2) (y := 0) rfl rfl) fun a hf => ?_
 refine pl_nil ?_
 refine then_n ?_
 rcases cond_some h with ⟨hc145, h⟩ | ⟨hc145, h⟩
 ·refine cond_t hf rfl hc145 ?_
  refine wp_seq ?_
  refine region_pl ?_
  refine q_ hf rfl rfl rfl (e_assign hf rfl) fun a hf => ?_
  refine pl_nil ?_
  refine then_n ?_
  refine wp_ret ?_
  refine then_r ?_
  obtain rfl := some_inj h
  have hM := hM.outs (own' := []) 0 rfl
  exact leave1 hf rfl rfl ⟨rfl, hM.fin⟩
 refine cond_f hf rfl hc145 ?_
 refine wp_skip ?_
 refine then_n ?_
 refine wp_seq ?_
 obtain ⟨w146, hw⟩ : ∃ x, x = w142.drew := ⟨_, rfl⟩
 refine region_pi (.q 0 (.q 1 (.q 2 (.q 3 (.l 4 (.q 5 (.q 6 (.q 7 (.q 8 (.q 9 (.q 10 (.q 11 (.nil))))))))))))) (Ext w146) rfl (by kernel_rfl) ?_
 have hM := hM.drew
 rw [← hw] at hM ⊢
 clear hw
 refine pi_q hf rfl rfl rfl rfl (Ext.refl _) (e_loadA hf (us := [vL A17 (y15.Nodes) c18]) rfl ⟨Tryd.isAgg26, Tryd.sizeOf26⟩ rfl (hM.boxSub (k := 2) (us := [vL A17 (y15.Nodes) c18]) (o := 0) rfl rfl)) fun a hf => ?_
 iterate 2 refine pi_q hf rfl rfl rfl rfl (Ext.refl _) (e_move hf rfl) fun a hf => ?_
 obtain ⟨s147, hz148, h⟩ := bind_some h
 refine pi_q hf rfl rfl rfl rfl (Ext.refl _) (e_subSh hf (x := y30) rfl rfl Tryd.underlying9 hz148) fun a hf => ?_
 refine pi_one ?_
 obtain ⟨y149, hz150, h⟩ := bind_some h
 refine pi_l hf rfl rfl rfl rfl (w_call hf Tryd.call36 rfl (r_spec_RangeOf ⟨_, Sh C _ _, none_, hM.sh_lt, none_not, C.G, hM.g_lt, g_none, hM.tabs⟩ y15 _ _ (hM.dat (k := 0) rfl) s147 (sub_len hz148 hv32) _ hz150) ?_)
 rintro _ w154 ⟨rfl, hM2, hv151, hv152, hv153⟩
 obtain ⟨hM, hx155, hup156⟩ := hM.back hM2
 dsimp only [List.cons_append, List.nil_append] at hM hup156
 clear hM2
 refine ⟨_, rfl, Ext w154, fun _ h => Ext.trans hx155 h, Ext.refl _, fun a hf => ?_⟩
 refine pi_q hf rfl rfl rfl rfl (Ext.refl _) (e_move hf rfl) fun a hf => ?_
 iterate 3 refine pi_q hf rfl rfl rfl rfl (Ext.refl _) (e_extract hf rfl rfl) fun a hf => ?_
 iterate 3 refine pi_q hf rfl rfl rfl rfl (Ext.refl _) (e_assign hf rfl) fun a hf => ?_
 refine pi_nil ?_
 refine then_n ?_
 refine wp_seq ?_
 refine region_pl ?_
 refine q_ hf rfl rfl rfl (e_loadA hf (us := [vL A136 (y45.1.Nodes) c137]) rfl ⟨Tryd.isAgg26, Tryd.sizeOf26⟩ rfl (hM.boxSub (k := 1) (us := [vL A136 (y45.1.Nodes) c137]) (o := 0) rfl rfl)) fun a hf => ?_
 obtain ⟨y157, hz158, h⟩ := bind_some h
 refine pl_l hf rfl rfl rfl (w_call hf Tryd.call39 rfl (r_impl_WordsOf ⟨_, All C _ _, none_, hM.all_lt, none_not, C.G, hM.g_lt, g_none, hM.tabs⟩ y45.1 _ _ (hM.lendRow (k := 0) rfl) _ hz158) ?_)
 rintro _ w162 ⟨A159, c160, rfl, hM2, hv161⟩
 obtain ⟨hM, hx163⟩ := hM.backAF strRep_flat hM2
 clear hM2
 refine ⟨_, rfl, fun a hf => ?_⟩
 refine q_ hf rfl rfl rfl (e_move hf rfl) fun a hf => ?_
 iterate 2 refine q_ hf rfl rfl rfl (e_extract hf rfl rfl) fun a hf => ?_
 iterate 2 refine q_ hf rfl rfl rfl (e_assign hf rfl) fun a hf => ?_
 refine pl_nil ?_
 refine then_n ?_
 refine wp_seq ?_
 refine region_pl ?_
 refine q_ hf rfl rfl rfl (e_assign hf rfl) fun a hf => ?_
 refine pl_nil ?_
 refine then_n ?_
 obtain ⟨x167, h168, h⟩ := bind_some h
 refine seq_join (fun a w => ∃ (n165 : Int), n165 = x167 ∧ Has 77 a [(5, vP b23 (0)), (6, vS (y30)), (7, vI (y36)), (8, vP b132 (0)), (11, vI (y149.2.1)), (13, vL A159 (y157.1) c160), (14, vI (y157.2)), (15, vI (n165))] ∧ Mem C w [.row strRep A159 c160 9 y157.1 true, .row NodeRep A136 c137 76 y45.1.Nodes true, .box b132 [vL A136 (y45.1.Nodes) c137] 26, .box b23 [vL A17 (y15.Nodes) c18] 26] [.dat (sliceRep NodeRep) y15.Nodes [vL A17 y15.Nodes c18], .dat (sliceRep byteRep) more5 [vL A6 more5 c7], .dat (sliceRep byteRep) code1 [vL A2 code1 c3]] ∧ R64 n165) ?_ ?_
 ·refine wp_seq ?_
  obtain ⟨w169, hw⟩ : ∃ x, x = w162.drew := ⟨_, rfl⟩
  refine region_pi (.q 0 (.q 1 (.q 2 (.q 3 (.l 4 (.nil)))))) (Ext w169) rfl (by kernel_rfl) ?_
  have hM := hM.drew
  rw [← hw] at hM ⊢
  clear hw
  refine pi_q hf rfl rfl rfl rfl (Ext.refl _) (e_loadA hf (us := [vL A17 (y15.Nodes) c18]) rfl ⟨Tryd.isAgg26, Tryd.sizeOf26⟩ rfl (hM.boxSub (k := 3) (us := [vL A17 (y15.Nodes) c18]) (o := 0) rfl rfl)) fun a hf => ?_
  iterate 2 refine pi_q hf rfl rfl rfl rfl (Ext.refl _) (e_move hf rfl) fun a hf => ?_
  obtain ⟨s170, hz171, h168⟩ := bind_some h168
  refine pi_q hf rfl rfl rfl rfl (Ext.refl _) (e_subSh hf (x := y30) rfl rfl Tryd.underlying9 hz171) fun a hf => ?_
  refine pi_one ?_
  obtain ⟨y172, hz173, h168⟩ := bind_some h168
  refine pi_l hf rfl rfl rfl rfl (w_call hf Tryd.call24 rfl (r_spec_AcceptsWord ⟨_, Sh C _ _, none_, hM.sh_lt, none_not, C.G, hM.g_lt, g_none, hM.tabs⟩ y15 _ _ (hM.dat (k := 0) rfl) s170 (sub_len hz171 hv32) _ hz173) ?_)
  rintro _ w174 ⟨rfl, hM2⟩
  obtain ⟨hM, hx175, hup176⟩ := hM.back hM2
  dsimp only [List.cons_append, List.nil_append] at hM hup176
  clear hM2
  refine ⟨_, rfl, Ext w174, fun _ h => Ext.trans hx175 h, Ext.refl _, fun a hf => ?_⟩
  refine pi_nil ?_
  refine then_n ?_
  rcases cond_some h168 with ⟨hc177, h168⟩ | ⟨hc177, h168⟩
  ·refine cond_t hf rfl hc177 ?_
   refine region_pl ?_
   refine q_ hf rfl rfl rfl (e_assign hf rfl) fun a hf => ?_
   refine pl_nil ?_
   obtain rfl := some_inj h168
   refine then_n ?_
   exact ⟨1, rfl, hf.keep ⟨rfl, rfl, rfl, rfl, rfl, rfl, rfl, rfl, trivial⟩, hM.pick [0, 1, 2] rfl, (R64_lit rfl)⟩
  refine cond_f hf rfl hc177 ?_
  refine wp_skip ?_
  obtain rfl := some_inj h168
  refine then_n ?_
  exact ⟨0, rfl, hf.keep ⟨rfl, rfl, rfl, rfl, rfl, rfl, rfl, rfl, trivial⟩, hM.pick [0, 1, 2] rfl, (R64_lit rfl)⟩
 rintro a w180 ⟨n165, rfl, hf, hM, hv166⟩
 try dsimp only at h
 obtain ⟨x183, h184, h⟩ := bind_some h
 refine seq_join (fun a w => ∃ (word181 : Bool), word181 = x183 ∧ Has 77 a [(4, .bool (word181))] ∧ Mem C w [.row strRep A159 c160 9 y157.1 true, .row NodeRep A136 c137 76 y45.1.Nodes true, .box b132 [vL A136 (y45.1.Nodes) c137] 26, .box b23 [vL A17 (y15.Nodes) c18] 26] [.dat (sliceRep NodeRep) y15.Nodes [vL A17 y15.Nodes c18], .dat (sliceRep byteRep) more5 [vL A6 more5 c7], .dat (sliceRep byteRep) code1 [vL A2 code1 c3]]) ?_ ?_
 ·obtain ⟨w185, hw⟩ : ∃ x, x = w180.drew := ⟨_, rfl⟩
  refine region_pi (.q 0 (.q 1 (.q 2 (.q 3 (.q 4 (.q 5 (.q 6 (.q 7 (.q 8 (.q 9 (.q 10 (.q 11 (.q 12 (.q 13 (.q 14 (.q 16 (.q 17 (.l 15 (.l 18 (.q 19 (.q 20 (.q 21 (.nil))))))))))))))))))))))) (Ext w185) rfl (by kernel_rfl) ?_
  have hM := hM.drew
  rw [← hw] at hM ⊢
  clear hw
  refine pi_q hf rfl rfl rfl rfl (Ext.refl _) (e_move hf rfl) fun a hf => ?_
  refine pi_q hf rfl rfl rfl rfl (Ext.refl _) (e_eq hf (x := y157.2) (y := 0) rfl rfl) fun a hf => ?_
  refine pi_q hf rfl rfl rfl rfl (Ext.refl _) (e_move hf rfl) fun a hf => ?_
  rcases cond_some h184 with ⟨hc186, h184⟩ | ⟨hc186, h184⟩
  ·refine pi_gq hf rfl (wanted_t hf rfl rfl rfl rfl hc186) rfl rfl (Ext.refl _) (e_move hf rfl) fun a hf => ?_
   have hl187 := row_len (hM.ownAt (k := 0) rfl)
   refine pi_gq hf rfl (wanted_t hf rfl rfl rfl rfl hc186) rfl rfl (Ext.refl _) (e_lenL hf (x := y157.1) rfl Tryd.underlying28) fun a hf => ?_
   refine pi_gq hf rfl (wanted_t hf rfl rfl rfl rfl hc186) rfl rfl (Ext.refl _) (e_move hf rfl) fun a hf => ?_
   obtain ⟨z188, hz189, h184⟩ := bind_some h184
   refine pi_gq hf rfl (wanted_t hf rfl rfl rfl rfl hc186) rfl rfl (Ext.refl _) (e_add hf rfl rfl hz189) fun a hf => ?_
   refine pi_gq hf rfl (wanted_t hf rfl rfl rfl rfl hc186) rfl rfl (Ext.refl _) (e_move hf rfl) fun a hf => ?_
   refine pi_gq hf rfl (wanted_t hf rfl rfl rfl rfl hc186) rfl rfl (Ext.refl _) (e_eq hf (x := z188) (y := y149.2.1) rfl rfl) fun a hf => ?_
   refine pi_q hf rfl rfl rfl rfl (Ext.refl _) (e_pick_t hf rfl hc186 rfl) fun a hf => ?_
   refine pi_q hf rfl rfl rfl rfl (Ext.refl _) (e_move hf rfl) fun a hf => ?_
   rcases cond_some h184 with ⟨hc190, h184⟩ | ⟨hc190, h184⟩
   ·refine pi_gq hf rfl (wanted_t hf rfl rfl rfl rfl hc190) rfl rfl (Ext.refl _) (e_loadA hf (us := [vL A136 (y45.1.Nodes) c137]) rfl ⟨Tryd.isAgg26, Tryd.sizeOf26⟩ rfl (hM.boxSub (k := 2) (us := [vL A136 (y45.1.Nodes) c137]) (o := 0) rfl rfl)) fun a hf => ?_
    iterate 2 refine pi_gq hf rfl (wanted_t hf rfl rfl rfl rfl hc190) rfl rfl (Ext.refl _) (e_move hf rfl) fun a hf => ?_
    obtain ⟨s191, hz192, h184⟩ := bind_some h184
    refine pi_gq hf rfl (wanted_t hf rfl rfl rfl rfl hc190) rfl rfl (Ext.refl _) (e_subSl hf (x := y30) rfl rfl Tryd.underlying9 hz192) fun a hf => ?_
    refine pi_gq hf rfl (wanted_t hf rfl rfl rfl rfl hc190) rfl rfl (Ext.refl _) (e_loadA hf (us := [vL A17 (y15.Nodes) c18]) rfl ⟨Tryd.isAgg26, Tryd.sizeOf26⟩ rfl (hM.boxSub (k := 3) (us := [vL A17 (y15.Nodes) c18]) (o := 0) rfl rfl)) fun a hf => ?_
    refine pi_gq hf rfl (wanted_t hf rfl rfl rfl rfl hc190) rfl rfl (Ext.refl _) (e_move hf rfl) fun a hf => ?_
    refine pi_one ?_
    obtain ⟨y193, hz194, h184⟩ := bind_some h184
    refine pi_gl hf rfl (wanted_t hf rfl rfl rfl rfl hc190) rfl rfl (w_call hf Tryd.call26 rfl (r_impl_AcceptsWord ⟨_, All C _ _, none_, hM.all_lt, none_not, C.G, hM.g_lt, g_none, hM.tabs⟩ y45.1 _ _ (hM.lendRow (k := 1) rfl) s191 (sub_len hz192 hv32) _ hz194) ?_)
    rintro _ w195 ⟨rfl, hM2⟩
    obtain ⟨hM, hx196⟩ := hM.backA hM2
    clear hM2
    refine ⟨_, rfl, Ext w195, fun _ h => Ext.trans hx196 h, Ext.refl _, fun a hf => ?_⟩
    refine pi_one ?_
    obtain ⟨y198, hz199, h184⟩ := bind_some h184
    refine pi_gl hf rfl (wanted_t hf rfl rfl rfl rfl hc190) rfl rfl (w_call hf Tryd.call24 rfl (r_spec_AcceptsWord ⟨_, Sh C _ _, none_, hM.sh_lt, none_not, C.G, hM.g_lt, g_none, hM.tabs⟩ y15 _ _ (hM.dat (k := 0) rfl) y30 hv32 _ hz199) ?_)
    rintro _ w200 ⟨rfl, hM2⟩
    obtain ⟨hM, hx201, hup202⟩ := hM.back hM2
    dsimp only [List.cons_append, List.nil_append] at hM hup202
    clear hM2
    refine ⟨_, rfl, Ext w200, fun _ h => Ext.trans hx201 h, Ext.refl _, fun a hf => ?_⟩
    refine pi_gq hf rfl (wanted_t hf rfl rfl rfl rfl hc190) rfl rfl (Ext.refl _) (e_eqT hf rfl rfl Tryd.underlying4) fun a hf => ?_
    refine pi_q hf rfl rfl rfl rfl (Ext.refl _) (e_pick_t hf rfl hc190 rfl) fun a hf => ?_
    refine pi_q hf rfl rfl rfl rfl (Ext.refl _) (e_assign hf rfl) fun a hf => ?_
    refine pi_nil ?_
    obtain rfl := some_inj h184
    refine then_n ?_
    exact ⟨(y193 == y198), rfl, hf.keep ⟨rfl, trivial⟩, hM.pick [0, 1, 2] rfl⟩
   iterate 6 refine pi_gs hf rfl (wanted_f hf rfl rfl rfl rfl hc190) rfl rfl (Ext.refl _) fun a hf => ?_
   refine pi_one ?_
   refine pi_ls hf rfl (wanted_f hf rfl rfl rfl rfl hc190) rfl rfl (Ext.refl _) fun a hf => ?_
   refine pi_one ?_
   refine pi_ls hf rfl (wanted_f hf rfl rfl rfl rfl hc190) rfl rfl (Ext.refl _) fun a hf => ?_
   refine pi_gs hf rfl (wanted_f hf rfl rfl rfl rfl hc190) rfl rfl (Ext.refl _) fun a hf => ?_
   refine pi_q hf rfl rfl rfl rfl (Ext.refl _) (e_pick_f hf rfl hc190 rfl) fun a hf => ?_
   refine pi_q hf rfl rfl rfl rfl (Ext.refl _) (e_assign hf rfl) fun a hf => ?_
   refine pi_nil ?_
   obtain rfl := some_inj h184
   refine then_n ?_
   exact ⟨false, rfl, hf.keep ⟨rfl, trivial⟩, hM.pick [0, 1, 2] rfl⟩
  iterate 6 refine pi_gs hf rfl (wanted_f hf rfl rfl rfl rfl hc186) rfl rfl (Ext.refl _) fun a hf => ?_
  refine pi_q hf rfl rfl rfl rfl (Ext.refl _) (e_pick_f hf rfl hc186 rfl) fun a hf => ?_
  refine pi_q hf rfl rfl rfl rfl (Ext.refl _) (e_move hf rfl) fun a hf => ?_
  iterate 6 refine pi_gs hf rfl (wanted_f hf rfl rfl rfl rfl rfl) rfl rfl (Ext.refl _) fun a hf => ?_
  refine pi_one ?_
  refine pi_ls hf rfl (wanted_f hf rfl rfl rfl rfl rfl) rfl rfl (Ext.refl _) fun a hf => ?_
  refine pi_one ?_
  refine pi_ls hf rfl (wanted_f hf rfl rfl rfl rfl rfl) rfl rfl (Ext.refl _) fun a hf => ?_
  refine pi_gs hf rfl (wanted_f hf rfl rfl rfl rfl rfl) rfl rfl (Ext.refl _) fun a hf => ?_
  refine pi_q hf rfl rfl rfl rfl (Ext.refl _) (e_pick_f hf rfl rfl rfl) fun a hf => ?_
  refine pi_q hf rfl rfl rfl rfl (Ext.refl _) (e_assign hf rfl) fun a hf => ?_
  refine pi_nil ?_
  obtain rfl := some_inj h184
  refine then_n ?_
  exact ⟨false, rfl, hf.keep ⟨rfl, trivial⟩, hM.pick [0, 1, 2] rfl⟩
 rintro a w206 ⟨word181, rfl, hf, hM⟩
 try dsimp only at h
 refine wp_ret ?_
 obtain rfl := some_inj h
 have hM := hM.outs (own' := []) 0 rfl
 exact leave1 hf rfl rfl ⟨rfl, hM.fin⟩

end Go.Proofs.YtdaoecpkgobelaaDoor
