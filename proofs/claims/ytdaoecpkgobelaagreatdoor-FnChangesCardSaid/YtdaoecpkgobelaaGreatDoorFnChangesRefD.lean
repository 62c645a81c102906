/- The functions that this law reaches do what their models say. Printed by gen.py. -/
import Derived.Test.YtdaoecpkgobelaaGreatDoorMod
import Derived.Test.YtdaoecpkgobelaaGreatDoorLib
import Derived.Test.YtdaoecpkgobelaaGreatDoorErrIs
import Derived.Test.YtdaoecpkgobelaaGreatDoorFnChangesRefC
namespace Go.Proofs.YtdaoecpkgobelaaGreatDoor
open Go Go.RowKit
set_option linter.unusedSimpArgs false
set_option linter.unusedVariables false
set_option maxRecDepth 100000
set_option maxHeartbeats 4000000
theorem r_laws_FnChanges (C : Cx) (code1 : Str) (A2 : Option Addr) (c3 : Nat) (hp4 : (sliceRep byteRep).R C.w0 C.S0 code1 [vL A2 code1 c3]) (more5 : Str) (A6 : Option Addr) (c7 : Nat) (hp8 : (sliceRep byteRep).R C.w0 C.S0 more5 [vL A6 more5 c7]) (r : Bool) (h : m_laws_FnChanges code1 more5 = some r) :
    Calls Tryz.prog 4 #[vL A2 (code1) c3, vL A6 (more5) c7] C.w0 fun e w => e = .returned (.bool (r)) ∧ Mem C w [] [] := by
 have hM := Mem.begin C [.dat (sliceRep byteRep) more5 [vL A6 more5 c7], .dat (sliceRep byteRep) code1 [vL A2 code1 c3]] ⟨hp8, hp4, trivial⟩
 refine enter Tryz.func4 rfl Tryz.ntmps4 rfl fun a hf => ?_
 unfold m_laws_FnChanges at h
 refine wp_seq ?_
 refine region_pl ?_
 refine q_ hf rfl rfl rfl (e_assign hf rfl) fun a hf => ?_
 refine pl_nil ?_
 refine then_n ?_
 iterate 2 refine wp_seq ?_
 refine region_pl ?_
 iterate 2 refine q_ hf rfl rfl rfl (e_move hf rfl) fun a hf => ?_
 obtain ⟨y9, hz10, h⟩ := bind_some h
 refine pl_l hf rfl rfl rfl (w_call hf Tryz.call5 rfl (r_laws_a2Long ⟨_, Sh C _ _, none_, hM.sh_lt, none_not, C.G, hM.g_lt, g_none, hM.tabs⟩ code1 _ _ (hM.dat (k := 1) rfl) more5 _ _ (hM.dat (k := 0) rfl) _ hz10) ?_)
 rintro _ w11 ⟨rfl, hM2⟩
 obtain ⟨hM, hx12, hup13⟩ := hM.back hM2
 dsimp only [List.cons_append, List.nil_append] at hM hup13
 clear hM2
 refine ⟨_, rfl, fun a hf => ?_⟩
 refine pl_nil ?_
 refine then_n ?_
 rcases cond_some h with ⟨hc14, h⟩ | ⟨hc14, h⟩
 ·refine cond_t hf rfl hc14 ?_
  refine wp_seq ?_
  refine region_pl ?_
  refine q_ hf rfl rfl rfl (e_assign hf rfl) fun a hf => ?_
  refine pl_nil ?_
  refine then_n ?_
  refine wp_ret ?_
  refine then_r ?_
  obtain rfl := some_inj h
  exact leave1 hf rfl rfl ⟨rfl, hM.fin⟩
 refine cond_f hf rfl hc14 ?_
 refine wp_skip ?_
 refine then_n ?_
 refine wp_seq ?_
 refine region_pl ?_
 refine q_ hf rfl rfl rfl (e_move hf rfl) fun a hf => ?_
 obtain ⟨y15, hz16, h⟩ := bind_some h
 refine pl_l hf rfl rfl rfl (w_call hf Tryz.call19 rfl (r_spec_A2Dawg ⟨_, Sh C _ _, none_, hM.sh_lt, none_not, C.G, hM.g_lt, g_none, hM.tabs⟩ code1 _ _ (hM.dat (k := 1) rfl) _ hz16) ?_)
 rintro _ w20 ⟨A17, c18, rfl, hM2, hv19⟩
 obtain ⟨hM, hx21, hup22⟩ := hM.back hM2
 dsimp only [List.cons_append, List.nil_append] at hM hup22
 clear hM2
 have hM := hM.add (y := .dat (sliceRep NodeRep) y15.Nodes [vL A17 y15.Nodes c18]) (hup22 hv19)
 refine ⟨_, rfl, fun a hf => ?_⟩
 refine pl_l hf rfl rfl rfl (w_alloc hM (cs := [vL none (([] : (List Node))) 0]) Tryz.zeroValue31 rfl fun b23 w24 hx25 hM a hf => ?_)
 refine pl_0 hf rfl rfl (w_store hf hM (us := [vL A17 (y15.Nodes) c18]) (cs' := [vL A17 (y15.Nodes) c18]) rfl rfl (k := 0) rfl rfl Tryz.sizeOf31 rfl rfl rfl fun w27 hM => ?_)
 dsimp only [List.set] at hM
 refine pl_nil ?_
 refine then_n ?_
 refine wp_seq ?_
 refine region_pl ?_
 refine q_ hf rfl rfl rfl (e_move hf rfl) fun a hf => ?_
 obtain ⟨y30, hz31, h⟩ := bind_some h
 refine pl_l hf rfl rfl rfl (w_call hf Tryz.call19 rfl (r_spec_A2Dawg ⟨_, Sh C _ _, none_, hM.sh_lt, none_not, C.G, hM.g_lt, g_none, hM.tabs⟩ more5 _ _ (hM.dat (k := 1) rfl) _ hz31) ?_)
 rintro _ w35 ⟨A32, c33, rfl, hM2, hv34⟩
 obtain ⟨hM, hx36, hup37⟩ := hM.back hM2
 dsimp only [List.cons_append, List.nil_append] at hM hup37
 clear hM2
 have hM := hM.add (y := .dat (sliceRep NodeRep) y30.Nodes [vL A32 y30.Nodes c33]) (hup37 hv34)
 refine ⟨_, rfl, fun a hf => ?_⟩
 refine pl_l hf rfl rfl rfl (w_alloc hM (cs := [vL none (([] : (List Node))) 0]) Tryz.zeroValue31 rfl fun b38 w39 hx40 hM a hf => ?_)
 refine pl_0 hf rfl rfl (w_store hf hM (us := [vL A32 (y30.Nodes) c33]) (cs' := [vL A32 (y30.Nodes) c33]) rfl rfl (k := 0) rfl rfl Tryz.sizeOf31 rfl rfl rfl fun w42 hM => ?_)
 dsimp only [List.set] at hM
 refine pl_nil ?_
 refine then_n ?_
 refine wp_seq ?_
 refine region_pl ?_
 refine q_ hf rfl rfl rfl (e_move hf rfl) fun a hf => ?_
 obtain ⟨y45, hz46, h⟩ := bind_some h
 refine pl_l hf rfl rfl rfl (w_call hf Tryz.call7 rfl (r_spec_A2Word ⟨_, Sh C _ _, none_, hM.sh_lt, none_not, C.G, hM.g_lt, g_none, hM.tabs⟩ more5 _ _ (hM.dat (k := 2) rfl) _ hz46) ?_)
 rintro _ w48 ⟨rfl, hM2, hv47⟩
 obtain ⟨hM, hx49, hup50⟩ := hM.back hM2
 dsimp only [List.cons_append, List.nil_append] at hM hup50
 clear hM2
 refine ⟨_, rfl, fun a hf => ?_⟩
 refine q_ hf rfl rfl rfl (e_assign hf rfl) fun a hf => ?_
 refine pl_nil ?_
 refine then_n ?_
 refine wp_seq ?_
 refine region_pl ?_
 refine q_ hf rfl rfl rfl (e_loadA hf (us := [vL A17 (y15.Nodes) c18]) rfl ⟨Tryz.isAgg31, Tryz.sizeOf31⟩ rfl (hM.boxSub (k := 1) (us := [vL A17 (y15.Nodes) c18]) (o := 0) rfl rfl)) fun a hf => ?_
 refine q_ hf rfl rfl rfl (e_move hf rfl) fun a hf => ?_
 obtain ⟨y51, hz52, h⟩ := bind_some h
 refine pl_l hf rfl rfl rfl (w_call hf Tryz.call20 rfl (r_impl_AddToDawg ⟨_, Sh C _ _, none_, hM.sh_lt, none_not, C.G, hM.g_lt, g_none, hM.tabs⟩ y15 _ _ (hM.dat (k := 1) rfl) y45 hv47 _ hz52) ?_)
 rintro _ w56 ⟨A53, c54, rfl, hM2, hv55⟩
 obtain ⟨hM, hx57, hup58⟩ := hM.back hM2
 dsimp only [List.cons_append, List.nil_append] at hM hup58
 clear hM2
 refine ⟨_, rfl, fun a hf => ?_⟩
 refine q_ hf rfl rfl rfl (e_move hf rfl) fun a hf => ?_
 iterate 2 refine q_ hf rfl rfl rfl (e_extract hf rfl rfl) fun a hf => ?_
 refine pl_l hf rfl rfl rfl (w_alloc hM (cs := [vL none (([] : (List Node))) 0]) Tryz.zeroValue31 rfl fun b59 w60 hx61 hM a hf => ?_)
 refine pl_0 hf rfl rfl (w_store hf hM (us := [vL A53 (y51.1.Nodes) c54]) (cs' := [vL A53 (y51.1.Nodes) c54]) rfl rfl (k := 0) rfl rfl Tryz.sizeOf31 rfl rfl rfl fun w63 hM => ?_)
 dsimp only [List.set] at hM
 refine q_ hf rfl rfl rfl (e_assign hf rfl) fun a hf => ?_
 refine pl_nil ?_
 refine then_n ?_
 obtain ⟨x69, h70, h⟩ := bind_some h
 refine seq_join (fun a w => ∃ (l66 : (List Node)) (A67 : Option Addr) (c68 : Nat), (.inl l66) = x69 ∧ Has 105 a [(5, vP b23 (0)), (6, vP b38 (0))] ∧ Mem C w [.box b59 [vL A67 (l66) c68] 31, .box b38 [vL A32 (y30.Nodes) c33] 31, .box b23 [vL A17 (y15.Nodes) c18] 31] [.dat (sliceRep NodeRep) l66 [vL A67 l66 c68], .dat (sliceRep NodeRep) y30.Nodes [vL A32 y30.Nodes c33], .dat (sliceRep NodeRep) y15.Nodes [vL A17 y15.Nodes c18], .dat (sliceRep byteRep) more5 [vL A6 more5 c7], .dat (sliceRep byteRep) code1 [vL A2 code1 c3]]) ?_ ?_
 ·refine wp_seq ?_
  refine region_pl ?_
  refine q_ hf rfl rfl rfl (e_move hf rfl) fun a hf => ?_
  refine q_ hf rfl rfl rfl (e_eq hf (x := y51.2) (y := 0) rfl rfl) fun a hf => ?_
  refine pl_nil ?_
  refine then_n ?_
  rcases cond_some h70 with ⟨hc71, h70⟩ | ⟨hc71, h70⟩
  ·refine cond_t hf rfl hc71 ?_
   refine wp_seq ?_
   refine region_pl ?_
   refine q_ hf rfl rfl rfl (e_loadA hf (us := [vL A53 (y51.1.Nodes) c54]) rfl ⟨Tryz.isAgg31, Tryz.sizeOf31⟩ rfl (hM.boxSub (k := 0) (us := [vL A53 (y51.1.Nodes) c54]) (o := 0) rfl rfl)) fun a hf => ?_
   refine q_ hf rfl rfl rfl (e_move hf rfl) fun a hf => ?_
   have hM := hM.freezeRow (k := 1) rfl rfl
   dsimp only [List.eraseIdx] at hM
   obtain ⟨y72, hz73, h70⟩ := bind_some h70
   refine pl_l hf rfl rfl rfl (w_call hf Tryz.call21 rfl (r_impl_RemoveFromDawg ⟨_, Sh C _ _, none_, hM.sh_lt, none_not, C.G, hM.g_lt, g_none, hM.tabs⟩ y51.1 _ _ (hM.dat (k := 0) rfl) y45 hv47 _ hz73) ?_)
   rintro _ w77 ⟨A74, c75, rfl, hM2, hv76⟩
   obtain ⟨hM, hx78, hup79⟩ := hM.back hM2
   dsimp only [List.cons_append, List.nil_append] at hM hup79
   clear hM2
   refine ⟨_, rfl, fun a hf => ?_⟩
   refine q_ hf rfl rfl rfl (e_move hf rfl) fun a hf => ?_
   iterate 2 refine q_ hf rfl rfl rfl (e_extract hf rfl rfl) fun a hf => ?_
   refine pl_l hf rfl rfl rfl (w_alloc hM (cs := [vL none (([] : (List Node))) 0]) Tryz.zeroValue31 rfl fun b80 w81 hx82 hM a hf => ?_)
   refine pl_0 hf rfl rfl (w_store hf hM (us := [vL A74 (y72.1.Nodes) c75]) (cs' := [vL A74 (y72.1.Nodes) c75]) rfl rfl (k := 0) rfl rfl Tryz.sizeOf31 rfl rfl rfl fun w84 hM => ?_)
   dsimp only [List.set] at hM
   refine q_ hf rfl rfl rfl (e_assign hf rfl) fun a hf => ?_
   refine pl_nil ?_
   refine then_n ?_
   obtain ⟨x89, h90, h70⟩ := bind_some h70
   refine seq_join (fun a w => ∃ (t87 : Bool), t87 = x89 ∧ Has 105 a [(5, vP b23 (0)), (6, vP b38 (0)), (55, .bool (t87))] ∧ Mem C w [.box b80 [vL A74 (y72.1.Nodes) c75] 31, .row NodeRep A74 c75 47 y72.1.Nodes true, .box b59 [vL A53 (y51.1.Nodes) c54] 31, .box b38 [vL A32 (y30.Nodes) c33] 31, .box b23 [vL A17 (y15.Nodes) c18] 31] [.dat (sliceRep NodeRep) y51.1.Nodes [vL A53 y51.1.Nodes c54], .dat (sliceRep NodeRep) y30.Nodes [vL A32 y30.Nodes c33], .dat (sliceRep NodeRep) y15.Nodes [vL A17 y15.Nodes c18], .dat (sliceRep byteRep) more5 [vL A6 more5 c7], .dat (sliceRep byteRep) code1 [vL A2 code1 c3]]) ?_ ?_
   ·refine region_pl ?_
    refine q_ hf rfl rfl rfl (e_move hf rfl) fun a hf => ?_
    refine q_ hf rfl rfl rfl (e_ne hf (x := y72.2) (y := 0) rfl rfl) fun a hf => ?_
    refine q_ hf rfl rfl rfl (e_move hf rfl) fun a hf => ?_
    rcases cond_some h90 with ⟨hc91, h90⟩ | ⟨hc91, h90⟩
    ·iterate 4 refine pl_gs (wanted_f hf rfl rfl rfl rfl hc91) hf rfl rfl fun a hf => ?_
     refine q_ hf rfl rfl rfl (e_pick_t hf rfl hc91 rfl) fun a hf => ?_
     refine q_ hf rfl rfl rfl (e_move hf rfl) fun a hf => ?_
     iterate 4 refine pl_gs (wanted_f hf rfl rfl rfl rfl rfl) hf rfl rfl fun a hf => ?_
     refine q_ hf rfl rfl rfl (e_pick_t hf rfl rfl rfl) fun a hf => ?_
     refine pl_nil ?_
     obtain rfl := some_inj h90
     refine then_n ?_
     exact ⟨true, rfl, hf.keep ⟨rfl, rfl, rfl, trivial⟩, hM.pick [0, 1, 2, 3, 4] rfl⟩
    refine gq (wanted_t hf rfl rfl rfl rfl hc91) hf rfl rfl (e_loadA hf (us := [vL A74 (y72.1.Nodes) c75]) rfl ⟨Tryz.isAgg31, Tryz.sizeOf31⟩ rfl (hM.boxSub (k := 0) (us := [vL A74 (y72.1.Nodes) c75]) (o := 0) rfl rfl)) fun a hf => ?_
    refine gq (wanted_t hf rfl rfl rfl rfl hc91) hf rfl rfl (e_loadA hf (us := [vL A17 (y15.Nodes) c18]) rfl ⟨Tryz.isAgg31, Tryz.sizeOf31⟩ rfl (hM.boxSub (k := 4) (us := [vL A17 (y15.Nodes) c18]) (o := 0) rfl rfl)) fun a hf => ?_
    obtain ⟨y93, hz94, h90⟩ := bind_some h90
    refine pl_gl (wanted_t hf rfl rfl rfl rfl hc91) hf rfl rfl (w_call hf Tryz.call15 rfl (r_spec_SameDawg ⟨_, All C _ _, none_, hM.all_lt, none_not, C.G, hM.g_lt, g_none, hM.tabs⟩ y72.1 _ _ (hM.lendRow (k := 1) rfl) y15 _ _ (hM.lendDat (k := 2) rfl) _ hz94) ?_)
    rintro _ w95 ⟨rfl, hM2⟩
    obtain ⟨hM, hx96⟩ := hM.backA hM2
    clear hM2
    refine ⟨_, rfl, fun a hf => ?_⟩
    refine gq (wanted_t hf rfl rfl rfl rfl hc91) hf rfl rfl (e_not hf rfl) fun a hf => ?_
    refine q_ hf rfl rfl rfl (e_pick_f hf rfl hc91 rfl) fun a hf => ?_
    refine q_ hf rfl rfl rfl (e_move hf rfl) fun a hf => ?_
    rcases cond_some h90 with ⟨hc98, h90⟩ | ⟨hc98, h90⟩
    ·iterate 4 refine pl_gs (wanted_f hf rfl rfl rfl rfl hc98) hf rfl rfl fun a hf => ?_
     refine q_ hf rfl rfl rfl (e_pick_t hf rfl hc98 rfl) fun a hf => ?_
     refine pl_nil ?_
     obtain rfl := some_inj h90
     refine then_n ?_
     exact ⟨true, rfl, hf.keep ⟨rfl, rfl, rfl, trivial⟩, hM.pick [0, 1, 2, 3, 4] rfl⟩
    refine gq (wanted_t hf rfl rfl rfl rfl hc98) hf rfl rfl (e_loadA hf (us := [vL A53 (y51.1.Nodes) c54]) rfl ⟨Tryz.isAgg31, Tryz.sizeOf31⟩ rfl (hM.boxSub (k := 2) (us := [vL A53 (y51.1.Nodes) c54]) (o := 0) rfl rfl)) fun a hf => ?_
    refine gq (wanted_t hf rfl rfl rfl rfl hc98) hf rfl rfl (e_move hf rfl) fun a hf => ?_
    obtain ⟨y100, hz101, h90⟩ := bind_some h90
    refine pl_gl (wanted_t hf rfl rfl rfl rfl hc98) hf rfl rfl (w_call hf Tryz.call22 rfl (r_spec_AcceptsWord ⟨_, Sh C _ _, none_, hM.sh_lt, none_not, C.G, hM.g_lt, g_none, hM.tabs⟩ y51.1 _ _ (hM.dat (k := 0) rfl) y45 hv47 _ hz101) ?_)
    rintro _ w102 ⟨rfl, hM2⟩
    obtain ⟨hM, hx103, hup104⟩ := hM.back hM2
    dsimp only [List.cons_append, List.nil_append] at hM hup104
    clear hM2
    refine ⟨_, rfl, fun a hf => ?_⟩
    refine gq (wanted_t hf rfl rfl rfl rfl hc98) hf rfl rfl (e_not hf rfl) fun a hf => ?_
    refine q_ hf rfl rfl rfl (e_pick_f hf rfl hc98 rfl) fun a hf => ?_
    refine pl_nil ?_
    obtain rfl := some_inj h90
    refine then_n ?_
    exact ⟨(!y100), rfl, hf.keep ⟨rfl, rfl, rfl, trivial⟩, hM.pick [0, 1, 2, 3, 4] rfl⟩
   rintro a w106 ⟨t87, rfl, hf, hM⟩
   try dsimp only at h70
   rcases cond_some h70 with ⟨hc107, h70⟩ | ⟨hc107, h70⟩
   ·refine cond_t hf rfl hc107 ?_
    refine wp_seq ?_
    refine region_pl ?_
    refine q_ hf rfl rfl rfl (e_assign hf rfl) fun a hf => ?_
    refine pl_nil ?_
    refine then_n ?_
    refine wp_ret ?_
    obtain rfl := some_inj h70
    try dsimp only at h
    refine then_r ?_
    obtain rfl := some_inj h
    have hM := hM.outs (own' := []) 0 rfl
    exact leave1 hf rfl rfl ⟨rfl, hM.fin⟩
   refine cond_f hf rfl hc107 ?_
   refine wp_skip ?_
   obtain rfl := some_inj h70
   refine then_n ?_
   exact ⟨y51.1.Nodes, A53, c54, rfl, hf.keep ⟨rfl, rfl, trivial⟩, (hM.drop (.cons _ (.cons _ (.cons_cons _ (.cons_cons _ (.cons_cons _ .slnil)))))).pick [0, 1, 2, 3, 4] rfl⟩
  refine cond_f hf rfl hc71 ?_
  obtain ⟨x111, h112, h70⟩ := bind_some h70
  refine seq_join (fun a w => ∃ (t109 : Bool), t109 = x111 ∧ Has 105 a [(5, vP b23 (0)), (6, vP b38 (0)), (63, .bool (t109))] ∧ Mem C w [.box b59 [vL A53 (y51.1.Nodes) c54] 31, .row NodeRep A53 c54 47 y51.1.Nodes true, .box b38 [vL A32 (y30.Nodes) c33] 31, .box b23 [vL A17 (y15.Nodes) c18] 31] [.dat (sliceRep NodeRep) y30.Nodes [vL A32 y30.Nodes c33], .dat (sliceRep NodeRep) y15.Nodes [vL A17 y15.Nodes c18], .dat (sliceRep byteRep) more5 [vL A6 more5 c7], .dat (sliceRep byteRep) code1 [vL A2 code1 c3]]) ?_ ?_
  ·refine region_pl ?_
   refine q_ hf rfl rfl rfl (e_move hf rfl) fun a hf => ?_
   refine q_ hf rfl rfl rfl (e_ne hf (x := y51.2) (y := 4) rfl rfl) fun a hf => ?_
   refine q_ hf rfl rfl rfl (e_move hf rfl) fun a hf => ?_
   rcases cond_some h112 with ⟨hc113, h112⟩ | ⟨hc113, h112⟩
   ·iterate 4 refine pl_gs (wanted_f hf rfl rfl rfl rfl hc113) hf rfl rfl fun a hf => ?_
    refine q_ hf rfl rfl rfl (e_pick_t hf rfl hc113 rfl) fun a hf => ?_
    refine pl_nil ?_
    obtain rfl := some_inj h112
    refine then_n ?_
    exact ⟨true, rfl, hf.keep ⟨rfl, rfl, rfl, trivial⟩, hM.pick [0, 1, 2, 3] rfl⟩
   refine gq (wanted_t hf rfl rfl rfl rfl hc113) hf rfl rfl (e_loadA hf (us := [vL A17 (y15.Nodes) c18]) rfl ⟨Tryz.isAgg31, Tryz.sizeOf31⟩ rfl (hM.boxSub (k := 3) (us := [vL A17 (y15.Nodes) c18]) (o := 0) rfl rfl)) fun a hf => ?_
   refine gq (wanted_t hf rfl rfl rfl rfl hc113) hf rfl rfl (e_move hf rfl) fun a hf => ?_
   obtain ⟨y115, hz116, h112⟩ := bind_some h112
   refine pl_gl (wanted_t hf rfl rfl rfl rfl hc113) hf rfl rfl (w_call hf Tryz.call22 rfl (r_spec_AcceptsWord ⟨_, Sh C _ _, none_, hM.sh_lt, none_not, C.G, hM.g_lt, g_none, hM.tabs⟩ y15 _ _ (hM.dat (k := 1) rfl) y45 hv47 _ hz116) ?_)
   rintro _ w117 ⟨rfl, hM2⟩
   obtain ⟨hM, hx118, hup119⟩ := hM.back hM2
   dsimp only [List.cons_append, List.nil_append] at hM hup119
   clear hM2
   refine ⟨_, rfl, fun a hf => ?_⟩
   refine gq (wanted_t hf rfl rfl rfl rfl hc113) hf rfl rfl (e_not hf rfl) fun a hf => ?_
   refine q_ hf rfl rfl rfl (e_pick_f hf rfl hc113 rfl) fun a hf => ?_
   refine pl_nil ?_
   obtain rfl := some_inj h112
   refine then_n ?_
   exact ⟨(!y115), rfl, hf.keep ⟨rfl, rfl, rfl, trivial⟩, hM.pick [0, 1, 2, 3] rfl⟩
  rintro a w121 ⟨t109, rfl, hf, hM⟩
  try dsimp only at h70
  rcases cond_some h70 with ⟨hc122, h70⟩ | ⟨hc122, h70⟩
  ·refine cond_t hf rfl hc122 ?_
   refine wp_seq ?_
   refine region_pl ?_
   refine q_ hf rfl rfl rfl (e_assign hf rfl) fun a hf => ?_
   refine pl_nil ?_
   refine then_n ?_
   refine wp_ret ?_
   obtain rfl := some_inj h70
   try dsimp only at h
   refine then_r ?_
   obtain rfl := some_inj h
   have hM := hM.outs (own' := []) 0 rfl
   exact leave1 hf rfl rfl ⟨rfl, hM.fin⟩
  refine cond_f hf rfl hc122 ?_
  refine wp_skip ?_
  obtain rfl := some_inj h70
  refine then_n ?_
  have hM := hM.freezeRow (k := 1) rfl rfl
  dsimp only [List.eraseIdx] at hM
  exact ⟨y51.1.Nodes, A53, c54, rfl, hf.keep ⟨rfl, rfl, trivial⟩, hM.pick [0, 1, 2, 3, 4] rfl⟩
 rintro a w124 ⟨l66, A67, c68, rfl, hf, hM⟩
 try dsimp only at h
 refine wp_seq ?_
 refine region_pl ?_
 refine q_ hf rfl rfl rfl (e_loadA hf (us := [vL A17 (y15.Nodes) c18]) rfl ⟨Tryz.isAgg31, Tryz.sizeOf31⟩ rfl (hM.boxSub (k := 2) (us := [vL A17 (y15.Nodes) c18]) (o := 0) rfl rfl)) fun a hf => ?_
 refine q_ hf rfl rfl rfl (e_loadA hf (us := [vL A32 (y30.Nodes) c33]) rfl ⟨Tryz.isAgg31, Tryz.sizeOf31⟩ rfl (hM.boxSub (k := 1) (us := [vL A32 (y30.Nodes) c33]) (o := 0) rfl rfl)) fun a hf => ?_
 obtain ⟨y125, hz126, h⟩ := bind_some h
 refine pl_l hf rfl rfl rfl (w_call hf Tryz.call23 rfl (r_impl_DawgChanges ⟨_, Sh C _ _, none_, hM.sh_lt, none_not, C.G, hM.g_lt, g_none, hM.tabs⟩ y15 _ _ (hM.dat (k := 2) rfl) y30 _ _ (hM.dat (k := 1) rfl) _ hz126) ?_)
 rintro _ w132 ⟨A127, c128, A129, c130, rfl, hM2, hv131⟩
 obtain ⟨hM, hx133, hup134⟩ := hM.back hM2
 dsimp only [List.cons_append, List.nil_append] at hM hup134
 clear hM2
 refine ⟨_, rfl, fun a hf => ?_⟩
 refine q_ hf rfl rfl rfl (e_move hf rfl) fun a hf => ?_
 iterate 3 refine q_ hf rfl rfl rfl (e_extract hf rfl rfl) fun a hf => ?_
 iterate 3 refine q_ hf rfl rfl rfl (e_assign hf rfl) fun a hf => ?_
 refine pl_nil ?_
 refine then_n ?_
 refine wp_seq ?_
 refine region_pl ?_
 refine q_ hf rfl rfl rfl (e_loadA hf (us := [vL A17 (y15.Nodes) c18]) rfl ⟨Tryz.isAgg31, Tryz.sizeOf31⟩ rfl (hM.boxSub (k := 4) (us := [vL A17 (y15.Nodes) c18]) (o := 0) rfl rfl)) fun a hf => ?_
 iterate 2 refine q_ hf rfl rfl rfl (e_move hf rfl) fun a hf => ?_
 have hM := hM.freezeRow (k := 0) rfl rfl
 dsimp only [List.eraseIdx] at hM
 have hM := hM.freezeRow (k := 0) rfl rfl
 dsimp only [List.eraseIdx] at hM
 obtain ⟨y135, hz136, h⟩ := bind_some h
 refine pl_l hf rfl rfl rfl (w_call hf Tryz.call24 rfl (r_impl_ChangeDawg ⟨_, Sh C _ _, none_, hM.sh_lt, none_not, C.G, hM.g_lt, g_none, hM.tabs⟩ y15 _ _ (hM.dat (k := 4) rfl) y125.1 _ _ (hM.dat (k := 1) rfl) y125.2.1 _ _ (hM.dat (k := 0) rfl) _ hz136) ?_)
 rintro _ w140 ⟨A137, c138, rfl, hM2, hv139⟩
 obtain ⟨hM, hx141, hup142⟩ := hM.back hM2
 dsimp only [List.cons_append, List.nil_append] at hM hup142
 clear hM2
 refine ⟨_, rfl, fun a hf => ?_⟩
 refine q_ hf rfl rfl rfl (e_move hf rfl) fun a hf => ?_
 iterate 2 refine q_ hf rfl rfl rfl (e_extract hf rfl rfl) fun a hf => ?_
 refine pl_l hf rfl rfl rfl (w_alloc hM (cs := [vL none (([] : (List Node))) 0]) Tryz.zeroValue31 rfl fun b143 w144 hx145 hM a hf => ?_)
 refine pl_0 hf rfl rfl (w_store hf hM (us := [vL A137 (y135.1.Nodes) c138]) (cs' := [vL A137 (y135.1.Nodes) c138]) rfl rfl (k := 0) rfl rfl Tryz.sizeOf31 rfl rfl rfl fun w147 hM => ?_)
 dsimp only [List.set] at hM
 refine q_ hf rfl rfl rfl (e_assign hf rfl) fun a hf => ?_
 refine pl_nil ?_
 refine then_n ?_
 refine wp_seq ?_
 refine region_pl ?_
 refine q_ hf rfl rfl rfl (e_loadA hf (us := [vL A32 (y30.Nodes) c33]) rfl ⟨Tryz.isAgg31, Tryz.sizeOf31⟩ rfl (hM.boxSub (k := 3) (us := [vL A32 (y30.Nodes) c33]) (o := 0) rfl rfl)) fun a hf => ?_
 iterate 2 refine q_ hf rfl rfl rfl (e_move hf rfl) fun a hf => ?_
 obtain ⟨y150, hz151, h⟩ := bind_some h
 refine pl_l hf rfl rfl rfl (w_call hf Tryz.call24 rfl (r_impl_ChangeDawg ⟨_, Sh C _ _, none_, hM.sh_lt, none_not, C.G, hM.g_lt, g_none, hM.tabs⟩ y30 _ _ (hM.dat (k := 3) rfl) y125.2.1 _ _ (hM.dat (k := 0) rfl) y125.1 _ _ (hM.dat (k := 1) rfl) _ hz151) ?_)
 rintro _ w155 ⟨A152, c153, rfl, hM2, hv154⟩
 obtain ⟨hM, hx156, hup157⟩ := hM.back hM2
 dsimp only [List.cons_append, List.nil_append] at hM hup157
 clear hM2
 refine ⟨_, rfl, fun a hf => ?_⟩
 refine q_ hf rfl rfl rfl (e_move hf rfl) fun a hf => ?_
 iterate 2 refine q_ hf rfl rfl rfl (e_extract hf rfl rfl) fun a hf => ?_
 refine pl_l hf rfl rfl rfl (w_alloc hM (cs := [vL none (([] : (List Node))) 0]) Tryz.zeroValue31 rfl fun b158 w159 hx160 hM a hf => ?_)
 refine pl_0 hf rfl rfl (w_store hf hM (us := [vL A152 (y150.1.Nodes) c153]) (cs' := [vL A152 (y150.1.Nodes) c153]) rfl rfl (k := 0) rfl rfl Tryz.sizeOf31 rfl rfl rfl fun w162 hM => ?_)
 dsimp only [List.set] at hM
 refine q_ hf rfl rfl rfl (e_assign hf rfl) fun a hf => ?_
 refine pl_nil ?_
 refine then_n ?_
 obtain ⟨x167, h168, h⟩ := bind_some h
 refine seq_join (fun a w => ∃ (b165 : Bool), b165 = x167 ∧ Has 105 a [(4, .bool (b165))] ∧ Mem C w [.box b158 [vL A152 (y150.1.Nodes) c153] 31, .row NodeRep A152 c153 47 y150.1.Nodes true, .box b143 [vL A137 (y135.1.Nodes) c138] 31, .row NodeRep A137 c138 47 y135.1.Nodes true, .box b59 [vL A67 (l66) c68] 31, .box b38 [vL A32 (y30.Nodes) c33] 31, .box b23 [vL A17 (y15.Nodes) c18] 31] [.dat (sliceRep strRep) y125.2.1 [vL A129 y125.2.1 c130], .dat (sliceRep strRep) y125.1 [vL A127 y125.1 c128], .dat (sliceRep NodeRep) l66 [vL A67 l66 c68], .dat (sliceRep NodeRep) y30.Nodes [vL A32 y30.Nodes c33], .dat (sliceRep NodeRep) y15.Nodes [vL A17 y15.Nodes c18], .dat (sliceRep byteRep) more5 [vL A6 more5 c7], .dat (sliceRep byteRep) code1 [vL A2 code1 c3]]) ?_ ?_
 ·refine region_pl ?_
  refine q_ hf rfl rfl rfl (e_move hf rfl) fun a hf => ?_
  refine q_ hf rfl rfl rfl (e_eq hf (x := y125.2.2) (y := 0) rfl rfl) fun a hf => ?_
  refine q_ hf rfl rfl rfl (e_move hf rfl) fun a hf => ?_
  rcases cond_some h168 with ⟨hc169, h168⟩ | ⟨hc169, h168⟩
  ·refine gq (wanted_t hf rfl rfl rfl rfl hc169) hf rfl rfl (e_move hf rfl) fun a hf => ?_
   refine gq (wanted_t hf rfl rfl rfl rfl hc169) hf rfl rfl (e_eq hf (x := y135.2) (y := 0) rfl rfl) fun a hf => ?_
   refine q_ hf rfl rfl rfl (e_pick_t hf rfl hc169 rfl) fun a hf => ?_
   refine q_ hf rfl rfl rfl (e_move hf rfl) fun a hf => ?_
   rcases cond_some h168 with ⟨hc170, h168⟩ | ⟨hc170, h168⟩
   ·refine gq (wanted_t hf rfl rfl rfl rfl hc170) hf rfl rfl (e_move hf rfl) fun a hf => ?_
    refine gq (wanted_t hf rfl rfl rfl rfl hc170) hf rfl rfl (e_eq hf (x := y150.2) (y := 0) rfl rfl) fun a hf => ?_
    refine q_ hf rfl rfl rfl (e_pick_t hf rfl hc170 rfl) fun a hf => ?_
    refine q_ hf rfl rfl rfl (e_move hf rfl) fun a hf => ?_
    rcases cond_some h168 with ⟨hc171, h168⟩ | ⟨hc171, h168⟩
    ·refine gq (wanted_t hf rfl rfl rfl rfl hc171) hf rfl rfl (e_loadA hf (us := [vL A137 (y135.1.Nodes) c138]) rfl ⟨Tryz.isAgg31, Tryz.sizeOf31⟩ rfl (hM.boxSub (k := 2) (us := [vL A137 (y135.1.Nodes) c138]) (o := 0) rfl rfl)) fun a hf => ?_
     refine gq (wanted_t hf rfl rfl rfl rfl hc171) hf rfl rfl (e_loadA hf (us := [vL A32 (y30.Nodes) c33]) rfl ⟨Tryz.isAgg31, Tryz.sizeOf31⟩ rfl (hM.boxSub (k := 5) (us := [vL A32 (y30.Nodes) c33]) (o := 0) rfl rfl)) fun a hf => ?_
     obtain ⟨y172, hz173, h168⟩ := bind_some h168
     refine pl_gl (wanted_t hf rfl rfl rfl rfl hc171) hf rfl rfl (w_call hf Tryz.call15 rfl (r_spec_SameDawg ⟨_, All C _ _, none_, hM.all_lt, none_not, C.G, hM.g_lt, g_none, hM.tabs⟩ y135.1 _ _ (hM.lendRow (k := 3) rfl) y30 _ _ (hM.lendDat (k := 3) rfl) _ hz173) ?_)
     rintro _ w174 ⟨rfl, hM2⟩
     obtain ⟨hM, hx175⟩ := hM.backA hM2
     clear hM2
     refine ⟨_, rfl, fun a hf => ?_⟩
     refine q_ hf rfl rfl rfl (e_pick_t hf rfl hc171 rfl) fun a hf => ?_
     refine q_ hf rfl rfl rfl (e_move hf rfl) fun a hf => ?_
     rcases cond_some h168 with ⟨hc177, h168⟩ | ⟨hc177, h168⟩
     ·refine gq (wanted_t hf rfl rfl rfl rfl hc177) hf rfl rfl (e_loadA hf (us := [vL A152 (y150.1.Nodes) c153]) rfl ⟨Tryz.isAgg31, Tryz.sizeOf31⟩ rfl (hM.boxSub (k := 0) (us := [vL A152 (y150.1.Nodes) c153]) (o := 0) rfl rfl)) fun a hf => ?_
      refine gq (wanted_t hf rfl rfl rfl rfl hc177) hf rfl rfl (e_loadA hf (us := [vL A17 (y15.Nodes) c18]) rfl ⟨Tryz.isAgg31, Tryz.sizeOf31⟩ rfl (hM.boxSub (k := 6) (us := [vL A17 (y15.Nodes) c18]) (o := 0) rfl rfl)) fun a hf => ?_
      obtain ⟨y178, hz179, h168⟩ := bind_some h168
      refine pl_gl (wanted_t hf rfl rfl rfl rfl hc177) hf rfl rfl (w_call hf Tryz.call15 rfl (r_spec_SameDawg ⟨_, All C _ _, none_, hM.all_lt, none_not, C.G, hM.g_lt, g_none, hM.tabs⟩ y150.1 _ _ (hM.lendRow (k := 1) rfl) y15 _ _ (hM.lendDat (k := 4) rfl) _ hz179) ?_)
      rintro _ w180 ⟨rfl, hM2⟩
      obtain ⟨hM, hx181⟩ := hM.backA hM2
      clear hM2
      refine ⟨_, rfl, fun a hf => ?_⟩
      refine q_ hf rfl rfl rfl (e_pick_t hf rfl hc177 rfl) fun a hf => ?_
      refine q_ hf rfl rfl rfl (e_assign hf rfl) fun a hf => ?_
      refine pl_nil ?_
      obtain rfl := some_inj h168
      refine then_n ?_
      exact ⟨y178, rfl, hf.keep ⟨rfl, trivial⟩, hM.pick [0, 1, 2, 3, 4, 5, 6] rfl⟩
     iterate 3 refine pl_gs (wanted_f hf rfl rfl rfl rfl hc177) hf rfl rfl fun a hf => ?_
     refine q_ hf rfl rfl rfl (e_pick_f hf rfl hc177 rfl) fun a hf => ?_
     refine q_ hf rfl rfl rfl (e_assign hf rfl) fun a hf => ?_
     refine pl_nil ?_
     obtain rfl := some_inj h168
     refine then_n ?_
     exact ⟨false, rfl, hf.keep ⟨rfl, trivial⟩, hM.pick [0, 1, 2, 3, 4, 5, 6] rfl⟩
    iterate 3 refine pl_gs (wanted_f hf rfl rfl rfl rfl hc171) hf rfl rfl fun a hf => ?_
    refine q_ hf rfl rfl rfl (e_pick_f hf rfl hc171 rfl) fun a hf => ?_
    refine q_ hf rfl rfl rfl (e_move hf rfl) fun a hf => ?_
    iterate 3 refine pl_gs (wanted_f hf rfl rfl rfl rfl rfl) hf rfl rfl fun a hf => ?_
    refine q_ hf rfl rfl rfl (e_pick_f hf rfl rfl rfl) fun a hf => ?_
    refine q_ hf rfl rfl rfl (e_assign hf rfl) fun a hf => ?_
    refine pl_nil ?_
    obtain rfl := some_inj h168
    refine then_n ?_
    exact ⟨false, rfl, hf.keep ⟨rfl, trivial⟩, hM.pick [0, 1, 2, 3, 4, 5, 6] rfl⟩
   iterate 2 refine pl_gs (wanted_f hf rfl rfl rfl rfl hc170) hf rfl rfl fun a hf => ?_
   refine q_ hf rfl rfl rfl (e_pick_f hf rfl hc170 rfl) fun a hf => ?_
   refine q_ hf rfl rfl rfl (e_move hf rfl) fun a hf => ?_
   iterate 3 refine pl_gs (wanted_f hf rfl rfl rfl rfl rfl) hf rfl rfl fun a hf => ?_
   refine q_ hf rfl rfl rfl (e_pick_f hf rfl rfl rfl) fun a hf => ?_
   refine q_ hf rfl rfl rfl (e_move hf rfl) fun a hf => ?_
   iterate 3 refine pl_gs (wanted_f hf rfl rfl rfl rfl rfl) hf rfl rfl fun a hf => ?_
   refine q_ hf rfl rfl rfl (e_pick_f hf rfl rfl rfl) fun a hf => ?_
   refine q_ hf rfl rfl rfl (e_assign hf rfl) fun a hf => ?_
   refine pl_nil ?_
   obtain rfl := some_inj h168
   refine then_n ?_
   exact ⟨false, rfl, hf.keep ⟨rfl, trivial⟩, hM.pick [0, 1, 2, 3, 4, 5, 6] rfl⟩
  iterate 2 refine pl_gs (wanted_f hf rfl rfl rfl rfl hc169) hf rfl rfl fun a hf => ?_
  refine q_ hf rfl rfl rfl (e_pick_f hf rfl hc169 rfl) fun a hf => ?_
  refine q_ hf rfl rfl rfl (e_move hf rfl) fun a hf => ?_
  iterate 2 refine pl_gs (wanted_f hf rfl rfl rfl rfl rfl) hf rfl rfl fun a hf => ?_
  refine q_ hf rfl rfl rfl (e_pick_f hf rfl rfl rfl) fun a hf => ?_
  refine q_ hf rfl rfl rfl (e_move hf rfl) fun a hf => ?_
  iterate 3 refine pl_gs (wanted_f hf rfl rfl rfl rfl rfl) hf rfl rfl fun a hf => ?_
  refine q_ hf rfl rfl rfl (e_pick_f hf rfl rfl rfl) fun a hf => ?_
  refine q_ hf rfl rfl rfl (e_move hf rfl) fun a hf => ?_
  iterate 3 refine pl_gs (wanted_f hf rfl rfl rfl rfl rfl) hf rfl rfl fun a hf => ?_
  refine q_ hf rfl rfl rfl (e_pick_f hf rfl rfl rfl) fun a hf => ?_
  refine q_ hf rfl rfl rfl (e_assign hf rfl) fun a hf => ?_
  refine pl_nil ?_
  obtain rfl := some_inj h168
  refine then_n ?_
  exact ⟨false, rfl, hf.keep ⟨rfl, trivial⟩, hM.pick [0, 1, 2, 3, 4, 5, 6] rfl⟩
 rintro a w188 ⟨b165, rfl, hf, hM⟩
 try dsimp only at h
 refine wp_ret ?_
 obtain rfl := some_inj h
 have hM := hM.outs (own' := []) 0 rfl
 exact leave1 hf rfl rfl ⟨rfl, hM.fin⟩
end Go.Proofs.YtdaoecpkgobelaaGreatDoor
