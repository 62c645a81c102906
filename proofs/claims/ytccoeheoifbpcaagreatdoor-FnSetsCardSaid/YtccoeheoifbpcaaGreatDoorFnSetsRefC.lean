/- The functions that this law reaches do what their models say. Printed by gen.py. -/
import Derived.Test.YtccoeheoifbpcaaGreatDoorMod
import Derived.Test.YtccoeheoifbpcaaGreatDoorLib
import Derived.Test.YtccoeheoifbpcaaGreatDoorFnSetsRefB
namespace Go.Proofs.YtccoeheoifbpcaaGreatDoor
open Go Go.RowKit
set_option linter.unusedSimpArgs false
set_option linter.unusedVariables false
set_option maxRecDepth 100000
set_option maxHeartbeats 4000000
theorem r_impl_combined (C : Cx) (a1 : Dawg) (A2 : Option Addr) (c3 : Nat) (hp4 : (sliceRep NodeRep).R C.w0 C.S0 a1.Nodes [vL A2 a1.Nodes c3]) (b5 : Dawg) (A6 : Option Addr) (c7 : Nat) (hp8 : (sliceRep NodeRep).R C.w0 C.S0 b5.Nodes [vL A6 b5.Nodes c7]) (of9 : (Str → Option Bool)) (fI10 : Value) (hI11 : ∃ T v, fI10 = .iface T v) (fk12 : FuncId) (fa13 : List Value) (hV14 : CallsAs Tryz.prog (.func (.method "loop.example/g00911/impl.has") #[fI10] #[]) fk12 fa13 []) (hfn15 : FnOk Tryz.prog C fk12 (FnC_Str_to_Bool fk12 fa13 [] of9)) (r : (Dawg × Int)) (h : m_impl_combined a1 b5 of9 = some r) :
    Calls Tryz.prog 26 #[.agg #[vL A2 (a1.Nodes) c3], .agg #[vL A6 (b5.Nodes) c7], fI10] C.w0 fun e w => ∃ (A_1 : Option Addr), ∃ (c_1 : Nat), ∃ (ws_1 : List NodeW), e = .returned (.tuple #[.agg #[vL A_1 (r.1.Nodes) c_1], vI (r.2)]) ∧ Mem C w ((nestW A_1 c_1 79 2 ws_1)) [] ∧ ws_1.map NodeW.to = r.1.Nodes ∧ R64 r.2 := by
 have hM := Mem.begin C [.dat (sliceRep NodeRep) b5.Nodes [vL A6 b5.Nodes c7], .dat (sliceRep NodeRep) a1.Nodes [vL A2 a1.Nodes c3]] ⟨hp8, hp4, trivial⟩
 refine enter Tryz.func26 rfl Tryz.ntmps26 rfl fun a hf => ?_
 unfold m_impl_combined at h
 refine wp_seq ?_
 refine region_pl ?_
 refine pl_l hf rfl rfl rfl (w_box hf hM (cs := [vL A2 (a1.Nodes) c3]) rfl rfl fun b16 w17 hx18 hM a hf => ?_)
 refine pl_l hf rfl rfl rfl (w_box hf hM (cs := [vL A6 (b5.Nodes) c7]) rfl rfl fun b20 w21 hx22 hM a hf => ?_)
 refine pl_l hf rfl rfl rfl (w_alloc hM (cs := [vL none (([] : (List Node))) 0]) Tryz.zeroValue26 rfl fun b24 w25 hx26 hM a hf => ?_)
 refine q_ hf rfl rfl rfl (e_assign hf rfl) fun a hf => ?_
 refine pl_nil ?_
 refine then_n ?_
 refine wp_seq ?_
 obtain ⟨x30, h31, h⟩ := bind_some h
 refine seq_join (fun a w => ∃ (t28 : Bool), t28 = x30 ∧ Has 24 a [(2, fI10), (3, vP b16 (0)), (4, vP b20 (0)), (6, vP b24 (0)), (15, .bool (t28))] ∧ Mem C w [.box b24 [vL none (([] : (List Node))) 0] 26, .box b20 [vL A6 (b5.Nodes) c7] 26, .box b16 [vL A2 (a1.Nodes) c3] 26] [.dat (sliceRep NodeRep) b5.Nodes [vL A6 b5.Nodes c7], .dat (sliceRep NodeRep) a1.Nodes [vL A2 a1.Nodes c3]]) ?_ ?_
 ·refine region_pl ?_
  refine q_ hf rfl rfl rfl (e_loadA hf (us := [vL A2 (a1.Nodes) c3]) rfl ⟨Tryz.isAgg26, Tryz.sizeOf26⟩ rfl (hM.boxSub (k := 2) (us := [vL A2 (a1.Nodes) c3]) (o := 0) rfl rfl)) fun a hf => ?_
  obtain ⟨y32, hz33, h31⟩ := bind_some h31
  refine pl_l hf rfl rfl rfl (w_call hf Tryz.call27 rfl (r_impl_ValidDawg ⟨_, Sh C _ _, none_, hM.sh_lt, none_not, C.G, hM.g_lt, g_none, hM.tabs⟩ a1 _ _ (hM.dat (k := 1) rfl) _ hz33) ?_)
  rintro _ w34 ⟨rfl, hM2⟩
  obtain ⟨hM, hx35, hup36⟩ := hM.back hM2
  dsimp only [List.cons_append, List.nil_append] at hM hup36
  clear hM2
  refine ⟨_, rfl, fun a hf => ?_⟩
  refine q_ hf rfl rfl rfl (e_not hf rfl) fun a hf => ?_
  refine q_ hf rfl rfl rfl (e_move hf rfl) fun a hf => ?_
  rcases cond_some h31 with ⟨hc37, h31⟩ | ⟨hc37, h31⟩
  ·iterate 3 refine pl_gs (wanted_f hf rfl rfl rfl rfl hc37) hf rfl rfl fun a hf => ?_
   refine q_ hf rfl rfl rfl (e_pick_t hf rfl hc37 rfl) fun a hf => ?_
   refine pl_nil ?_
   obtain rfl := some_inj h31
   refine then_n ?_
   exact ⟨true, rfl, hf.keep ⟨rfl, rfl, rfl, rfl, rfl, trivial⟩, hM.pick [0, 1] rfl⟩
  refine gq (wanted_t hf rfl rfl rfl rfl hc37) hf rfl rfl (e_loadA hf (us := [vL A6 (b5.Nodes) c7]) rfl ⟨Tryz.isAgg26, Tryz.sizeOf26⟩ rfl (hM.boxSub (k := 1) (us := [vL A6 (b5.Nodes) c7]) (o := 0) rfl rfl)) fun a hf => ?_
  obtain ⟨y39, hz40, h31⟩ := bind_some h31
  refine pl_gl (wanted_t hf rfl rfl rfl rfl hc37) hf rfl rfl (w_call hf Tryz.call27 rfl (r_impl_ValidDawg ⟨_, Sh C _ _, none_, hM.sh_lt, none_not, C.G, hM.g_lt, g_none, hM.tabs⟩ b5 _ _ (hM.dat (k := 0) rfl) _ hz40) ?_)
  rintro _ w41 ⟨rfl, hM2⟩
  obtain ⟨hM, hx42, hup43⟩ := hM.back hM2
  dsimp only [List.cons_append, List.nil_append] at hM hup43
  clear hM2
  refine ⟨_, rfl, fun a hf => ?_⟩
  refine gq (wanted_t hf rfl rfl rfl rfl hc37) hf rfl rfl (e_not hf rfl) fun a hf => ?_
  refine q_ hf rfl rfl rfl (e_pick_f hf rfl hc37 rfl) fun a hf => ?_
  refine pl_nil ?_
  obtain rfl := some_inj h31
  refine then_n ?_
  exact ⟨(!y39), rfl, hf.keep ⟨rfl, rfl, rfl, rfl, rfl, trivial⟩, hM.pick [0, 1] rfl⟩
 rintro a w45 ⟨t28, rfl, hf, hM⟩
 try dsimp only at h
 rcases cond_some h with ⟨hc46, h⟩ | ⟨hc46, h⟩
 ·refine cond_t hf rfl hc46 ?_
  refine wp_seq ?_
  refine region_pl ?_
  refine q_ hf rfl rfl rfl (e_build hf Tryz.zeroValue26 Tryz.underlying26 (bp_26 _ Tryz.underlying26.symm) rfl (cs := #[vL none (([] : (List Node))) 0]) (by kernel_rfl)) fun a hf => ?_
  refine pl_0 hf rfl rfl (w_store hf hM (us := [vL none (([] : (List Node))) 0]) (cs' := [vL none (([] : (List Node))) 0]) rfl rfl (k := 0) rfl rfl Tryz.sizeOf26 rfl rfl rfl fun w47 hM => ?_)
  dsimp only [List.set] at hM
  refine q_ hf rfl rfl rfl (e_assign hf rfl) fun a hf => ?_
  refine pl_nil ?_
  refine then_n ?_
  refine wp_ret ?_
  refine then_r ?_
  obtain rfl := some_inj h
  have hres50 := leaveV2 (P := Tryz.prog) (w := w47) Tryz.results26 (res_agg hf rfl ⟨Tryz.isAgg26, Tryz.sizeOf26⟩ (us := [vL none (([] : (List Node))) 0]) rfl (hM.boxSub (k := 0) (o := 0) rfl rfl)) (res_tmp hf rfl)
  have hM := hM.nilNest 79 2
  have hM : Mem C _ (.box b24 [vL none (([] : (List Node))) 0] 26 :: .box b20 [vL A6 (b5.Nodes) c7] 26 :: .box b16 [vL A2 (a1.Nodes) c3] 26 :: (nestW none 0 79 2 ([] : List NodeW))) _ := hM
  have hM : Mem C _ ((nestW none 0 79 2 ([] : List NodeW))) _ := hM.drop (.cons _ (.cons _ (.cons _ (List.Sublist.refl _))))
  exact bodyPost_ret hres50 hf.defers ⟨none, 0, ([] : List NodeW), rfl, hM.fin, rfl, (R64_lit rfl)⟩
 refine cond_f hf rfl hc46 ?_
 refine wp_skip ?_
 refine then_n ?_
 refine wp_seq ?_
 refine region_pl ?_
 refine q_ hf rfl rfl rfl (e_loadA hf (us := [vL A2 (a1.Nodes) c3]) rfl ⟨Tryz.isAgg26, Tryz.sizeOf26⟩ rfl (hM.boxSub (k := 2) (us := [vL A2 (a1.Nodes) c3]) (o := 0) rfl rfl)) fun a hf => ?_
 refine q_ hf rfl rfl rfl (e_loadA hf (us := [vL A6 (b5.Nodes) c7]) rfl ⟨Tryz.isAgg26, Tryz.sizeOf26⟩ rfl (hM.boxSub (k := 1) (us := [vL A6 (b5.Nodes) c7]) (o := 0) rfl rfl)) fun a hf => ?_
 refine q_ hf rfl rfl rfl (e_move hf rfl) fun a hf => ?_
 obtain ⟨y51, hz52, h⟩ := bind_some h
 refine pl_l hf rfl rfl rfl (w_call hf Tryz.call46 rfl (r_impl_chosen ⟨_, Sh C _ _, none_, hM.sh_lt, none_not, C.G, hM.g_lt, g_none, hM.tabs⟩ a1 _ _ (hM.dat (k := 1) rfl) b5 _ _ (hM.dat (k := 0) rfl) of9 _ hI11 _ _ hV14 (hfn15.to hM.sameS hM.s0sh) _ hz52) ?_)
 rintro _ w55 ⟨A53, c54, rfl, hM2⟩
 obtain ⟨hM, hx56, hup57⟩ := hM.back hM2
 dsimp only [List.cons_append, List.nil_append] at hM hup57
 clear hM2
 refine ⟨_, rfl, fun a hf => ?_⟩
 obtain ⟨y58, hz59, h⟩ := bind_some h
 refine pl_l hf rfl rfl rfl (w_call hf Tryz.call33 rfl (r_impl_dawgOf ⟨_, All C _ _, none_, hM.all_lt, none_not, C.G, hM.g_lt, g_none, hM.tabs⟩ y51 _ _ (hM.lendRow (k := 0) rfl) _ hz59) ?_)
 rintro _ w65 ⟨A60, c61, ws62, rfl, hM2, hw63, hv64⟩
 obtain ⟨hM, hx66⟩ := hM.backAL OFlat.nest hM2
 clear hM2
 have hM : Mem C _ (.row strRep A53 c54 9 y51 true :: .box b24 [vL none (([] : (List Node))) 0] 26 :: .box b20 [vL A6 (b5.Nodes) c7] 26 :: .box b16 [vL A2 (a1.Nodes) c3] 26 :: (nestW A60 c61 79 2 ws62)) _ := Mem.perm (own := (nestW A60 c61 79 2 ws62) ++ [.row strRep A53 c54 9 y51 true, .box b24 [vL none (([] : (List Node))) 0] 26, .box b20 [vL A6 (b5.Nodes) c7] 26, .box b16 [vL A2 (a1.Nodes) c3] 26]) (own' := ([] ++ [.row strRep A53 c54 9 y51 true, .box b24 [vL none (([] : (List Node))) 0] 26, .box b20 [vL A6 (b5.Nodes) c7] 26, .box b16 [vL A2 (a1.Nodes) c3] 26]) ++ (nestW A60 c61 79 2 ws62)) hM (fun a => by simp only [List.count_append, List.count_nil]; omega)
 refine ⟨_, rfl, fun a hf => ?_⟩
 iterate 2 refine q_ hf rfl rfl rfl (e_extract hf rfl rfl) fun a hf => ?_
 refine pl_0 hf rfl rfl (w_store hf hM (us := [vL A60 (y58.1.Nodes) c61]) (cs' := [vL A60 (y58.1.Nodes) c61]) rfl rfl (k := 1) rfl rfl Tryz.sizeOf26 rfl rfl rfl fun w68 hM => ?_)
 dsimp only [List.set] at hM
 refine q_ hf rfl rfl rfl (e_assign hf rfl) fun a hf => ?_
 refine pl_nil ?_
 refine then_n ?_
 refine wp_ret ?_
 obtain rfl := some_inj h
 have hres71 := leaveV2 (P := Tryz.prog) (w := w68) Tryz.results26 (res_agg hf rfl ⟨Tryz.isAgg26, Tryz.sizeOf26⟩ (us := [vL A60 (y58.1.Nodes) c61]) rfl (hM.boxSub (k := 1) (o := 0) rfl rfl)) (res_tmp hf rfl)
 have hM : Mem C _ ((nestW A60 c61 79 2 ws62)) _ := hM.drop (.cons _ (.cons _ (.cons _ (.cons _ (List.Sublist.refl _)))))
 exact bodyPost_ret hres71 hf.defers ⟨A60, c61, ws62, rfl, hM.fin, hw63, hv64⟩
theorem r_impl_Dawg_step (C : Cx) (d1 : Dawg) (A2 : Option Addr) (c3 : Nat) (hp4 : (sliceRep NodeRep).R C.w0 C.S0 d1.Nodes [vL A2 d1.Nodes c3]) (node5 : Int) (hp6 : R64 node5) (letter7 : UInt8) (r : Int) (h : m_impl_Dawg_step d1 node5 letter7 = some r) :
    Calls Tryz.prog 143 #[.agg #[vL A2 (d1.Nodes) c3], vI (node5), vB (letter7)] C.w0 fun e w => e = .returned (vI (r)) ∧ Mem C w [] [] ∧ R64 r := by
 have hM := Mem.begin C [.dat (sliceRep NodeRep) d1.Nodes [vL A2 d1.Nodes c3]] ⟨hp4, trivial⟩
 refine enter Tryz.func143 rfl Tryz.ntmps143 rfl fun a hf => ?_
 unfold m_impl_Dawg_step at h
 refine wp_seq ?_
 refine region_pl ?_
 refine pl_l hf rfl rfl rfl (w_box hf hM (cs := [vL A2 (d1.Nodes) c3]) rfl rfl fun b8 w9 hx10 hM a hf => ?_)
 refine q_ hf rfl rfl rfl (e_assign hf rfl) fun a hf => ?_
 refine pl_nil ?_
 refine then_n ?_
 iterate 2 refine wp_seq ?_
 refine region_pl ?_
 refine q_ hf rfl rfl rfl (e_move hf rfl) fun a hf => ?_
 refine q_ hf rfl rfl rfl (e_field hf rfl Tryz.underlying26 rfl Tryz.sizeOf24 (o' := 0) rfl) fun a hf => ?_
 refine q_ hf rfl rfl rfl (e_load1 hf rfl Tryz.isAgg24 (hM.boxCell (k := 0) rfl rfl)) fun a hf => ?_
 have hl12 := slice_len (hM.dat (k := 0) rfl)
 refine q_ hf rfl rfl rfl (e_lenL hf (x := d1.Nodes) rfl Tryz.underlying24) fun a hf => ?_
 obtain ⟨z13, hz14, h⟩ := bind_some h
 refine q_ hf rfl rfl rfl (e_sub hf rfl rfl hz14) fun a hf => ?_
 obtain ⟨y15, hz16, h⟩ := bind_some h
 refine pl_l hf rfl rfl rfl (w_call hf Tryz.call75 rfl (r_impl_within ⟨_, Sh C _ _, none_, hM.sh_lt, none_not, C.G, hM.g_lt, g_none, hM.tabs⟩ node5 hp6 0 (R64_lit rfl) z13 (chk_R hz14) _ hz16) ?_)
 rintro _ w17 ⟨rfl, hM2⟩
 obtain ⟨hM, hx18, hup19⟩ := hM.back hM2
 dsimp only [List.cons_append, List.nil_append] at hM hup19
 clear hM2
 refine ⟨_, rfl, fun a hf => ?_⟩
 refine q_ hf rfl rfl rfl (e_not hf rfl) fun a hf => ?_
 refine pl_nil ?_
 refine then_n ?_
 rcases cond_some h with ⟨hc20, h⟩ | ⟨hc20, h⟩
 ·refine cond_t hf rfl hc20 ?_
  refine wp_seq ?_
  refine region_pl ?_
  refine q_ hf rfl rfl rfl (e_assign hf rfl) fun a hf => ?_
  refine pl_nil ?_
  refine then_n ?_
  refine wp_ret ?_
  refine then_r ?_
  obtain rfl := some_inj h
  have hM := hM.outs (own' := []) 0 rfl
  exact leave1 hf rfl rfl ⟨rfl, hM.fin, (R64_lit rfl)⟩
 refine cond_f hf rfl hc20 ?_
 refine wp_skip ?_
 refine then_n ?_
 refine wp_seq ?_
 refine region_pl ?_
 refine q_ hf rfl rfl rfl (e_field hf rfl Tryz.underlying26 rfl Tryz.sizeOf24 (o' := 0) rfl) fun a hf => ?_
 refine q_ hf rfl rfl rfl (e_load1 hf rfl Tryz.isAgg24 (hM.boxCell (k := 0) rfl rfl)) fun a hf => ?_
 refine q_ hf rfl rfl rfl (e_move hf rfl) fun a hf => ?_
 obtain ⟨e21, hz22, h⟩ := bind_some h
 obtain ⟨b26, o27, _, hA28, h23, h24, hr25, hM⟩ := hM.elem (hM.dat (k := 0) rfl) (n := 3) rfl hz22
 obtain ⟨A30, c31, rfl, hv29, hv32⟩ := NodeRep_open hr25
 have hM := hM.add (y := .dat (sliceRep intRep) e21.Next [vL A30 e21.Next c31]) hv32
 refine q_ hf rfl rfl rfl (e_indexAddr (A := A2) (b := b26) (o := o27) (xs := d1.Nodes) (i := node5) hf hA28 rfl rfl Tryz.underlying24 Tryz.sizeOf79 h23 h24) fun a hf => ?_
 refine q_ hf rfl rfl rfl (e_loadA hf (us := [.bool (e21.Final), vS (e21.Letters), vL A30 (e21.Next) c31]) rfl ⟨Tryz.isAgg79, Tryz.sizeOf79⟩ rfl (hM.litSub (k := 1) (d := 0) (us := [.bool (e21.Final), vS (e21.Letters), vL A30 (e21.Next) c31]) rfl rfl rfl)) fun a hf => ?_
 refine pl_l hf rfl rfl rfl (w_alloc hM (cs := [.bool (false), vS (([] : Str)), vL none (([] : (List Int))) 0]) Tryz.zeroValue79 rfl fun b33 w34 hx35 hM a hf => ?_)
 refine pl_0 hf rfl rfl (w_store hf hM (us := [.bool (e21.Final), vS (e21.Letters), vL A30 (e21.Next) c31]) (cs' := [.bool (e21.Final), vS (e21.Letters), vL A30 (e21.Next) c31]) rfl rfl (k := 0) rfl rfl Tryz.sizeOf79 rfl rfl rfl fun w37 hM => ?_)
 dsimp only [List.set] at hM
 refine pl_nil ?_
 refine then_n ?_
 iterate 2 refine wp_seq ?_
 refine region_pl ?_
 refine q_ hf rfl rfl rfl (e_field hf rfl Tryz.underlying79 rfl Tryz.sizeOf9 (o' := 1) rfl) fun a hf => ?_
 refine q_ hf rfl rfl rfl (e_load1 hf rfl Tryz.isAgg9 (hM.boxCell (k := 0) rfl rfl)) fun a hf => ?_
 refine q_ hf rfl rfl rfl (e_move hf rfl) fun a hf => ?_
 obtain ⟨y40, hz41, h⟩ := bind_some h
 refine pl_l hf rfl rfl rfl (w_call hf Tryz.call144 rfl (r_strings_IndexByte ⟨_, Sh C _ _, none_, hM.sh_lt, none_not, C.G, hM.g_lt, g_none, hM.tabs⟩ e21.Letters hv29 letter7 _ hz41) ?_)
 rintro _ w43 ⟨rfl, hM2, hv42⟩
 obtain ⟨hM, hx44, hup45⟩ := hM.back hM2
 dsimp only [List.cons_append, List.nil_append] at hM hup45
 clear hM2
 refine ⟨_, rfl, fun a hf => ?_⟩
 refine q_ hf rfl rfl rfl (e_assign hf rfl) fun a hf => ?_
 refine pl_nil ?_
 refine then_n ?_
 refine wp_seq ?_
 refine region_pl ?_
 refine q_ hf rfl rfl rfl (e_move hf rfl) fun a hf => ?_
 refine q_ hf rfl rfl rfl (e_ge hf (x := y40) (y := 0) rfl rfl) fun a hf => ?_
 refine pl_nil ?_
 refine then_n ?_
 rcases cond_some h with ⟨hc46, h⟩ | ⟨hc46, h⟩
 ·refine cond_t hf rfl hc46 ?_
  refine wp_seq ?_
  refine region_pl ?_
  refine q_ hf rfl rfl rfl (e_field hf rfl Tryz.underlying79 rfl Tryz.sizeOf77 (o' := 2) rfl) fun a hf => ?_
  refine q_ hf rfl rfl rfl (e_load1 hf rfl Tryz.isAgg77 (hM.boxCell (k := 0) rfl rfl)) fun a hf => ?_
  refine q_ hf rfl rfl rfl (e_move hf rfl) fun a hf => ?_
  obtain ⟨e47, hz48, h⟩ := bind_some h
  obtain ⟨b52, o53, _, hA54, h49, h50, hr51, hM⟩ := hM.elem (hM.dat (k := 0) rfl) (n := 1) rfl hz48
  obtain ⟨rfl, hv55⟩ := hr51
  refine q_ hf rfl rfl rfl (e_indexAddr (A := A30) (b := b52) (o := o53) (xs := e21.Next) (i := y40) hf hA54 rfl rfl Tryz.underlying77 Tryz.sizeOf2 h49 h50) fun a hf => ?_
  refine q_ hf rfl rfl rfl (e_load1 hf rfl Tryz.isAgg2 (hM.litCell (k := 0) (j := 0) rfl rfl rfl)) fun a hf => ?_
  refine q_ hf rfl rfl rfl (e_assign hf rfl) fun a hf => ?_
  refine pl_nil ?_
  refine then_n ?_
  refine wp_ret ?_
  refine then_r ?_
  obtain rfl := some_inj h
  have hM := hM.outs (own' := []) 0 rfl
  exact leave1 hf rfl rfl ⟨rfl, hM.fin, hv55⟩
 refine cond_f hf rfl hc46 ?_
 refine wp_skip ?_
 refine then_n ?_
 refine wp_seq ?_
 refine region_pl ?_
 refine q_ hf rfl rfl rfl (e_assign hf rfl) fun a hf => ?_
 refine pl_nil ?_
 refine then_n ?_
 refine wp_ret ?_
 obtain rfl := some_inj h
 have hM := hM.outs (own' := []) 0 rfl
 exact leave1 hf rfl rfl ⟨rfl, hM.fin, (R64_lit rfl)⟩
theorem r_impl_Dawg_after (C : Cx) (d1 : Dawg) (A2 : Option Addr) (c3 : Nat) (hp4 : (sliceRep NodeRep).R C.w0 C.S0 d1.Nodes [vL A2 d1.Nodes c3]) (s5 : Str) (hp6 : s5.length ≤ maxLen) (r : Int) (h : m_impl_Dawg_after d1 s5 = some r) :
    Calls Tryz.prog 142 #[.agg #[vL A2 (d1.Nodes) c3], vS (s5)] C.w0 fun e w => e = .returned (vI (r)) ∧ Mem C w [] [] ∧ R64 r := by
 have hM := Mem.begin C [.dat (sliceRep NodeRep) d1.Nodes [vL A2 d1.Nodes c3]] ⟨hp4, trivial⟩
 refine enter Tryz.func142 rfl Tryz.ntmps142 rfl fun a hf => ?_
 unfold m_impl_Dawg_after at h
 refine wp_seq ?_
 refine region_pl ?_
 refine pl_l hf rfl rfl rfl (w_box hf hM (cs := [vL A2 (d1.Nodes) c3]) rfl rfl fun b7 w8 hx9 hM a hf => ?_)
 refine q_ hf rfl rfl rfl (e_assign hf rfl) fun a hf => ?_
 refine pl_nil ?_
 refine then_n ?_
 refine wp_seq ?_
 refine region_pl ?_
 refine q_ hf rfl rfl rfl (e_assign hf rfl) fun a hf => ?_
 refine pl_nil ?_
 refine then_n ?_
 obtain ⟨x13, h14, h⟩ := bind_some h
 refine seq_join (fun a w => ∃ (n11 : Int), n11 = x13 ∧ Has 24 a [(5, vI (n11))] ∧ Mem C w [.box b7 [vL A2 (d1.Nodes) c3] 26] [.dat (sliceRep NodeRep) d1.Nodes [vL A2 d1.Nodes c3]] ∧ R64 n11) ?_ ?_
 ·refine wp_seq ?_
  refine region_pl ?_
  refine q_ hf rfl rfl rfl (e_assign hf rfl) fun a hf => ?_
  refine pl_nil ?_
  refine then_n ?_
  refine wp_block ?_
  obtain ⟨x22, h23, h14⟩ := bind_some h14
  refine wp_loopM h23 (fun s a w => ∃ (n15 : Int) (n17 : Int), (n15, n17) = s ∧ Has 24 a [(1, vS (s5)), (2, vP b7 (0)), (5, vI (n15)), (6, vI (n17))] ∧ Mem C w [.box b7 [vL A2 (d1.Nodes) c3] 26] [.dat (sliceRep NodeRep) d1.Nodes [vL A2 d1.Nodes c3]] ∧ R64 n15 ∧ R64 n17) ?_ ?_
  ·exact ⟨0, 0, rfl, hf.keep ⟨rfl, rfl, rfl, rfl, trivial⟩, hM.pick [0] rfl, (R64_lit rfl), (R64_lit rfl)⟩
  rintro s o24 a w19 ⟨n15, n17, rfl, hf, hM, hv16, hv18⟩ h25 hd26
  replace h25 : m_impl_Dawg_after_l1 s5 d1 n15 n17 = some o24 := h25
  unfold m_impl_Dawg_after_l1 at h25
  refine wp_seq ?_
  obtain ⟨x29, h30, h25⟩ := bind_some h25
  refine seq_join (fun a w => ∃ (t27 : Bool), t27 = x29 ∧ Has 24 a [(1, vS (s5)), (2, vP b7 (0)), (5, vI (n15)), (6, vI (n17)), (14, .bool (t27))] ∧ Mem C w [.box b7 [vL A2 (d1.Nodes) c3] 26] [.dat (sliceRep NodeRep) d1.Nodes [vL A2 d1.Nodes c3]]) ?_ ?_
  ·refine region_pl ?_
   iterate 2 refine q_ hf rfl rfl rfl (e_move hf rfl) fun a hf => ?_
   refine q_ hf rfl rfl rfl (e_lenS hf (x := s5) rfl Tryz.underlying9) fun a hf => ?_
   refine q_ hf rfl rfl rfl (e_lt hf (x := n17) (y := (s5.length : Int)) rfl rfl) fun a hf => ?_
   refine q_ hf rfl rfl rfl (e_move hf rfl) fun a hf => ?_
   rcases cond_some h30 with ⟨hc31, h30⟩ | ⟨hc31, h30⟩
   ·refine gq (wanted_t hf rfl rfl rfl rfl hc31) hf rfl rfl (e_move hf rfl) fun a hf => ?_
    refine gq (wanted_t hf rfl rfl rfl rfl hc31) hf rfl rfl (e_ge hf (x := n15) (y := 0) rfl rfl) fun a hf => ?_
    refine q_ hf rfl rfl rfl (e_pick_t hf rfl hc31 rfl) fun a hf => ?_
    refine pl_nil ?_
    obtain rfl := some_inj h30
    refine then_n ?_
    exact ⟨(decide (0 ≤ n15)), rfl, hf.keep ⟨rfl, rfl, rfl, rfl, rfl, trivial⟩, hM.pick [0] rfl⟩
   iterate 2 refine pl_gs (wanted_f hf rfl rfl rfl rfl hc31) hf rfl rfl fun a hf => ?_
   refine q_ hf rfl rfl rfl (e_pick_f hf rfl hc31 rfl) fun a hf => ?_
   refine pl_nil ?_
   obtain rfl := some_inj h30
   refine then_n ?_
   exact ⟨false, rfl, hf.keep ⟨rfl, rfl, rfl, rfl, rfl, trivial⟩, hM.pick [0] rfl⟩
  rintro a w34 ⟨t27, rfl, hf, hM⟩
  try dsimp only at h25
  rcases cond_some h25 with ⟨hc35, h25⟩ | ⟨hc35, h25⟩
  ·refine cond_t hf rfl hc35 ?_
   refine wp_skip ?_
   refine then_n ?_
   refine wp_seq ?_
   refine wp_block ?_
   obtain ⟨w36, hw⟩ : ∃ x, x = w34.drew := ⟨_, rfl⟩
   refine region_pi (.q 0 (.q 1 (.q 2 (.q 3 (.q 4 (.l 5 (.q 6 (.nil)))))))) (Ext w36) rfl (by kernel_rfl) ?_
   have hM := hM.drew
   rw [← hw] at hM ⊢
   clear hw
   refine pi_q hf rfl rfl rfl rfl (Ext.refl _) (e_loadA hf (us := [vL A2 (d1.Nodes) c3]) rfl ⟨Tryz.isAgg26, Tryz.sizeOf26⟩ rfl (hM.boxSub (k := 0) (us := [vL A2 (d1.Nodes) c3]) (o := 0) rfl rfl)) fun a hf => ?_
   iterate 3 refine pi_q hf rfl rfl rfl rfl (Ext.refl _) (e_move hf rfl) fun a hf => ?_
   obtain ⟨c37, hz38, h25⟩ := bind_some h25
   refine pi_q hf rfl rfl rfl rfl (Ext.refl _) (e_indexS hf (x := s5) rfl rfl Tryz.underlying9 hz38) fun a hf => ?_
   refine pi_one ?_
   obtain ⟨y39, hz40, h25⟩ := bind_some h25
   refine pi_l hf rfl rfl rfl rfl (w_call hf Tryz.call143 rfl (r_impl_Dawg_step ⟨_, Sh C _ _, none_, hM.sh_lt, none_not, C.G, hM.g_lt, g_none, hM.tabs⟩ d1 _ _ (hM.dat (k := 0) rfl) n15 hv16 c37 _ hz40) ?_)
   rintro _ w42 ⟨rfl, hM2, hv41⟩
   obtain ⟨hM, hx43, hup44⟩ := hM.back hM2
   dsimp only [List.cons_append, List.nil_append] at hM hup44
   clear hM2
   refine ⟨_, rfl, Ext w42, fun _ h => Ext.trans hx43 h, Ext.refl _, fun a hf => ?_⟩
   refine pi_q hf rfl rfl rfl rfl (Ext.refl _) (e_assign hf rfl) fun a hf => ?_
   refine pi_nil ?_
   refine blk_n ?_
   refine then_n ?_
   refine region_pl ?_
   refine q_ hf rfl rfl rfl (e_move hf rfl) fun a hf => ?_
   obtain ⟨z45, hz46, h25⟩ := bind_some h25
   refine q_ hf rfl rfl rfl (e_add hf rfl rfl hz46) fun a hf => ?_
   refine q_ hf rfl rfl rfl (e_assign hf rfl) fun a hf => ?_
   refine pl_nil ?_
   obtain rfl := some_inj h25
   refine then_n ⟨_, rfl, ?_⟩
   exact ⟨y39, z45, rfl, hf.keep ⟨rfl, rfl, rfl, rfl, trivial⟩, hM.pick [0] rfl, hv41, (chk_R hz46)⟩
  refine cond_f hf rfl hc35 ?_
  refine wp_exit ?_
  refine then_x ?_
  obtain rfl := some_inj h25
  obtain rfl := hd26 _ rfl
  try dsimp only at h14
  refine then_x ?_
  refine exit_hit ?_
  obtain rfl := some_inj h14
  refine then_n ?_
  exact ⟨n15, rfl, hf.keep ⟨rfl, trivial⟩, hM.pick [0] rfl, hv16⟩
 rintro a w52 ⟨n11, rfl, hf, hM, hv12⟩
 try dsimp only at h
 refine wp_seq ?_
 refine region_pl ?_
 refine q_ hf rfl rfl rfl (e_move hf rfl) fun a hf => ?_
 refine q_ hf rfl rfl rfl (e_assign hf rfl) fun a hf => ?_
 refine pl_nil ?_
 refine then_n ?_
 refine wp_ret ?_
 obtain rfl := some_inj h
 have hM := hM.outs (own' := []) 0 rfl
 exact leave1 hf rfl rfl ⟨rfl, hM.fin, hv12⟩
theorem r_impl_Dawg_accepts (C : Cx) (d1 : Dawg) (A2 : Option Addr) (c3 : Nat) (hp4 : (sliceRep NodeRep).R C.w0 C.S0 d1.Nodes [vL A2 d1.Nodes c3]) (s5 : Str) (hp6 : s5.length ≤ maxLen) (r : Bool) (h : m_impl_Dawg_accepts d1 s5 = some r) :
    Calls Tryz.prog 140 #[.agg #[vL A2 (d1.Nodes) c3], vS (s5)] C.w0 fun e w => e = .returned (.bool (r)) ∧ Mem C w [] [] := by
 have hM := Mem.begin C [.dat (sliceRep NodeRep) d1.Nodes [vL A2 d1.Nodes c3]] ⟨hp4, trivial⟩
 refine enter Tryz.func140 rfl Tryz.ntmps140 rfl fun a hf => ?_
 unfold m_impl_Dawg_accepts at h
 refine wp_seq ?_
 refine region_pl ?_
 refine pl_l hf rfl rfl rfl (w_box hf hM (cs := [vL A2 (d1.Nodes) c3]) rfl rfl fun b7 w8 hx9 hM a hf => ?_)
 refine q_ hf rfl rfl rfl (e_assign hf rfl) fun a hf => ?_
 refine pl_nil ?_
 refine then_n ?_
 refine wp_seq ?_
 refine region_pl ?_
 refine q_ hf rfl rfl rfl (e_loadA hf (us := [vL A2 (d1.Nodes) c3]) rfl ⟨Tryz.isAgg26, Tryz.sizeOf26⟩ rfl (hM.boxSub (k := 0) (us := [vL A2 (d1.Nodes) c3]) (o := 0) rfl rfl)) fun a hf => ?_
 refine q_ hf rfl rfl rfl (e_move hf rfl) fun a hf => ?_
 obtain ⟨y11, hz12, h⟩ := bind_some h
 refine pl_l hf rfl rfl rfl (w_call hf Tryz.call142 rfl (r_impl_Dawg_after ⟨_, Sh C _ _, none_, hM.sh_lt, none_not, C.G, hM.g_lt, g_none, hM.tabs⟩ d1 _ _ (hM.dat (k := 0) rfl) s5 hp6 _ hz12) ?_)
 rintro _ w14 ⟨rfl, hM2, hv13⟩
 obtain ⟨hM, hx15, hup16⟩ := hM.back hM2
 dsimp only [List.cons_append, List.nil_append] at hM hup16
 clear hM2
 refine ⟨_, rfl, fun a hf => ?_⟩
 refine q_ hf rfl rfl rfl (e_assign hf rfl) fun a hf => ?_
 refine pl_nil ?_
 refine then_n ?_
 obtain ⟨x19, h20, h⟩ := bind_some h
 refine seq_join (fun a w => ∃ (t17 : Bool), t17 = x19 ∧ Has 19 a [(4, .bool (t17))] ∧ Mem C w [.box b7 [vL A2 (d1.Nodes) c3] 26] [.dat (sliceRep NodeRep) d1.Nodes [vL A2 d1.Nodes c3]]) ?_ ?_
 ·refine region_pl ?_
  refine q_ hf rfl rfl rfl (e_move hf rfl) fun a hf => ?_
  refine q_ hf rfl rfl rfl (e_ge hf (x := y11) (y := 0) rfl rfl) fun a hf => ?_
  refine q_ hf rfl rfl rfl (e_move hf rfl) fun a hf => ?_
  rcases cond_some h20 with ⟨hc21, h20⟩ | ⟨hc21, h20⟩
  ·refine gq (wanted_t hf rfl rfl rfl rfl hc21) hf rfl rfl (e_field hf rfl Tryz.underlying26 rfl Tryz.sizeOf24 (o' := 0) rfl) fun a hf => ?_
   refine gq (wanted_t hf rfl rfl rfl rfl hc21) hf rfl rfl (e_load1 hf rfl Tryz.isAgg24 (hM.boxCell (k := 0) rfl rfl)) fun a hf => ?_
   refine gq (wanted_t hf rfl rfl rfl rfl hc21) hf rfl rfl (e_move hf rfl) fun a hf => ?_
   obtain ⟨e22, hz23, h20⟩ := bind_some h20
   obtain ⟨b27, o28, _, hA29, h24, h25, hr26, hM⟩ := hM.elem (hM.dat (k := 0) rfl) (n := 3) rfl hz23
   obtain ⟨A31, c32, rfl, hv30, hv33⟩ := NodeRep_open hr26
   have hM := hM.add (y := .dat (sliceRep intRep) e22.Next [vL A31 e22.Next c32]) hv33
   refine gq (wanted_t hf rfl rfl rfl rfl hc21) hf rfl rfl (e_indexAddr (A := A2) (b := b27) (o := o28) (xs := d1.Nodes) (i := y11) hf hA29 rfl rfl Tryz.underlying24 Tryz.sizeOf79 h24 h25) fun a hf => ?_
   refine gq (wanted_t hf rfl rfl rfl rfl hc21) hf rfl rfl (e_field hf rfl Tryz.underlying79 rfl Tryz.sizeOf4 (o' := (o28 + (y11 : Int).toNat * 3) + 0) rfl) fun a hf => ?_
   refine gq (wanted_t hf rfl rfl rfl rfl hc21) hf rfl rfl (e_load1 hf rfl Tryz.isAgg4 (hM.litCell (k := 1) (j := 0) rfl rfl rfl)) fun a hf => ?_
   refine q_ hf rfl rfl rfl (e_pick_t hf rfl hc21 rfl) fun a hf => ?_
   refine q_ hf rfl rfl rfl (e_assign hf rfl) fun a hf => ?_
   refine pl_nil ?_
   obtain rfl := some_inj h20
   refine then_n ?_
   exact ⟨e22.Final, rfl, hf.keep ⟨rfl, trivial⟩, hM.pick [2] rfl⟩
  iterate 6 refine pl_gs (wanted_f hf rfl rfl rfl rfl hc21) hf rfl rfl fun a hf => ?_
  refine q_ hf rfl rfl rfl (e_pick_f hf rfl hc21 rfl) fun a hf => ?_
  refine q_ hf rfl rfl rfl (e_assign hf rfl) fun a hf => ?_
  refine pl_nil ?_
  obtain rfl := some_inj h20
  refine then_n ?_
  exact ⟨false, rfl, hf.keep ⟨rfl, trivial⟩, hM.pick [0] rfl⟩
 rintro a w36 ⟨t17, rfl, hf, hM⟩
 try dsimp only at h
 refine wp_ret ?_
 obtain rfl := some_inj h
 have hM := hM.outs (own' := []) 0 rfl
 exact leave1 hf rfl rfl ⟨rfl, hM.fin⟩
theorem r_impl_union_has (C : Cx) (x1 : union) (A2 : Option Addr) (c3 : Nat) (hp4 : (sliceRep NodeRep).R C.w0 C.S0 x1.a.Nodes [vL A2 x1.a.Nodes c3]) (A5 : Option Addr) (c6 : Nat) (hp7 : (sliceRep NodeRep).R C.w0 C.S0 x1.b.Nodes [vL A5 x1.b.Nodes c6]) (s8 : Str) (hp9 : s8.length ≤ maxLen) (r : Bool) (h : m_impl_union_has x1 s8 = some r) :
    Calls Tryz.prog 141 #[.agg #[vL A2 (x1.a.Nodes) c3, vL A5 (x1.b.Nodes) c6], vS (s8)] C.w0 fun e w => e = .returned (.bool (r)) ∧ Mem C w [] [] := by
 have hM := Mem.begin C [.dat (sliceRep NodeRep) x1.b.Nodes [vL A5 x1.b.Nodes c6], .dat (sliceRep NodeRep) x1.a.Nodes [vL A2 x1.a.Nodes c3]] ⟨hp7, hp4, trivial⟩
 refine enter Tryz.func141 rfl Tryz.ntmps141 rfl fun a hf => ?_
 unfold m_impl_union_has at h
 refine wp_seq ?_
 refine region_pl ?_
 refine pl_l hf rfl rfl rfl (w_box hf hM (cs := [vL A2 (x1.a.Nodes) c3, vL A5 (x1.b.Nodes) c6]) rfl rfl fun b10 w11 hx12 hM a hf => ?_)
 refine q_ hf rfl rfl rfl (e_assign hf rfl) fun a hf => ?_
 refine pl_nil ?_
 refine then_n ?_
 obtain ⟨x16, h17, h⟩ := bind_some h
 refine seq_join (fun a w => ∃ (t14 : Bool), t14 = x16 ∧ Has 15 a [(4, .bool (t14))] ∧ Mem C w [.box b10 [vL A2 (x1.a.Nodes) c3, vL A5 (x1.b.Nodes) c6] 47] [.dat (sliceRep NodeRep) x1.b.Nodes [vL A5 x1.b.Nodes c6], .dat (sliceRep NodeRep) x1.a.Nodes [vL A2 x1.a.Nodes c3]]) ?_ ?_
 ·refine region_pl ?_
  refine q_ hf rfl rfl rfl (e_field hf rfl Tryz.underlying47 rfl Tryz.sizeOf26 (o' := 0) rfl) fun a hf => ?_
  refine q_ hf rfl rfl rfl (e_loadA hf (us := [vL A2 (x1.a.Nodes) c3]) rfl ⟨Tryz.isAgg26, Tryz.sizeOf26⟩ rfl (hM.boxSub (k := 0) (us := [vL A2 (x1.a.Nodes) c3]) (o := 0) rfl rfl)) fun a hf => ?_
  refine q_ hf rfl rfl rfl (e_move hf rfl) fun a hf => ?_
  obtain ⟨y18, hz19, h17⟩ := bind_some h17
  refine pl_l hf rfl rfl rfl (w_call hf Tryz.call140 rfl (r_impl_Dawg_accepts ⟨_, Sh C _ _, none_, hM.sh_lt, none_not, C.G, hM.g_lt, g_none, hM.tabs⟩ x1.a _ _ (hM.dat (k := 1) rfl) s8 hp9 _ hz19) ?_)
  rintro _ w20 ⟨rfl, hM2⟩
  obtain ⟨hM, hx21, hup22⟩ := hM.back hM2
  dsimp only [List.cons_append, List.nil_append] at hM hup22
  clear hM2
  refine ⟨_, rfl, fun a hf => ?_⟩
  refine q_ hf rfl rfl rfl (e_move hf rfl) fun a hf => ?_
  rcases cond_some h17 with ⟨hc23, h17⟩ | ⟨hc23, h17⟩
  ·iterate 4 refine pl_gs (wanted_f hf rfl rfl rfl rfl hc23) hf rfl rfl fun a hf => ?_
   refine q_ hf rfl rfl rfl (e_pick_t hf rfl hc23 rfl) fun a hf => ?_
   refine q_ hf rfl rfl rfl (e_assign hf rfl) fun a hf => ?_
   refine pl_nil ?_
   obtain rfl := some_inj h17
   refine then_n ?_
   exact ⟨true, rfl, hf.keep ⟨rfl, trivial⟩, hM.pick [0, 1] rfl⟩
  refine gq (wanted_t hf rfl rfl rfl rfl hc23) hf rfl rfl (e_field hf rfl Tryz.underlying47 rfl Tryz.sizeOf26 (o' := 1) rfl) fun a hf => ?_
  refine gq (wanted_t hf rfl rfl rfl rfl hc23) hf rfl rfl (e_loadA hf (us := [vL A5 (x1.b.Nodes) c6]) rfl ⟨Tryz.isAgg26, Tryz.sizeOf26⟩ rfl (hM.boxSub (k := 0) (us := [vL A5 (x1.b.Nodes) c6]) (o := 1) rfl rfl)) fun a hf => ?_
  refine gq (wanted_t hf rfl rfl rfl rfl hc23) hf rfl rfl (e_move hf rfl) fun a hf => ?_
  obtain ⟨y25, hz26, h17⟩ := bind_some h17
  refine pl_gl (wanted_t hf rfl rfl rfl rfl hc23) hf rfl rfl (w_call hf Tryz.call140 rfl (r_impl_Dawg_accepts ⟨_, Sh C _ _, none_, hM.sh_lt, none_not, C.G, hM.g_lt, g_none, hM.tabs⟩ x1.b _ _ (hM.dat (k := 0) rfl) s8 hp9 _ hz26) ?_)
  rintro _ w27 ⟨rfl, hM2⟩
  obtain ⟨hM, hx28, hup29⟩ := hM.back hM2
  dsimp only [List.cons_append, List.nil_append] at hM hup29
  clear hM2
  refine ⟨_, rfl, fun a hf => ?_⟩
  refine q_ hf rfl rfl rfl (e_pick_f hf rfl hc23 rfl) fun a hf => ?_
  refine q_ hf rfl rfl rfl (e_assign hf rfl) fun a hf => ?_
  refine pl_nil ?_
  obtain rfl := some_inj h17
  refine then_n ?_
  exact ⟨y25, rfl, hf.keep ⟨rfl, trivial⟩, hM.pick [0, 1] rfl⟩
 rintro a w31 ⟨t14, rfl, hf, hM⟩
 try dsimp only at h
 refine wp_ret ?_
 obtain rfl := some_inj h
 have hM := hM.outs (own' := []) 0 rfl
 exact leave1 hf rfl rfl ⟨rfl, hM.fin⟩
theorem r_impl_UnionDawg (C : Cx) (a1 : Dawg) (A2 : Option Addr) (c3 : Nat) (hp4 : (sliceRep NodeRep).R C.w0 C.S0 a1.Nodes [vL A2 a1.Nodes c3]) (b5 : Dawg) (A6 : Option Addr) (c7 : Nat) (hp8 : (sliceRep NodeRep).R C.w0 C.S0 b5.Nodes [vL A6 b5.Nodes c7]) (r : (Dawg × Int)) (h : m_impl_UnionDawg a1 b5 = some r) :
    Calls Tryz.prog 9 #[.agg #[vL A2 (a1.Nodes) c3], .agg #[vL A6 (b5.Nodes) c7]] C.w0 fun e w => ∃ (A_1 : Option Addr), ∃ (c_1 : Nat), ∃ (ws_1 : List NodeW), e = .returned (.tuple #[.agg #[vL A_1 (r.1.Nodes) c_1], vI (r.2)]) ∧ Mem C w ((nestW A_1 c_1 79 2 ws_1)) [] ∧ ws_1.map NodeW.to = r.1.Nodes ∧ R64 r.2 := by
 have hM := Mem.begin C [.dat (sliceRep NodeRep) b5.Nodes [vL A6 b5.Nodes c7], .dat (sliceRep NodeRep) a1.Nodes [vL A2 a1.Nodes c3]] ⟨hp8, hp4, trivial⟩
 refine enter Tryz.func9 rfl Tryz.ntmps9 rfl fun a hf => ?_
 unfold m_impl_UnionDawg at h
 refine wp_seq ?_
 refine region_pl ?_
 refine pl_l hf rfl rfl rfl (w_box hf hM (cs := [vL A2 (a1.Nodes) c3]) rfl rfl fun b9 w10 hx11 hM a hf => ?_)
 refine pl_l hf rfl rfl rfl (w_box hf hM (cs := [vL A6 (b5.Nodes) c7]) rfl rfl fun b13 w14 hx15 hM a hf => ?_)
 refine pl_l hf rfl rfl rfl (w_alloc hM (cs := [vL none (([] : (List Node))) 0]) Tryz.zeroValue26 rfl fun b17 w18 hx19 hM a hf => ?_)
 refine q_ hf rfl rfl rfl (e_assign hf rfl) fun a hf => ?_
 refine pl_nil ?_
 refine then_n ?_
 refine wp_seq ?_
 refine region_pl ?_
 refine q_ hf rfl rfl rfl (e_loadA hf (us := [vL A2 (a1.Nodes) c3]) rfl ⟨Tryz.isAgg26, Tryz.sizeOf26⟩ rfl (hM.boxSub (k := 2) (us := [vL A2 (a1.Nodes) c3]) (o := 0) rfl rfl)) fun a hf => ?_
 refine q_ hf rfl rfl rfl (e_loadA hf (us := [vL A6 (b5.Nodes) c7]) rfl ⟨Tryz.isAgg26, Tryz.sizeOf26⟩ rfl (hM.boxSub (k := 1) (us := [vL A6 (b5.Nodes) c7]) (o := 0) rfl rfl)) fun a hf => ?_
 refine q_ hf rfl rfl rfl (e_loadA hf (us := [vL A2 (a1.Nodes) c3]) rfl ⟨Tryz.isAgg26, Tryz.sizeOf26⟩ rfl (hM.boxSub (k := 2) (us := [vL A2 (a1.Nodes) c3]) (o := 0) rfl rfl)) fun a hf => ?_
 refine q_ hf rfl rfl rfl (e_loadA hf (us := [vL A6 (b5.Nodes) c7]) rfl ⟨Tryz.isAgg26, Tryz.sizeOf26⟩ rfl (hM.boxSub (k := 1) (us := [vL A6 (b5.Nodes) c7]) (o := 0) rfl rfl)) fun a hf => ?_
 refine q_ hf rfl rfl rfl (e_build hf Tryz.zeroValue47 Tryz.underlying47 (bp_47 _ Tryz.underlying47.symm) rfl (cs := #[vL A2 (a1.Nodes) c3, vL A6 (b5.Nodes) c7]) (by kernel_rfl)) fun a hf => ?_
 refine q_ hf rfl rfl rfl (e_makeIface hf rfl (by kernel_rfl)) fun a hf => ?_
 obtain ⟨y23, hz24, h⟩ := bind_some h
 refine pl_l hf rfl rfl rfl (w_call hf Tryz.call26 rfl (r_impl_combined ⟨_, Sh C _ _, none_, hM.sh_lt, none_not, C.G, hM.g_lt, g_none, hM.tabs⟩ a1 _ _ (hM.dat (k := 1) rfl) b5 _ _ (hM.dat (k := 0) rfl) (fun u21 => m_impl_union_has (⟨⟨a1.Nodes⟩, ⟨b5.Nodes⟩⟩ : union) u21) (.iface 47 (.agg #[vL A2 (a1.Nodes) c3, vL A6 (b5.Nodes) c7])) ⟨_, _, rfl⟩ 141 [.agg #[vL A2 (a1.Nodes) c3, vL A6 (b5.Nodes) c7]] (callsAs_method (meth_141 _) Tryz.call141) ⟨Tryz.call141, fun C1 hs hsub u21 hp22 r h => r_impl_union_has C1 (⟨⟨a1.Nodes⟩, ⟨b5.Nodes⟩⟩ : union) _ _ (Rep.to (hM.dat (k := 1) rfl) hs hsub) _ _ (Rep.to (hM.dat (k := 0) rfl) hs hsub) u21 hp22 r h⟩ _ hz24) ?_)
 rintro _ w30 ⟨A25, c26, ws27, rfl, hM2, hw28, hv29⟩
 obtain ⟨hM, hx31, hup32⟩ := hM.back hM2
 try dsimp only [List.cons_append, List.nil_append] at hM hup32
 clear hM2
 have hM : Mem C _ (.box b17 [vL none (([] : (List Node))) 0] 26 :: .box b13 [vL A6 (b5.Nodes) c7] 26 :: .box b9 [vL A2 (a1.Nodes) c3] 26 :: (nestW A25 c26 79 2 ws27)) _ := Mem.perm (own := (nestW A25 c26 79 2 ws27) ++ [.box b17 [vL none (([] : (List Node))) 0] 26, .box b13 [vL A6 (b5.Nodes) c7] 26, .box b9 [vL A2 (a1.Nodes) c3] 26]) (own' := ([] ++ [.box b17 [vL none (([] : (List Node))) 0] 26, .box b13 [vL A6 (b5.Nodes) c7] 26, .box b9 [vL A2 (a1.Nodes) c3] 26]) ++ (nestW A25 c26 79 2 ws27)) hM (fun a => by simp only [List.count_append, List.count_nil]; omega)
 refine ⟨_, rfl, fun a hf => ?_⟩
 iterate 2 refine q_ hf rfl rfl rfl (e_extract hf rfl rfl) fun a hf => ?_
 refine pl_0 hf rfl rfl (w_store hf hM (us := [vL A25 (y23.1.Nodes) c26]) (cs' := [vL A25 (y23.1.Nodes) c26]) rfl rfl (k := 0) rfl rfl Tryz.sizeOf26 rfl rfl rfl fun w33 hM => ?_)
 dsimp only [List.set] at hM
 refine q_ hf rfl rfl rfl (e_assign hf rfl) fun a hf => ?_
 refine pl_nil ?_
 refine then_n ?_
 refine wp_ret ?_
 obtain rfl := some_inj h
 have hres36 := leaveV2 (P := Tryz.prog) (w := w33) Tryz.results9 (res_agg hf rfl ⟨Tryz.isAgg26, Tryz.sizeOf26⟩ (us := [vL A25 (y23.1.Nodes) c26]) rfl (hM.boxSub (k := 0) (o := 0) rfl rfl)) (res_tmp hf rfl)
 have hM : Mem C _ ((nestW A25 c26 79 2 ws27)) _ := hM.drop (.cons _ (.cons _ (.cons _ (List.Sublist.refl _))))
 exact bodyPost_ret hres36 hf.defers ⟨A25, c26, ws27, rfl, hM.fin, hw28, hv29⟩
theorem r_impl_meet_has (C : Cx) (x1 : meet) (A2 : Option Addr) (c3 : Nat) (hp4 : (sliceRep NodeRep).R C.w0 C.S0 x1.a.Nodes [vL A2 x1.a.Nodes c3]) (A5 : Option Addr) (c6 : Nat) (hp7 : (sliceRep NodeRep).R C.w0 C.S0 x1.b.Nodes [vL A5 x1.b.Nodes c6]) (s8 : Str) (hp9 : s8.length ≤ maxLen) (r : Bool) (h : m_impl_meet_has x1 s8 = some r) :
    Calls Tryz.prog 147 #[.agg #[vL A2 (x1.a.Nodes) c3, vL A5 (x1.b.Nodes) c6], vS (s8)] C.w0 fun e w => e = .returned (.bool (r)) ∧ Mem C w [] [] := by
 have hM := Mem.begin C [.dat (sliceRep NodeRep) x1.b.Nodes [vL A5 x1.b.Nodes c6], .dat (sliceRep NodeRep) x1.a.Nodes [vL A2 x1.a.Nodes c3]] ⟨hp7, hp4, trivial⟩
 refine enter Tryz.func147 rfl Tryz.ntmps147 rfl fun a hf => ?_
 unfold m_impl_meet_has at h
 refine wp_seq ?_
 refine region_pl ?_
 refine pl_l hf rfl rfl rfl (w_box hf hM (cs := [vL A2 (x1.a.Nodes) c3, vL A5 (x1.b.Nodes) c6]) rfl rfl fun b10 w11 hx12 hM a hf => ?_)
 refine q_ hf rfl rfl rfl (e_assign hf rfl) fun a hf => ?_
 refine pl_nil ?_
 refine then_n ?_
 obtain ⟨x16, h17, h⟩ := bind_some h
 refine seq_join (fun a w => ∃ (t14 : Bool), t14 = x16 ∧ Has 15 a [(4, .bool (t14))] ∧ Mem C w [.box b10 [vL A2 (x1.a.Nodes) c3, vL A5 (x1.b.Nodes) c6] 48] [.dat (sliceRep NodeRep) x1.b.Nodes [vL A5 x1.b.Nodes c6], .dat (sliceRep NodeRep) x1.a.Nodes [vL A2 x1.a.Nodes c3]]) ?_ ?_
 ·refine region_pl ?_
  refine q_ hf rfl rfl rfl (e_field hf rfl Tryz.underlying48 rfl Tryz.sizeOf26 (o' := 0) rfl) fun a hf => ?_
  refine q_ hf rfl rfl rfl (e_loadA hf (us := [vL A2 (x1.a.Nodes) c3]) rfl ⟨Tryz.isAgg26, Tryz.sizeOf26⟩ rfl (hM.boxSub (k := 0) (us := [vL A2 (x1.a.Nodes) c3]) (o := 0) rfl rfl)) fun a hf => ?_
  refine q_ hf rfl rfl rfl (e_move hf rfl) fun a hf => ?_
  obtain ⟨y18, hz19, h17⟩ := bind_some h17
  refine pl_l hf rfl rfl rfl (w_call hf Tryz.call140 rfl (r_impl_Dawg_accepts ⟨_, Sh C _ _, none_, hM.sh_lt, none_not, C.G, hM.g_lt, g_none, hM.tabs⟩ x1.a _ _ (hM.dat (k := 1) rfl) s8 hp9 _ hz19) ?_)
  rintro _ w20 ⟨rfl, hM2⟩
  obtain ⟨hM, hx21, hup22⟩ := hM.back hM2
  dsimp only [List.cons_append, List.nil_append] at hM hup22
  clear hM2
  refine ⟨_, rfl, fun a hf => ?_⟩
  refine q_ hf rfl rfl rfl (e_move hf rfl) fun a hf => ?_
  rcases cond_some h17 with ⟨hc23, h17⟩ | ⟨hc23, h17⟩
  ·refine gq (wanted_t hf rfl rfl rfl rfl hc23) hf rfl rfl (e_field hf rfl Tryz.underlying48 rfl Tryz.sizeOf26 (o' := 1) rfl) fun a hf => ?_
   refine gq (wanted_t hf rfl rfl rfl rfl hc23) hf rfl rfl (e_loadA hf (us := [vL A5 (x1.b.Nodes) c6]) rfl ⟨Tryz.isAgg26, Tryz.sizeOf26⟩ rfl (hM.boxSub (k := 0) (us := [vL A5 (x1.b.Nodes) c6]) (o := 1) rfl rfl)) fun a hf => ?_
   refine gq (wanted_t hf rfl rfl rfl rfl hc23) hf rfl rfl (e_move hf rfl) fun a hf => ?_
   obtain ⟨y24, hz25, h17⟩ := bind_some h17
   refine pl_gl (wanted_t hf rfl rfl rfl rfl hc23) hf rfl rfl (w_call hf Tryz.call140 rfl (r_impl_Dawg_accepts ⟨_, Sh C _ _, none_, hM.sh_lt, none_not, C.G, hM.g_lt, g_none, hM.tabs⟩ x1.b _ _ (hM.dat (k := 0) rfl) s8 hp9 _ hz25) ?_)
   rintro _ w26 ⟨rfl, hM2⟩
   obtain ⟨hM, hx27, hup28⟩ := hM.back hM2
   dsimp only [List.cons_append, List.nil_append] at hM hup28
   clear hM2
   refine ⟨_, rfl, fun a hf => ?_⟩
   refine q_ hf rfl rfl rfl (e_pick_t hf rfl hc23 rfl) fun a hf => ?_
   refine q_ hf rfl rfl rfl (e_assign hf rfl) fun a hf => ?_
   refine pl_nil ?_
   obtain rfl := some_inj h17
   refine then_n ?_
   exact ⟨y24, rfl, hf.keep ⟨rfl, trivial⟩, hM.pick [0, 1] rfl⟩
  iterate 4 refine pl_gs (wanted_f hf rfl rfl rfl rfl hc23) hf rfl rfl fun a hf => ?_
  refine q_ hf rfl rfl rfl (e_pick_f hf rfl hc23 rfl) fun a hf => ?_
  refine q_ hf rfl rfl rfl (e_assign hf rfl) fun a hf => ?_
  refine pl_nil ?_
  obtain rfl := some_inj h17
  refine then_n ?_
  exact ⟨false, rfl, hf.keep ⟨rfl, trivial⟩, hM.pick [0, 1] rfl⟩
 rintro a w31 ⟨t14, rfl, hf, hM⟩
 try dsimp only at h
 refine wp_ret ?_
 obtain rfl := some_inj h
 have hM := hM.outs (own' := []) 0 rfl
 exact leave1 hf rfl rfl ⟨rfl, hM.fin⟩
theorem r_impl_MeetDawg (C : Cx) (a1 : Dawg) (A2 : Option Addr) (c3 : Nat) (hp4 : (sliceRep NodeRep).R C.w0 C.S0 a1.Nodes [vL A2 a1.Nodes c3]) (b5 : Dawg) (A6 : Option Addr) (c7 : Nat) (hp8 : (sliceRep NodeRep).R C.w0 C.S0 b5.Nodes [vL A6 b5.Nodes c7]) (r : (Dawg × Int)) (h : m_impl_MeetDawg a1 b5 = some r) :
    Calls Tryz.prog 10 #[.agg #[vL A2 (a1.Nodes) c3], .agg #[vL A6 (b5.Nodes) c7]] C.w0 fun e w => ∃ (A_1 : Option Addr), ∃ (c_1 : Nat), ∃ (ws_1 : List NodeW), e = .returned (.tuple #[.agg #[vL A_1 (r.1.Nodes) c_1], vI (r.2)]) ∧ Mem C w ((nestW A_1 c_1 79 2 ws_1)) [] ∧ ws_1.map NodeW.to = r.1.Nodes ∧ R64 r.2 := by
 have hM := Mem.begin C [.dat (sliceRep NodeRep) b5.Nodes [vL A6 b5.Nodes c7], .dat (sliceRep NodeRep) a1.Nodes [vL A2 a1.Nodes c3]] ⟨hp8, hp4, trivial⟩
 refine enter Tryz.func10 rfl Tryz.ntmps10 rfl fun a hf => ?_
 unfold m_impl_MeetDawg at h
 refine wp_seq ?_
 refine region_pl ?_
 refine pl_l hf rfl rfl rfl (w_box hf hM (cs := [vL A2 (a1.Nodes) c3]) rfl rfl fun b9 w10 hx11 hM a hf => ?_)
 refine pl_l hf rfl rfl rfl (w_box hf hM (cs := [vL A6 (b5.Nodes) c7]) rfl rfl fun b13 w14 hx15 hM a hf => ?_)
 refine pl_l hf rfl rfl rfl (w_alloc hM (cs := [vL none (([] : (List Node))) 0]) Tryz.zeroValue26 rfl fun b17 w18 hx19 hM a hf => ?_)
 refine q_ hf rfl rfl rfl (e_assign hf rfl) fun a hf => ?_
 refine pl_nil ?_
 refine then_n ?_
 refine wp_seq ?_
 refine region_pl ?_
 refine q_ hf rfl rfl rfl (e_loadA hf (us := [vL A2 (a1.Nodes) c3]) rfl ⟨Tryz.isAgg26, Tryz.sizeOf26⟩ rfl (hM.boxSub (k := 2) (us := [vL A2 (a1.Nodes) c3]) (o := 0) rfl rfl)) fun a hf => ?_
 refine q_ hf rfl rfl rfl (e_loadA hf (us := [vL A6 (b5.Nodes) c7]) rfl ⟨Tryz.isAgg26, Tryz.sizeOf26⟩ rfl (hM.boxSub (k := 1) (us := [vL A6 (b5.Nodes) c7]) (o := 0) rfl rfl)) fun a hf => ?_
 refine q_ hf rfl rfl rfl (e_loadA hf (us := [vL A2 (a1.Nodes) c3]) rfl ⟨Tryz.isAgg26, Tryz.sizeOf26⟩ rfl (hM.boxSub (k := 2) (us := [vL A2 (a1.Nodes) c3]) (o := 0) rfl rfl)) fun a hf => ?_
 refine q_ hf rfl rfl rfl (e_loadA hf (us := [vL A6 (b5.Nodes) c7]) rfl ⟨Tryz.isAgg26, Tryz.sizeOf26⟩ rfl (hM.boxSub (k := 1) (us := [vL A6 (b5.Nodes) c7]) (o := 0) rfl rfl)) fun a hf => ?_
 refine q_ hf rfl rfl rfl (e_build hf Tryz.zeroValue48 Tryz.underlying48 (bp_48 _ Tryz.underlying48.symm) rfl (cs := #[vL A2 (a1.Nodes) c3, vL A6 (b5.Nodes) c7]) (by kernel_rfl)) fun a hf => ?_
 refine q_ hf rfl rfl rfl (e_makeIface hf rfl (by kernel_rfl)) fun a hf => ?_
 obtain ⟨y23, hz24, h⟩ := bind_some h
 refine pl_l hf rfl rfl rfl (w_call hf Tryz.call26 rfl (r_impl_combined ⟨_, Sh C _ _, none_, hM.sh_lt, none_not, C.G, hM.g_lt, g_none, hM.tabs⟩ a1 _ _ (hM.dat (k := 1) rfl) b5 _ _ (hM.dat (k := 0) rfl) (fun u21 => m_impl_meet_has (⟨⟨a1.Nodes⟩, ⟨b5.Nodes⟩⟩ : meet) u21) (.iface 48 (.agg #[vL A2 (a1.Nodes) c3, vL A6 (b5.Nodes) c7])) ⟨_, _, rfl⟩ 147 [.agg #[vL A2 (a1.Nodes) c3, vL A6 (b5.Nodes) c7]] (callsAs_method (meth_147 _) Tryz.call147) ⟨Tryz.call147, fun C1 hs hsub u21 hp22 r h => r_impl_meet_has C1 (⟨⟨a1.Nodes⟩, ⟨b5.Nodes⟩⟩ : meet) _ _ (Rep.to (hM.dat (k := 1) rfl) hs hsub) _ _ (Rep.to (hM.dat (k := 0) rfl) hs hsub) u21 hp22 r h⟩ _ hz24) ?_)
 rintro _ w30 ⟨A25, c26, ws27, rfl, hM2, hw28, hv29⟩
 obtain ⟨hM, hx31, hup32⟩ := hM.back hM2
 try dsimp only [List.cons_append, List.nil_append] at hM hup32
 clear hM2
 have hM : Mem C _ (.box b17 [vL none (([] : (List Node))) 0] 26 :: .box b13 [vL A6 (b5.Nodes) c7] 26 :: .box b9 [vL A2 (a1.Nodes) c3] 26 :: (nestW A25 c26 79 2 ws27)) _ := Mem.perm (own := (nestW A25 c26 79 2 ws27) ++ [.box b17 [vL none (([] : (List Node))) 0] 26, .box b13 [vL A6 (b5.Nodes) c7] 26, .box b9 [vL A2 (a1.Nodes) c3] 26]) (own' := ([] ++ [.box b17 [vL none (([] : (List Node))) 0] 26, .box b13 [vL A6 (b5.Nodes) c7] 26, .box b9 [vL A2 (a1.Nodes) c3] 26]) ++ (nestW A25 c26 79 2 ws27)) hM (fun a => by simp only [List.count_append, List.count_nil]; omega)
 refine ⟨_, rfl, fun a hf => ?_⟩
 iterate 2 refine q_ hf rfl rfl rfl (e_extract hf rfl rfl) fun a hf => ?_
 refine pl_0 hf rfl rfl (w_store hf hM (us := [vL A25 (y23.1.Nodes) c26]) (cs' := [vL A25 (y23.1.Nodes) c26]) rfl rfl (k := 0) rfl rfl Tryz.sizeOf26 rfl rfl rfl fun w33 hM => ?_)
 dsimp only [List.set] at hM
 refine q_ hf rfl rfl rfl (e_assign hf rfl) fun a hf => ?_
 refine pl_nil ?_
 refine then_n ?_
 refine wp_ret ?_
 obtain rfl := some_inj h
 have hres36 := leaveV2 (P := Tryz.prog) (w := w33) Tryz.results10 (res_agg hf rfl ⟨Tryz.isAgg26, Tryz.sizeOf26⟩ (us := [vL A25 (y23.1.Nodes) c26]) rfl (hM.boxSub (k := 0) (o := 0) rfl rfl)) (res_tmp hf rfl)
 have hM : Mem C _ ((nestW A25 c26 79 2 ws27)) _ := hM.drop (.cons _ (.cons _ (.cons _ (List.Sublist.refl _))))
 exact bodyPost_ret hres36 hf.defers ⟨A25, c26, ws27, rfl, hM.fin, hw28, hv29⟩
theorem r_impl_minus_has (C : Cx) (x1 : minus) (A2 : Option Addr) (c3 : Nat) (hp4 : (sliceRep NodeRep).R C.w0 C.S0 x1.a.Nodes [vL A2 x1.a.Nodes c3]) (A5 : Option Addr) (c6 : Nat) (hp7 : (sliceRep NodeRep).R C.w0 C.S0 x1.b.Nodes [vL A5 x1.b.Nodes c6]) (s8 : Str) (hp9 : s8.length ≤ maxLen) (r : Bool) (h : m_impl_minus_has x1 s8 = some r) :
    Calls Tryz.prog 148 #[.agg #[vL A2 (x1.a.Nodes) c3, vL A5 (x1.b.Nodes) c6], vS (s8)] C.w0 fun e w => e = .returned (.bool (r)) ∧ Mem C w [] [] := by
 have hM := Mem.begin C [.dat (sliceRep NodeRep) x1.b.Nodes [vL A5 x1.b.Nodes c6], .dat (sliceRep NodeRep) x1.a.Nodes [vL A2 x1.a.Nodes c3]] ⟨hp7, hp4, trivial⟩
 refine enter Tryz.func148 rfl Tryz.ntmps148 rfl fun a hf => ?_
 unfold m_impl_minus_has at h
 refine wp_seq ?_
 refine region_pl ?_
 refine pl_l hf rfl rfl rfl (w_box hf hM (cs := [vL A2 (x1.a.Nodes) c3, vL A5 (x1.b.Nodes) c6]) rfl rfl fun b10 w11 hx12 hM a hf => ?_)
 refine q_ hf rfl rfl rfl (e_assign hf rfl) fun a hf => ?_
 refine pl_nil ?_
 refine then_n ?_
 obtain ⟨x16, h17, h⟩ := bind_some h
 refine seq_join (fun a w => ∃ (t14 : Bool), t14 = x16 ∧ Has 16 a [(4, .bool (t14))] ∧ Mem C w [.box b10 [vL A2 (x1.a.Nodes) c3, vL A5 (x1.b.Nodes) c6] 49] [.dat (sliceRep NodeRep) x1.b.Nodes [vL A5 x1.b.Nodes c6], .dat (sliceRep NodeRep) x1.a.Nodes [vL A2 x1.a.Nodes c3]]) ?_ ?_
 ·refine region_pl ?_
  refine q_ hf rfl rfl rfl (e_field hf rfl Tryz.underlying49 rfl Tryz.sizeOf26 (o' := 0) rfl) fun a hf => ?_
  refine q_ hf rfl rfl rfl (e_loadA hf (us := [vL A2 (x1.a.Nodes) c3]) rfl ⟨Tryz.isAgg26, Tryz.sizeOf26⟩ rfl (hM.boxSub (k := 0) (us := [vL A2 (x1.a.Nodes) c3]) (o := 0) rfl rfl)) fun a hf => ?_
  refine q_ hf rfl rfl rfl (e_move hf rfl) fun a hf => ?_
  obtain ⟨y18, hz19, h17⟩ := bind_some h17
  refine pl_l hf rfl rfl rfl (w_call hf Tryz.call140 rfl (r_impl_Dawg_accepts ⟨_, Sh C _ _, none_, hM.sh_lt, none_not, C.G, hM.g_lt, g_none, hM.tabs⟩ x1.a _ _ (hM.dat (k := 1) rfl) s8 hp9 _ hz19) ?_)
  rintro _ w20 ⟨rfl, hM2⟩
  obtain ⟨hM, hx21, hup22⟩ := hM.back hM2
  dsimp only [List.cons_append, List.nil_append] at hM hup22
  clear hM2
  refine ⟨_, rfl, fun a hf => ?_⟩
  refine q_ hf rfl rfl rfl (e_move hf rfl) fun a hf => ?_
  rcases cond_some h17 with ⟨hc23, h17⟩ | ⟨hc23, h17⟩
  ·refine gq (wanted_t hf rfl rfl rfl rfl hc23) hf rfl rfl (e_field hf rfl Tryz.underlying49 rfl Tryz.sizeOf26 (o' := 1) rfl) fun a hf => ?_
   refine gq (wanted_t hf rfl rfl rfl rfl hc23) hf rfl rfl (e_loadA hf (us := [vL A5 (x1.b.Nodes) c6]) rfl ⟨Tryz.isAgg26, Tryz.sizeOf26⟩ rfl (hM.boxSub (k := 0) (us := [vL A5 (x1.b.Nodes) c6]) (o := 1) rfl rfl)) fun a hf => ?_
   refine gq (wanted_t hf rfl rfl rfl rfl hc23) hf rfl rfl (e_move hf rfl) fun a hf => ?_
   obtain ⟨y24, hz25, h17⟩ := bind_some h17
   refine pl_gl (wanted_t hf rfl rfl rfl rfl hc23) hf rfl rfl (w_call hf Tryz.call140 rfl (r_impl_Dawg_accepts ⟨_, Sh C _ _, none_, hM.sh_lt, none_not, C.G, hM.g_lt, g_none, hM.tabs⟩ x1.b _ _ (hM.dat (k := 0) rfl) s8 hp9 _ hz25) ?_)
   rintro _ w26 ⟨rfl, hM2⟩
   obtain ⟨hM, hx27, hup28⟩ := hM.back hM2
   dsimp only [List.cons_append, List.nil_append] at hM hup28
   clear hM2
   refine ⟨_, rfl, fun a hf => ?_⟩
   refine gq (wanted_t hf rfl rfl rfl rfl hc23) hf rfl rfl (e_not hf rfl) fun a hf => ?_
   refine q_ hf rfl rfl rfl (e_pick_t hf rfl hc23 rfl) fun a hf => ?_
   refine q_ hf rfl rfl rfl (e_assign hf rfl) fun a hf => ?_
   refine pl_nil ?_
   obtain rfl := some_inj h17
   refine then_n ?_
   exact ⟨(!y24), rfl, hf.keep ⟨rfl, trivial⟩, hM.pick [0, 1] rfl⟩
  iterate 5 refine pl_gs (wanted_f hf rfl rfl rfl rfl hc23) hf rfl rfl fun a hf => ?_
  refine q_ hf rfl rfl rfl (e_pick_f hf rfl hc23 rfl) fun a hf => ?_
  refine q_ hf rfl rfl rfl (e_assign hf rfl) fun a hf => ?_
  refine pl_nil ?_
  obtain rfl := some_inj h17
  refine then_n ?_
  exact ⟨false, rfl, hf.keep ⟨rfl, trivial⟩, hM.pick [0, 1] rfl⟩
 rintro a w31 ⟨t14, rfl, hf, hM⟩
 try dsimp only at h
 refine wp_ret ?_
 obtain rfl := some_inj h
 have hM := hM.outs (own' := []) 0 rfl
 exact leave1 hf rfl rfl ⟨rfl, hM.fin⟩
theorem r_impl_MinusDawg (C : Cx) (a1 : Dawg) (A2 : Option Addr) (c3 : Nat) (hp4 : (sliceRep NodeRep).R C.w0 C.S0 a1.Nodes [vL A2 a1.Nodes c3]) (b5 : Dawg) (A6 : Option Addr) (c7 : Nat) (hp8 : (sliceRep NodeRep).R C.w0 C.S0 b5.Nodes [vL A6 b5.Nodes c7]) (r : (Dawg × Int)) (h : m_impl_MinusDawg a1 b5 = some r) :
    Calls Tryz.prog 11 #[.agg #[vL A2 (a1.Nodes) c3], .agg #[vL A6 (b5.Nodes) c7]] C.w0 fun e w => ∃ (A_1 : Option Addr), ∃ (c_1 : Nat), ∃ (ws_1 : List NodeW), e = .returned (.tuple #[.agg #[vL A_1 (r.1.Nodes) c_1], vI (r.2)]) ∧ Mem C w ((nestW A_1 c_1 79 2 ws_1)) [] ∧ ws_1.map NodeW.to = r.1.Nodes ∧ R64 r.2 := by
 have hM := Mem.begin C [.dat (sliceRep NodeRep) b5.Nodes [vL A6 b5.Nodes c7], .dat (sliceRep NodeRep) a1.Nodes [vL A2 a1.Nodes c3]] ⟨hp8, hp4, trivial⟩
 refine enter Tryz.func11 rfl Tryz.ntmps11 rfl fun a hf => ?_
 unfold m_impl_MinusDawg at h
 refine wp_seq ?_
 refine region_pl ?_
 refine pl_l hf rfl rfl rfl (w_box hf hM (cs := [vL A2 (a1.Nodes) c3]) rfl rfl fun b9 w10 hx11 hM a hf => ?_)
 refine pl_l hf rfl rfl rfl (w_box hf hM (cs := [vL A6 (b5.Nodes) c7]) rfl rfl fun b13 w14 hx15 hM a hf => ?_)
 refine pl_l hf rfl rfl rfl (w_alloc hM (cs := [vL none (([] : (List Node))) 0]) Tryz.zeroValue26 rfl fun b17 w18 hx19 hM a hf => ?_)
 refine q_ hf rfl rfl rfl (e_assign hf rfl) fun a hf => ?_
 refine pl_nil ?_
 refine then_n ?_
 refine wp_seq ?_
 refine region_pl ?_
 refine q_ hf rfl rfl rfl (e_loadA hf (us := [vL A2 (a1.Nodes) c3]) rfl ⟨Tryz.isAgg26, Tryz.sizeOf26⟩ rfl (hM.boxSub (k := 2) (us := [vL A2 (a1.Nodes) c3]) (o := 0) rfl rfl)) fun a hf => ?_
 refine q_ hf rfl rfl rfl (e_loadA hf (us := [vL A6 (b5.Nodes) c7]) rfl ⟨Tryz.isAgg26, Tryz.sizeOf26⟩ rfl (hM.boxSub (k := 1) (us := [vL A6 (b5.Nodes) c7]) (o := 0) rfl rfl)) fun a hf => ?_
 refine q_ hf rfl rfl rfl (e_loadA hf (us := [vL A2 (a1.Nodes) c3]) rfl ⟨Tryz.isAgg26, Tryz.sizeOf26⟩ rfl (hM.boxSub (k := 2) (us := [vL A2 (a1.Nodes) c3]) (o := 0) rfl rfl)) fun a hf => ?_
 refine q_ hf rfl rfl rfl (e_loadA hf (us := [vL A6 (b5.Nodes) c7]) rfl ⟨Tryz.isAgg26, Tryz.sizeOf26⟩ rfl (hM.boxSub (k := 1) (us := [vL A6 (b5.Nodes) c7]) (o := 0) rfl rfl)) fun a hf => ?_
 refine q_ hf rfl rfl rfl (e_build hf Tryz.zeroValue49 Tryz.underlying49 (bp_49 _ Tryz.underlying49.symm) rfl (cs := #[vL A2 (a1.Nodes) c3, vL A6 (b5.Nodes) c7]) (by kernel_rfl)) fun a hf => ?_
 refine q_ hf rfl rfl rfl (e_makeIface hf rfl (by kernel_rfl)) fun a hf => ?_
 obtain ⟨y23, hz24, h⟩ := bind_some h
 refine pl_l hf rfl rfl rfl (w_call hf Tryz.call26 rfl (r_impl_combined ⟨_, Sh C _ _, none_, hM.sh_lt, none_not, C.G, hM.g_lt, g_none, hM.tabs⟩ a1 _ _ (hM.dat (k := 1) rfl) b5 _ _ (hM.dat (k := 0) rfl) (fun u21 => m_impl_minus_has (⟨⟨a1.Nodes⟩, ⟨b5.Nodes⟩⟩ : minus) u21) (.iface 49 (.agg #[vL A2 (a1.Nodes) c3, vL A6 (b5.Nodes) c7])) ⟨_, _, rfl⟩ 148 [.agg #[vL A2 (a1.Nodes) c3, vL A6 (b5.Nodes) c7]] (callsAs_method (meth_148 _) Tryz.call148) ⟨Tryz.call148, fun C1 hs hsub u21 hp22 r h => r_impl_minus_has C1 (⟨⟨a1.Nodes⟩, ⟨b5.Nodes⟩⟩ : minus) _ _ (Rep.to (hM.dat (k := 1) rfl) hs hsub) _ _ (Rep.to (hM.dat (k := 0) rfl) hs hsub) u21 hp22 r h⟩ _ hz24) ?_)
 rintro _ w30 ⟨A25, c26, ws27, rfl, hM2, hw28, hv29⟩
 obtain ⟨hM, hx31, hup32⟩ := hM.back hM2
 try dsimp only [List.cons_append, List.nil_append] at hM hup32
 clear hM2
 have hM : Mem C _ (.box b17 [vL none (([] : (List Node))) 0] 26 :: .box b13 [vL A6 (b5.Nodes) c7] 26 :: .box b9 [vL A2 (a1.Nodes) c3] 26 :: (nestW A25 c26 79 2 ws27)) _ := Mem.perm (own := (nestW A25 c26 79 2 ws27) ++ [.box b17 [vL none (([] : (List Node))) 0] 26, .box b13 [vL A6 (b5.Nodes) c7] 26, .box b9 [vL A2 (a1.Nodes) c3] 26]) (own' := ([] ++ [.box b17 [vL none (([] : (List Node))) 0] 26, .box b13 [vL A6 (b5.Nodes) c7] 26, .box b9 [vL A2 (a1.Nodes) c3] 26]) ++ (nestW A25 c26 79 2 ws27)) hM (fun a => by simp only [List.count_append, List.count_nil]; omega)
 refine ⟨_, rfl, fun a hf => ?_⟩
 iterate 2 refine q_ hf rfl rfl rfl (e_extract hf rfl rfl) fun a hf => ?_
 refine pl_0 hf rfl rfl (w_store hf hM (us := [vL A25 (y23.1.Nodes) c26]) (cs' := [vL A25 (y23.1.Nodes) c26]) rfl rfl (k := 0) rfl rfl Tryz.sizeOf26 rfl rfl rfl fun w33 hM => ?_)
 dsimp only [List.set] at hM
 refine q_ hf rfl rfl rfl (e_assign hf rfl) fun a hf => ?_
 refine pl_nil ?_
 refine then_n ?_
 refine wp_ret ?_
 obtain rfl := some_inj h
 have hres36 := leaveV2 (P := Tryz.prog) (w := w33) Tryz.results11 (res_agg hf rfl ⟨Tryz.isAgg26, Tryz.sizeOf26⟩ (us := [vL A25 (y23.1.Nodes) c26]) rfl (hM.boxSub (k := 0) (o := 0) rfl rfl)) (res_tmp hf rfl)
 have hM : Mem C _ ((nestW A25 c26 79 2 ws27)) _ := hM.drop (.cons _ (.cons _ (.cons _ (List.Sublist.refl _))))
 exact bodyPost_ret hres36 hf.defers ⟨A25, c26, ws27, rfl, hM.fin, hw28, hv29⟩
theorem r_impl_WordsOf (C : Cx) (d1 : Dawg) (A2 : Option Addr) (c3 : Nat) (hp4 : (sliceRep NodeRep).R C.w0 C.S0 d1.Nodes [vL A2 d1.Nodes c3]) (r : ((List Str) × Int)) (h : m_impl_WordsOf d1 = some r) :
    Calls Tryz.prog 12 #[.agg #[vL A2 (d1.Nodes) c3]] C.w0 fun e w => ∃ (A_1 : Option Addr), ∃ (c_1 : Nat), e = .returned (.tuple #[vL A_1 (r.1) c_1, vI (r.2)]) ∧ Mem C w [.row strRep A_1 c_1 9 r.1 true] [] ∧ R64 r.2 := by
 have hM := Mem.begin C [.dat (sliceRep NodeRep) d1.Nodes [vL A2 d1.Nodes c3]] ⟨hp4, trivial⟩
 refine enter Tryz.func12 rfl Tryz.ntmps12 rfl fun a hf => ?_
 unfold m_impl_WordsOf at h
 refine wp_seq ?_
 refine region_pl ?_
 refine pl_l hf rfl rfl rfl (w_box hf hM (cs := [vL A2 (d1.Nodes) c3]) rfl rfl fun b5 w6 hx7 hM a hf => ?_)
 iterate 2 refine q_ hf rfl rfl rfl (e_assign hf rfl) fun a hf => ?_
 refine pl_nil ?_
 refine then_n ?_
 iterate 2 refine wp_seq ?_
 refine region_pl ?_
 refine q_ hf rfl rfl rfl (e_loadA hf (us := [vL A2 (d1.Nodes) c3]) rfl ⟨Tryz.isAgg26, Tryz.sizeOf26⟩ rfl (hM.boxSub (k := 0) (us := [vL A2 (d1.Nodes) c3]) (o := 0) rfl rfl)) fun a hf => ?_
 obtain ⟨y9, hz10, h⟩ := bind_some h
 refine pl_l hf rfl rfl rfl (w_call hf Tryz.call27 rfl (r_impl_ValidDawg ⟨_, Sh C _ _, none_, hM.sh_lt, none_not, C.G, hM.g_lt, g_none, hM.tabs⟩ d1 _ _ (hM.dat (k := 0) rfl) _ hz10) ?_)
 rintro _ w11 ⟨rfl, hM2⟩
 obtain ⟨hM, hx12, hup13⟩ := hM.back hM2
 dsimp only [List.cons_append, List.nil_append] at hM hup13
 clear hM2
 refine ⟨_, rfl, fun a hf => ?_⟩
 refine q_ hf rfl rfl rfl (e_not hf rfl) fun a hf => ?_
 refine pl_nil ?_
 refine then_n ?_
 rcases cond_some h with ⟨hc14, h⟩ | ⟨hc14, h⟩
 ·refine cond_t hf rfl hc14 ?_
  refine wp_seq ?_
  refine region_pl ?_
  iterate 2 refine q_ hf rfl rfl rfl (e_assign hf rfl) fun a hf => ?_
  refine pl_nil ?_
  refine then_n ?_
  refine wp_ret ?_
  refine then_r ?_
  obtain rfl := some_inj h
  have hM := hM.nilRow strRep 9
  have hM := hM.outs (own' := [.row strRep none 0 9 ([] : (List Str)) true]) 1 rfl
  exact leave2 hf rfl rfl rfl ⟨none, 0, rfl, hM.fin, (R64_lit rfl)⟩
 refine cond_f hf rfl hc14 ?_
 refine wp_skip ?_
 refine then_n ?_
 refine wp_seq ?_
 refine region_pl ?_
 refine q_ hf rfl rfl rfl (e_loadA hf (us := [vL A2 (d1.Nodes) c3]) rfl ⟨Tryz.isAgg26, Tryz.sizeOf26⟩ rfl (hM.boxSub (k := 0) (us := [vL A2 (d1.Nodes) c3]) (o := 0) rfl rfl)) fun a hf => ?_
 obtain ⟨y15, hz16, h⟩ := bind_some h
 refine pl_l hf rfl rfl rfl (w_call hf Tryz.call28 rfl (r_impl_Dawg_words ⟨_, Sh C _ _, none_, hM.sh_lt, none_not, C.G, hM.g_lt, g_none, hM.tabs⟩ d1 _ _ (hM.dat (k := 0) rfl) _ hz16) ?_)
 rintro _ w19 ⟨A17, c18, rfl, hM2⟩
 obtain ⟨hM, hx20, hup21⟩ := hM.back hM2
 dsimp only [List.cons_append, List.nil_append] at hM hup21
 clear hM2
 refine ⟨_, rfl, fun a hf => ?_⟩
 iterate 2 refine q_ hf rfl rfl rfl (e_assign hf rfl) fun a hf => ?_
 refine pl_nil ?_
 refine then_n ?_
 refine wp_ret ?_
 obtain rfl := some_inj h
 have hM := hM.outs (own' := [.row strRep A17 c18 9 y15 true]) 1 rfl
 exact leave2 hf rfl rfl rfl ⟨A17, c18, rfl, hM.fin, (R64_lit rfl)⟩
theorem r_spec_l00In (C : Cx) (n1 : Int) (hp2 : R64 n1) (low3 : Int) (hp4 : R64 low3) (high5 : Int) (hp6 : R64 high5) (r : Bool) (h : m_spec_l00In n1 low3 high5 = some r) :
    Calls Tryz.prog 80 #[vI (n1), vI (low3), vI (high5)] C.w0 fun e w => e = .returned (.bool (r)) ∧ Mem C w [] [] := by
 have hM := Mem.begin C [] trivial
 refine enter Tryz.func80 rfl Tryz.ntmps80 rfl fun a hf => ?_
 unfold m_spec_l00In at h
 refine wp_seq ?_
 refine region_pl ?_
 refine q_ hf rfl rfl rfl (e_assign hf rfl) fun a hf => ?_
 refine pl_nil ?_
 refine then_n ?_
 obtain ⟨x9, h10, h⟩ := bind_some h
 refine seq_join (fun a w => ∃ (t7 : Bool), t7 = x9 ∧ Has 15 a [(6, .bool (t7))] ∧ Mem C w [] []) ?_ ?_
 ·refine region_pl ?_
  iterate 2 refine q_ hf rfl rfl rfl (e_move hf rfl) fun a hf => ?_
  refine q_ hf rfl rfl rfl (e_ge hf (x := n1) (y := low3) rfl rfl) fun a hf => ?_
  refine q_ hf rfl rfl rfl (e_move hf rfl) fun a hf => ?_
  rcases cond_some h10 with ⟨hc11, h10⟩ | ⟨hc11, h10⟩
  ·iterate 2 refine gq (wanted_t hf rfl rfl rfl rfl hc11) hf rfl rfl (e_move hf rfl) fun a hf => ?_
   refine gq (wanted_t hf rfl rfl rfl rfl hc11) hf rfl rfl (e_le hf (x := n1) (y := high5) rfl rfl) fun a hf => ?_
   refine q_ hf rfl rfl rfl (e_pick_t hf rfl hc11 rfl) fun a hf => ?_
   refine q_ hf rfl rfl rfl (e_assign hf rfl) fun a hf => ?_
   refine pl_nil ?_
   obtain rfl := some_inj h10
   refine then_n ?_
   exact ⟨(decide (n1 ≤ high5)), rfl, hf.keep ⟨rfl, trivial⟩, hM.pick [] rfl⟩
  iterate 3 refine pl_gs (wanted_f hf rfl rfl rfl rfl hc11) hf rfl rfl fun a hf => ?_
  refine q_ hf rfl rfl rfl (e_pick_f hf rfl hc11 rfl) fun a hf => ?_
  refine q_ hf rfl rfl rfl (e_assign hf rfl) fun a hf => ?_
  refine pl_nil ?_
  obtain rfl := some_inj h10
  refine then_n ?_
  exact ⟨false, rfl, hf.keep ⟨rfl, trivial⟩, hM.pick [] rfl⟩
 rintro a w14 ⟨t7, rfl, hf, hM⟩
 try dsimp only at h
 refine wp_ret ?_
 obtain rfl := some_inj h
 exact leave1 hf rfl rfl ⟨rfl, hM.fin⟩
theorem r_spec_l01Small (C : Cx) (c1 : UInt8) (r : Bool) (h : m_spec_l01Small c1 = some r) :
    Calls Tryz.prog 81 #[vB (c1)] C.w0 fun e w => e = .returned (.bool (r)) ∧ Mem C w [] [] := by
 have hM := Mem.begin C [] trivial
 refine enter Tryz.func81 rfl Tryz.ntmps81 rfl fun a hf => ?_
 unfold m_spec_l01Small at h
 refine wp_seq ?_
 refine region_pl ?_
 refine q_ hf rfl rfl rfl (e_assign hf rfl) fun a hf => ?_
 refine pl_nil ?_
 refine then_n ?_
 obtain ⟨x4, h5, h⟩ := bind_some h
 refine seq_join (fun a w => ∃ (t2 : Bool), t2 = x4 ∧ Has 9 a [(2, .bool (t2))] ∧ Mem C w [] []) ?_ ?_
 ·refine region_pl ?_
  refine q_ hf rfl rfl rfl (e_move hf rfl) fun a hf => ?_
  refine q_ hf rfl rfl rfl (e_geB hf (x := c1) (y := 97) rfl rfl) fun a hf => ?_
  refine q_ hf rfl rfl rfl (e_move hf rfl) fun a hf => ?_
  rcases cond_some h5 with ⟨hc6, h5⟩ | ⟨hc6, h5⟩
  ·refine gq (wanted_t hf rfl rfl rfl rfl hc6) hf rfl rfl (e_move hf rfl) fun a hf => ?_
   refine gq (wanted_t hf rfl rfl rfl rfl hc6) hf rfl rfl (e_leB hf (x := c1) (y := 122) rfl rfl) fun a hf => ?_
   refine q_ hf rfl rfl rfl (e_pick_t hf rfl hc6 rfl) fun a hf => ?_
   refine q_ hf rfl rfl rfl (e_assign hf rfl) fun a hf => ?_
   refine pl_nil ?_
   obtain rfl := some_inj h5
   refine then_n ?_
   exact ⟨(decide (c1 ≤ 122)), rfl, hf.keep ⟨rfl, trivial⟩, hM.pick [] rfl⟩
  iterate 2 refine pl_gs (wanted_f hf rfl rfl rfl rfl hc6) hf rfl rfl fun a hf => ?_
  refine q_ hf rfl rfl rfl (e_pick_f hf rfl hc6 rfl) fun a hf => ?_
  refine q_ hf rfl rfl rfl (e_assign hf rfl) fun a hf => ?_
  refine pl_nil ?_
  obtain rfl := some_inj h5
  refine then_n ?_
  exact ⟨false, rfl, hf.keep ⟨rfl, trivial⟩, hM.pick [] rfl⟩
 rintro a w9 ⟨t2, rfl, hf, hM⟩
 try dsimp only at h
 refine wp_ret ?_
 obtain rfl := some_inj h
 exact leave1 hf rfl rfl ⟨rfl, hM.fin⟩
theorem r_spec_l06Shape (C : Cx) (d1 : Dawg) (b2 : Nat) (o3 : Nat) (hp4 : (ptrRep DawgRep).R C.w0 C.S0 d1 [vP b2 o3]) (r : Bool) (h : m_spec_l06Shape d1 = some r) :
    Calls Tryz.prog 51 #[vP b2 (o3)] C.w0 fun e w => e = .returned (.bool (r)) ∧ Mem C w [] [] := by
 have hM := Mem.begin C [.dat (ptrRep DawgRep) d1 [vP b2 o3]] ⟨hp4, trivial⟩
 refine enter Tryz.func51 rfl Tryz.ntmps51 rfl fun a hf => ?_
 unfold m_spec_l06Shape at h
 refine wp_seq ?_
 refine region_pl ?_
 refine q_ hf rfl rfl rfl (e_assign hf rfl) fun a hf => ?_
 refine pl_nil ?_
 refine then_n ?_
 refine wp_seq ?_
 refine region_pl ?_
 refine q_ hf rfl rfl rfl (e_move hf rfl) fun a hf => ?_
 refine q_ hf rfl rfl rfl (e_nil hf rfl) fun a hf => ?_
 obtain ⟨_, hr5, hM⟩ := hM.deref (hM.dat (k := 0) rfl)
 obtain ⟨A6, c7, rfl, hv8⟩ := DawgRep_open hr5
 have hM := hM.add (y := .dat (sliceRep NodeRep) d1.Nodes [vL A6 d1.Nodes c7]) hv8
 refine q_ hf rfl rfl rfl (e_field hf rfl Tryz.underlying26 rfl Tryz.sizeOf24 (o' := o3 + 0) rfl) fun a hf => ?_
 refine q_ hf rfl rfl rfl (e_load1 hf rfl Tryz.isAgg24 (hM.litCell (k := 1) (j := 0) rfl rfl rfl)) fun a hf => ?_
 have hl9 := slice_len (hM.dat (k := 0) rfl)
 refine q_ hf rfl rfl rfl (e_lenL hf (x := d1.Nodes) rfl Tryz.underlying24) fun a hf => ?_
 refine q_ hf rfl rfl rfl (e_assign hf rfl) fun a hf => ?_
 refine pl_nil ?_
 refine then_n ?_
 iterate 2 refine wp_seq ?_
 refine region_pl ?_
 refine q_ hf rfl rfl rfl (e_move hf rfl) fun a hf => ?_
 obtain ⟨y10, hz11, h⟩ := bind_some h
 refine pl_l hf rfl rfl rfl (w_call hf Tryz.call80 rfl (r_spec_l00In ⟨_, Sh C _ _, none_, hM.sh_lt, none_not, C.G, hM.g_lt, g_none, hM.tabs⟩ (d1.Nodes.length : Int) (R64_len hl9) 1 (R64_lit rfl) 3000 (R64_lit rfl) _ hz11) ?_)
 rintro _ w12 ⟨rfl, hM2⟩
 obtain ⟨hM, hx13, hup14⟩ := hM.back hM2
 dsimp only [List.cons_append, List.nil_append] at hM hup14
 clear hM2
 refine ⟨_, rfl, fun a hf => ?_⟩
 refine q_ hf rfl rfl rfl (e_not hf rfl) fun a hf => ?_
 refine pl_nil ?_
 refine then_n ?_
 rcases cond_some h with ⟨hc15, h⟩ | ⟨hc15, h⟩
 ·refine cond_t hf rfl hc15 ?_
  refine wp_seq ?_
  refine region_pl ?_
  refine q_ hf rfl rfl rfl (e_assign hf rfl) fun a hf => ?_
  refine pl_nil ?_
  refine then_n ?_
  refine wp_ret ?_
  refine then_r ?_
  obtain rfl := some_inj h
  exact leave1 hf rfl rfl ⟨rfl, hM.fin⟩
 refine cond_f hf rfl hc15 ?_
 refine wp_skip ?_
 refine then_n ?_
 obtain ⟨x16, h17, h⟩ := bind_some h
 refine seq_join (fun a w => (.inl ()) = x16 ∧ Has 96 a [] ∧ Mem C w [] [.dat (sliceRep NodeRep) d1.Nodes [vL A6 d1.Nodes c7], .lit b2 (o3) [vL A6 (d1.Nodes) c7], .dat (ptrRep DawgRep) d1 [vP b2 o3]]) ?_ ?_
 ·refine wp_seq ?_
  refine region_pl ?_
  refine q_ hf rfl rfl rfl (e_assign hf rfl) fun a hf => ?_
  refine pl_nil ?_
  refine then_n ?_
  refine wp_block ?_
  obtain ⟨x21, h22, h17⟩ := bind_some h17
  refine wp_loopM h22 (fun s a w => ∃ (x18 : Int), x18 = s ∧ Has 96 a [(0, vP b2 (o3)), (3, vI ((d1.Nodes.length : Int))), (4, vI (x18))] ∧ Mem C w [] [.dat (sliceRep NodeRep) d1.Nodes [vL A6 d1.Nodes c7], .lit b2 (o3) [vL A6 (d1.Nodes) c7], .dat (ptrRep DawgRep) d1 [vP b2 o3]] ∧ R64 x18) ?_ ?_
  ·exact ⟨0, rfl, hf.keep ⟨rfl, rfl, rfl, trivial⟩, hM.pick [0, 1, 2] rfl, (R64_lit rfl)⟩
  rintro s o23 a w20 ⟨x18, rfl, hf, hM, hv19⟩ h24 hd25
  replace h24 : m_spec_l06Shape_l1 d1 x18 = some o23 := h24
  unfold m_spec_l06Shape_l1 at h24
  iterate 2 refine wp_seq ?_
  refine region_pl ?_
  iterate 2 refine q_ hf rfl rfl rfl (e_move hf rfl) fun a hf => ?_
  refine q_ hf rfl rfl rfl (e_lt hf (x := x18) (y := (d1.Nodes.length : Int)) rfl rfl) fun a hf => ?_
  refine pl_nil ?_
  refine then_n ?_
  rcases cond_some h24 with ⟨hc26, h24⟩ | ⟨hc26, h24⟩
  ·refine cond_t hf rfl hc26 ?_
   refine wp_skip ?_
   refine then_n ?_
   obtain ⟨x27, h28, h24⟩ := bind_some h24
   refine seq_join (fun a w => (.inl ()) = x27 ∧ Has 96 a [(0, vP b2 (o3)), (3, vI ((d1.Nodes.length : Int))), (4, vI (x18))] ∧ Mem C w [] [.dat (sliceRep NodeRep) d1.Nodes [vL A6 d1.Nodes c7], .lit b2 (o3) [vL A6 (d1.Nodes) c7], .dat (ptrRep DawgRep) d1 [vP b2 o3]]) ?_ ?_
   ·refine wp_block ?_
    refine wp_seq ?_
    refine region_pl ?_
    refine q_ hf rfl rfl rfl (e_move hf rfl) fun a hf => ?_
    refine q_ hf rfl rfl rfl (e_nil hf rfl) fun a hf => ?_
    refine q_ hf rfl rfl rfl (e_field hf rfl Tryz.underlying26 rfl Tryz.sizeOf24 (o' := o3 + 0) rfl) fun a hf => ?_
    refine q_ hf rfl rfl rfl (e_load1 hf rfl Tryz.isAgg24 (hM.litCell (k := 1) (j := 0) rfl rfl rfl)) fun a hf => ?_
    refine q_ hf rfl rfl rfl (e_move hf rfl) fun a hf => ?_
    obtain ⟨e29, hz30, h28⟩ := bind_some h28
    obtain ⟨b34, o35, _, hA36, h31, h32, hr33, hM⟩ := hM.elem (hM.dat (k := 0) rfl) (n := 3) rfl hz30
    obtain ⟨A38, c39, rfl, hv37, hv40⟩ := NodeRep_open hr33
    have hM := hM.add (y := .dat (sliceRep intRep) e29.Next [vL A38 e29.Next c39]) hv40
    refine q_ hf rfl rfl rfl (e_indexAddr (A := A6) (b := b34) (o := o35) (xs := d1.Nodes) (i := x18) hf hA36 rfl rfl Tryz.underlying24 Tryz.sizeOf79 h31 h32) fun a hf => ?_
    refine q_ hf rfl rfl rfl (e_assign hf rfl) fun a hf => ?_
    refine pl_nil ?_
    refine then_n ?_
    iterate 2 refine wp_seq ?_
    obtain ⟨w41, hw⟩ : ∃ x, x = w20.drew := ⟨_, rfl⟩
    refine region_pi (.q 0 (.q 1 (.q 2 (.q 3 (.q 4 (.q 5 (.q 6 (.q 7 (.q 8 (.q 9 (.q 10 (.nil)))))))))))) (Ext w41) rfl (by kernel_rfl) ?_
    have hM := hM.drew
    rw [← hw] at hM ⊢
    clear hw
    refine pi_q hf rfl rfl rfl rfl (Ext.refl _) (e_move hf rfl) fun a hf => ?_
    refine pi_q hf rfl rfl rfl rfl (Ext.refl _) (e_nil hf rfl) fun a hf => ?_
    refine pi_q hf rfl rfl rfl rfl (Ext.refl _) (e_field hf rfl Tryz.underlying79 rfl Tryz.sizeOf9 (o' := (o35 + (x18 : Int).toNat * 3) + 1) rfl) fun a hf => ?_
    refine pi_q hf rfl rfl rfl rfl (Ext.refl _) (e_load1 hf rfl Tryz.isAgg9 (hM.litCell (k := 1) (j := 1) rfl rfl rfl)) fun a hf => ?_
    refine pi_q hf rfl rfl rfl rfl (Ext.refl _) (e_lenS hf (x := e29.Letters) rfl Tryz.underlying9) fun a hf => ?_
    refine pi_q hf rfl rfl rfl rfl (Ext.refl _) (e_move hf rfl) fun a hf => ?_
    refine pi_q hf rfl rfl rfl rfl (Ext.refl _) (e_nil hf rfl) fun a hf => ?_
    refine pi_q hf rfl rfl rfl rfl (Ext.refl _) (e_field hf rfl Tryz.underlying79 rfl Tryz.sizeOf77 (o' := (o35 + (x18 : Int).toNat * 3) + 2) rfl) fun a hf => ?_
    refine pi_q hf rfl rfl rfl rfl (Ext.refl _) (e_load1 hf rfl Tryz.isAgg77 (hM.litCell (k := 1) (j := 2) rfl rfl rfl)) fun a hf => ?_
    have hl42 := slice_len (hM.dat (k := 0) rfl)
    refine pi_q hf rfl rfl rfl rfl (Ext.refl _) (e_lenL hf (x := e29.Next) rfl Tryz.underlying77) fun a hf => ?_
    refine pi_q hf rfl rfl rfl rfl (Ext.refl _) (e_ne hf (x := (e29.Letters.length : Int)) (y := (e29.Next.length : Int)) rfl rfl) fun a hf => ?_
    refine pi_nil ?_
    refine then_n ?_
    rcases cond_some h28 with ⟨hc43, h28⟩ | ⟨hc43, h28⟩
    ·refine cond_t hf rfl hc43 ?_
     refine wp_seq ?_
     refine region_pl ?_
     refine q_ hf rfl rfl rfl (e_assign hf rfl) fun a hf => ?_
     refine pl_nil ?_
     refine then_n ?_
     refine wp_ret ?_
     refine then_r ?_
     refine blk_r ?_
     obtain rfl := some_inj h28
     try dsimp only at h24
     refine then_r ?_
     obtain rfl := some_inj h24
     obtain rfl := hd25 _ rfl
     try dsimp only at h17
     refine then_r ?_
     refine blk_r ?_
     obtain rfl := some_inj h17
     try dsimp only at h
     refine then_r ?_
     obtain rfl := some_inj h
     exact leave1 hf rfl rfl ⟨rfl, hM.fin⟩
    refine cond_f hf rfl hc43 ?_
    refine wp_skip ?_
    refine then_n ?_
    refine wp_seq ?_
    refine region_pl ?_
    refine q_ hf rfl rfl rfl (e_assign hf rfl) fun a hf => ?_
    refine pl_nil ?_
    refine then_n ?_
    refine wp_block ?_
    obtain ⟨x47, h48, h28⟩ := bind_some h28
    refine wp_loopM h48 (fun s a w => ∃ (n44 : Int), n44 = s ∧ Has 96 a [(0, vP b2 (o3)), (3, vI ((d1.Nodes.length : Int))), (4, vI (x18)), (5, vP b34 (o35 + (x18 : Int).toNat * 3)), (6, vI (n44))] ∧ Mem C w [] [.dat (sliceRep intRep) e29.Next [vL A38 e29.Next c39], .lit b34 (o35 + (x18 : Int).toNat * 3) [.bool (e29.Final), vS (e29.Letters), vL A38 (e29.Next) c39], .dat (sliceRep NodeRep) d1.Nodes [vL A6 d1.Nodes c7], .lit b2 (o3) [vL A6 (d1.Nodes) c7], .dat (ptrRep DawgRep) d1 [vP b2 o3]] ∧ R64 n44) ?_ ?_
    ·exact ⟨0, rfl, hf.keep ⟨rfl, rfl, rfl, rfl, rfl, trivial⟩, hM.pick [0, 1, 2, 3, 4] rfl, (R64_lit rfl)⟩
    rintro s o49 a w46 ⟨n44, rfl, hf, hM, hv45⟩ h50 hd51
    replace h50 : m_spec_l06Shape_l2 e29 d1 n44 = some o49 := h50
    unfold m_spec_l06Shape_l2 at h50
    iterate 2 refine wp_seq ?_
    refine region_pl ?_
    iterate 2 refine q_ hf rfl rfl rfl (e_move hf rfl) fun a hf => ?_
    refine q_ hf rfl rfl rfl (e_nil hf rfl) fun a hf => ?_
    refine q_ hf rfl rfl rfl (e_field hf rfl Tryz.underlying79 rfl Tryz.sizeOf77 (o' := (o35 + (x18 : Int).toNat * 3) + 2) rfl) fun a hf => ?_
    refine q_ hf rfl rfl rfl (e_load1 hf rfl Tryz.isAgg77 (hM.litCell (k := 1) (j := 2) rfl rfl rfl)) fun a hf => ?_
    have hl52 := slice_len (hM.dat (k := 0) rfl)
    refine q_ hf rfl rfl rfl (e_lenL hf (x := e29.Next) rfl Tryz.underlying77) fun a hf => ?_
    refine q_ hf rfl rfl rfl (e_lt hf (x := n44) (y := (e29.Next.length : Int)) rfl rfl) fun a hf => ?_
    refine pl_nil ?_
    refine then_n ?_
    rcases cond_some h50 with ⟨hc53, h50⟩ | ⟨hc53, h50⟩
    ·refine cond_t hf rfl hc53 ?_
     refine wp_skip ?_
     refine then_n ?_
     refine wp_seq ?_
     refine wp_block ?_
     obtain ⟨x56, h57, h50⟩ := bind_some h50
     refine seq_join (fun a w => ∃ (t54 : Bool), t54 = x56 ∧ Has 96 a [(0, vP b2 (o3)), (3, vI ((d1.Nodes.length : Int))), (4, vI (x18)), (5, vP b34 (o35 + (x18 : Int).toNat * 3)), (6, vI (n44)), (95, .bool (t54))] ∧ Mem C w [] [.dat (sliceRep intRep) e29.Next [vL A38 e29.Next c39], .lit b34 (o35 + (x18 : Int).toNat * 3) [.bool (e29.Final), vS (e29.Letters), vL A38 (e29.Next) c39], .dat (sliceRep NodeRep) d1.Nodes [vL A6 d1.Nodes c7], .lit b2 (o3) [vL A6 (d1.Nodes) c7], .dat (ptrRep DawgRep) d1 [vP b2 o3]]) ?_ ?_
     ·obtain ⟨w58, hw⟩ : ∃ x, x = w46.drew := ⟨_, rfl⟩
      refine region_pi (.q 0 (.q 1 (.q 2 (.q 3 (.q 4 (.q 5 (.q 6 (.q 7 (.q 8 (.l 9 (.q 10 (.q 11 (.q 12 (.q 13 (.q 14 (.q 15 (.q 16 (.q 17 (.q 18 (.q 19 (.q 20 (.q 21 (.q 22 (.q 23 (.q 24 (.q 25 (.l 26 (.q 27 (.q 28 (.q 29 (.q 30 (.q 31 (.q 32 (.q 33 (.q 34 (.q 35 (.q 36 (.q 37 (.q 38 (.q 39 (.q 40 (.q 41 (.q 42 (.q 43 (.q 44 (.q 45 (.q 46 (.q 47 (.q 48 (.q 49 (.nil))))))))))))))))))))))))))))))))))))))))))))))))))) (Ext w58) rfl (by kernel_rfl) ?_
      have hM := hM.drew
      rw [← hw] at hM ⊢
      clear hw
      refine pi_q hf rfl rfl rfl rfl (Ext.refl _) (e_move hf rfl) fun a hf => ?_
      refine pi_q hf rfl rfl rfl rfl (Ext.refl _) (e_nil hf rfl) fun a hf => ?_
      refine pi_q hf rfl rfl rfl rfl (Ext.refl _) (e_field hf rfl Tryz.underlying79 rfl Tryz.sizeOf77 (o' := (o35 + (x18 : Int).toNat * 3) + 2) rfl) fun a hf => ?_
      refine pi_q hf rfl rfl rfl rfl (Ext.refl _) (e_load1 hf rfl Tryz.isAgg77 (hM.litCell (k := 1) (j := 2) rfl rfl rfl)) fun a hf => ?_
      refine pi_q hf rfl rfl rfl rfl (Ext.refl _) (e_move hf rfl) fun a hf => ?_
      obtain ⟨e59, hz60, h57⟩ := bind_some h57
      obtain ⟨b64, o65, _, hA66, h61, h62, hr63, hM⟩ := hM.elem (hM.dat (k := 0) rfl) (n := 1) rfl hz60
      obtain ⟨rfl, hv67⟩ := hr63
      refine pi_q hf rfl rfl rfl rfl (Ext.refl _) (e_indexAddr (A := A38) (b := b64) (o := o65) (xs := e29.Next) (i := n44) hf hA66 rfl rfl Tryz.underlying77 Tryz.sizeOf2 h61 h62) fun a hf => ?_
      refine pi_q hf rfl rfl rfl rfl (Ext.refl _) (e_load1 hf rfl Tryz.isAgg2 (hM.litCell (k := 0) (j := 0) rfl rfl rfl)) fun a hf => ?_
      refine pi_q hf rfl rfl rfl rfl (Ext.refl _) (e_move hf rfl) fun a hf => ?_
      obtain ⟨z68, hz69, h57⟩ := bind_some h57
      refine pi_q hf rfl rfl rfl rfl (Ext.refl _) (e_sub hf rfl rfl hz69) fun a hf => ?_
      refine pi_one ?_
      obtain ⟨y70, hz71, h57⟩ := bind_some h57
      refine pi_l hf rfl rfl rfl rfl (w_call hf Tryz.call80 rfl (r_spec_l00In ⟨_, Sh C _ _, none_, hM.sh_lt, none_not, C.G, hM.g_lt, g_none, hM.tabs⟩ e59 hv67 0 (R64_lit rfl) z68 (chk_R hz69) _ hz71) ?_)
      rintro _ w72 ⟨rfl, hM2⟩
      obtain ⟨hM, hx73, hup74⟩ := hM.back hM2
      dsimp only [List.cons_append, List.nil_append] at hM hup74
      clear hM2
      refine ⟨_, rfl, Ext w72, fun _ h => Ext.trans hx73 h, Ext.refl _, fun a hf => ?_⟩
      refine pi_q hf rfl rfl rfl rfl (Ext.refl _) (e_not hf rfl) fun a hf => ?_
      refine pi_q hf rfl rfl rfl rfl (Ext.refl _) (e_move hf rfl) fun a hf => ?_
      rcases cond_some h57 with ⟨hc75, h57⟩ | ⟨hc75, h57⟩
      ·iterate 8 refine pi_gs hf rfl (wanted_f hf rfl rfl rfl rfl hc75) rfl rfl (Ext.refl _) fun a hf => ?_
       iterate 6 refine pi_gs hf rfl (wanted_u hf rfl rfl rfl rfl) rfl rfl (Ext.refl _) fun a hf => ?_
       refine pi_one ?_
       refine pi_ls hf rfl (wanted_u hf rfl rfl rfl rfl) rfl rfl (Ext.refl _) fun a hf => ?_
       refine pi_gs hf rfl (wanted_u hf rfl rfl rfl rfl) rfl rfl (Ext.refl _) fun a hf => ?_
       refine pi_gs hf rfl (wanted_f hf rfl rfl rfl rfl hc75) rfl rfl (Ext.refl _) fun a hf => ?_
       refine pi_q hf rfl rfl rfl rfl (Ext.refl _) (e_pick_t hf rfl hc75 rfl) fun a hf => ?_
       refine pi_q hf rfl rfl rfl rfl (Ext.refl _) (e_move hf rfl) fun a hf => ?_
       iterate 3 refine pi_gs hf rfl (wanted_f hf rfl rfl rfl rfl rfl) rfl rfl (Ext.refl _) fun a hf => ?_
       iterate 14 refine pi_gs hf rfl (wanted_u hf rfl rfl rfl rfl) rfl rfl (Ext.refl _) fun a hf => ?_
       refine pi_gs hf rfl (wanted_f hf rfl rfl rfl rfl rfl) rfl rfl (Ext.refl _) fun a hf => ?_
       refine pi_q hf rfl rfl rfl rfl (Ext.refl _) (e_pick_t hf rfl rfl rfl) fun a hf => ?_
       refine pi_nil ?_
       obtain rfl := some_inj h57
       refine then_n ?_
       exact ⟨true, rfl, hf.keep ⟨rfl, rfl, rfl, rfl, rfl, rfl, trivial⟩, hM.pick [1, 2, 3, 4, 5] rfl⟩
      refine pi_gq hf rfl (wanted_t hf rfl rfl rfl rfl hc75) rfl rfl (Ext.refl _) (e_move hf rfl) fun a hf => ?_
      refine pi_gq hf rfl (wanted_t hf rfl rfl rfl rfl hc75) rfl rfl (Ext.refl _) (e_nil hf rfl) fun a hf => ?_
      refine pi_gq hf rfl (wanted_t hf rfl rfl rfl rfl hc75) rfl rfl (Ext.refl _) (e_field hf rfl Tryz.underlying79 rfl Tryz.sizeOf9 (o' := (o35 + (x18 : Int).toNat * 3) + 1) rfl) fun a hf => ?_
      refine pi_gq hf rfl (wanted_t hf rfl rfl rfl rfl hc75) rfl rfl (Ext.refl _) (e_load1 hf rfl Tryz.isAgg9 (hM.litCell (k := 2) (j := 1) rfl rfl rfl)) fun a hf => ?_
      refine pi_gq hf rfl (wanted_t hf rfl rfl rfl rfl hc75) rfl rfl (Ext.refl _) (e_move hf rfl) fun a hf => ?_
      obtain ⟨c77, hz78, h57⟩ := bind_some h57
      refine pi_gq hf rfl (wanted_t hf rfl rfl rfl rfl hc75) rfl rfl (Ext.refl _) (e_indexS hf (x := e29.Letters) rfl rfl Tryz.underlying9 hz78) fun a hf => ?_
      refine pi_gq hf rfl (wanted_t hf rfl rfl rfl rfl hc75) rfl rfl (Ext.refl _) (e_neB hf (x := c77) (y := 62) rfl rfl) fun a hf => ?_
      refine pi_gq hf rfl (wanted_t hf rfl rfl rfl rfl hc75) rfl rfl (Ext.refl _) (e_move hf rfl) fun a hf => ?_
      rcases cond_some h57 with ⟨hc79, h57⟩ | ⟨hc79, h57⟩
      ·refine pi_gq hf rfl (wanted_t hf rfl rfl rfl rfl hc79) rfl rfl (Ext.refl _) (e_move hf rfl) fun a hf => ?_
       refine pi_gq hf rfl (wanted_t hf rfl rfl rfl rfl hc79) rfl rfl (Ext.refl _) (e_nil hf rfl) fun a hf => ?_
       refine pi_gq hf rfl (wanted_t hf rfl rfl rfl rfl hc79) rfl rfl (Ext.refl _) (e_field hf rfl Tryz.underlying79 rfl Tryz.sizeOf9 (o' := (o35 + (x18 : Int).toNat * 3) + 1) rfl) fun a hf => ?_
       refine pi_gq hf rfl (wanted_t hf rfl rfl rfl rfl hc79) rfl rfl (Ext.refl _) (e_load1 hf rfl Tryz.isAgg9 (hM.litCell (k := 2) (j := 1) rfl rfl rfl)) fun a hf => ?_
       refine pi_gq hf rfl (wanted_t hf rfl rfl rfl rfl hc79) rfl rfl (Ext.refl _) (e_move hf rfl) fun a hf => ?_
       obtain ⟨c80, hz81, h57⟩ := bind_some h57
       refine pi_gq hf rfl (wanted_t hf rfl rfl rfl rfl hc79) rfl rfl (Ext.refl _) (e_indexS hf (x := e29.Letters) rfl rfl Tryz.underlying9 hz81) fun a hf => ?_
       refine pi_one ?_
       obtain ⟨y82, hz83, h57⟩ := bind_some h57
       refine pi_gl hf rfl (wanted_t hf rfl rfl rfl rfl hc79) rfl rfl (w_call hf Tryz.call81 rfl (r_spec_l01Small ⟨_, Sh C _ _, none_, hM.sh_lt, none_not, C.G, hM.g_lt, g_none, hM.tabs⟩ c80 _ hz83) ?_)
       rintro _ w84 ⟨rfl, hM2⟩
       obtain ⟨hM, hx85, hup86⟩ := hM.back hM2
       dsimp only [List.cons_append, List.nil_append] at hM hup86
       clear hM2
       refine ⟨_, rfl, Ext w84, fun _ h => Ext.trans hx85 h, Ext.refl _, fun a hf => ?_⟩
       refine pi_gq hf rfl (wanted_t hf rfl rfl rfl rfl hc79) rfl rfl (Ext.refl _) (e_not hf rfl) fun a hf => ?_
       refine pi_gq hf rfl (wanted_t hf rfl rfl rfl rfl hc75) rfl rfl (Ext.refl _) (e_pick_t hf rfl hc79 rfl) fun a hf => ?_
       refine pi_q hf rfl rfl rfl rfl (Ext.refl _) (e_pick_f hf rfl hc75 rfl) fun a hf => ?_
       refine pi_q hf rfl rfl rfl rfl (Ext.refl _) (e_move hf rfl) fun a hf => ?_
       rcases cond_some h57 with ⟨hc87, h57⟩ | ⟨hc87, h57⟩
       ·iterate 3 refine pi_gs hf rfl (wanted_f hf rfl rfl rfl rfl hc87) rfl rfl (Ext.refl _) fun a hf => ?_
        iterate 14 refine pi_gs hf rfl (wanted_u hf rfl rfl rfl rfl) rfl rfl (Ext.refl _) fun a hf => ?_
        refine pi_gs hf rfl (wanted_f hf rfl rfl rfl rfl hc87) rfl rfl (Ext.refl _) fun a hf => ?_
        refine pi_q hf rfl rfl rfl rfl (Ext.refl _) (e_pick_t hf rfl hc87 rfl) fun a hf => ?_
        refine pi_nil ?_
        obtain rfl := some_inj h57
        refine then_n ?_
        exact ⟨true, rfl, hf.keep ⟨rfl, rfl, rfl, rfl, rfl, rfl, trivial⟩, hM.pick [1, 2, 3, 4, 5] rfl⟩
       refine pi_gq hf rfl (wanted_t hf rfl rfl rfl rfl hc87) rfl rfl (Ext.refl _) (e_move hf rfl) fun a hf => ?_
       refine pi_gq hf rfl (wanted_t hf rfl rfl rfl rfl hc87) rfl rfl (Ext.refl _) (e_gt hf (x := n44) (y := 0) rfl rfl) fun a hf => ?_
       refine pi_gq hf rfl (wanted_t hf rfl rfl rfl rfl hc87) rfl rfl (Ext.refl _) (e_move hf rfl) fun a hf => ?_
       rcases cond_some h57 with ⟨hc89, h57⟩ | ⟨hc89, h57⟩
       ·refine pi_gq hf rfl (wanted_t hf rfl rfl rfl rfl hc89) rfl rfl (Ext.refl _) (e_move hf rfl) fun a hf => ?_
        refine pi_gq hf rfl (wanted_t hf rfl rfl rfl rfl hc89) rfl rfl (Ext.refl _) (e_nil hf rfl) fun a hf => ?_
        refine pi_gq hf rfl (wanted_t hf rfl rfl rfl rfl hc89) rfl rfl (Ext.refl _) (e_field hf rfl Tryz.underlying79 rfl Tryz.sizeOf9 (o' := (o35 + (x18 : Int).toNat * 3) + 1) rfl) fun a hf => ?_
        refine pi_gq hf rfl (wanted_t hf rfl rfl rfl rfl hc89) rfl rfl (Ext.refl _) (e_load1 hf rfl Tryz.isAgg9 (hM.litCell (k := 2) (j := 1) rfl rfl rfl)) fun a hf => ?_
        refine pi_gq hf rfl (wanted_t hf rfl rfl rfl rfl hc89) rfl rfl (Ext.refl _) (e_move hf rfl) fun a hf => ?_
        obtain ⟨c90, hz91, h57⟩ := bind_some h57
        refine pi_gq hf rfl (wanted_t hf rfl rfl rfl rfl hc89) rfl rfl (Ext.refl _) (e_indexS hf (x := e29.Letters) rfl rfl Tryz.underlying9 hz91) fun a hf => ?_
        refine pi_gq hf rfl (wanted_t hf rfl rfl rfl rfl hc89) rfl rfl (Ext.refl _) (e_move hf rfl) fun a hf => ?_
        refine pi_gq hf rfl (wanted_t hf rfl rfl rfl rfl hc89) rfl rfl (Ext.refl _) (e_nil hf rfl) fun a hf => ?_
        refine pi_gq hf rfl (wanted_t hf rfl rfl rfl rfl hc89) rfl rfl (Ext.refl _) (e_field hf rfl Tryz.underlying79 rfl Tryz.sizeOf9 (o' := (o35 + (x18 : Int).toNat * 3) + 1) rfl) fun a hf => ?_
        refine pi_gq hf rfl (wanted_t hf rfl rfl rfl rfl hc89) rfl rfl (Ext.refl _) (e_load1 hf rfl Tryz.isAgg9 (hM.litCell (k := 2) (j := 1) rfl rfl rfl)) fun a hf => ?_
        refine pi_gq hf rfl (wanted_t hf rfl rfl rfl rfl hc89) rfl rfl (Ext.refl _) (e_move hf rfl) fun a hf => ?_
        obtain ⟨z92, hz93, h57⟩ := bind_some h57
        refine pi_gq hf rfl (wanted_t hf rfl rfl rfl rfl hc89) rfl rfl (Ext.refl _) (e_sub hf rfl rfl hz93) fun a hf => ?_
        obtain ⟨c94, hz95, h57⟩ := bind_some h57
        refine pi_gq hf rfl (wanted_t hf rfl rfl rfl rfl hc89) rfl rfl (Ext.refl _) (e_indexS hf (x := e29.Letters) rfl rfl Tryz.underlying9 hz95) fun a hf => ?_
        refine pi_gq hf rfl (wanted_t hf rfl rfl rfl rfl hc89) rfl rfl (Ext.refl _) (e_leB hf (x := c90) (y := c94) rfl rfl) fun a hf => ?_
        refine pi_gq hf rfl (wanted_t hf rfl rfl rfl rfl hc87) rfl rfl (Ext.refl _) (e_pick_t hf rfl hc89 rfl) fun a hf => ?_
        refine pi_q hf rfl rfl rfl rfl (Ext.refl _) (e_pick_f hf rfl hc87 rfl) fun a hf => ?_
        refine pi_nil ?_
        obtain rfl := some_inj h57
        refine then_n ?_
        exact ⟨(decide (c90 ≤ c94)), rfl, hf.keep ⟨rfl, rfl, rfl, rfl, rfl, rfl, trivial⟩, hM.pick [1, 2, 3, 4, 5] rfl⟩
       iterate 14 refine pi_gs hf rfl (wanted_f hf rfl rfl rfl rfl hc89) rfl rfl (Ext.refl _) fun a hf => ?_
       refine pi_gq hf rfl (wanted_t hf rfl rfl rfl rfl hc87) rfl rfl (Ext.refl _) (e_pick_f hf rfl hc89 rfl) fun a hf => ?_
       refine pi_q hf rfl rfl rfl rfl (Ext.refl _) (e_pick_f hf rfl hc87 rfl) fun a hf => ?_
       refine pi_nil ?_
       obtain rfl := some_inj h57
       refine then_n ?_
       exact ⟨false, rfl, hf.keep ⟨rfl, rfl, rfl, rfl, rfl, rfl, trivial⟩, hM.pick [1, 2, 3, 4, 5] rfl⟩
      iterate 6 refine pi_gs hf rfl (wanted_f hf rfl rfl rfl rfl hc79) rfl rfl (Ext.refl _) fun a hf => ?_
      refine pi_one ?_
      refine pi_ls hf rfl (wanted_f hf rfl rfl rfl rfl hc79) rfl rfl (Ext.refl _) fun a hf => ?_
      refine pi_gs hf rfl (wanted_f hf rfl rfl rfl rfl hc79) rfl rfl (Ext.refl _) fun a hf => ?_
      refine pi_gq hf rfl (wanted_t hf rfl rfl rfl rfl hc75) rfl rfl (Ext.refl _) (e_pick_f hf rfl hc79 rfl) fun a hf => ?_
      refine pi_q hf rfl rfl rfl rfl (Ext.refl _) (e_pick_f hf rfl hc75 rfl) fun a hf => ?_
      refine pi_q hf rfl rfl rfl rfl (Ext.refl _) (e_move hf rfl) fun a hf => ?_
      refine pi_gq hf rfl (wanted_t hf rfl rfl rfl rfl rfl) rfl rfl (Ext.refl _) (e_move hf rfl) fun a hf => ?_
      refine pi_gq hf rfl (wanted_t hf rfl rfl rfl rfl rfl) rfl rfl (Ext.refl _) (e_gt hf (x := n44) (y := 0) rfl rfl) fun a hf => ?_
      refine pi_gq hf rfl (wanted_t hf rfl rfl rfl rfl rfl) rfl rfl (Ext.refl _) (e_move hf rfl) fun a hf => ?_
      rcases cond_some h57 with ⟨hc98, h57⟩ | ⟨hc98, h57⟩
      ·refine pi_gq hf rfl (wanted_t hf rfl rfl rfl rfl hc98) rfl rfl (Ext.refl _) (e_move hf rfl) fun a hf => ?_
       refine pi_gq hf rfl (wanted_t hf rfl rfl rfl rfl hc98) rfl rfl (Ext.refl _) (e_nil hf rfl) fun a hf => ?_
       refine pi_gq hf rfl (wanted_t hf rfl rfl rfl rfl hc98) rfl rfl (Ext.refl _) (e_field hf rfl Tryz.underlying79 rfl Tryz.sizeOf9 (o' := (o35 + (x18 : Int).toNat * 3) + 1) rfl) fun a hf => ?_
       refine pi_gq hf rfl (wanted_t hf rfl rfl rfl rfl hc98) rfl rfl (Ext.refl _) (e_load1 hf rfl Tryz.isAgg9 (hM.litCell (k := 2) (j := 1) rfl rfl rfl)) fun a hf => ?_
       refine pi_gq hf rfl (wanted_t hf rfl rfl rfl rfl hc98) rfl rfl (Ext.refl _) (e_move hf rfl) fun a hf => ?_
       obtain ⟨c99, hz100, h57⟩ := bind_some h57
       refine pi_gq hf rfl (wanted_t hf rfl rfl rfl rfl hc98) rfl rfl (Ext.refl _) (e_indexS hf (x := e29.Letters) rfl rfl Tryz.underlying9 hz100) fun a hf => ?_
       refine pi_gq hf rfl (wanted_t hf rfl rfl rfl rfl hc98) rfl rfl (Ext.refl _) (e_move hf rfl) fun a hf => ?_
       refine pi_gq hf rfl (wanted_t hf rfl rfl rfl rfl hc98) rfl rfl (Ext.refl _) (e_nil hf rfl) fun a hf => ?_
       refine pi_gq hf rfl (wanted_t hf rfl rfl rfl rfl hc98) rfl rfl (Ext.refl _) (e_field hf rfl Tryz.underlying79 rfl Tryz.sizeOf9 (o' := (o35 + (x18 : Int).toNat * 3) + 1) rfl) fun a hf => ?_
       refine pi_gq hf rfl (wanted_t hf rfl rfl rfl rfl hc98) rfl rfl (Ext.refl _) (e_load1 hf rfl Tryz.isAgg9 (hM.litCell (k := 2) (j := 1) rfl rfl rfl)) fun a hf => ?_
       refine pi_gq hf rfl (wanted_t hf rfl rfl rfl rfl hc98) rfl rfl (Ext.refl _) (e_move hf rfl) fun a hf => ?_
       obtain ⟨z101, hz102, h57⟩ := bind_some h57
       refine pi_gq hf rfl (wanted_t hf rfl rfl rfl rfl hc98) rfl rfl (Ext.refl _) (e_sub hf rfl rfl hz102) fun a hf => ?_
       obtain ⟨c103, hz104, h57⟩ := bind_some h57
       refine pi_gq hf rfl (wanted_t hf rfl rfl rfl rfl hc98) rfl rfl (Ext.refl _) (e_indexS hf (x := e29.Letters) rfl rfl Tryz.underlying9 hz104) fun a hf => ?_
       refine pi_gq hf rfl (wanted_t hf rfl rfl rfl rfl hc98) rfl rfl (Ext.refl _) (e_leB hf (x := c99) (y := c103) rfl rfl) fun a hf => ?_
       refine pi_gq hf rfl (wanted_t hf rfl rfl rfl rfl rfl) rfl rfl (Ext.refl _) (e_pick_t hf rfl hc98 rfl) fun a hf => ?_
       refine pi_q hf rfl rfl rfl rfl (Ext.refl _) (e_pick_f hf rfl rfl rfl) fun a hf => ?_
       refine pi_nil ?_
       obtain rfl := some_inj h57
       refine then_n ?_
       exact ⟨(decide (c99 ≤ c103)), rfl, hf.keep ⟨rfl, rfl, rfl, rfl, rfl, rfl, trivial⟩, hM.pick [1, 2, 3, 4, 5] rfl⟩
      iterate 14 refine pi_gs hf rfl (wanted_f hf rfl rfl rfl rfl hc98) rfl rfl (Ext.refl _) fun a hf => ?_
      refine pi_gq hf rfl (wanted_t hf rfl rfl rfl rfl rfl) rfl rfl (Ext.refl _) (e_pick_f hf rfl hc98 rfl) fun a hf => ?_
      refine pi_q hf rfl rfl rfl rfl (Ext.refl _) (e_pick_f hf rfl rfl rfl) fun a hf => ?_
      refine pi_nil ?_
      obtain rfl := some_inj h57
      refine then_n ?_
      exact ⟨false, rfl, hf.keep ⟨rfl, rfl, rfl, rfl, rfl, rfl, trivial⟩, hM.pick [1, 2, 3, 4, 5] rfl⟩
     rintro a w107 ⟨t54, rfl, hf, hM⟩
     try dsimp only at h50
     rcases cond_some h50 with ⟨hc108, h50⟩ | ⟨hc108, h50⟩
     ·refine cond_t hf rfl hc108 ?_
      refine wp_seq ?_
      refine region_pl ?_
      refine q_ hf rfl rfl rfl (e_assign hf rfl) fun a hf => ?_
      refine pl_nil ?_
      refine then_n ?_
      refine wp_ret ?_
      refine blk_r ?_
      refine then_r ?_
      obtain rfl := some_inj h50
      obtain rfl := hd51 _ rfl
      try dsimp only at h28
      refine then_r ?_
      iterate 2 refine blk_r ?_
      obtain rfl := some_inj h28
      try dsimp only at h24
      refine then_r ?_
      obtain rfl := some_inj h24
      obtain rfl := hd25 _ rfl
      try dsimp only at h17
      refine then_r ?_
      refine blk_r ?_
      obtain rfl := some_inj h17
      try dsimp only at h
      refine then_r ?_
      obtain rfl := some_inj h
      exact leave1 hf rfl rfl ⟨rfl, hM.fin⟩
     refine cond_f hf rfl hc108 ?_
     refine wp_skip ?_
     refine blk_n ?_
     refine then_n ?_
     refine region_pl ?_
     refine q_ hf rfl rfl rfl (e_move hf rfl) fun a hf => ?_
     obtain ⟨z109, hz110, h50⟩ := bind_some h50
     refine q_ hf rfl rfl rfl (e_add hf rfl rfl hz110) fun a hf => ?_
     refine q_ hf rfl rfl rfl (e_assign hf rfl) fun a hf => ?_
     refine pl_nil ?_
     obtain rfl := some_inj h50
     refine then_n ⟨_, rfl, ?_⟩
     exact ⟨z109, rfl, hf.keep ⟨rfl, rfl, rfl, rfl, rfl, trivial⟩, hM.pick [0, 1, 2, 3, 4] rfl, (chk_R hz110)⟩
    refine cond_f hf rfl hc53 ?_
    refine wp_exit ?_
    refine then_x ?_
    obtain rfl := some_inj h50
    obtain rfl := hd51 _ rfl
    try dsimp only at h28
    refine then_x ?_
    refine exit_hit ?_
    refine blk_n ?_
    obtain rfl := some_inj h28
    refine then_n ?_
    exact ⟨rfl, hf.keep ⟨rfl, rfl, rfl, trivial⟩, hM.pick [2, 3, 4] rfl⟩
   rintro a w117 ⟨rfl, hf, hM⟩
   try dsimp only at h24
   refine region_pl ?_
   refine q_ hf rfl rfl rfl (e_move hf rfl) fun a hf => ?_
   obtain ⟨z118, hz119, h24⟩ := bind_some h24
   refine q_ hf rfl rfl rfl (e_add hf rfl rfl hz119) fun a hf => ?_
   refine q_ hf rfl rfl rfl (e_assign hf rfl) fun a hf => ?_
   refine pl_nil ?_
   obtain rfl := some_inj h24
   refine then_n ⟨_, rfl, ?_⟩
   exact ⟨z118, rfl, hf.keep ⟨rfl, rfl, rfl, trivial⟩, hM.pick [0, 1, 2] rfl, (chk_R hz119)⟩
  refine cond_f hf rfl hc26 ?_
  refine wp_exit ?_
  refine then_x ?_
  obtain rfl := some_inj h24
  obtain rfl := hd25 _ rfl
  try dsimp only at h17
  refine then_x ?_
  refine exit_hit ?_
  obtain rfl := some_inj h17
  refine then_n ?_
  exact ⟨rfl, hf.keep trivial, hM.pick [0, 1, 2] rfl⟩
 rintro a w127 ⟨rfl, hf, hM⟩
 try dsimp only at h
 refine wp_seq ?_
 refine region_pl ?_
 refine q_ hf rfl rfl rfl (e_assign hf rfl) fun a hf => ?_
 refine pl_nil ?_
 refine then_n ?_
 refine wp_ret ?_
 obtain rfl := some_inj h
 exact leave1 hf rfl rfl ⟨rfl, hM.fin⟩
theorem r_spec_l06Useful (C : Cx) (d1 : Dawg) (b2 : Nat) (o3 : Nat) (hp4 : (ptrRep DawgRep).R C.w0 C.S0 d1 [vP b2 o3]) (r : Bool) (h : m_spec_l06Useful d1 = some r) :
    Calls Tryz.prog 52 #[vP b2 (o3)] C.w0 fun e w => e = .returned (.bool (r)) ∧ Mem C w [] [] := by
 have hM := Mem.begin C [.dat (ptrRep DawgRep) d1 [vP b2 o3]] ⟨hp4, trivial⟩
 refine enter Tryz.func52 rfl Tryz.ntmps52 rfl fun a hf => ?_
 unfold m_spec_l06Useful at h
 refine wp_seq ?_
 refine region_pl ?_
 refine q_ hf rfl rfl rfl (e_assign hf rfl) fun a hf => ?_
 refine pl_nil ?_
 refine then_n ?_
 refine wp_seq ?_
 refine region_pl ?_
 refine q_ hf rfl rfl rfl (e_move hf rfl) fun a hf => ?_
 refine q_ hf rfl rfl rfl (e_nil hf rfl) fun a hf => ?_
 obtain ⟨_, hr5, hM⟩ := hM.deref (hM.dat (k := 0) rfl)
 obtain ⟨A6, c7, rfl, hv8⟩ := DawgRep_open hr5
 have hM := hM.add (y := .dat (sliceRep NodeRep) d1.Nodes [vL A6 d1.Nodes c7]) hv8
 refine q_ hf rfl rfl rfl (e_field hf rfl Tryz.underlying26 rfl Tryz.sizeOf24 (o' := o3 + 0) rfl) fun a hf => ?_
 refine q_ hf rfl rfl rfl (e_load1 hf rfl Tryz.isAgg24 (hM.litCell (k := 1) (j := 0) rfl rfl rfl)) fun a hf => ?_
 have hl9 := slice_len (hM.dat (k := 0) rfl)
 refine q_ hf rfl rfl rfl (e_lenL hf (x := d1.Nodes) rfl Tryz.underlying24) fun a hf => ?_
 refine q_ hf rfl rfl rfl (e_assign hf rfl) fun a hf => ?_
 refine pl_nil ?_
 refine then_n ?_
 refine wp_seq ?_
 refine region_pl ?_
 refine q_ hf rfl rfl rfl (e_move hf rfl) fun a hf => ?_
 obtain ⟨xs10, hz11, h⟩ := bind_some h
 refine pl_l hf rfl rfl rfl (w_make hf hM (K := boolRep) Tryz.underlying81 ei_4 Tryz.zeroValue4 rfl rfl rfl rfl hz11 fun b12 w13 hx14 hM a hf => ?_)
 refine q_ hf rfl rfl rfl (e_assign hf rfl) fun a hf => ?_
 refine pl_nil ?_
 refine then_n ?_
 obtain ⟨x16, h17, h⟩ := bind_some h
 refine seq_join (fun a w => ∃ (xs15 : (List Bool)), xs15 = x16 ∧ Has 88 a [(3, vI ((d1.Nodes.length : Int))), (4, vL (some ⟨b12, 0, none⟩) (xs15) (((d1.Nodes.length : Int) : Int).toNat))] ∧ Mem C w [.row boolRep (some ⟨b12, 0, none⟩) (((d1.Nodes.length : Int) : Int).toNat) 4 xs15 true] [.dat (sliceRep NodeRep) d1.Nodes [vL A6 d1.Nodes c7], .lit b2 (o3) [vL A6 (d1.Nodes) c7], .dat (ptrRep DawgRep) d1 [vP b2 o3]]) ?_ ?_
 ·refine wp_seq ?_
  refine region_pl ?_
  refine q_ hf rfl rfl rfl (e_assign hf rfl) fun a hf => ?_
  refine pl_nil ?_
  refine then_n ?_
  refine wp_block ?_
  obtain ⟨x23, h24, h17⟩ := bind_some h17
  refine wp_loopM h24 (fun s a w => ∃ (xs18 : (List Bool)) (i19 : Int), (xs18, i19) = s ∧ Has 88 a [(0, vP b2 (o3)), (3, vI ((d1.Nodes.length : Int))), (4, vL (some ⟨b12, 0, none⟩) (xs18) (((d1.Nodes.length : Int) : Int).toNat)), (5, vI (i19))] ∧ Mem C w [.row boolRep (some ⟨b12, 0, none⟩) (((d1.Nodes.length : Int) : Int).toNat) 4 xs18 true] [.dat (sliceRep NodeRep) d1.Nodes [vL A6 d1.Nodes c7], .lit b2 (o3) [vL A6 (d1.Nodes) c7], .dat (ptrRep DawgRep) d1 [vP b2 o3]] ∧ R64 i19) ?_ ?_
  ·exact ⟨xs10, 0, rfl, hf.keep ⟨rfl, rfl, rfl, rfl, trivial⟩, hM.pick [0, 1, 2] rfl, (R64_lit rfl)⟩
  rintro s o25 a w21 ⟨xs18, i19, rfl, hf, hM, hv20⟩ h26 hd27
  replace h26 : m_spec_l06Useful_l1 d1 xs18 i19 = some o25 := h26
  unfold m_spec_l06Useful_l1 at h26
  iterate 2 refine wp_seq ?_
  refine region_pl ?_
  refine q_ hf rfl rfl rfl (e_move hf rfl) fun a hf => ?_
  refine q_ hf rfl rfl rfl (e_le hf (x := i19) (y := 13) rfl rfl) fun a hf => ?_
  refine pl_nil ?_
  refine then_n ?_
  rcases cond_some h26 with ⟨hc28, h26⟩ | ⟨hc28, h26⟩
  ·refine cond_t hf rfl hc28 ?_
   refine wp_skip ?_
   refine then_n ?_
   obtain ⟨x30, h31, h26⟩ := bind_some h26
   refine seq_join (fun a w => ∃ (xs29 : (List Bool)), xs29 = x30 ∧ Has 88 a [(0, vP b2 (o3)), (3, vI ((d1.Nodes.length : Int))), (4, vL (some ⟨b12, 0, none⟩) (xs29) (((d1.Nodes.length : Int) : Int).toNat)), (5, vI (i19))] ∧ Mem C w [.row boolRep (some ⟨b12, 0, none⟩) (((d1.Nodes.length : Int) : Int).toNat) 4 xs29 true] [.dat (sliceRep NodeRep) d1.Nodes [vL A6 d1.Nodes c7], .lit b2 (o3) [vL A6 (d1.Nodes) c7], .dat (ptrRep DawgRep) d1 [vP b2 o3]]) ?_ ?_
   ·refine wp_block ?_
    refine wp_seq ?_
    refine region_pl ?_
    refine q_ hf rfl rfl rfl (e_assign hf rfl) fun a hf => ?_
    refine pl_nil ?_
    refine then_n ?_
    refine wp_block ?_
    obtain ⟨x37, h38, h31⟩ := bind_some h31
    refine wp_loopM h38 (fun s a w => ∃ (xs32 : (List Bool)) (k33 : Int), (xs32, k33) = s ∧ Has 88 a [(0, vP b2 (o3)), (3, vI ((d1.Nodes.length : Int))), (4, vL (some ⟨b12, 0, none⟩) (xs32) (((d1.Nodes.length : Int) : Int).toNat)), (5, vI (i19)), (6, vI (k33))] ∧ Mem C w [.row boolRep (some ⟨b12, 0, none⟩) (((d1.Nodes.length : Int) : Int).toNat) 4 xs32 true] [.dat (sliceRep NodeRep) d1.Nodes [vL A6 d1.Nodes c7], .lit b2 (o3) [vL A6 (d1.Nodes) c7], .dat (ptrRep DawgRep) d1 [vP b2 o3]] ∧ R64 k33) ?_ ?_
    ·exact ⟨xs18, 0, rfl, hf.keep ⟨rfl, rfl, rfl, rfl, rfl, trivial⟩, hM.pick [0, 1, 2] rfl, (R64_lit rfl)⟩
    rintro s o39 a w35 ⟨xs32, k33, rfl, hf, hM, hv34⟩ h40 hd41
    replace h40 : m_spec_l06Useful_l2 d1 xs32 k33 = some o39 := h40
    unfold m_spec_l06Useful_l2 at h40
    iterate 2 refine wp_seq ?_
    refine region_pl ?_
    iterate 2 refine q_ hf rfl rfl rfl (e_move hf rfl) fun a hf => ?_
    refine q_ hf rfl rfl rfl (e_lt hf (x := k33) (y := (d1.Nodes.length : Int)) rfl rfl) fun a hf => ?_
    refine pl_nil ?_
    refine then_n ?_
    rcases cond_some h40 with ⟨hc42, h40⟩ | ⟨hc42, h40⟩
    ·refine cond_t hf rfl hc42 ?_
     refine wp_skip ?_
     refine then_n ?_
     obtain ⟨x44, h45, h40⟩ := bind_some h40
     refine seq_join (fun a w => ∃ (xs43 : (List Bool)), xs43 = x44 ∧ Has 88 a [(0, vP b2 (o3)), (3, vI ((d1.Nodes.length : Int))), (4, vL (some ⟨b12, 0, none⟩) (xs43) (((d1.Nodes.length : Int) : Int).toNat)), (5, vI (i19)), (6, vI (k33))] ∧ Mem C w [.row boolRep (some ⟨b12, 0, none⟩) (((d1.Nodes.length : Int) : Int).toNat) 4 xs43 true] [.dat (sliceRep NodeRep) d1.Nodes [vL A6 d1.Nodes c7], .lit b2 (o3) [vL A6 (d1.Nodes) c7], .dat (ptrRep DawgRep) d1 [vP b2 o3]]) ?_ ?_
     ·refine wp_block ?_
      obtain ⟨x47, h48, h45⟩ := bind_some h45
      refine seq_join (fun a w => ∃ (xs46 : (List Bool)), xs46 = x47 ∧ Has 88 a [(0, vP b2 (o3)), (3, vI ((d1.Nodes.length : Int))), (4, vL (some ⟨b12, 0, none⟩) (xs46) (((d1.Nodes.length : Int) : Int).toNat)), (5, vI (i19)), (6, vI (k33))] ∧ Mem C w [.row boolRep (some ⟨b12, 0, none⟩) (((d1.Nodes.length : Int) : Int).toNat) 4 xs46 true] [.dat (sliceRep NodeRep) d1.Nodes [vL A6 d1.Nodes c7], .lit b2 (o3) [vL A6 (d1.Nodes) c7], .dat (ptrRep DawgRep) d1 [vP b2 o3]]) ?_ ?_
      ·refine region_pl ?_
       iterate 4 refine q_ hf rfl rfl rfl (e_move hf rfl) fun a hf => ?_
       obtain ⟨e49, hz50, h48⟩ := bind_some h48
       obtain ⟨_, h51, h52, hr53, hcell54⟩ := hM.rowElem' (k := 0) rfl (n := 1) rfl hz50
       obtain rfl : _ = _ := hr53
       refine q_ hf rfl rfl rfl (e_indexAddr (A := (some ⟨b12, 0, none⟩)) (b := b12) (o := 0) (xs := xs32) (i := k33) hf rfl rfl rfl Tryz.underlying81 Tryz.sizeOf4 h51 h52) fun a hf => ?_
       refine q_ hf rfl rfl rfl (e_load1 hf rfl Tryz.isAgg4 (hcell54 0 _ rfl)) fun a hf => ?_
       refine q_ hf rfl rfl rfl (e_move hf rfl) fun a hf => ?_
       rcases cond_some h48 with ⟨hc55, h48⟩ | ⟨hc55, h48⟩
       ·iterate 8 refine pl_gs (wanted_f hf rfl rfl rfl rfl hc55) hf rfl rfl fun a hf => ?_
        refine q_ hf rfl rfl rfl (e_pick_t hf rfl hc55 rfl) fun a hf => ?_
        obtain ⟨e56, hz57, h48⟩ := bind_some h48
        obtain ⟨_, h58, h59, hr60, hcell61⟩ := hM.rowElem' (k := 0) rfl (n := 1) rfl hz57
        obtain rfl : _ = _ := hr60
        refine q_ hf rfl rfl rfl (e_indexAddr (A := (some ⟨b12, 0, none⟩)) (b := b12) (o := 0) (xs := xs32) (i := k33) hf rfl rfl rfl Tryz.underlying81 Tryz.sizeOf4 h58 h59) fun a hf => ?_
        obtain ⟨xs63, hz64, h48⟩ := bind_some h48
        refine pl_0 hf rfl rfl (w_storeElem hf hM (x := true) (row := [.bool (true)]) (i := k33) rfl rfl rfl rfl (k := 0) rfl rfl Tryz.sizeOf4 rfl hz64 fun w62 hM => ?_)
        dsimp only [List.set] at hM
        have hf := hf.alter (d := 4) (v := vL (some ⟨b12, 0, none⟩) (xs63) (((d1.Nodes.length : Int) : Int).toNat)) rfl (vL_len (setL_len hz64))
        have hf := hf.alter (d := 25) (v := vL (some ⟨b12, 0, none⟩) (xs63) (((d1.Nodes.length : Int) : Int).toNat)) rfl (vL_len (setL_len hz64))
        have hf := hf.alter (d := 27) (v := vL (some ⟨b12, 0, none⟩) (xs63) (((d1.Nodes.length : Int) : Int).toNat)) rfl (vL_len (setL_len hz64))
        refine pl_nil ?_
        obtain rfl := some_inj h48
        refine then_n ?_
        exact ⟨xs63, rfl, hf.keep ⟨rfl, rfl, rfl, rfl, rfl, trivial⟩, hM.pick [0, 1, 2] rfl⟩
       refine gq (wanted_t hf rfl rfl rfl rfl hc55) hf rfl rfl (e_move hf rfl) fun a hf => ?_
       refine gq (wanted_t hf rfl rfl rfl rfl hc55) hf rfl rfl (e_nil hf rfl) fun a hf => ?_
       refine gq (wanted_t hf rfl rfl rfl rfl hc55) hf rfl rfl (e_field hf rfl Tryz.underlying26 rfl Tryz.sizeOf24 (o' := o3 + 0) rfl) fun a hf => ?_
       refine gq (wanted_t hf rfl rfl rfl rfl hc55) hf rfl rfl (e_load1 hf rfl Tryz.isAgg24 (hM.litCell (k := 1) (j := 0) rfl rfl rfl)) fun a hf => ?_
       refine gq (wanted_t hf rfl rfl rfl rfl hc55) hf rfl rfl (e_move hf rfl) fun a hf => ?_
       obtain ⟨e68, hz69, h48⟩ := bind_some h48
       obtain ⟨b73, o74, _, hA75, h70, h71, hr72, hM⟩ := hM.elem (hM.dat (k := 0) rfl) (n := 3) rfl hz69
       obtain ⟨A77, c78, rfl, hv76, hv79⟩ := NodeRep_open hr72
       have hM := hM.add (y := .dat (sliceRep intRep) e68.Next [vL A77 e68.Next c78]) hv79
       refine gq (wanted_t hf rfl rfl rfl rfl hc55) hf rfl rfl (e_indexAddr (A := A6) (b := b73) (o := o74) (xs := d1.Nodes) (i := k33) hf hA75 rfl rfl Tryz.underlying24 Tryz.sizeOf79 h70 h71) fun a hf => ?_
       refine gq (wanted_t hf rfl rfl rfl rfl hc55) hf rfl rfl (e_field hf rfl Tryz.underlying79 rfl Tryz.sizeOf4 (o' := (o74 + (k33 : Int).toNat * 3) + 0) rfl) fun a hf => ?_
       refine gq (wanted_t hf rfl rfl rfl rfl hc55) hf rfl rfl (e_load1 hf rfl Tryz.isAgg4 (hM.litCell (k := 1) (j := 0) rfl rfl rfl)) fun a hf => ?_
       refine q_ hf rfl rfl rfl (e_pick_f hf rfl hc55 rfl) fun a hf => ?_
       obtain ⟨e80, hz81, h48⟩ := bind_some h48
       obtain ⟨_, h82, h83, hr84, hcell85⟩ := hM.rowElem' (k := 0) rfl (n := 1) rfl hz81
       obtain rfl : _ = _ := hr84
       refine q_ hf rfl rfl rfl (e_indexAddr (A := (some ⟨b12, 0, none⟩)) (b := b12) (o := 0) (xs := xs32) (i := k33) hf rfl rfl rfl Tryz.underlying81 Tryz.sizeOf4 h82 h83) fun a hf => ?_
       obtain ⟨xs87, hz88, h48⟩ := bind_some h48
       refine pl_0 hf rfl rfl (w_storeElem hf hM (x := e68.Final) (row := [.bool (e68.Final)]) (i := k33) rfl rfl rfl rfl (k := 0) rfl rfl Tryz.sizeOf4 rfl hz88 fun w86 hM => ?_)
       dsimp only [List.set] at hM
       have hf := hf.alter (d := 4) (v := vL (some ⟨b12, 0, none⟩) (xs87) (((d1.Nodes.length : Int) : Int).toNat)) rfl (vL_len (setL_len hz88))
       have hf := hf.alter (d := 25) (v := vL (some ⟨b12, 0, none⟩) (xs87) (((d1.Nodes.length : Int) : Int).toNat)) rfl (vL_len (setL_len hz88))
       have hf := hf.alter (d := 27) (v := vL (some ⟨b12, 0, none⟩) (xs87) (((d1.Nodes.length : Int) : Int).toNat)) rfl (vL_len (setL_len hz88))
       refine pl_nil ?_
       obtain rfl := some_inj h48
       refine then_n ?_
       exact ⟨xs87, rfl, hf.keep ⟨rfl, rfl, rfl, rfl, rfl, trivial⟩, hM.pick [2, 3, 4] rfl⟩
      rintro a w92 ⟨xs46, rfl, hf, hM⟩
      try dsimp only at h45
      refine wp_seq ?_
      refine region_pl ?_
      refine q_ hf rfl rfl rfl (e_assign hf rfl) fun a hf => ?_
      refine pl_nil ?_
      refine then_n ?_
      refine wp_block ?_
      obtain ⟨x98, h99, h45⟩ := bind_some h45
      refine wp_loopM h99 (fun s a w => ∃ (xs93 : (List Bool)) (i94 : Int), (xs93, i94) = s ∧ Has 88 a [(0, vP b2 (o3)), (3, vI ((d1.Nodes.length : Int))), (4, vL (some ⟨b12, 0, none⟩) (xs93) (((d1.Nodes.length : Int) : Int).toNat)), (5, vI (i19)), (6, vI (k33)), (7, vI (i94))] ∧ Mem C w [.row boolRep (some ⟨b12, 0, none⟩) (((d1.Nodes.length : Int) : Int).toNat) 4 xs93 true] [.dat (sliceRep NodeRep) d1.Nodes [vL A6 d1.Nodes c7], .lit b2 (o3) [vL A6 (d1.Nodes) c7], .dat (ptrRep DawgRep) d1 [vP b2 o3]] ∧ R64 i94) ?_ ?_
      ·exact ⟨xs46, 0, rfl, hf.keep ⟨rfl, rfl, rfl, rfl, rfl, rfl, trivial⟩, hM.pick [0, 1, 2] rfl, (R64_lit rfl)⟩
      rintro s o100 a w96 ⟨xs93, i94, rfl, hf, hM, hv95⟩ h101 hd102
      replace h101 : m_spec_l06Useful_l3 d1 k33 xs93 i94 = some o100 := h101
      unfold m_spec_l06Useful_l3 at h101
      iterate 2 refine wp_seq ?_
      refine region_pl ?_
      iterate 2 refine q_ hf rfl rfl rfl (e_move hf rfl) fun a hf => ?_
      refine q_ hf rfl rfl rfl (e_nil hf rfl) fun a hf => ?_
      refine q_ hf rfl rfl rfl (e_field hf rfl Tryz.underlying26 rfl Tryz.sizeOf24 (o' := o3 + 0) rfl) fun a hf => ?_
      refine q_ hf rfl rfl rfl (e_load1 hf rfl Tryz.isAgg24 (hM.litCell (k := 1) (j := 0) rfl rfl rfl)) fun a hf => ?_
      refine q_ hf rfl rfl rfl (e_move hf rfl) fun a hf => ?_
      obtain ⟨e103, hz104, h101⟩ := bind_some h101
      obtain ⟨b108, o109, _, hA110, h105, h106, hr107, hM⟩ := hM.elem (hM.dat (k := 0) rfl) (n := 3) rfl hz104
      obtain ⟨A112, c113, rfl, hv111, hv114⟩ := NodeRep_open hr107
      have hM := hM.add (y := .dat (sliceRep intRep) e103.Next [vL A112 e103.Next c113]) hv114
      refine q_ hf rfl rfl rfl (e_indexAddr (A := A6) (b := b108) (o := o109) (xs := d1.Nodes) (i := k33) hf hA110 rfl rfl Tryz.underlying24 Tryz.sizeOf79 h105 h106) fun a hf => ?_
      refine q_ hf rfl rfl rfl (e_field hf rfl Tryz.underlying79 rfl Tryz.sizeOf77 (o' := (o109 + (k33 : Int).toNat * 3) + 2) rfl) fun a hf => ?_
      refine q_ hf rfl rfl rfl (e_load1 hf rfl Tryz.isAgg77 (hM.litCell (k := 1) (j := 2) rfl rfl rfl)) fun a hf => ?_
      have hl115 := slice_len (hM.dat (k := 0) rfl)
      refine q_ hf rfl rfl rfl (e_lenL hf (x := e103.Next) rfl Tryz.underlying77) fun a hf => ?_
      refine q_ hf rfl rfl rfl (e_lt hf (x := i94) (y := (e103.Next.length : Int)) rfl rfl) fun a hf => ?_
      refine pl_nil ?_
      refine then_n ?_
      rcases cond_some h101 with ⟨hc116, h101⟩ | ⟨hc116, h101⟩
      ·refine cond_t hf rfl hc116 ?_
       refine wp_skip ?_
       refine then_n ?_
       obtain ⟨x118, h119, h101⟩ := bind_some h101
       refine seq_join (fun a w => ∃ (xs117 : (List Bool)), xs117 = x118 ∧ Has 88 a [(0, vP b2 (o3)), (3, vI ((d1.Nodes.length : Int))), (4, vL (some ⟨b12, 0, none⟩) (xs117) (((d1.Nodes.length : Int) : Int).toNat)), (5, vI (i19)), (6, vI (k33)), (7, vI (i94))] ∧ Mem C w [.row boolRep (some ⟨b12, 0, none⟩) (((d1.Nodes.length : Int) : Int).toNat) 4 xs117 true] [.dat (sliceRep intRep) e103.Next [vL A112 e103.Next c113], .lit b108 (o109 + (k33 : Int).toNat * 3) [.bool (e103.Final), vS (e103.Letters), vL A112 (e103.Next) c113], .dat (sliceRep NodeRep) d1.Nodes [vL A6 d1.Nodes c7], .lit b2 (o3) [vL A6 (d1.Nodes) c7], .dat (ptrRep DawgRep) d1 [vP b2 o3]]) ?_ ?_
       ·refine wp_block ?_
        refine region_pl ?_
        iterate 4 refine q_ hf rfl rfl rfl (e_move hf rfl) fun a hf => ?_
        obtain ⟨e120, hz121, h119⟩ := bind_some h119
        obtain ⟨_, h122, h123, hr124, hcell125⟩ := hM.rowElem' (k := 0) rfl (n := 1) rfl hz121
        obtain rfl : _ = _ := hr124
        refine q_ hf rfl rfl rfl (e_indexAddr (A := (some ⟨b12, 0, none⟩)) (b := b12) (o := 0) (xs := xs93) (i := k33) hf rfl rfl rfl Tryz.underlying81 Tryz.sizeOf4 h122 h123) fun a hf => ?_
        refine q_ hf rfl rfl rfl (e_load1 hf rfl Tryz.isAgg4 (hcell125 0 _ rfl)) fun a hf => ?_
        refine q_ hf rfl rfl rfl (e_move hf rfl) fun a hf => ?_
        rcases cond_some h119 with ⟨hc126, h119⟩ | ⟨hc126, h119⟩
        ·iterate 14 refine pl_gs (wanted_f hf rfl rfl rfl rfl hc126) hf rfl rfl fun a hf => ?_
         refine q_ hf rfl rfl rfl (e_pick_t hf rfl hc126 rfl) fun a hf => ?_
         obtain ⟨e127, hz128, h119⟩ := bind_some h119
         obtain ⟨_, h129, h130, hr131, hcell132⟩ := hM.rowElem' (k := 0) rfl (n := 1) rfl hz128
         obtain rfl : _ = _ := hr131
         refine q_ hf rfl rfl rfl (e_indexAddr (A := (some ⟨b12, 0, none⟩)) (b := b12) (o := 0) (xs := xs93) (i := k33) hf rfl rfl rfl Tryz.underlying81 Tryz.sizeOf4 h129 h130) fun a hf => ?_
         obtain ⟨xs134, hz135, h119⟩ := bind_some h119
         refine pl_0 hf rfl rfl (w_storeElem hf hM (x := true) (row := [.bool (true)]) (i := k33) rfl rfl rfl rfl (k := 0) rfl rfl Tryz.sizeOf4 rfl hz135 fun w133 hM => ?_)
         dsimp only [List.set] at hM
         have hf := hf.alter (d := 4) (v := vL (some ⟨b12, 0, none⟩) (xs134) (((d1.Nodes.length : Int) : Int).toNat)) rfl (vL_len (setL_len hz135))
         have hf := hf.alter (d := 55) (v := vL (some ⟨b12, 0, none⟩) (xs134) (((d1.Nodes.length : Int) : Int).toNat)) rfl (vL_len (setL_len hz135))
         have hf := hf.alter (d := 57) (v := vL (some ⟨b12, 0, none⟩) (xs134) (((d1.Nodes.length : Int) : Int).toNat)) rfl (vL_len (setL_len hz135))
         refine pl_nil ?_
         refine blk_n ?_
         obtain rfl := some_inj h119
         refine then_n ?_
         exact ⟨xs134, rfl, hf.keep ⟨rfl, rfl, rfl, rfl, rfl, rfl, trivial⟩, hM.pick [0, 1, 2, 3, 4] rfl⟩
        iterate 2 refine gq (wanted_t hf rfl rfl rfl rfl hc126) hf rfl rfl (e_move hf rfl) fun a hf => ?_
        refine gq (wanted_t hf rfl rfl rfl rfl hc126) hf rfl rfl (e_nil hf rfl) fun a hf => ?_
        refine gq (wanted_t hf rfl rfl rfl rfl hc126) hf rfl rfl (e_field hf rfl Tryz.underlying26 rfl Tryz.sizeOf24 (o' := o3 + 0) rfl) fun a hf => ?_
        refine gq (wanted_t hf rfl rfl rfl rfl hc126) hf rfl rfl (e_load1 hf rfl Tryz.isAgg24 (hM.litCell (k := 3) (j := 0) rfl rfl rfl)) fun a hf => ?_
        refine gq (wanted_t hf rfl rfl rfl rfl hc126) hf rfl rfl (e_move hf rfl) fun a hf => ?_
        obtain ⟨e139, hz140, h119⟩ := bind_some h119
        obtain ⟨b144, o145, _, hA146, h141, h142, hr143, hM⟩ := hM.elem (hM.dat (k := 2) rfl) (n := 3) rfl hz140
        obtain ⟨A148, c149, rfl, hv147, hv150⟩ := NodeRep_open hr143
        have hM := hM.add (y := .dat (sliceRep intRep) e139.Next [vL A148 e139.Next c149]) hv150
        refine gq (wanted_t hf rfl rfl rfl rfl hc126) hf rfl rfl (e_indexAddr (A := A6) (b := b144) (o := o145) (xs := d1.Nodes) (i := k33) hf hA146 rfl rfl Tryz.underlying24 Tryz.sizeOf79 h141 h142) fun a hf => ?_
        refine gq (wanted_t hf rfl rfl rfl rfl hc126) hf rfl rfl (e_field hf rfl Tryz.underlying79 rfl Tryz.sizeOf77 (o' := (o145 + (k33 : Int).toNat * 3) + 2) rfl) fun a hf => ?_
        refine gq (wanted_t hf rfl rfl rfl rfl hc126) hf rfl rfl (e_load1 hf rfl Tryz.isAgg77 (hM.litCell (k := 1) (j := 2) rfl rfl rfl)) fun a hf => ?_
        refine gq (wanted_t hf rfl rfl rfl rfl hc126) hf rfl rfl (e_move hf rfl) fun a hf => ?_
        obtain ⟨e151, hz152, h119⟩ := bind_some h119
        obtain ⟨b156, o157, _, hA158, h153, h154, hr155, hM⟩ := hM.elem (hM.dat (k := 0) rfl) (n := 1) rfl hz152
        obtain ⟨rfl, hv159⟩ := hr155
        refine gq (wanted_t hf rfl rfl rfl rfl hc126) hf rfl rfl (e_indexAddr (A := A148) (b := b156) (o := o157) (xs := e139.Next) (i := i94) hf hA158 rfl rfl Tryz.underlying77 Tryz.sizeOf2 h153 h154) fun a hf => ?_
        refine gq (wanted_t hf rfl rfl rfl rfl hc126) hf rfl rfl (e_load1 hf rfl Tryz.isAgg2 (hM.litCell (k := 0) (j := 0) rfl rfl rfl)) fun a hf => ?_
        obtain ⟨e160, hz161, h119⟩ := bind_some h119
        obtain ⟨_, h162, h163, hr164, hcell165⟩ := hM.rowElem' (k := 0) rfl (n := 1) rfl hz161
        obtain rfl : _ = _ := hr164
        refine gq (wanted_t hf rfl rfl rfl rfl hc126) hf rfl rfl (e_indexAddr (A := (some ⟨b12, 0, none⟩)) (b := b12) (o := 0) (xs := xs93) (i := e151) hf rfl rfl rfl Tryz.underlying81 Tryz.sizeOf4 h162 h163) fun a hf => ?_
        refine gq (wanted_t hf rfl rfl rfl rfl hc126) hf rfl rfl (e_load1 hf rfl Tryz.isAgg4 (hcell165 0 _ rfl)) fun a hf => ?_
        refine q_ hf rfl rfl rfl (e_pick_f hf rfl hc126 rfl) fun a hf => ?_
        obtain ⟨e166, hz167, h119⟩ := bind_some h119
        obtain ⟨_, h168, h169, hr170, hcell171⟩ := hM.rowElem' (k := 0) rfl (n := 1) rfl hz167
        obtain rfl : _ = _ := hr170
        refine q_ hf rfl rfl rfl (e_indexAddr (A := (some ⟨b12, 0, none⟩)) (b := b12) (o := 0) (xs := xs93) (i := k33) hf rfl rfl rfl Tryz.underlying81 Tryz.sizeOf4 h168 h169) fun a hf => ?_
        obtain ⟨xs173, hz174, h119⟩ := bind_some h119
        refine pl_0 hf rfl rfl (w_storeElem hf hM (x := e160) (row := [.bool (e160)]) (i := k33) rfl rfl rfl rfl (k := 0) rfl rfl Tryz.sizeOf4 rfl hz174 fun w172 hM => ?_)
        dsimp only [List.set] at hM
        have hf := hf.alter (d := 4) (v := vL (some ⟨b12, 0, none⟩) (xs173) (((d1.Nodes.length : Int) : Int).toNat)) rfl (vL_len (setL_len hz174))
        have hf := hf.alter (d := 55) (v := vL (some ⟨b12, 0, none⟩) (xs173) (((d1.Nodes.length : Int) : Int).toNat)) rfl (vL_len (setL_len hz174))
        have hf := hf.alter (d := 57) (v := vL (some ⟨b12, 0, none⟩) (xs173) (((d1.Nodes.length : Int) : Int).toNat)) rfl (vL_len (setL_len hz174))
        have hf := hf.alter (d := 62) (v := vL (some ⟨b12, 0, none⟩) (xs173) (((d1.Nodes.length : Int) : Int).toNat)) rfl (vL_len (setL_len hz174))
        refine pl_nil ?_
        refine blk_n ?_
        obtain rfl := some_inj h119
        refine then_n ?_
        exact ⟨xs173, rfl, hf.keep ⟨rfl, rfl, rfl, rfl, rfl, rfl, trivial⟩, hM.pick [3, 4, 5, 6, 7] rfl⟩
       rintro a w178 ⟨xs117, rfl, hf, hM⟩
       try dsimp only at h101
       refine region_pl ?_
       refine q_ hf rfl rfl rfl (e_move hf rfl) fun a hf => ?_
       obtain ⟨z179, hz180, h101⟩ := bind_some h101
       refine q_ hf rfl rfl rfl (e_add hf rfl rfl hz180) fun a hf => ?_
       refine q_ hf rfl rfl rfl (e_assign hf rfl) fun a hf => ?_
       refine pl_nil ?_
       obtain rfl := some_inj h101
       refine then_n ⟨_, rfl, ?_⟩
       exact ⟨xs117, z179, rfl, hf.keep ⟨rfl, rfl, rfl, rfl, rfl, rfl, trivial⟩, hM.pick [2, 3, 4] rfl, (chk_R hz180)⟩
      refine cond_f hf rfl hc116 ?_
      refine wp_exit ?_
      refine then_x ?_
      obtain rfl := some_inj h101
      obtain rfl := hd102 _ rfl
      try dsimp only at h45
      refine then_x ?_
      refine exit_hit ?_
      refine blk_n ?_
      obtain rfl := some_inj h45
      refine then_n ?_
      exact ⟨xs93, rfl, hf.keep ⟨rfl, rfl, rfl, rfl, rfl, trivial⟩, hM.pick [2, 3, 4] rfl⟩
     rintro a w186 ⟨xs43, rfl, hf, hM⟩
     try dsimp only at h40
     refine region_pl ?_
     refine q_ hf rfl rfl rfl (e_move hf rfl) fun a hf => ?_
     obtain ⟨z187, hz188, h40⟩ := bind_some h40
     refine q_ hf rfl rfl rfl (e_add hf rfl rfl hz188) fun a hf => ?_
     refine q_ hf rfl rfl rfl (e_assign hf rfl) fun a hf => ?_
     refine pl_nil ?_
     obtain rfl := some_inj h40
     refine then_n ⟨_, rfl, ?_⟩
     exact ⟨xs43, z187, rfl, hf.keep ⟨rfl, rfl, rfl, rfl, rfl, trivial⟩, hM.pick [0, 1, 2] rfl, (chk_R hz188)⟩
    refine cond_f hf rfl hc42 ?_
    refine wp_exit ?_
    refine then_x ?_
    obtain rfl := some_inj h40
    obtain rfl := hd41 _ rfl
    try dsimp only at h31
    refine then_x ?_
    refine exit_hit ?_
    refine blk_n ?_
    obtain rfl := some_inj h31
    refine then_n ?_
    exact ⟨xs32, rfl, hf.keep ⟨rfl, rfl, rfl, rfl, trivial⟩, hM.pick [0, 1, 2] rfl⟩
   rintro a w194 ⟨xs29, rfl, hf, hM⟩
   try dsimp only at h26
   refine region_pl ?_
   refine q_ hf rfl rfl rfl (e_move hf rfl) fun a hf => ?_
   obtain ⟨z195, hz196, h26⟩ := bind_some h26
   refine q_ hf rfl rfl rfl (e_add hf rfl rfl hz196) fun a hf => ?_
   refine q_ hf rfl rfl rfl (e_assign hf rfl) fun a hf => ?_
   refine pl_nil ?_
   obtain rfl := some_inj h26
   refine then_n ⟨_, rfl, ?_⟩
   exact ⟨xs29, z195, rfl, hf.keep ⟨rfl, rfl, rfl, rfl, trivial⟩, hM.pick [0, 1, 2] rfl, (chk_R hz196)⟩
  refine cond_f hf rfl hc28 ?_
  refine wp_exit ?_
  refine then_x ?_
  obtain rfl := some_inj h26
  obtain rfl := hd27 _ rfl
  try dsimp only at h17
  refine then_x ?_
  refine exit_hit ?_
  obtain rfl := some_inj h17
  refine then_n ?_
  exact ⟨xs18, rfl, hf.keep ⟨rfl, rfl, trivial⟩, hM.pick [0, 1, 2] rfl⟩
 rintro a w202 ⟨xs15, rfl, hf, hM⟩
 try dsimp only at h
 obtain ⟨x203, h204, h⟩ := bind_some h
 refine seq_join (fun a w => (.inl ()) = x203 ∧ Has 88 a [] ∧ Mem C w [.row boolRep (some ⟨b12, 0, none⟩) (((d1.Nodes.length : Int) : Int).toNat) 4 xs15 true] [.dat (sliceRep NodeRep) d1.Nodes [vL A6 d1.Nodes c7], .lit b2 (o3) [vL A6 (d1.Nodes) c7], .dat (ptrRep DawgRep) d1 [vP b2 o3]]) ?_ ?_
 ·refine wp_seq ?_
  refine region_pl ?_
  refine q_ hf rfl rfl rfl (e_assign hf rfl) fun a hf => ?_
  refine pl_nil ?_
  refine then_n ?_
  refine wp_block ?_
  obtain ⟨x208, h209, h204⟩ := bind_some h204
  refine wp_loopM h209 (fun s a w => ∃ (n205 : Int), n205 = s ∧ Has 88 a [(3, vI ((d1.Nodes.length : Int))), (4, vL (some ⟨b12, 0, none⟩) (xs15) (((d1.Nodes.length : Int) : Int).toNat)), (8, vI (n205))] ∧ Mem C w [.row boolRep (some ⟨b12, 0, none⟩) (((d1.Nodes.length : Int) : Int).toNat) 4 xs15 true] [.dat (sliceRep NodeRep) d1.Nodes [vL A6 d1.Nodes c7], .lit b2 (o3) [vL A6 (d1.Nodes) c7], .dat (ptrRep DawgRep) d1 [vP b2 o3]] ∧ R64 n205) ?_ ?_
  ·exact ⟨1, rfl, hf.keep ⟨rfl, rfl, rfl, trivial⟩, hM.pick [0, 1, 2] rfl, (R64_lit rfl)⟩
  rintro s o210 a w207 ⟨n205, rfl, hf, hM, hv206⟩ h211 hd212
  replace h211 : m_spec_l06Useful_l4 d1 xs15 n205 = some o210 := h211
  unfold m_spec_l06Useful_l4 at h211
  iterate 2 refine wp_seq ?_
  refine region_pl ?_
  iterate 2 refine q_ hf rfl rfl rfl (e_move hf rfl) fun a hf => ?_
  refine q_ hf rfl rfl rfl (e_lt hf (x := n205) (y := (d1.Nodes.length : Int)) rfl rfl) fun a hf => ?_
  refine pl_nil ?_
  refine then_n ?_
  rcases cond_some h211 with ⟨hc213, h211⟩ | ⟨hc213, h211⟩
  ·refine cond_t hf rfl hc213 ?_
   refine wp_skip ?_
   refine then_n ?_
   refine wp_seq ?_
   refine wp_block ?_
   refine wp_seq ?_
   refine region_pl ?_
   iterate 2 refine q_ hf rfl rfl rfl (e_move hf rfl) fun a hf => ?_
   obtain ⟨e214, hz215, h211⟩ := bind_some h211
   obtain ⟨_, h216, h217, hr218, hcell219⟩ := hM.rowElem' (k := 0) rfl (n := 1) rfl hz215
   obtain rfl : _ = _ := hr218
   refine q_ hf rfl rfl rfl (e_indexAddr (A := (some ⟨b12, 0, none⟩)) (b := b12) (o := 0) (xs := xs15) (i := n205) hf rfl rfl rfl Tryz.underlying81 Tryz.sizeOf4 h216 h217) fun a hf => ?_
   refine q_ hf rfl rfl rfl (e_load1 hf rfl Tryz.isAgg4 (hcell219 0 _ rfl)) fun a hf => ?_
   refine q_ hf rfl rfl rfl (e_not hf rfl) fun a hf => ?_
   refine pl_nil ?_
   refine then_n ?_
   rcases cond_some h211 with ⟨hc220, h211⟩ | ⟨hc220, h211⟩
   ·refine cond_t hf rfl hc220 ?_
    refine wp_seq ?_
    refine region_pl ?_
    refine q_ hf rfl rfl rfl (e_assign hf rfl) fun a hf => ?_
    refine pl_nil ?_
    refine then_n ?_
    refine wp_ret ?_
    refine blk_r ?_
    refine then_r ?_
    obtain rfl := some_inj h211
    obtain rfl := hd212 _ rfl
    try dsimp only at h204
    refine then_r ?_
    refine blk_r ?_
    obtain rfl := some_inj h204
    try dsimp only at h
    refine then_r ?_
    obtain rfl := some_inj h
    have hM := hM.outs (own' := []) 0 rfl
    exact leave1 hf rfl rfl ⟨rfl, hM.fin⟩
   refine cond_f hf rfl hc220 ?_
   refine wp_skip ?_
   refine blk_n ?_
   refine then_n ?_
   refine region_pl ?_
   refine q_ hf rfl rfl rfl (e_move hf rfl) fun a hf => ?_
   obtain ⟨z221, hz222, h211⟩ := bind_some h211
   refine q_ hf rfl rfl rfl (e_add hf rfl rfl hz222) fun a hf => ?_
   refine q_ hf rfl rfl rfl (e_assign hf rfl) fun a hf => ?_
   refine pl_nil ?_
   obtain rfl := some_inj h211
   refine then_n ⟨_, rfl, ?_⟩
   exact ⟨z221, rfl, hf.keep ⟨rfl, rfl, rfl, trivial⟩, hM.pick [0, 1, 2] rfl, (chk_R hz222)⟩
  refine cond_f hf rfl hc213 ?_
  refine wp_exit ?_
  refine then_x ?_
  obtain rfl := some_inj h211
  obtain rfl := hd212 _ rfl
  try dsimp only at h204
  refine then_x ?_
  refine exit_hit ?_
  obtain rfl := some_inj h204
  refine then_n ?_
  exact ⟨rfl, hf.keep trivial, hM.pick [0, 1, 2] rfl⟩
 rintro a w229 ⟨rfl, hf, hM⟩
 try dsimp only at h
 refine wp_seq ?_
 refine region_pl ?_
 refine q_ hf rfl rfl rfl (e_assign hf rfl) fun a hf => ?_
 refine pl_nil ?_
 refine then_n ?_
 refine wp_ret ?_
 obtain rfl := some_inj h
 have hM := hM.outs (own' := []) 0 rfl
 exact leave1 hf rfl rfl ⟨rfl, hM.fin⟩
def Ct_spec_l06W_walk (rc : l06W → Int → Str → Option l06W) : Prop := ∀ (C : Cx) (w1 : l06W) (b2 : Nat) (b3 : Nat) (o4 : Nat) (hp5 : (ptrRep DawgRep).R C.w0 C.S0 w1.d [vP b3 o4]) (A6 : Option Addr) (c7 : Nat) (node8 : Int) (hp9 : R64 node8) (s10 : Str) (hp11 : s10.length ≤ maxLen) (hO : Mem C C.w0 [.box b2 [vP b3 (o4), vL A6 (w1.out) c7, .bool (w1.full)] 91, .row strRep A6 c7 9 w1.out true] []) (hd : ∀ b, C.S0 b → ¬ ownB [.box b2 [vP b3 (o4), vL A6 (w1.out) c7, .bool (w1.full)] 91, .row strRep A6 c7 9 w1.out true] b) (r : l06W) (h : rc w1 node8 s10 = some r),
    Calls Tryz.prog 53 #[vP b2 (0), vI (node8), vS (s10)] C.w0 fun e w => ∃ (A_1 : Option Addr), ∃ (c_1 : Nat), e = .returned (.tuple #[]) ∧ Mem C w [.box b2 [vP b3 (o4), vL A_1 (r.out) c_1, .bool (r.full)] 91, .row strRep A_1 c_1 9 r.out true] []
theorem r_spec_l06W_walk_b (rc : l06W → Int → Str → Option l06W) (ih : Ct_spec_l06W_walk rc) : Ct_spec_l06W_walk (m_spec_l06W_walk_b rc) := by
 intro C w1 b2 b3 o4 hp5 A6 c7 node8 hp9 s10 hp11 hO hd r h
 have hM := hO
 have hM := hM.addIn hd (y := .dat (ptrRep DawgRep) w1.d [vP b3 o4]) hp5
 refine enter Tryz.func53 rfl Tryz.ntmps53 rfl fun a hf => ?_
 unfold m_spec_l06W_walk_b at h
 refine wp_seq ?_
 obtain ⟨x14, h15, h⟩ := bind_some h
 refine seq_join (fun a w => ∃ (t12 : Bool), t12 = x14 ∧ Has 87 a [(0, vP b2 (0)), (1, vI (node8)), (2, vS (s10)), (16, .bool (t12))] ∧ Mem C w [.box b2 [vP b3 (o4), vL A6 (w1.out) c7, .bool (w1.full)] 91, .row strRep A6 c7 9 w1.out true] [.dat (ptrRep DawgRep) w1.d [vP b3 o4]]) ?_ ?_
 ·refine region_pl ?_
  refine q_ hf rfl rfl rfl (e_move hf rfl) fun a hf => ?_
  refine q_ hf rfl rfl rfl (e_nil hf rfl) fun a hf => ?_
  refine q_ hf rfl rfl rfl (e_field hf rfl Tryz.underlying91 rfl Tryz.sizeOf4 (o' := 2) rfl) fun a hf => ?_
  refine q_ hf rfl rfl rfl (e_load1 hf rfl Tryz.isAgg4 (hM.boxCell (k := 0) rfl rfl)) fun a hf => ?_
  refine q_ hf rfl rfl rfl (e_move hf rfl) fun a hf => ?_
  rcases cond_some h15 with ⟨hc16, h15⟩ | ⟨hc16, h15⟩
  ·iterate 3 refine pl_gs (wanted_f hf rfl rfl rfl rfl hc16) hf rfl rfl fun a hf => ?_
   refine q_ hf rfl rfl rfl (e_pick_t hf rfl hc16 rfl) fun a hf => ?_
   refine pl_nil ?_
   obtain rfl := some_inj h15
   refine then_n ?_
   exact ⟨true, rfl, hf.keep ⟨rfl, rfl, rfl, rfl, trivial⟩, hM.pick [0] rfl⟩
  refine gq (wanted_t hf rfl rfl rfl rfl hc16) hf rfl rfl (e_move hf rfl) fun a hf => ?_
  refine gq (wanted_t hf rfl rfl rfl rfl hc16) hf rfl rfl (e_lenS hf (x := s10) rfl Tryz.underlying9) fun a hf => ?_
  refine gq (wanted_t hf rfl rfl rfl rfl hc16) hf rfl rfl (e_gt hf (x := (s10.length : Int)) (y := 13) rfl rfl) fun a hf => ?_
  refine q_ hf rfl rfl rfl (e_pick_f hf rfl hc16 rfl) fun a hf => ?_
  refine pl_nil ?_
  obtain rfl := some_inj h15
  refine then_n ?_
  exact ⟨(decide (13 < (s10.length : Int))), rfl, hf.keep ⟨rfl, rfl, rfl, rfl, trivial⟩, hM.pick [0] rfl⟩
 rintro a w19 ⟨t12, rfl, hf, hM⟩
 try dsimp only at h
 rcases cond_some h with ⟨hc20, h⟩ | ⟨hc20, h⟩
 ·refine cond_t hf rfl hc20 ?_
  refine wp_seq ?_
  refine region_pl ?_
  refine q_ hf rfl rfl rfl (e_move hf rfl) fun a hf => ?_
  refine q_ hf rfl rfl rfl (e_nil hf rfl) fun a hf => ?_
  refine q_ hf rfl rfl rfl (e_field hf rfl Tryz.underlying91 rfl Tryz.sizeOf4 (o' := 2) rfl) fun a hf => ?_
  refine pl_0 hf rfl rfl (w_store hf hM (us := [.bool (true)]) (cs' := [vP b3 (o4), vL A6 (w1.out) c7, .bool (true)]) rfl rfl (k := 0) rfl rfl Tryz.sizeOf4 rfl rfl rfl fun w21 hM => ?_)
  dsimp only [List.set] at hM
  refine pl_nil ?_
  refine then_n ?_
  refine wp_ret ?_
  refine then_r ?_
  obtain rfl := some_inj h
  exact leave0 hf rfl ⟨A6, c7, rfl, hM.fin⟩
 refine cond_f hf rfl hc20 ?_
 refine wp_skip ?_
 refine then_n ?_
 refine wp_seq ?_
 refine region_pl ?_
 refine q_ hf rfl rfl rfl (e_move hf rfl) fun a hf => ?_
 refine q_ hf rfl rfl rfl (e_nil hf rfl) fun a hf => ?_
 refine q_ hf rfl rfl rfl (e_field hf rfl Tryz.underlying91 rfl Tryz.sizeOf53 (o' := 0) rfl) fun a hf => ?_
 refine q_ hf rfl rfl rfl (e_load1 hf rfl Tryz.isAgg53 (hM.boxCell (k := 0) rfl rfl)) fun a hf => ?_
 refine q_ hf rfl rfl rfl (e_nil hf rfl) fun a hf => ?_
 obtain ⟨_, hr24, hM⟩ := hM.deref (hM.dat (k := 0) rfl)
 obtain ⟨A25, c26, rfl, hv27⟩ := DawgRep_open hr24
 have hM := hM.add (y := .dat (sliceRep NodeRep) w1.d.Nodes [vL A25 w1.d.Nodes c26]) hv27
 refine q_ hf rfl rfl rfl (e_field hf rfl Tryz.underlying26 rfl Tryz.sizeOf24 (o' := o4 + 0) rfl) fun a hf => ?_
 refine q_ hf rfl rfl rfl (e_load1 hf rfl Tryz.isAgg24 (hM.litCell (k := 1) (j := 0) rfl rfl rfl)) fun a hf => ?_
 refine q_ hf rfl rfl rfl (e_move hf rfl) fun a hf => ?_
 obtain ⟨e28, hz29, h⟩ := bind_some h
 obtain ⟨b33, o34, _, hA35, h30, h31, hr32, hM⟩ := hM.elem (hM.dat (k := 0) rfl) (n := 3) rfl hz29
 obtain ⟨A37, c38, rfl, hv36, hv39⟩ := NodeRep_open hr32
 have hM := hM.add (y := .dat (sliceRep intRep) e28.Next [vL A37 e28.Next c38]) hv39
 refine q_ hf rfl rfl rfl (e_indexAddr (A := A25) (b := b33) (o := o34) (xs := w1.d.Nodes) (i := node8) hf hA35 rfl rfl Tryz.underlying24 Tryz.sizeOf79 h30 h31) fun a hf => ?_
 refine q_ hf rfl rfl rfl (e_assign hf rfl) fun a hf => ?_
 refine pl_nil ?_
 refine then_n ?_
 obtain ⟨x45, h46, h⟩ := bind_some h
 refine seq_join (fun a w => ∃ (t40 : Bool) (xs42 : (List Str)) (A43 : Option Addr) (c44 : Nat), (t40, xs42) = x45 ∧ Has 87 a [(0, vP b2 (0)), (2, vS (s10)), (6, vP b33 (o34 + (node8 : Int).toNat * 3))] ∧ Mem C w [.box b2 [vP b3 (o4), vL A43 (xs42) c44, .bool (t40)] 91, .row strRep A43 c44 9 xs42 true] [.dat (sliceRep intRep) e28.Next [vL A37 e28.Next c38], .lit b33 (o34 + (node8 : Int).toNat * 3) [.bool (e28.Final), vS (e28.Letters), vL A37 (e28.Next) c38], .dat (sliceRep NodeRep) w1.d.Nodes [vL A25 w1.d.Nodes c26], .lit b3 (o4) [vL A25 (w1.d.Nodes) c26], .dat (ptrRep DawgRep) w1.d [vP b3 o4]]) ?_ ?_
 ·refine wp_seq ?_
  refine region_pl ?_
  refine q_ hf rfl rfl rfl (e_move hf rfl) fun a hf => ?_
  refine q_ hf rfl rfl rfl (e_nil hf rfl) fun a hf => ?_
  refine q_ hf rfl rfl rfl (e_field hf rfl Tryz.underlying79 rfl Tryz.sizeOf4 (o' := (o34 + (node8 : Int).toNat * 3) + 0) rfl) fun a hf => ?_
  refine q_ hf rfl rfl rfl (e_load1 hf rfl Tryz.isAgg4 (hM.litCell (k := 1) (j := 0) rfl rfl rfl)) fun a hf => ?_
  refine pl_nil ?_
  refine then_n ?_
  rcases cond_some h46 with ⟨hc47, h46⟩ | ⟨hc47, h46⟩
  ·refine cond_t hf rfl hc47 ?_
   refine wp_seq ?_
   refine region_pl ?_
   iterate 2 refine q_ hf rfl rfl rfl (e_move hf rfl) fun a hf => ?_
   refine q_ hf rfl rfl rfl (e_nil hf rfl) fun a hf => ?_
   refine q_ hf rfl rfl rfl (e_field hf rfl Tryz.underlying91 rfl Tryz.sizeOf30 (o' := 1) rfl) fun a hf => ?_
   refine q_ hf rfl rfl rfl (e_load1 hf rfl Tryz.isAgg30 (hM.boxCell (k := 0) rfl rfl)) fun a hf => ?_
   refine q_ hf rfl rfl rfl (e_move hf rfl) fun a hf => ?_
   refine pl_l hf rfl rfl rfl (w_slice hf hM (K := strRep) (xs := ([s10] : (List Str))) (os := [.tmp 38]) Tryz.underlying30 ei_9 rfl rfl rfl rfl rfl ⟨⟨[vS (s10)], rfl, ⟨rfl, hp11⟩⟩, trivial⟩ rfl fun b48 w49 hx50 hM a hf => ?_)
   obtain ⟨xs51, hz52, h46⟩ := bind_some h46
   refine pl_l hf rfl rfl rfl (w_append hf hM Tryz.underlying30 ei_9 rfl rfl rfl (k := 2) rfl (hM.srcRow (k := 0) rfl) hz52 fun A53 c54 w55 hM a hf => ?_)
   dsimp only [List.set] at hM
   refine q_ hf rfl rfl rfl (e_nil hf rfl) fun a hf => ?_
   refine q_ hf rfl rfl rfl (e_field hf rfl Tryz.underlying91 rfl Tryz.sizeOf30 (o' := 1) rfl) fun a hf => ?_
   refine pl_0 hf rfl rfl (w_store hf hM (us := [vL A53 (xs51) c54]) (cs' := [vP b3 (o4), vL A53 (xs51) c54, .bool (w1.full)]) rfl rfl (k := 1) rfl rfl Tryz.sizeOf30 rfl rfl rfl fun w58 hM => ?_)
   dsimp only [List.set] at hM
   refine pl_nil ?_
   refine then_n ?_
   refine region_pl ?_
   iterate 2 refine q_ hf rfl rfl rfl (e_move hf rfl) fun a hf => ?_
   refine q_ hf rfl rfl rfl (e_nil hf rfl) fun a hf => ?_
   refine q_ hf rfl rfl rfl (e_field hf rfl Tryz.underlying91 rfl Tryz.sizeOf30 (o' := 1) rfl) fun a hf => ?_
   refine q_ hf rfl rfl rfl (e_load1 hf rfl Tryz.isAgg30 (hM.boxCell (k := 1) rfl rfl)) fun a hf => ?_
   have hl61 := row_len (hM.ownAt (k := 2) rfl)
   refine q_ hf rfl rfl rfl (e_lenL hf (x := xs51) rfl Tryz.underlying30) fun a hf => ?_
   refine q_ hf rfl rfl rfl (e_gt hf (x := (xs51.length : Int)) (y := 3000) rfl rfl) fun a hf => ?_
   refine q_ hf rfl rfl rfl (e_nil hf rfl) fun a hf => ?_
   refine q_ hf rfl rfl rfl (e_field hf rfl Tryz.underlying91 rfl Tryz.sizeOf4 (o' := 2) rfl) fun a hf => ?_
   refine pl_0 hf rfl rfl (w_store hf hM (us := [.bool (decide (3000 < (xs51.length : Int)))]) (cs' := [vP b3 (o4), vL A53 (xs51) c54, .bool (decide (3000 < (xs51.length : Int)))]) rfl rfl (k := 1) rfl rfl Tryz.sizeOf4 rfl rfl rfl fun w62 hM => ?_)
   dsimp only [List.set] at hM
   refine pl_nil ?_
   obtain rfl := some_inj h46
   refine then_n ?_
   exact ⟨(decide (3000 < (xs51.length : Int))), xs51, A53, c54, rfl, hf.keep ⟨rfl, rfl, rfl, trivial⟩, (hM.drop (.cons _ (.cons_cons _ (.cons_cons _ .slnil)))).pick [0, 1, 2, 3, 4] rfl⟩
  refine cond_f hf rfl hc47 ?_
  refine wp_skip ?_
  obtain rfl := some_inj h46
  refine then_n ?_
  exact ⟨w1.full, w1.out, A6, c7, rfl, hf.keep ⟨rfl, rfl, rfl, trivial⟩, hM.pick [0, 1, 2, 3, 4] rfl⟩
 rintro a w67 ⟨t40, xs42, A43, c44, rfl, hf, hM⟩
 try dsimp only at h
 refine wp_seq ?_
 refine region_pl ?_
 refine q_ hf rfl rfl rfl (e_assign hf rfl) fun a hf => ?_
 refine pl_nil ?_
 refine then_n ?_
 refine wp_block ?_
 obtain ⟨x81, h82, h⟩ := bind_some h
 refine wp_loopM h82 (fun s a w => ∃ (t68 : Bool) (xs70 : (List Str)) (n73 : Int) (A71 : Option Addr) (c72 : Nat), (t68, xs70, n73) = s ∧ Has 87 a [(0, vP b2 (0)), (2, vS (s10)), (6, vP b33 (o34 + (node8 : Int).toNat * 3)), (7, vI (n73))] ∧ Mem C w [.box b2 [vP b3 (o4), vL A71 (xs70) c72, .bool (t68)] 91, .row strRep A71 c72 9 xs70 true] [.dat (sliceRep intRep) e28.Next [vL A37 e28.Next c38], .lit b33 (o34 + (node8 : Int).toNat * 3) [.bool (e28.Final), vS (e28.Letters), vL A37 (e28.Next) c38], .dat (sliceRep NodeRep) w1.d.Nodes [vL A25 w1.d.Nodes c26], .lit b3 (o4) [vL A25 (w1.d.Nodes) c26], .dat (ptrRep DawgRep) w1.d [vP b3 o4]] ∧ R64 n73) ?_ ?_
 ·exact ⟨t40, xs42, 0, A43, c44, rfl, hf.keep ⟨rfl, rfl, rfl, rfl, trivial⟩, hM.pick [0, 1, 2, 3, 4] rfl, (R64_lit rfl)⟩
 rintro s o83 a w75 ⟨t68, xs70, n73, A71, c72, rfl, hf, hM, hv74⟩ h84 hd85
 replace h84 : m_spec_l06W_walk_l1 e28 s10 rc w1 t68 xs70 n73 = some o83 := h84
 unfold m_spec_l06W_walk_l1 at h84
 refine wp_seq ?_
 obtain ⟨x88, h89, h84⟩ := bind_some h84
 refine seq_join (fun a w => ∃ (t86 : Bool), t86 = x88 ∧ Has 87 a [(0, vP b2 (0)), (2, vS (s10)), (6, vP b33 (o34 + (node8 : Int).toNat * 3)), (7, vI (n73)), (65, .bool (t86))] ∧ Mem C w [.box b2 [vP b3 (o4), vL A71 (xs70) c72, .bool (t68)] 91, .row strRep A71 c72 9 xs70 true] [.dat (sliceRep intRep) e28.Next [vL A37 e28.Next c38], .lit b33 (o34 + (node8 : Int).toNat * 3) [.bool (e28.Final), vS (e28.Letters), vL A37 (e28.Next) c38], .dat (sliceRep NodeRep) w1.d.Nodes [vL A25 w1.d.Nodes c26], .lit b3 (o4) [vL A25 (w1.d.Nodes) c26], .dat (ptrRep DawgRep) w1.d [vP b3 o4]]) ?_ ?_
 ·refine region_pl ?_
  iterate 2 refine q_ hf rfl rfl rfl (e_move hf rfl) fun a hf => ?_
  refine q_ hf rfl rfl rfl (e_nil hf rfl) fun a hf => ?_
  refine q_ hf rfl rfl rfl (e_field hf rfl Tryz.underlying79 rfl Tryz.sizeOf77 (o' := (o34 + (node8 : Int).toNat * 3) + 2) rfl) fun a hf => ?_
  refine q_ hf rfl rfl rfl (e_load1 hf rfl Tryz.isAgg77 (hM.litCell (k := 1) (j := 2) rfl rfl rfl)) fun a hf => ?_
  have hl90 := slice_len (hM.dat (k := 0) rfl)
  refine q_ hf rfl rfl rfl (e_lenL hf (x := e28.Next) rfl Tryz.underlying77) fun a hf => ?_
  refine q_ hf rfl rfl rfl (e_lt hf (x := n73) (y := (e28.Next.length : Int)) rfl rfl) fun a hf => ?_
  refine q_ hf rfl rfl rfl (e_move hf rfl) fun a hf => ?_
  rcases cond_some h89 with ⟨hc91, h89⟩ | ⟨hc91, h89⟩
  ·refine gq (wanted_t hf rfl rfl rfl rfl hc91) hf rfl rfl (e_move hf rfl) fun a hf => ?_
   refine gq (wanted_t hf rfl rfl rfl rfl hc91) hf rfl rfl (e_nil hf rfl) fun a hf => ?_
   refine gq (wanted_t hf rfl rfl rfl rfl hc91) hf rfl rfl (e_field hf rfl Tryz.underlying91 rfl Tryz.sizeOf4 (o' := 2) rfl) fun a hf => ?_
   refine gq (wanted_t hf rfl rfl rfl rfl hc91) hf rfl rfl (e_load1 hf rfl Tryz.isAgg4 (hM.boxCell (k := 0) rfl rfl)) fun a hf => ?_
   refine gq (wanted_t hf rfl rfl rfl rfl hc91) hf rfl rfl (e_not hf rfl) fun a hf => ?_
   refine q_ hf rfl rfl rfl (e_pick_t hf rfl hc91 rfl) fun a hf => ?_
   refine pl_nil ?_
   obtain rfl := some_inj h89
   refine then_n ?_
   exact ⟨(!t68), rfl, hf.keep ⟨rfl, rfl, rfl, rfl, rfl, trivial⟩, hM.pick [0, 1, 2, 3, 4] rfl⟩
  iterate 5 refine pl_gs (wanted_f hf rfl rfl rfl rfl hc91) hf rfl rfl fun a hf => ?_
  refine q_ hf rfl rfl rfl (e_pick_f hf rfl hc91 rfl) fun a hf => ?_
  refine pl_nil ?_
  obtain rfl := some_inj h89
  refine then_n ?_
  exact ⟨false, rfl, hf.keep ⟨rfl, rfl, rfl, rfl, rfl, trivial⟩, hM.pick [0, 1, 2, 3, 4] rfl⟩
 rintro a w94 ⟨t86, rfl, hf, hM⟩
 try dsimp only at h84
 rcases cond_some h84 with ⟨hc95, h84⟩ | ⟨hc95, h84⟩
 ·refine cond_t hf rfl hc95 ?_
  refine wp_skip ?_
  refine then_n ?_
  refine wp_seq ?_
  refine wp_block ?_
  obtain ⟨w96, hw⟩ : ∃ x, x = w94.drew := ⟨_, rfl⟩
  refine region_pi (.q 0 (.q 1 (.q 2 (.q 3 (.q 4 (.q 5 (.q 6 (.q 7 (.q 8 (.q 9 (.q 10 (.q 11 (.q 12 (.q 13 (.q 14 (.q 15 (.q 16 (.q 17 (.l 18 (.nil)))))))))))))))))))) (Ext w96) rfl (by kernel_rfl) ?_
  have hM := hM.drew
  rw [← hw] at hM ⊢
  clear hw
  iterate 2 refine pi_q hf rfl rfl rfl rfl (Ext.refl _) (e_move hf rfl) fun a hf => ?_
  refine pi_q hf rfl rfl rfl rfl (Ext.refl _) (e_nil hf rfl) fun a hf => ?_
  refine pi_q hf rfl rfl rfl rfl (Ext.refl _) (e_field hf rfl Tryz.underlying79 rfl Tryz.sizeOf77 (o' := (o34 + (node8 : Int).toNat * 3) + 2) rfl) fun a hf => ?_
  refine pi_q hf rfl rfl rfl rfl (Ext.refl _) (e_load1 hf rfl Tryz.isAgg77 (hM.litCell (k := 1) (j := 2) rfl rfl rfl)) fun a hf => ?_
  refine pi_q hf rfl rfl rfl rfl (Ext.refl _) (e_move hf rfl) fun a hf => ?_
  obtain ⟨e97, hz98, h84⟩ := bind_some h84
  obtain ⟨b102, o103, _, hA104, h99, h100, hr101, hM⟩ := hM.elem (hM.dat (k := 0) rfl) (n := 1) rfl hz98
  obtain ⟨rfl, hv105⟩ := hr101
  refine pi_q hf rfl rfl rfl rfl (Ext.refl _) (e_indexAddr (A := A37) (b := b102) (o := o103) (xs := e28.Next) (i := n73) hf hA104 rfl rfl Tryz.underlying77 Tryz.sizeOf2 h99 h100) fun a hf => ?_
  refine pi_q hf rfl rfl rfl rfl (Ext.refl _) (e_load1 hf rfl Tryz.isAgg2 (hM.litCell (k := 0) (j := 0) rfl rfl rfl)) fun a hf => ?_
  iterate 2 refine pi_q hf rfl rfl rfl rfl (Ext.refl _) (e_move hf rfl) fun a hf => ?_
  refine pi_q hf rfl rfl rfl rfl (Ext.refl _) (e_nil hf rfl) fun a hf => ?_
  refine pi_q hf rfl rfl rfl rfl (Ext.refl _) (e_field hf rfl Tryz.underlying79 rfl Tryz.sizeOf9 (o' := (o34 + (node8 : Int).toNat * 3) + 1) rfl) fun a hf => ?_
  refine pi_q hf rfl rfl rfl rfl (Ext.refl _) (e_load1 hf rfl Tryz.isAgg9 (hM.litCell (k := 2) (j := 1) rfl rfl rfl)) fun a hf => ?_
  iterate 2 refine pi_q hf rfl rfl rfl rfl (Ext.refl _) (e_move hf rfl) fun a hf => ?_
  obtain ⟨z106, hz107, h84⟩ := bind_some h84
  refine pi_q hf rfl rfl rfl rfl (Ext.refl _) (e_add hf rfl rfl hz107) fun a hf => ?_
  obtain ⟨s108, hz109, h84⟩ := bind_some h84
  refine pi_q hf rfl rfl rfl rfl (Ext.refl _) (e_subS hf (x := e28.Letters) rfl rfl rfl Tryz.underlying9 hz109) fun a hf => ?_
  obtain ⟨s110, hz111, h84⟩ := bind_some h84
  refine pi_q hf rfl rfl rfl rfl (Ext.refl _) (e_cat hf (x := s10) (y := s108) rfl rfl hz111) fun a hf => ?_
  refine pi_one ?_
  have hM : Mem C _ ([.box b2 [vP b3 (o4), vL A71 (xs70) c72, .bool (t68)] 91, .row strRep A71 c72 9 xs70 true] ++ []) _ := hM
  obtain ⟨y112, hz113, h84⟩ := bind_some h84
  refine pi_z hf rfl rfl rfl rfl (by kernel_rfl) (w_call hf Tryz.call53 rfl (ih ⟨_, Sh C _ _, ownB _, hM.sh_lt, sub_dis, C.G, hM.g_lt, hM.g_own, hM.tabs⟩ (⟨w1.d, xs70, t68⟩ : l06W) _ _ _ (hM.dat (k := 5) rfl) _ _ e97 hv105 s110 (cat_len hz111) hM.sub sub_dis _ hz113) ?_)
  rintro _ w116 ⟨A114, c115, rfl, hM2⟩
  obtain ⟨hM, hup118⟩ := hM.backG hM2
  dsimp only [List.cons_append, List.nil_append] at hM hup118
  clear hM2
  refine ⟨_, rfl, fun a hf => ?_⟩
  refine pi_nil ?_
  refine blk_n ?_
  refine then_n ?_
  refine region_pl ?_
  refine q_ hf rfl rfl rfl (e_move hf rfl) fun a hf => ?_
  obtain ⟨z119, hz120, h84⟩ := bind_some h84
  refine q_ hf rfl rfl rfl (e_add hf rfl rfl hz120) fun a hf => ?_
  refine q_ hf rfl rfl rfl (e_assign hf rfl) fun a hf => ?_
  refine pl_nil ?_
  obtain rfl := some_inj h84
  refine then_n ⟨_, rfl, ?_⟩
  exact ⟨y112.full, y112.out, z119, A114, c115, rfl, hf.keep ⟨rfl, rfl, rfl, rfl, trivial⟩, hM.pick [1, 2, 3, 4, 5] rfl, (chk_R hz120)⟩
 refine cond_f hf rfl hc95 ?_
 refine wp_exit ?_
 refine then_x ?_
 obtain rfl := some_inj h84
 obtain rfl := hd85 _ rfl
 try dsimp only at h
 refine then_x ?_
 refine exit_hit ?_
 obtain rfl := some_inj h
 exact leave0n hf rfl ⟨A71, c72, rfl, hM.fin⟩
theorem r_spec_l06W_walk_n : ∀ n, Ct_spec_l06W_walk (m_spec_l06W_walk_n n)
  | 0 => fun C w1 b2 b3 o4 hp5 A6 c7 node8 hp9 s10 hp11 hO hd r h => by cases h
  | n + 1 => r_spec_l06W_walk_b _ (r_spec_l06W_walk_n n)
theorem r_spec_l06W_walk : Ct_spec_l06W_walk (m_spec_l06W_walk) := r_spec_l06W_walk_n fuelN
theorem r_spec_l06Words (C : Cx) (d1 : Dawg) (b2 : Nat) (o3 : Nat) (hp4 : (ptrRep DawgRep).R C.w0 C.S0 d1 [vP b2 o3]) (r : ((List Str) × Bool)) (h : m_spec_l06Words d1 = some r) :
    Calls Tryz.prog 30 #[vP b2 (o3)] C.w0 fun e w => ∃ (A_1 : Option Addr), ∃ (c_1 : Nat), e = .returned (.tuple #[vL A_1 (r.1) c_1, .bool (r.2)]) ∧ Mem C w [.row strRep A_1 c_1 9 r.1 true] [] := by
 have hM := Mem.begin C [.dat (ptrRep DawgRep) d1 [vP b2 o3]] ⟨hp4, trivial⟩
 refine enter Tryz.func30 rfl Tryz.ntmps30 rfl fun a hf => ?_
 unfold m_spec_l06Words at h
 refine wp_seq ?_
 refine region_pl ?_
 iterate 2 refine q_ hf rfl rfl rfl (e_assign hf rfl) fun a hf => ?_
 refine pl_nil ?_
 refine then_n ?_
 refine wp_seq ?_
 refine region_pl ?_
 refine q_ hf rfl rfl rfl (e_move hf rfl) fun a hf => ?_
 refine pl_l hf rfl rfl rfl (w_slice0 (K := strRep) hM Tryz.underlying30 ei_9 fun b5 w6 hx7 hM a hf => ?_)
 refine q_ hf rfl rfl rfl (e_build hf Tryz.zeroValue91 Tryz.underlying91 (bp_91 _ Tryz.underlying91.symm) rfl (cs := #[vP b2 (o3), vL (some ⟨b5, 0, none⟩) (([] : (List Str))) 0, .bool (false)]) (by kernel_rfl)) fun a hf => ?_
 refine pl_l hf rfl rfl rfl (w_box hf hM (cs := [vP b2 (o3), vL (some ⟨b5, 0, none⟩) (([] : (List Str))) 0, .bool (false)]) rfl rfl fun b8 w9 hx10 hM a hf => ?_)
 refine q_ hf rfl rfl rfl (e_assign hf rfl) fun a hf => ?_
 refine pl_nil ?_
 refine then_n ?_
 refine wp_seq ?_
 refine region_pl ?_
 refine q_ hf rfl rfl rfl (e_move hf rfl) fun a hf => ?_
 have hM : Mem C _ ([.box b8 [vP b2 (o3), vL (some ⟨b5, 0, none⟩) (([] : (List Str))) 0, .bool (false)] 91, .row strRep (some ⟨b5, 0, none⟩) 0 9 ([] : (List Str)) true] ++ []) _ := hM
 obtain ⟨y12, hz13, h⟩ := bind_some h
 refine pl_l hf rfl rfl rfl (w_call hf Tryz.call53 rfl (r_spec_l06W_walk ⟨_, Sh C _ _, ownB _, hM.sh_lt, sub_dis, C.G, hM.g_lt, hM.g_own, hM.tabs⟩ (⟨d1, ([] : (List Str)), false⟩ : l06W) _ _ _ (hM.dat (k := 0) rfl) _ _ 0 (R64_lit rfl) ([] : Str) (lit_len rfl) hM.sub sub_dis _ hz13) ?_)
 rintro _ w16 ⟨A14, c15, rfl, hM2⟩
 obtain ⟨hM, hup18⟩ := hM.backG hM2
 dsimp only [List.cons_append, List.nil_append] at hM hup18
 clear hM2
 refine ⟨_, rfl, fun a hf => ?_⟩
 refine pl_nil ?_
 refine then_n ?_
 refine wp_seq ?_
 obtain ⟨w19, hw⟩ : ∃ x, x = w16.drew := ⟨_, rfl⟩
 refine region_pi (.q 0 (.q 1 (.q 2 (.q 3 (.q 4 (.q 5 (.q 6 (.q 7 (.q 8 (.q 9 (.q 10 (.nil)))))))))))) (Ext w19) rfl (by kernel_rfl) ?_
 have hM := hM.drew
 rw [← hw] at hM ⊢
 clear hw
 refine pi_q hf rfl rfl rfl rfl (Ext.refl _) (e_move hf rfl) fun a hf => ?_
 refine pi_q hf rfl rfl rfl rfl (Ext.refl _) (e_nil hf rfl) fun a hf => ?_
 refine pi_q hf rfl rfl rfl rfl (Ext.refl _) (e_field hf rfl Tryz.underlying91 rfl Tryz.sizeOf30 (o' := 1) rfl) fun a hf => ?_
 refine pi_q hf rfl rfl rfl rfl (Ext.refl _) (e_load1 hf rfl Tryz.isAgg30 (hM.boxCell (k := 0) rfl rfl)) fun a hf => ?_
 refine pi_q hf rfl rfl rfl rfl (Ext.refl _) (e_move hf rfl) fun a hf => ?_
 refine pi_q hf rfl rfl rfl rfl (Ext.refl _) (e_nil hf rfl) fun a hf => ?_
 refine pi_q hf rfl rfl rfl rfl (Ext.refl _) (e_field hf rfl Tryz.underlying91 rfl Tryz.sizeOf4 (o' := 2) rfl) fun a hf => ?_
 refine pi_q hf rfl rfl rfl rfl (Ext.refl _) (e_load1 hf rfl Tryz.isAgg4 (hM.boxCell (k := 0) rfl rfl)) fun a hf => ?_
 refine pi_q hf rfl rfl rfl rfl (Ext.refl _) (e_not hf rfl) fun a hf => ?_
 iterate 2 refine pi_q hf rfl rfl rfl rfl (Ext.refl _) (e_assign hf rfl) fun a hf => ?_
 refine pi_nil ?_
 refine then_n ?_
 refine wp_ret ?_
 obtain rfl := some_inj h
 have hM := hM.front (k := 1) rfl
 dsimp only [List.eraseIdx] at hM
 have hM := hM.outs (own' := [.row strRep A14 c15 9 y12.out true]) 1 rfl
 exact leave2 hf rfl rfl rfl ⟨A14, c15, rfl, hM.fin⟩
theorem r_spec_l06Same (C : Cx) (a1 : Dawg) (b2 : Nat) (o3 : Nat) (hp4 : (ptrRep DawgRep).R C.w0 C.S0 a1 [vP b2 o3]) (b5 : Dawg) (b6 : Nat) (o7 : Nat) (hp8 : (ptrRep DawgRep).R C.w0 C.S0 b5 [vP b6 o7]) (r : Bool) (h : m_spec_l06Same a1 b5 = some r) :
    Calls Tryz.prog 34 #[vP b2 (o3), vP b6 (o7)] C.w0 fun e w => e = .returned (.bool (r)) ∧ Mem C w [] [] := by
 have hM := Mem.begin C [.dat (ptrRep DawgRep) b5 [vP b6 o7], .dat (ptrRep DawgRep) a1 [vP b2 o3]] ⟨hp8, hp4, trivial⟩
 refine enter Tryz.func34 rfl Tryz.ntmps34 rfl fun a hf => ?_
 unfold m_spec_l06Same at h
 refine wp_seq ?_
 refine region_pl ?_
 refine q_ hf rfl rfl rfl (e_assign hf rfl) fun a hf => ?_
 refine pl_nil ?_
 refine then_n ?_
 iterate 2 refine wp_seq ?_
 obtain ⟨w9, hw⟩ : ∃ x, x = C.w0.drew := ⟨_, rfl⟩
 refine region_pi (.q 0 (.q 1 (.q 2 (.q 3 (.q 4 (.q 5 (.q 6 (.q 7 (.q 8 (.q 9 (.q 10 (.nil)))))))))))) (Ext w9) rfl (by kernel_rfl) ?_
 have hM := hM.drew
 rw [← hw] at hM ⊢
 clear hw
 refine pi_q hf rfl rfl rfl rfl (Ext.refl _) (e_move hf rfl) fun a hf => ?_
 refine pi_q hf rfl rfl rfl rfl (Ext.refl _) (e_nil hf rfl) fun a hf => ?_
 obtain ⟨_, hr10, hM⟩ := hM.deref (hM.dat (k := 1) rfl)
 obtain ⟨A11, c12, rfl, hv13⟩ := DawgRep_open hr10
 have hM := hM.add (y := .dat (sliceRep NodeRep) a1.Nodes [vL A11 a1.Nodes c12]) hv13
 refine pi_q hf rfl rfl rfl rfl (Ext.refl _) (e_field hf rfl Tryz.underlying26 rfl Tryz.sizeOf24 (o' := o3 + 0) rfl) fun a hf => ?_
 refine pi_q hf rfl rfl rfl rfl (Ext.refl _) (e_load1 hf rfl Tryz.isAgg24 (hM.litCell (k := 1) (j := 0) rfl rfl rfl)) fun a hf => ?_
 have hl14 := slice_len (hM.dat (k := 0) rfl)
 refine pi_q hf rfl rfl rfl rfl (Ext.refl _) (e_lenL hf (x := a1.Nodes) rfl Tryz.underlying24) fun a hf => ?_
 refine pi_q hf rfl rfl rfl rfl (Ext.refl _) (e_move hf rfl) fun a hf => ?_
 refine pi_q hf rfl rfl rfl rfl (Ext.refl _) (e_nil hf rfl) fun a hf => ?_
 obtain ⟨_, hr15, hM⟩ := hM.deref (hM.dat (k := 2) rfl)
 obtain ⟨A16, c17, rfl, hv18⟩ := DawgRep_open hr15
 have hM := hM.add (y := .dat (sliceRep NodeRep) b5.Nodes [vL A16 b5.Nodes c17]) hv18
 refine pi_q hf rfl rfl rfl rfl (Ext.refl _) (e_field hf rfl Tryz.underlying26 rfl Tryz.sizeOf24 (o' := o7 + 0) rfl) fun a hf => ?_
 refine pi_q hf rfl rfl rfl rfl (Ext.refl _) (e_load1 hf rfl Tryz.isAgg24 (hM.litCell (k := 1) (j := 0) rfl rfl rfl)) fun a hf => ?_
 have hl19 := slice_len (hM.dat (k := 0) rfl)
 refine pi_q hf rfl rfl rfl rfl (Ext.refl _) (e_lenL hf (x := b5.Nodes) rfl Tryz.underlying24) fun a hf => ?_
 refine pi_q hf rfl rfl rfl rfl (Ext.refl _) (e_ne hf (x := (a1.Nodes.length : Int)) (y := (b5.Nodes.length : Int)) rfl rfl) fun a hf => ?_
 refine pi_nil ?_
 refine then_n ?_
 rcases cond_some h with ⟨hc20, h⟩ | ⟨hc20, h⟩
 ·refine cond_t hf rfl hc20 ?_
  refine wp_seq ?_
  refine region_pl ?_
  refine q_ hf rfl rfl rfl (e_assign hf rfl) fun a hf => ?_
  refine pl_nil ?_
  refine then_n ?_
  refine wp_ret ?_
  refine then_r ?_
  obtain rfl := some_inj h
  exact leave1 hf rfl rfl ⟨rfl, hM.fin⟩
 refine cond_f hf rfl hc20 ?_
 refine wp_skip ?_
 refine then_n ?_
 obtain ⟨x21, h22, h⟩ := bind_some h
 refine seq_join (fun a w => (.inl ()) = x21 ∧ Has 40 a [] ∧ Mem C w [] [.dat (sliceRep NodeRep) b5.Nodes [vL A16 b5.Nodes c17], .lit b6 (o7) [vL A16 (b5.Nodes) c17], .dat (sliceRep NodeRep) a1.Nodes [vL A11 a1.Nodes c12], .lit b2 (o3) [vL A11 (a1.Nodes) c12], .dat (ptrRep DawgRep) b5 [vP b6 o7], .dat (ptrRep DawgRep) a1 [vP b2 o3]]) ?_ ?_
 ·refine wp_seq ?_
  refine region_pl ?_
  refine q_ hf rfl rfl rfl (e_assign hf rfl) fun a hf => ?_
  refine pl_nil ?_
  refine then_n ?_
  refine wp_block ?_
  obtain ⟨x26, h27, h22⟩ := bind_some h22
  refine wp_loopM h27 (fun s a w => ∃ (n23 : Int), n23 = s ∧ Has 40 a [(0, vP b2 (o3)), (1, vP b6 (o7)), (5, vI (n23))] ∧ Mem C w [] [.dat (sliceRep NodeRep) b5.Nodes [vL A16 b5.Nodes c17], .lit b6 (o7) [vL A16 (b5.Nodes) c17], .dat (sliceRep NodeRep) a1.Nodes [vL A11 a1.Nodes c12], .lit b2 (o3) [vL A11 (a1.Nodes) c12], .dat (ptrRep DawgRep) b5 [vP b6 o7], .dat (ptrRep DawgRep) a1 [vP b2 o3]] ∧ R64 n23) ?_ ?_
  ·exact ⟨0, rfl, hf.keep ⟨rfl, rfl, rfl, trivial⟩, hM.pick [0, 1, 2, 3, 4, 5] rfl, (R64_lit rfl)⟩
  rintro s o28 a w25 ⟨n23, rfl, hf, hM, hv24⟩ h29 hd30
  replace h29 : m_spec_l06Same_l1 a1 b5 n23 = some o28 := h29
  unfold m_spec_l06Same_l1 at h29
  iterate 2 refine wp_seq ?_
  refine region_pl ?_
  iterate 2 refine q_ hf rfl rfl rfl (e_move hf rfl) fun a hf => ?_
  refine q_ hf rfl rfl rfl (e_nil hf rfl) fun a hf => ?_
  refine q_ hf rfl rfl rfl (e_field hf rfl Tryz.underlying26 rfl Tryz.sizeOf24 (o' := o3 + 0) rfl) fun a hf => ?_
  refine q_ hf rfl rfl rfl (e_load1 hf rfl Tryz.isAgg24 (hM.litCell (k := 3) (j := 0) rfl rfl rfl)) fun a hf => ?_
  have hl31 := slice_len (hM.dat (k := 2) rfl)
  refine q_ hf rfl rfl rfl (e_lenL hf (x := a1.Nodes) rfl Tryz.underlying24) fun a hf => ?_
  refine q_ hf rfl rfl rfl (e_lt hf (x := n23) (y := (a1.Nodes.length : Int)) rfl rfl) fun a hf => ?_
  refine pl_nil ?_
  refine then_n ?_
  rcases cond_some h29 with ⟨hc32, h29⟩ | ⟨hc32, h29⟩
  ·refine cond_t hf rfl hc32 ?_
   refine wp_skip ?_
   refine then_n ?_
   refine wp_seq ?_
   refine wp_block ?_
   refine wp_seq ?_
   obtain ⟨w33, hw⟩ : ∃ x, x = w25.drew := ⟨_, rfl⟩
   refine region_pi (.q 0 (.q 1 (.q 2 (.q 3 (.q 4 (.q 5 (.q 6 (.q 7 (.q 8 (.q 9 (.q 10 (.q 11 (.l 12 (.q 13 (.nil))))))))))))))) (Ext w33) rfl (by kernel_rfl) ?_
   have hM := hM.drew
   rw [← hw] at hM ⊢
   clear hw
   refine pi_q hf rfl rfl rfl rfl (Ext.refl _) (e_move hf rfl) fun a hf => ?_
   refine pi_q hf rfl rfl rfl rfl (Ext.refl _) (e_nil hf rfl) fun a hf => ?_
   refine pi_q hf rfl rfl rfl rfl (Ext.refl _) (e_field hf rfl Tryz.underlying26 rfl Tryz.sizeOf24 (o' := o3 + 0) rfl) fun a hf => ?_
   refine pi_q hf rfl rfl rfl rfl (Ext.refl _) (e_load1 hf rfl Tryz.isAgg24 (hM.litCell (k := 3) (j := 0) rfl rfl rfl)) fun a hf => ?_
   refine pi_q hf rfl rfl rfl rfl (Ext.refl _) (e_move hf rfl) fun a hf => ?_
   obtain ⟨e34, hz35, h29⟩ := bind_some h29
   obtain ⟨b39, o40, _, hA41, h36, h37, hr38, hM⟩ := hM.elem (hM.dat (k := 2) rfl) (n := 3) rfl hz35
   obtain ⟨A43, c44, rfl, hv42, hv45⟩ := NodeRep_open hr38
   have hM := hM.add (y := .dat (sliceRep intRep) e34.Next [vL A43 e34.Next c44]) hv45
   refine pi_q hf rfl rfl rfl rfl (Ext.refl _) (e_indexAddr (A := A11) (b := b39) (o := o40) (xs := a1.Nodes) (i := n23) hf hA41 rfl rfl Tryz.underlying24 Tryz.sizeOf79 h36 h37) fun a hf => ?_
   refine pi_q hf rfl rfl rfl rfl (Ext.refl _) (e_move hf rfl) fun a hf => ?_
   refine pi_q hf rfl rfl rfl rfl (Ext.refl _) (e_nil hf rfl) fun a hf => ?_
   refine pi_q hf rfl rfl rfl rfl (Ext.refl _) (e_field hf rfl Tryz.underlying26 rfl Tryz.sizeOf24 (o' := o7 + 0) rfl) fun a hf => ?_
   refine pi_q hf rfl rfl rfl rfl (Ext.refl _) (e_load1 hf rfl Tryz.isAgg24 (hM.litCell (k := 3) (j := 0) rfl rfl rfl)) fun a hf => ?_
   refine pi_q hf rfl rfl rfl rfl (Ext.refl _) (e_move hf rfl) fun a hf => ?_
   obtain ⟨e46, hz47, h29⟩ := bind_some h29
   obtain ⟨b51, o52, _, hA53, h48, h49, hr50, hM⟩ := hM.elem (hM.dat (k := 2) rfl) (n := 3) rfl hz47
   obtain ⟨A55, c56, rfl, hv54, hv57⟩ := NodeRep_open hr50
   have hM := hM.add (y := .dat (sliceRep intRep) e46.Next [vL A55 e46.Next c56]) hv57
   refine pi_q hf rfl rfl rfl rfl (Ext.refl _) (e_indexAddr (A := A16) (b := b51) (o := o52) (xs := b5.Nodes) (i := n23) hf hA53 rfl rfl Tryz.underlying24 Tryz.sizeOf79 h48 h49) fun a hf => ?_
   refine pi_one ?_
   obtain ⟨y58, hz59, h29⟩ := bind_some h29
   refine pi_l hf rfl rfl rfl rfl (w_call hf Tryz.call59 rfl (r_spec_l06Equal ⟨_, Sh C _ _, none_, hM.sh_lt, none_not, C.G, hM.g_lt, g_none, hM.tabs⟩ e34 _ _ (hM.litPtr (k := 3) (d := 0) (us := [.bool (e34.Final), vS (e34.Letters), vL A43 (e34.Next) c44]) rfl rfl rfl (NodeRep_mk (x := e34) hv42 (hM.dat (k := 2) rfl))) e46 _ _ (hM.litPtr (k := 1) (d := 0) (us := [.bool (e46.Final), vS (e46.Letters), vL A55 (e46.Next) c56]) rfl rfl rfl (NodeRep_mk (x := e46) hv54 (hM.dat (k := 0) rfl))) _ hz59) ?_)
   rintro _ w60 ⟨rfl, hM2⟩
   obtain ⟨hM, hx61, hup62⟩ := hM.back hM2
   dsimp only [List.cons_append, List.nil_append] at hM hup62
   clear hM2
   refine ⟨_, rfl, Ext w60, fun _ h => Ext.trans hx61 h, Ext.refl _, fun a hf => ?_⟩
   refine pi_q hf rfl rfl rfl rfl (Ext.refl _) (e_not hf rfl) fun a hf => ?_
   refine pi_nil ?_
   refine then_n ?_
   rcases cond_some h29 with ⟨hc63, h29⟩ | ⟨hc63, h29⟩
   ·refine cond_t hf rfl hc63 ?_
    refine wp_seq ?_
    refine region_pl ?_
    refine q_ hf rfl rfl rfl (e_assign hf rfl) fun a hf => ?_
    refine pl_nil ?_
    refine then_n ?_
    refine wp_ret ?_
    refine blk_r ?_
    refine then_r ?_
    obtain rfl := some_inj h29
    obtain rfl := hd30 _ rfl
    try dsimp only at h22
    refine then_r ?_
    refine blk_r ?_
    obtain rfl := some_inj h22
    try dsimp only at h
    refine then_r ?_
    obtain rfl := some_inj h
    exact leave1 hf rfl rfl ⟨rfl, hM.fin⟩
   refine cond_f hf rfl hc63 ?_
   refine wp_skip ?_
   refine blk_n ?_
   refine then_n ?_
   refine region_pl ?_
   refine q_ hf rfl rfl rfl (e_move hf rfl) fun a hf => ?_
   obtain ⟨z64, hz65, h29⟩ := bind_some h29
   refine q_ hf rfl rfl rfl (e_add hf rfl rfl hz65) fun a hf => ?_
   refine q_ hf rfl rfl rfl (e_assign hf rfl) fun a hf => ?_
   refine pl_nil ?_
   obtain rfl := some_inj h29
   refine then_n ⟨_, rfl, ?_⟩
   exact ⟨z64, rfl, hf.keep ⟨rfl, rfl, rfl, trivial⟩, hM.pick [4, 5, 6, 7, 8, 9] rfl, (chk_R hz65)⟩
  refine cond_f hf rfl hc32 ?_
  refine wp_exit ?_
  refine then_x ?_
  obtain rfl := some_inj h29
  obtain rfl := hd30 _ rfl
  try dsimp only at h22
  refine then_x ?_
  refine exit_hit ?_
  obtain rfl := some_inj h22
  refine then_n ?_
  exact ⟨rfl, hf.keep trivial, hM.pick [0, 1, 2, 3, 4, 5] rfl⟩
 rintro a w72 ⟨rfl, hf, hM⟩
 try dsimp only at h
 refine wp_seq ?_
 refine region_pl ?_
 refine q_ hf rfl rfl rfl (e_assign hf rfl) fun a hf => ?_
 refine pl_nil ?_
 refine then_n ?_
 refine wp_ret ?_
 obtain rfl := some_inj h
 exact leave1 hf rfl rfl ⟨rfl, hM.fin⟩
theorem r_spec_l06Ok (C : Cx) (d1 : Dawg) (b2 : Nat) (o3 : Nat) (hp4 : (ptrRep DawgRep).R C.w0 C.S0 d1 [vP b2 o3]) (r : Bool) (h : m_spec_l06Ok d1 = some r) :
    Calls Tryz.prog 29 #[vP b2 (o3)] C.w0 fun e w => e = .returned (.bool (r)) ∧ Mem C w [] [] := by
 have hM := Mem.begin C [.dat (ptrRep DawgRep) d1 [vP b2 o3]] ⟨hp4, trivial⟩
 refine enter Tryz.func29 rfl Tryz.ntmps29 rfl fun a hf => ?_
 unfold m_spec_l06Ok at h
 refine wp_seq ?_
 refine region_pl ?_
 refine q_ hf rfl rfl rfl (e_assign hf rfl) fun a hf => ?_
 refine pl_nil ?_
 refine then_n ?_
 refine wp_seq ?_
 obtain ⟨x7, h8, h⟩ := bind_some h
 refine seq_join (fun a w => ∃ (t5 : Bool), t5 = x7 ∧ Has 34 a [(0, vP b2 (o3)), (22, .bool (t5))] ∧ Mem C w [] [.dat (ptrRep DawgRep) d1 [vP b2 o3]]) ?_ ?_
 ·refine region_pl ?_
  refine q_ hf rfl rfl rfl (e_move hf rfl) fun a hf => ?_
  obtain ⟨y9, hz10, h8⟩ := bind_some h8
  refine pl_l hf rfl rfl rfl (w_call hf Tryz.call51 rfl (r_spec_l06Shape ⟨_, Sh C _ _, none_, hM.sh_lt, none_not, C.G, hM.g_lt, g_none, hM.tabs⟩ d1 _ _ (hM.dat (k := 0) rfl) _ hz10) ?_)
  rintro _ w11 ⟨rfl, hM2⟩
  obtain ⟨hM, hx12, hup13⟩ := hM.back hM2
  dsimp only [List.cons_append, List.nil_append] at hM hup13
  clear hM2
  refine ⟨_, rfl, fun a hf => ?_⟩
  refine q_ hf rfl rfl rfl (e_not hf rfl) fun a hf => ?_
  refine q_ hf rfl rfl rfl (e_move hf rfl) fun a hf => ?_
  rcases cond_some h8 with ⟨hc14, h8⟩ | ⟨hc14, h8⟩
  ·iterate 7 refine pl_gs (wanted_f hf rfl rfl rfl rfl hc14) hf rfl rfl fun a hf => ?_
   refine q_ hf rfl rfl rfl (e_pick_t hf rfl hc14 rfl) fun a hf => ?_
   refine q_ hf rfl rfl rfl (e_move hf rfl) fun a hf => ?_
   iterate 3 refine pl_gs (wanted_f hf rfl rfl rfl rfl rfl) hf rfl rfl fun a hf => ?_
   refine q_ hf rfl rfl rfl (e_pick_t hf rfl rfl rfl) fun a hf => ?_
   refine pl_nil ?_
   obtain rfl := some_inj h8
   refine then_n ?_
   exact ⟨true, rfl, hf.keep ⟨rfl, rfl, trivial⟩, hM.pick [0] rfl⟩
  refine gq (wanted_t hf rfl rfl rfl rfl hc14) hf rfl rfl (e_move hf rfl) fun a hf => ?_
  refine gq (wanted_t hf rfl rfl rfl rfl hc14) hf rfl rfl (e_nil hf rfl) fun a hf => ?_
  obtain ⟨_, hr16, hM⟩ := hM.deref (hM.dat (k := 0) rfl)
  obtain ⟨A17, c18, rfl, hv19⟩ := DawgRep_open hr16
  have hM := hM.add (y := .dat (sliceRep NodeRep) d1.Nodes [vL A17 d1.Nodes c18]) hv19
  refine gq (wanted_t hf rfl rfl rfl rfl hc14) hf rfl rfl (e_field hf rfl Tryz.underlying26 rfl Tryz.sizeOf24 (o' := o3 + 0) rfl) fun a hf => ?_
  refine gq (wanted_t hf rfl rfl rfl rfl hc14) hf rfl rfl (e_load1 hf rfl Tryz.isAgg24 (hM.litCell (k := 1) (j := 0) rfl rfl rfl)) fun a hf => ?_
  obtain ⟨e20, hz21, h8⟩ := bind_some h8
  obtain ⟨b25, o26, _, hA27, h22, h23, hr24, hM⟩ := hM.elem (hM.dat (k := 0) rfl) (n := 3) rfl hz21
  obtain ⟨A29, c30, rfl, hv28, hv31⟩ := NodeRep_open hr24
  have hM := hM.add (y := .dat (sliceRep intRep) e20.Next [vL A29 e20.Next c30]) hv31
  refine gq (wanted_t hf rfl rfl rfl rfl hc14) hf rfl rfl (e_indexAddr (A := A17) (b := b25) (o := o26) (xs := d1.Nodes) (i := 0) hf hA27 rfl rfl Tryz.underlying24 Tryz.sizeOf79 h22 h23) fun a hf => ?_
  refine gq (wanted_t hf rfl rfl rfl rfl hc14) hf rfl rfl (e_field hf rfl Tryz.underlying79 rfl Tryz.sizeOf4 (o' := (o26 + (0 : Int).toNat * 3) + 0) rfl) fun a hf => ?_
  refine gq (wanted_t hf rfl rfl rfl rfl hc14) hf rfl rfl (e_load1 hf rfl Tryz.isAgg4 (hM.litCell (k := 1) (j := 0) rfl rfl rfl)) fun a hf => ?_
  refine q_ hf rfl rfl rfl (e_pick_f hf rfl hc14 rfl) fun a hf => ?_
  refine q_ hf rfl rfl rfl (e_move hf rfl) fun a hf => ?_
  rcases cond_some h8 with ⟨hc32, h8⟩ | ⟨hc32, h8⟩
  ·iterate 3 refine pl_gs (wanted_f hf rfl rfl rfl rfl hc32) hf rfl rfl fun a hf => ?_
   refine q_ hf rfl rfl rfl (e_pick_t hf rfl hc32 rfl) fun a hf => ?_
   refine pl_nil ?_
   obtain rfl := some_inj h8
   refine then_n ?_
   exact ⟨true, rfl, hf.keep ⟨rfl, rfl, trivial⟩, hM.pick [4] rfl⟩
  refine gq (wanted_t hf rfl rfl rfl rfl hc32) hf rfl rfl (e_move hf rfl) fun a hf => ?_
  obtain ⟨y34, hz35, h8⟩ := bind_some h8
  refine pl_gl (wanted_t hf rfl rfl rfl rfl hc32) hf rfl rfl (w_call hf Tryz.call52 rfl (r_spec_l06Useful ⟨_, Sh C _ _, none_, hM.sh_lt, none_not, C.G, hM.g_lt, g_none, hM.tabs⟩ d1 _ _ (hM.dat (k := 4) rfl) _ hz35) ?_)
  rintro _ w36 ⟨rfl, hM2⟩
  obtain ⟨hM, hx37, hup38⟩ := hM.back hM2
  dsimp only [List.cons_append, List.nil_append] at hM hup38
  clear hM2
  refine ⟨_, rfl, fun a hf => ?_⟩
  refine gq (wanted_t hf rfl rfl rfl rfl hc32) hf rfl rfl (e_not hf rfl) fun a hf => ?_
  refine q_ hf rfl rfl rfl (e_pick_f hf rfl hc32 rfl) fun a hf => ?_
  refine pl_nil ?_
  obtain rfl := some_inj h8
  refine then_n ?_
  exact ⟨(!y34), rfl, hf.keep ⟨rfl, rfl, trivial⟩, hM.pick [4] rfl⟩
 rintro a w40 ⟨t5, rfl, hf, hM⟩
 try dsimp only at h
 rcases cond_some h with ⟨hc41, h⟩ | ⟨hc41, h⟩
 ·refine cond_t hf rfl hc41 ?_
  refine wp_seq ?_
  refine region_pl ?_
  refine q_ hf rfl rfl rfl (e_assign hf rfl) fun a hf => ?_
  refine pl_nil ?_
  refine then_n ?_
  refine wp_ret ?_
  refine then_r ?_
  obtain rfl := some_inj h
  exact leave1 hf rfl rfl ⟨rfl, hM.fin⟩
 refine cond_f hf rfl hc41 ?_
 refine wp_skip ?_
 refine then_n ?_
 refine wp_seq ?_
 refine region_pl ?_
 refine q_ hf rfl rfl rfl (e_move hf rfl) fun a hf => ?_
 obtain ⟨y42, hz43, h⟩ := bind_some h
 refine pl_l hf rfl rfl rfl (w_call hf Tryz.call30 rfl (r_spec_l06Words ⟨_, Sh C _ _, none_, hM.sh_lt, none_not, C.G, hM.g_lt, g_none, hM.tabs⟩ d1 _ _ (hM.dat (k := 0) rfl) _ hz43) ?_)
 rintro _ w46 ⟨A44, c45, rfl, hM2⟩
 obtain ⟨hM, hx47, hup48⟩ := hM.back hM2
 dsimp only [List.cons_append, List.nil_append] at hM hup48
 clear hM2
 refine ⟨_, rfl, fun a hf => ?_⟩
 refine q_ hf rfl rfl rfl (e_move hf rfl) fun a hf => ?_
 iterate 2 refine q_ hf rfl rfl rfl (e_extract hf rfl rfl) fun a hf => ?_
 iterate 2 refine q_ hf rfl rfl rfl (e_assign hf rfl) fun a hf => ?_
 refine pl_nil ?_
 refine then_n ?_
 iterate 2 refine wp_seq ?_
 refine region_pl ?_
 refine q_ hf rfl rfl rfl (e_move hf rfl) fun a hf => ?_
 refine q_ hf rfl rfl rfl (e_not hf rfl) fun a hf => ?_
 refine pl_nil ?_
 refine then_n ?_
 rcases cond_some h with ⟨hc49, h⟩ | ⟨hc49, h⟩
 ·refine cond_t hf rfl hc49 ?_
  refine wp_seq ?_
  refine region_pl ?_
  refine q_ hf rfl rfl rfl (e_assign hf rfl) fun a hf => ?_
  refine pl_nil ?_
  refine then_n ?_
  refine wp_ret ?_
  refine then_r ?_
  obtain rfl := some_inj h
  have hM := hM.outs (own' := []) 0 rfl
  exact leave1 hf rfl rfl ⟨rfl, hM.fin⟩
 refine cond_f hf rfl hc49 ?_
 refine wp_skip ?_
 refine then_n ?_
 refine wp_seq ?_
 refine region_pl ?_
 refine q_ hf rfl rfl rfl (e_move hf rfl) fun a hf => ?_
 have hM := hM.freezeRow (k := 0) rfl rfl
 dsimp only [List.eraseIdx] at hM
 obtain ⟨y50, hz51, h⟩ := bind_some h
 refine pl_l hf rfl rfl rfl (w_call hf Tryz.call45 rfl (r_spec_l06Build ⟨_, Sh C _ _, none_, hM.sh_lt, none_not, C.G, hM.g_lt, g_none, hM.tabs⟩ y42.1 _ _ (hM.dat (k := 0) rfl) _ hz51) ?_)
 rintro _ w55 ⟨A52, c53, rfl, hM2, hv54⟩
 obtain ⟨hM, hx56, hup57⟩ := hM.back hM2
 dsimp only [List.cons_append, List.nil_append] at hM hup57
 clear hM2
 have hM := hM.add (y := .dat (sliceRep NodeRep) y50.Nodes [vL A52 y50.Nodes c53]) (hup57 hv54)
 refine ⟨_, rfl, fun a hf => ?_⟩
 refine pl_l hf rfl rfl rfl (w_alloc hM (cs := [vL none (([] : (List Node))) 0]) Tryz.zeroValue26 rfl fun b58 w59 hx60 hM a hf => ?_)
 refine pl_0 hf rfl rfl (w_store hf hM (us := [vL A52 (y50.Nodes) c53]) (cs' := [vL A52 (y50.Nodes) c53]) rfl rfl (k := 0) rfl rfl Tryz.sizeOf26 rfl rfl rfl fun w62 hM => ?_)
 dsimp only [List.set] at hM
 refine pl_nil ?_
 refine then_n ?_
 refine wp_seq ?_
 refine region_pl ?_
 refine q_ hf rfl rfl rfl (e_move hf rfl) fun a hf => ?_
 obtain ⟨y65, hz66, h⟩ := bind_some h
 refine pl_l hf rfl rfl rfl (w_call hf Tryz.call34 rfl (r_spec_l06Same ⟨_, All C _ _, none_, hM.all_lt, none_not, C.G, hM.g_lt, g_none, hM.tabs⟩ d1 _ _ (hM.lendDat (k := 2) rfl) y50 _ _ (hM.lendBox (k := 0) rfl (DawgRep_mk (x := y50) (hM.lendDat (k := 0) rfl))) _ hz66) ?_)
 rintro _ w67 ⟨rfl, hM2⟩
 obtain ⟨hM, hx68⟩ := hM.backA hM2
 clear hM2
 refine ⟨_, rfl, fun a hf => ?_⟩
 refine q_ hf rfl rfl rfl (e_assign hf rfl) fun a hf => ?_
 refine pl_nil ?_
 refine then_n ?_
 refine wp_ret ?_
 obtain rfl := some_inj h
 have hM := hM.outs (own' := []) 0 rfl
 exact leave1 hf rfl rfl ⟨rfl, hM.fin⟩
theorem r_spec_WordsOf (C : Cx) (d1 : Dawg) (A2 : Option Addr) (c3 : Nat) (hp4 : (sliceRep NodeRep).R C.w0 C.S0 d1.Nodes [vL A2 d1.Nodes c3]) (r : ((List Str) × Int)) (h : m_spec_WordsOf d1 = some r) :
    Calls Tryz.prog 13 #[.agg #[vL A2 (d1.Nodes) c3]] C.w0 fun e w => ∃ (A_1 : Option Addr), ∃ (c_1 : Nat), e = .returned (.tuple #[vL A_1 (r.1) c_1, vI (r.2)]) ∧ Mem C w [.row strRep A_1 c_1 9 r.1 true] [] ∧ R64 r.2 := by
 have hM := Mem.begin C [.dat (sliceRep NodeRep) d1.Nodes [vL A2 d1.Nodes c3]] ⟨hp4, trivial⟩
 refine enter Tryz.func13 rfl Tryz.ntmps13 rfl fun a hf => ?_
 unfold m_spec_WordsOf at h
 refine wp_seq ?_
 refine region_pl ?_
 refine pl_l hf rfl rfl rfl (w_box hf hM (cs := [vL A2 (d1.Nodes) c3]) rfl rfl fun b5 w6 hx7 hM a hf => ?_)
 iterate 2 refine q_ hf rfl rfl rfl (e_assign hf rfl) fun a hf => ?_
 refine pl_nil ?_
 refine then_n ?_
 iterate 2 refine wp_seq ?_
 refine region_pl ?_
 obtain ⟨y9, hz10, h⟩ := bind_some h
 refine pl_l hf rfl rfl rfl (w_call hf Tryz.call29 rfl (r_spec_l06Ok ⟨_, All C _ _, none_, hM.all_lt, none_not, C.G, hM.g_lt, g_none, hM.tabs⟩ d1 _ _ (hM.lendBox (k := 0) rfl (DawgRep_mk (x := d1) (hM.lendDat (k := 0) rfl))) _ hz10) ?_)
 rintro _ w11 ⟨rfl, hM2⟩
 obtain ⟨hM, hx12⟩ := hM.backA hM2
 clear hM2
 refine ⟨_, rfl, fun a hf => ?_⟩
 refine q_ hf rfl rfl rfl (e_not hf rfl) fun a hf => ?_
 refine pl_nil ?_
 refine then_n ?_
 rcases cond_some h with ⟨hc14, h⟩ | ⟨hc14, h⟩
 ·refine cond_t hf rfl hc14 ?_
  refine wp_seq ?_
  refine region_pl ?_
  iterate 2 refine q_ hf rfl rfl rfl (e_assign hf rfl) fun a hf => ?_
  refine pl_nil ?_
  refine then_n ?_
  refine wp_ret ?_
  refine then_r ?_
  obtain rfl := some_inj h
  have hM := hM.nilRow strRep 9
  have hM := hM.outs (own' := [.row strRep none 0 9 ([] : (List Str)) true]) 1 rfl
  exact leave2 hf rfl rfl rfl ⟨none, 0, rfl, hM.fin, (R64_lit rfl)⟩
 refine cond_f hf rfl hc14 ?_
 refine wp_skip ?_
 refine then_n ?_
 refine wp_seq ?_
 refine region_pl ?_
 obtain ⟨y15, hz16, h⟩ := bind_some h
 refine pl_l hf rfl rfl rfl (w_call hf Tryz.call30 rfl (r_spec_l06Words ⟨_, All C _ _, none_, hM.all_lt, none_not, C.G, hM.g_lt, g_none, hM.tabs⟩ d1 _ _ (hM.lendBox (k := 0) rfl (DawgRep_mk (x := d1) (hM.lendDat (k := 0) rfl))) _ hz16) ?_)
 rintro _ w19 ⟨A17, c18, rfl, hM2⟩
 obtain ⟨hM, hx20⟩ := hM.backAF strRep_flat hM2
 clear hM2
 refine ⟨_, rfl, fun a hf => ?_⟩
 refine q_ hf rfl rfl rfl (e_move hf rfl) fun a hf => ?_
 iterate 2 refine q_ hf rfl rfl rfl (e_extract hf rfl rfl) fun a hf => ?_
 iterate 2 refine q_ hf rfl rfl rfl (e_assign hf rfl) fun a hf => ?_
 refine pl_nil ?_
 refine then_n ?_
 refine wp_seq ?_
 refine region_pl ?_
 refine q_ hf rfl rfl rfl (e_move hf rfl) fun a hf => ?_
 iterate 2 refine q_ hf rfl rfl rfl (e_assign hf rfl) fun a hf => ?_
 refine pl_nil ?_
 refine then_n ?_
 refine wp_ret ?_
 obtain rfl := some_inj h
 have hM := hM.outs (own' := [.row strRep A17 c18 9 y15.1 true]) 1 rfl
 exact leave2 hf rfl rfl rfl ⟨A17, c18, rfl, hM.fin, (R64_lit rfl)⟩
theorem r_slices_Reverse_byte_byte (C : Cx) (s1 : Str) (A2 : Option Addr) (c3 : Nat) (hO : Mem C C.w0 [.row byteRep A2 c3 5 s1 false] []) (hd : ∀ b, C.S0 b → ¬ ownB [.row byteRep A2 c3 5 s1 false] b) (r : Str) (h : m_slices_Reverse_byte_byte s1 = some r) :
    Calls Tryz.prog 54 #[vL A2 (s1) c3] C.w0 fun e w => e = .returned (.tuple #[]) ∧ Mem C w [.row byteRep A2 c3 5 r false] [] ∧ r.length = s1.length := by
 have hM := hO
 refine enter Tryz.func54 rfl Tryz.ntmps54 rfl fun a hf => ?_
 unfold m_slices_Reverse_byte_byte at h
 refine wp_seq ?_
 refine region_pl ?_
 refine q_ hf rfl rfl rfl (e_move hf rfl) fun a hf => ?_
 have hl4 := row_len (hM.ownAt (k := 0) rfl)
 refine q_ hf rfl rfl rfl (e_lenL hf (x := s1) rfl Tryz.underlying22) fun a hf => ?_
 obtain ⟨z5, hz6, h⟩ := bind_some h
 refine q_ hf rfl rfl rfl (e_sub hf rfl rfl hz6) fun a hf => ?_
 iterate 2 refine q_ hf rfl rfl rfl (e_assign hf rfl) fun a hf => ?_
 refine pl_nil ?_
 refine then_n ?_
 refine wp_block ?_
 obtain ⟨x16, h17, h⟩ := bind_some h
 refine wp_loopM h17 (fun s a w => ∃ (xs7 : Str) (j9 : Int) (n11 : Int), (xs7, j9, n11) = s ∧ Has 28 a [(0, vL A2 (xs7) c3), (2, vI (j9)), (3, vI (n11))] ∧ Mem C w [.row byteRep A2 c3 5 xs7 false] [] ∧ xs7.length = s1.length ∧ R64 j9 ∧ R64 n11) ?_ ?_
 ·exact ⟨s1, 0, z5, rfl, hf.keep ⟨rfl, rfl, rfl, trivial⟩, hM.pick [] rfl, rfl, (R64_lit rfl), (chk_R hz6)⟩
 rintro s o18 a w13 ⟨xs7, j9, n11, rfl, hf, hM, hl8, hv10, hv12⟩ h19 hd20
 replace h19 : m_slices_Reverse_byte_byte_l1 xs7 j9 n11 = some o18 := h19
 unfold m_slices_Reverse_byte_byte_l1 at h19
 iterate 2 refine wp_seq ?_
 refine region_pl ?_
 iterate 2 refine q_ hf rfl rfl rfl (e_move hf rfl) fun a hf => ?_
 refine q_ hf rfl rfl rfl (e_lt hf (x := j9) (y := n11) rfl rfl) fun a hf => ?_
 refine pl_nil ?_
 refine then_n ?_
 rcases cond_some h19 with ⟨hc21, h19⟩ | ⟨hc21, h19⟩
 ·refine cond_t hf rfl hc21 ?_
  refine wp_skip ?_
  refine then_n ?_
  refine wp_seq ?_
  refine wp_block ?_
  obtain ⟨w22, hw⟩ : ∃ x, x = w13.drew := ⟨_, rfl⟩
  refine region_pi (.q 0 (.q 1 (.q 2 (.q 3 (.q 4 (.q 5 (.q 6 (.q 8 (.q 9 (.q 10 (.b 7 11 (.l 11 (.q 12 (.l 13 (.q 14 (.l 15 (.nil)))))) (.l 7 (.q 12 (.l 13 (.q 14 (.l 15 (.nil))))))))))))))))) (ExtM [A2.map (·.block)] w22) rfl (by kernel_rfl) ?_
  have hM := hM.drew
  rw [← hw] at hM ⊢
  clear hw
  iterate 6 refine pi_q hf rfl rfl rfl rfl (ExtM.refl _ _) (e_move hf rfl) fun a hf => ?_
  obtain ⟨e23, hz24, h19⟩ := bind_some h19
  obtain ⟨b29, _, hA30, h25, h26, hr27, hcell28⟩ := hM.rowElemN (k := 0) rfl (n := 1) rfl hz24
  obtain rfl : _ = _ := hr27
  refine pi_q hf rfl rfl rfl rfl (ExtM.refl _ _) (e_indexAddr (A := A2) (b := b29) (o := 0) (xs := xs7) (i := n11) hf hA30 rfl rfl Tryz.underlying22 Tryz.sizeOf5 h25 h26) fun a hf => ?_
  iterate 2 refine pi_q hf rfl rfl rfl rfl (ExtM.refl _ _) (e_move hf rfl) fun a hf => ?_
  obtain ⟨e31, hz32, h19⟩ := bind_some h19
  obtain ⟨b37, _, hA38, h33, h34, hr35, hcell36⟩ := hM.rowElemN (k := 0) rfl (n := 1) rfl hz32
  obtain rfl : _ = _ := hr35
  refine pi_q hf rfl rfl rfl rfl (ExtM.refl _ _) (e_indexAddr (A := A2) (b := b37) (o := 0) (xs := xs7) (i := j9) hf hA38 rfl rfl Tryz.underlying22 Tryz.sizeOf5 h33 h34) fun a hf => ?_
  refine pi_two ?_ ?_
  ·refine pi_l hf rfl rfl rfl rfl (Wv.of_run ((e_load1 hf rfl Tryz.isAgg5 (hcell28 0 _ rfl)) _ (Ext.refl _)) ⟨_, fun _ h => h, ExtM.refl _ _, fun a hf => ?_⟩)
   refine pi_one ?_
   refine pi_l hf rfl rfl rfl rfl (Wv.of_run ((e_load1 hf rfl Tryz.isAgg5 (hcell36 0 _ rfl)) _ (Ext.refl _)) ⟨_, fun _ h => h, ExtM.refl _ _, fun a hf => ?_⟩)
   obtain ⟨e39, hz40, h19⟩ := bind_some h19
   obtain ⟨b45, _, hA46, h41, h42, hr43, hcell44⟩ := hM.rowElemN (k := 0) rfl (n := 1) rfl hz40
   obtain rfl : _ = _ := hr43
   refine pi_q hf rfl rfl rfl rfl (ExtM.refl _ _) (e_indexAddr (A := A2) (b := b45) (o := 0) (xs := xs7) (i := j9) hf hA46 rfl rfl Tryz.underlying22 Tryz.sizeOf5 h41 h42) fun a hf => ?_
   refine pi_one ?_
   obtain ⟨xs48, hz49, h19⟩ := bind_some h19
   refine pi_l0 hf rfl rfl rfl (w_storeElemM hf (List.mem_of_getElem? (i := 0) rfl) hM (x := e23) (row := [vB (e23)]) (i := j9) rfl rfl rfl hA46 (k := 0) rfl rfl Tryz.sizeOf5 rfl hz49 fun w47 hxm50 hsz51 hM => ⟨Ext w47, fun _ h => ExtM.last hxm50 hsz51 h, Ext.refl _, ?_⟩)
   dsimp only [List.set] at hM
   have hf := hf.alter (d := 0) (v := vL A2 (xs48) c3) rfl (vL_len (setL_len hz49))
   have hf := hf.alter (d := 14) (v := vL A2 (xs48) c3) rfl (vL_len (setL_len hz49))
   have hf := hf.alter (d := 16) (v := vL A2 (xs48) c3) rfl (vL_len (setL_len hz49))
   have hf := hf.alter (d := 18) (v := vL A2 (xs48) c3) rfl (vL_len (setL_len hz49))
   have hf := hf.alter (d := 22) (v := vL A2 (xs48) c3) rfl (vL_len (setL_len hz49))
   obtain ⟨e52, hz53, h19⟩ := bind_some h19
   obtain ⟨b58, _, hA59, h54, h55, hr56, hcell57⟩ := hM.rowElemN (k := 0) rfl (n := 1) rfl hz53
   obtain rfl : _ = _ := hr56
   refine pi_q hf rfl rfl rfl rfl (Ext.refl _) (e_indexAddr (A := A2) (b := b58) (o := 0) (xs := xs48) (i := n11) hf hA59 rfl rfl Tryz.underlying22 Tryz.sizeOf5 h54 h55) fun a hf => ?_
   refine pi_one ?_
   obtain ⟨xs61, hz62, h19⟩ := bind_some h19
   refine pi_z0 hf rfl rfl rfl (by kernel_rfl) (w_storeElem hf hM (x := e31) (row := [vB (e31)]) (i := n11) rfl rfl rfl hA59 (k := 0) rfl rfl Tryz.sizeOf5 rfl hz62 fun w60 hM => ?_)
   dsimp only [List.set] at hM
   have hf := hf.alter (d := 0) (v := vL A2 (xs61) c3) rfl (vL_len (setL_len hz62))
   have hf := hf.alter (d := 14) (v := vL A2 (xs61) c3) rfl (vL_len (setL_len hz62))
   have hf := hf.alter (d := 16) (v := vL A2 (xs61) c3) rfl (vL_len (setL_len hz62))
   have hf := hf.alter (d := 18) (v := vL A2 (xs61) c3) rfl (vL_len (setL_len hz62))
   have hf := hf.alter (d := 22) (v := vL A2 (xs61) c3) rfl (vL_len (setL_len hz62))
   refine pi_nil ?_
   refine blk_n ?_
   refine then_n ?_
   refine region_pl ?_
   refine q_ hf rfl rfl rfl (e_move hf rfl) fun a hf => ?_
   obtain ⟨z65, hz66, h19⟩ := bind_some h19
   refine q_ hf rfl rfl rfl (e_add hf rfl rfl hz66) fun a hf => ?_
   refine q_ hf rfl rfl rfl (e_move hf rfl) fun a hf => ?_
   obtain ⟨z67, hz68, h19⟩ := bind_some h19
   refine q_ hf rfl rfl rfl (e_sub hf rfl rfl hz68) fun a hf => ?_
   iterate 2 refine q_ hf rfl rfl rfl (e_assign hf rfl) fun a hf => ?_
   refine pl_nil ?_
   obtain rfl := some_inj h19
   refine then_n ⟨_, rfl, ?_⟩
   exact ⟨xs61, z65, z67, rfl, hf.keep ⟨rfl, rfl, rfl, trivial⟩, hM.pick [] rfl, ((setL_len hz62).trans ((setL_len hz49).trans hl8)), (chk_R hz66), (chk_R hz68)⟩
  refine pi_l hf rfl rfl rfl rfl (Wv.of_run ((e_load1 hf rfl Tryz.isAgg5 (hcell36 0 _ rfl)) _ (Ext.refl _)) ⟨_, fun _ h => h, ExtM.refl _ _, fun a hf => ?_⟩)
  refine pi_one ?_
  refine pi_l hf rfl rfl rfl rfl (Wv.of_run ((e_load1 hf rfl Tryz.isAgg5 (hcell28 0 _ rfl)) _ (Ext.refl _)) ⟨_, fun _ h => h, ExtM.refl _ _, fun a hf => ?_⟩)
  obtain ⟨e70, hz71, h19⟩ := bind_some h19
  obtain ⟨b76, _, hA77, h72, h73, hr74, hcell75⟩ := hM.rowElemN (k := 0) rfl (n := 1) rfl hz71
  obtain rfl : _ = _ := hr74
  refine pi_q hf rfl rfl rfl rfl (ExtM.refl _ _) (e_indexAddr (A := A2) (b := b76) (o := 0) (xs := xs7) (i := j9) hf hA77 rfl rfl Tryz.underlying22 Tryz.sizeOf5 h72 h73) fun a hf => ?_
  refine pi_one ?_
  obtain ⟨xs79, hz80, h19⟩ := bind_some h19
  refine pi_l0 hf rfl rfl rfl (w_storeElemM hf (List.mem_of_getElem? (i := 0) rfl) hM (x := e23) (row := [vB (e23)]) (i := j9) rfl rfl rfl hA77 (k := 0) rfl rfl Tryz.sizeOf5 rfl hz80 fun w78 hxm81 hsz82 hM => ⟨Ext w78, fun _ h => ExtM.last hxm81 hsz82 h, Ext.refl _, ?_⟩)
  dsimp only [List.set] at hM
  have hf := hf.alter (d := 0) (v := vL A2 (xs79) c3) rfl (vL_len (setL_len hz80))
  have hf := hf.alter (d := 14) (v := vL A2 (xs79) c3) rfl (vL_len (setL_len hz80))
  have hf := hf.alter (d := 16) (v := vL A2 (xs79) c3) rfl (vL_len (setL_len hz80))
  have hf := hf.alter (d := 18) (v := vL A2 (xs79) c3) rfl (vL_len (setL_len hz80))
  have hf := hf.alter (d := 22) (v := vL A2 (xs79) c3) rfl (vL_len (setL_len hz80))
  obtain ⟨e83, hz84, h19⟩ := bind_some h19
  obtain ⟨b89, _, hA90, h85, h86, hr87, hcell88⟩ := hM.rowElemN (k := 0) rfl (n := 1) rfl hz84
  obtain rfl : _ = _ := hr87
  refine pi_q hf rfl rfl rfl rfl (Ext.refl _) (e_indexAddr (A := A2) (b := b89) (o := 0) (xs := xs79) (i := n11) hf hA90 rfl rfl Tryz.underlying22 Tryz.sizeOf5 h85 h86) fun a hf => ?_
  refine pi_one ?_
  obtain ⟨xs92, hz93, h19⟩ := bind_some h19
  refine pi_z0 hf rfl rfl rfl (by kernel_rfl) (w_storeElem hf hM (x := e31) (row := [vB (e31)]) (i := n11) rfl rfl rfl hA90 (k := 0) rfl rfl Tryz.sizeOf5 rfl hz93 fun w91 hM => ?_)
  dsimp only [List.set] at hM
  have hf := hf.alter (d := 0) (v := vL A2 (xs92) c3) rfl (vL_len (setL_len hz93))
  have hf := hf.alter (d := 14) (v := vL A2 (xs92) c3) rfl (vL_len (setL_len hz93))
  have hf := hf.alter (d := 16) (v := vL A2 (xs92) c3) rfl (vL_len (setL_len hz93))
  have hf := hf.alter (d := 18) (v := vL A2 (xs92) c3) rfl (vL_len (setL_len hz93))
  have hf := hf.alter (d := 22) (v := vL A2 (xs92) c3) rfl (vL_len (setL_len hz93))
  refine pi_nil ?_
  refine blk_n ?_
  refine then_n ?_
  refine region_pl ?_
  refine q_ hf rfl rfl rfl (e_move hf rfl) fun a hf => ?_
  obtain ⟨z96, hz97, h19⟩ := bind_some h19
  refine q_ hf rfl rfl rfl (e_add hf rfl rfl hz97) fun a hf => ?_
  refine q_ hf rfl rfl rfl (e_move hf rfl) fun a hf => ?_
  obtain ⟨z98, hz99, h19⟩ := bind_some h19
  refine q_ hf rfl rfl rfl (e_sub hf rfl rfl hz99) fun a hf => ?_
  iterate 2 refine q_ hf rfl rfl rfl (e_assign hf rfl) fun a hf => ?_
  refine pl_nil ?_
  obtain rfl := some_inj h19
  refine then_n ⟨_, rfl, ?_⟩
  exact ⟨xs92, z96, z98, rfl, hf.keep ⟨rfl, rfl, rfl, trivial⟩, hM.pick [] rfl, ((setL_len hz93).trans ((setL_len hz80).trans hl8)), (chk_R hz97), (chk_R hz99)⟩
 refine cond_f hf rfl hc21 ?_
 refine wp_exit ?_
 refine then_x ?_
 obtain rfl := some_inj h19
 obtain rfl := hd20 _ rfl
 try dsimp only at h
 refine then_x ?_
 refine exit_hit ?_
 obtain rfl := some_inj h
 exact leave0n hf rfl ⟨rfl, hM.fin, hl8⟩
theorem r_impl_reversed (C : Cx) (s1 : Str) (hp2 : s1.length ≤ maxLen) (r : Str) (h : m_impl_reversed s1 = some r) :
    Calls Tryz.prog 31 #[vS (s1)] C.w0 fun e w => e = .returned (vS (r)) ∧ Mem C w [] [] ∧ r.length ≤ maxLen := by
 have hM := Mem.begin C [] trivial
 refine enter Tryz.func31 rfl Tryz.ntmps31 rfl fun a hf => ?_
 unfold m_impl_reversed at h
 refine wp_seq ?_
 refine region_pl ?_
 refine q_ hf rfl rfl rfl (e_assign hf rfl) fun a hf => ?_
 refine pl_nil ?_
 refine then_n ?_
 refine wp_seq ?_
 refine region_pl ?_
 refine q_ hf rfl rfl rfl (e_move hf rfl) fun a hf => ?_
 refine pl_l hf rfl rfl rfl (w_bytes hf hM (x := s1) rfl Tryz.underlying9 Tryz.underlying22 Tryz.underlying5 hp2 fun A3 c4 w5 hx6 hM a hf => ?_)
 refine q_ hf rfl rfl rfl (e_assign hf rfl) fun a hf => ?_
 refine pl_nil ?_
 refine then_n ?_
 refine wp_seq ?_
 refine region_pl ?_
 refine q_ hf rfl rfl rfl (e_move hf rfl) fun a hf => ?_
 have hM : Mem C _ ([.row byteRep A3 c4 5 s1 false] ++ []) _ := hM
 obtain ⟨y7, hz8, h⟩ := bind_some h
 refine pl_l hf rfl rfl rfl (w_call hf Tryz.call54 rfl (r_slices_Reverse_byte_byte ⟨_, Sh C _ _, ownB _, hM.sh_lt, sub_dis, C.G, hM.g_lt, hM.g_own, hM.tabs⟩ s1 _ _ hM.sub sub_dis _ hz8) ?_)
 rintro _ w10 ⟨rfl, hM2, hl9⟩
 obtain ⟨hM, hup12⟩ := hM.backG hM2
 dsimp only [List.cons_append, List.nil_append] at hM hup12
 clear hM2
 refine ⟨_, rfl, fun a hf => ?_⟩
 have hf := hf.alter (d := 5) (v := vL A3 (y7) c4) rfl (vL_len hl9)
 have hf := hf.alter (d := 3) (v := vL A3 (y7) c4) rfl (vL_len hl9)
 have hf := hf.alter (d := 6) (v := vL A3 (y7) c4) rfl (vL_len hl9)
 refine pl_nil ?_
 refine then_n ?_
 refine wp_seq ?_
 refine region_pl ?_
 refine q_ hf rfl rfl rfl (e_move hf rfl) fun a hf => ?_
 have hl13 := row_len (hM.ownAt (k := 0) rfl)
 refine q_ hf rfl rfl rfl (e_bytesStr hf (xs := y7) rfl Tryz.underlying22 Tryz.underlying5 Tryz.underlying9 (hM.lendRow (k := 0) rfl)) fun a hf => ?_
 refine q_ hf rfl rfl rfl (e_assign hf rfl) fun a hf => ?_
 refine pl_nil ?_
 refine then_n ?_
 refine wp_ret ?_
 obtain rfl := some_inj h
 have hM := hM.outs (own' := []) 0 rfl
 exact leave1 hf rfl rfl ⟨rfl, hM.fin, hl13⟩
theorem r_impl_ReverseDawg (C : Cx) (d1 : Dawg) (A2 : Option Addr) (c3 : Nat) (hp4 : (sliceRep NodeRep).R C.w0 C.S0 d1.Nodes [vL A2 d1.Nodes c3]) (r : (Dawg × Int)) (h : m_impl_ReverseDawg d1 = some r) :
    Calls Tryz.prog 14 #[.agg #[vL A2 (d1.Nodes) c3]] C.w0 fun e w => ∃ (A_1 : Option Addr), ∃ (c_1 : Nat), ∃ (ws_1 : List NodeW), e = .returned (.tuple #[.agg #[vL A_1 (r.1.Nodes) c_1], vI (r.2)]) ∧ Mem C w ((nestW A_1 c_1 79 2 ws_1)) [] ∧ ws_1.map NodeW.to = r.1.Nodes ∧ R64 r.2 := by
 have hM := Mem.begin C [.dat (sliceRep NodeRep) d1.Nodes [vL A2 d1.Nodes c3]] ⟨hp4, trivial⟩
 refine enter Tryz.func14 rfl Tryz.ntmps14 rfl fun a hf => ?_
 unfold m_impl_ReverseDawg at h
 refine wp_seq ?_
 refine region_pl ?_
 refine pl_l hf rfl rfl rfl (w_box hf hM (cs := [vL A2 (d1.Nodes) c3]) rfl rfl fun b5 w6 hx7 hM a hf => ?_)
 refine pl_l hf rfl rfl rfl (w_alloc hM (cs := [vL none (([] : (List Node))) 0]) Tryz.zeroValue26 rfl fun b9 w10 hx11 hM a hf => ?_)
 refine q_ hf rfl rfl rfl (e_assign hf rfl) fun a hf => ?_
 refine pl_nil ?_
 refine then_n ?_
 iterate 2 refine wp_seq ?_
 refine region_pl ?_
 refine q_ hf rfl rfl rfl (e_loadA hf (us := [vL A2 (d1.Nodes) c3]) rfl ⟨Tryz.isAgg26, Tryz.sizeOf26⟩ rfl (hM.boxSub (k := 1) (us := [vL A2 (d1.Nodes) c3]) (o := 0) rfl rfl)) fun a hf => ?_
 obtain ⟨y13, hz14, h⟩ := bind_some h
 refine pl_l hf rfl rfl rfl (w_call hf Tryz.call27 rfl (r_impl_ValidDawg ⟨_, Sh C _ _, none_, hM.sh_lt, none_not, C.G, hM.g_lt, g_none, hM.tabs⟩ d1 _ _ (hM.dat (k := 0) rfl) _ hz14) ?_)
 rintro _ w15 ⟨rfl, hM2⟩
 obtain ⟨hM, hx16, hup17⟩ := hM.back hM2
 dsimp only [List.cons_append, List.nil_append] at hM hup17
 clear hM2
 refine ⟨_, rfl, fun a hf => ?_⟩
 refine q_ hf rfl rfl rfl (e_not hf rfl) fun a hf => ?_
 refine pl_nil ?_
 refine then_n ?_
 rcases cond_some h with ⟨hc18, h⟩ | ⟨hc18, h⟩
 ·refine cond_t hf rfl hc18 ?_
  refine wp_seq ?_
  refine region_pl ?_
  refine q_ hf rfl rfl rfl (e_build hf Tryz.zeroValue26 Tryz.underlying26 (bp_26 _ Tryz.underlying26.symm) rfl (cs := #[vL none (([] : (List Node))) 0]) (by kernel_rfl)) fun a hf => ?_
  refine pl_0 hf rfl rfl (w_store hf hM (us := [vL none (([] : (List Node))) 0]) (cs' := [vL none (([] : (List Node))) 0]) rfl rfl (k := 0) rfl rfl Tryz.sizeOf26 rfl rfl rfl fun w19 hM => ?_)
  dsimp only [List.set] at hM
  refine q_ hf rfl rfl rfl (e_assign hf rfl) fun a hf => ?_
  refine pl_nil ?_
  refine then_n ?_
  refine wp_ret ?_
  refine then_r ?_
  obtain rfl := some_inj h
  have hres22 := leaveV2 (P := Tryz.prog) (w := w19) Tryz.results14 (res_agg hf rfl ⟨Tryz.isAgg26, Tryz.sizeOf26⟩ (us := [vL none (([] : (List Node))) 0]) rfl (hM.boxSub (k := 0) (o := 0) rfl rfl)) (res_tmp hf rfl)
  have hM := hM.nilNest 79 2
  have hM : Mem C _ (.box b9 [vL none (([] : (List Node))) 0] 26 :: .box b5 [vL A2 (d1.Nodes) c3] 26 :: (nestW none 0 79 2 ([] : List NodeW))) _ := hM
  have hM : Mem C _ ((nestW none 0 79 2 ([] : List NodeW))) _ := hM.drop (.cons _ (.cons _ (List.Sublist.refl _)))
  exact bodyPost_ret hres22 hf.defers ⟨none, 0, ([] : List NodeW), rfl, hM.fin, rfl, (R64_lit rfl)⟩
 refine cond_f hf rfl hc18 ?_
 refine wp_skip ?_
 refine then_n ?_
 refine wp_seq ?_
 refine region_pl ?_
 refine pl_l hf rfl rfl rfl (w_slice0 (K := strRep) hM Tryz.underlying30 ei_9 fun b23 w24 hx25 hM a hf => ?_)
 refine q_ hf rfl rfl rfl (e_assign hf rfl) fun a hf => ?_
 refine pl_nil ?_
 refine then_n ?_
 obtain ⟨x29, h30, h⟩ := bind_some h
 refine seq_join (fun a w => ∃ (xs26 : (List Str)) (A27 : Option Addr) (c28 : Nat), xs26 = x29 ∧ Has 31 a [(2, vP b9 (0)), (4, vL A27 (xs26) c28)] ∧ Mem C w [.row strRep A27 c28 9 xs26 true, .box b9 [vL none (([] : (List Node))) 0] 26, .box b5 [vL A2 (d1.Nodes) c3] 26] [.dat (sliceRep NodeRep) d1.Nodes [vL A2 d1.Nodes c3]]) ?_ ?_
 ·refine wp_seq ?_
  refine region_pl ?_
  refine q_ hf rfl rfl rfl (e_loadA hf (us := [vL A2 (d1.Nodes) c3]) rfl ⟨Tryz.isAgg26, Tryz.sizeOf26⟩ rfl (hM.boxSub (k := 2) (us := [vL A2 (d1.Nodes) c3]) (o := 0) rfl rfl)) fun a hf => ?_
  obtain ⟨y31, hz32, h30⟩ := bind_some h30
  refine pl_l hf rfl rfl rfl (w_call hf Tryz.call28 rfl (r_impl_Dawg_words ⟨_, Sh C _ _, none_, hM.sh_lt, none_not, C.G, hM.g_lt, g_none, hM.tabs⟩ d1 _ _ (hM.dat (k := 0) rfl) _ hz32) ?_)
  rintro _ w35 ⟨A33, c34, rfl, hM2⟩
  obtain ⟨hM, hx36, hup37⟩ := hM.back hM2
  dsimp only [List.cons_append, List.nil_append] at hM hup37
  clear hM2
  refine ⟨_, rfl, fun a hf => ?_⟩
  have hl38 := row_len (hM.ownAt (k := 0) rfl)
  refine q_ hf rfl rfl rfl (e_lenL hf (x := y31) rfl Tryz.underlying30) fun a hf => ?_
  refine q_ hf rfl rfl rfl (e_move hf rfl) fun a hf => ?_
  refine pl_nil ?_
  refine then_n ?_
  refine wp_block ?_
  obtain ⟨x48, h49, h30⟩ := bind_some h30
  refine wp_loopM h49 (fun s a w => ∃ (xs39 : (List Str)) (n42 : Int) (A40 : Option Addr) (c41 : Nat), (xs39, n42) = s ∧ Has 31 a [(2, vP b9 (0)), (4, vL A40 (xs39) c41), (13, vL A33 (y31) c34), (14, vI ((y31.length : Int))), (15, vI (n42))] ∧ Mem C w [.row strRep A33 c34 9 y31 true, .row strRep A40 c41 9 xs39 true, .box b9 [vL none (([] : (List Node))) 0] 26, .box b5 [vL A2 (d1.Nodes) c3] 26] [.dat (sliceRep NodeRep) d1.Nodes [vL A2 d1.Nodes c3]] ∧ R64 n42) ?_ ?_
  ·exact ⟨([] : (List Str)), 0, (some ⟨b23, 0, none⟩), 0, rfl, hf.keep ⟨rfl, rfl, rfl, rfl, rfl, trivial⟩, hM.pick [0] rfl, (R64_lit rfl)⟩
  rintro s o50 a w44 ⟨xs39, n42, A40, c41, rfl, hf, hM, hv43⟩ h51 hd52
  replace h51 : m_impl_ReverseDawg_l1 y31 xs39 n42 = some o50 := h51
  unfold m_impl_ReverseDawg_l1 at h51
  refine wp_seq ?_
  refine region_pl ?_
  refine q_ hf rfl rfl rfl (e_lt hf (x := n42) (y := (y31.length : Int)) rfl rfl) fun a hf => ?_
  refine pl_nil ?_
  refine then_n ?_
  refine wp_seq ?_
  rcases cond_some h51 with ⟨hc53, h51⟩ | ⟨hc53, h51⟩
  ·refine cond_t hf rfl hc53 ?_
   refine wp_skip ?_
   refine then_n ?_
   refine wp_seq ?_
   refine wp_block ?_
   refine wp_seq ?_
   refine region_pl ?_
   obtain ⟨e54, hz55, h51⟩ := bind_some h51
   obtain ⟨b60, _, hA61, h56, h57, hr58, hcell59⟩ := hM.rowElemN (k := 0) rfl (n := 1) rfl hz55
   obtain ⟨rfl, hv62⟩ := hr58
   refine q_ hf rfl rfl rfl (e_indexAddr (A := A33) (b := b60) (o := 0) (xs := y31) (i := n42) hf hA61 rfl rfl Tryz.underlying30 Tryz.sizeOf9 h56 h57) fun a hf => ?_
   refine q_ hf rfl rfl rfl (e_load1 hf rfl Tryz.isAgg9 (hcell59 0 _ rfl)) fun a hf => ?_
   refine q_ hf rfl rfl rfl (e_assign hf rfl) fun a hf => ?_
   refine pl_nil ?_
   refine then_n ?_
   refine region_pl ?_
   iterate 2 refine q_ hf rfl rfl rfl (e_move hf rfl) fun a hf => ?_
   obtain ⟨y63, hz64, h51⟩ := bind_some h51
   refine pl_l hf rfl rfl rfl (w_call hf Tryz.call31 rfl (r_impl_reversed ⟨_, Sh C _ _, none_, hM.sh_lt, none_not, C.G, hM.g_lt, g_none, hM.tabs⟩ e54 hv62 _ hz64) ?_)
   rintro _ w66 ⟨rfl, hM2, hv65⟩
   obtain ⟨hM, hx67, hup68⟩ := hM.back hM2
   dsimp only [List.cons_append, List.nil_append] at hM hup68
   clear hM2
   refine ⟨_, rfl, fun a hf => ?_⟩
   refine pl_l hf rfl rfl rfl (w_slice hf hM (K := strRep) (xs := ([y63] : (List Str))) (os := [.tmp 21]) Tryz.underlying30 ei_9 rfl rfl rfl rfl rfl ⟨⟨[vS (y63)], rfl, ⟨rfl, hv65⟩⟩, trivial⟩ rfl fun b69 w70 hx71 hM a hf => ?_)
   obtain ⟨xs72, hz73, h51⟩ := bind_some h51
   refine pl_l hf rfl rfl rfl (w_append hf hM Tryz.underlying30 ei_9 rfl rfl rfl (k := 2) rfl (hM.srcRow (k := 0) rfl) hz73 fun A74 c75 w76 hM a hf => ?_)
   dsimp only [List.set] at hM
   refine q_ hf rfl rfl rfl (e_assign hf rfl) fun a hf => ?_
   refine pl_nil ?_
   refine blk_n ?_
   refine then_n ?_
   refine region_pl ?_
   obtain ⟨z79, hz80, h51⟩ := bind_some h51
   refine q_ hf rfl rfl rfl (e_add hf rfl rfl hz80) fun a hf => ?_
   refine q_ hf rfl rfl rfl (e_move hf rfl) fun a hf => ?_
   refine pl_nil ?_
   obtain rfl := some_inj h51
   refine then_n ⟨_, rfl, ?_⟩
   exact ⟨xs72, z79, A74, c75, rfl, hf.keep ⟨rfl, rfl, rfl, rfl, rfl, trivial⟩, (hM.drop (.cons _ (.cons_cons _ (.cons_cons _ (.cons_cons _ (.cons_cons _ .slnil)))))).pick [0] rfl, (chk_R hz80)⟩
  refine cond_f hf rfl hc53 ?_
  refine wp_exit ?_
  refine then_x ?_
  obtain rfl := some_inj h51
  obtain rfl := hd52 _ rfl
  try dsimp only at h30
  refine then_x ?_
  refine exit_hit ?_
  obtain rfl := some_inj h30
  refine then_n ?_
  exact ⟨xs39, A40, c41, rfl, hf.keep ⟨rfl, rfl, trivial⟩, (hM.drop (.cons _ (.cons_cons _ (.cons_cons _ (.cons_cons _ .slnil))))).pick [0] rfl⟩
 rintro a w86 ⟨xs26, A27, c28, rfl, hf, hM⟩
 try dsimp only at h
 refine wp_seq ?_
 refine region_pl ?_
 refine q_ hf rfl rfl rfl (e_move hf rfl) fun a hf => ?_
 have hM : Mem C _ ([.row strRep A27 c28 9 xs26 true] ++ [.box b9 [vL none (([] : (List Node))) 0] 26, .box b5 [vL A2 (d1.Nodes) c3] 26]) _ := hM
 obtain ⟨y87, hz88, h⟩ := bind_some h
 refine pl_l hf rfl rfl rfl (w_call hf Tryz.call32 rfl (r_slices_Sort_string_string ⟨_, Sh C _ _, ownB _, hM.sh_lt, sub_dis, C.G, hM.g_lt, hM.g_own, hM.tabs⟩ xs26 _ _ hM.sub sub_dis _ hz88) ?_)
 rintro _ w90 ⟨rfl, hM2, hl89⟩
 obtain ⟨hM, hup92⟩ := hM.backG hM2
 dsimp only [List.cons_append, List.nil_append] at hM hup92
 clear hM2
 refine ⟨_, rfl, fun a hf => ?_⟩
 have hf := hf.alter (d := 4) (v := vL A27 (y87) c28) rfl (vL_len hl89)
 have hf := hf.alter (d := 25) (v := vL A27 (y87) c28) rfl (vL_len hl89)
 refine pl_nil ?_
 refine then_n ?_
 refine wp_seq ?_
 refine region_pl ?_
 refine q_ hf rfl rfl rfl (e_move hf rfl) fun a hf => ?_
 obtain ⟨y93, hz94, h⟩ := bind_some h
 refine pl_l hf rfl rfl rfl (w_call hf Tryz.call33 rfl (r_impl_dawgOf ⟨_, All C _ _, none_, hM.all_lt, none_not, C.G, hM.g_lt, g_none, hM.tabs⟩ y87 _ _ (hM.lendRow (k := 0) rfl) _ hz94) ?_)
 rintro _ w100 ⟨A95, c96, ws97, rfl, hM2, hw98, hv99⟩
 obtain ⟨hM, hx101⟩ := hM.backAL OFlat.nest hM2
 clear hM2
 have hM : Mem C _ (.row strRep A27 c28 9 y87 true :: .box b9 [vL none (([] : (List Node))) 0] 26 :: .box b5 [vL A2 (d1.Nodes) c3] 26 :: (nestW A95 c96 79 2 ws97)) _ := Mem.perm (own := (nestW A95 c96 79 2 ws97) ++ [.row strRep A27 c28 9 y87 true, .box b9 [vL none (([] : (List Node))) 0] 26, .box b5 [vL A2 (d1.Nodes) c3] 26]) (own' := ([] ++ [.row strRep A27 c28 9 y87 true, .box b9 [vL none (([] : (List Node))) 0] 26, .box b5 [vL A2 (d1.Nodes) c3] 26]) ++ (nestW A95 c96 79 2 ws97)) hM (fun a => by simp only [List.count_append, List.count_nil]; omega)
 refine ⟨_, rfl, fun a hf => ?_⟩
 iterate 2 refine q_ hf rfl rfl rfl (e_extract hf rfl rfl) fun a hf => ?_
 refine pl_0 hf rfl rfl (w_store hf hM (us := [vL A95 (y93.1.Nodes) c96]) (cs' := [vL A95 (y93.1.Nodes) c96]) rfl rfl (k := 1) rfl rfl Tryz.sizeOf26 rfl rfl rfl fun w103 hM => ?_)
 dsimp only [List.set] at hM
 refine q_ hf rfl rfl rfl (e_assign hf rfl) fun a hf => ?_
 refine pl_nil ?_
 refine then_n ?_
 refine wp_ret ?_
 obtain rfl := some_inj h
 have hres106 := leaveV2 (P := Tryz.prog) (w := w103) Tryz.results14 (res_agg hf rfl ⟨Tryz.isAgg26, Tryz.sizeOf26⟩ (us := [vL A95 (y93.1.Nodes) c96]) rfl (hM.boxSub (k := 1) (o := 0) rfl rfl)) (res_tmp hf rfl)
 have hM : Mem C _ ((nestW A95 c96 79 2 ws97)) _ := hM.drop (.cons _ (.cons _ (.cons _ (List.Sublist.refl _))))
 exact bodyPost_ret hres106 hf.defers ⟨A95, c96, ws97, rfl, hM.fin, hw98, hv99⟩
theorem r_spec_SameDawg (C : Cx) (a1 : Dawg) (A2 : Option Addr) (c3 : Nat) (hp4 : (sliceRep NodeRep).R C.w0 C.S0 a1.Nodes [vL A2 a1.Nodes c3]) (b5 : Dawg) (A6 : Option Addr) (c7 : Nat) (hp8 : (sliceRep NodeRep).R C.w0 C.S0 b5.Nodes [vL A6 b5.Nodes c7]) (r : Bool) (h : m_spec_SameDawg a1 b5 = some r) :
    Calls Tryz.prog 15 #[.agg #[vL A2 (a1.Nodes) c3], .agg #[vL A6 (b5.Nodes) c7]] C.w0 fun e w => e = .returned (.bool (r)) ∧ Mem C w [] [] := by
 have hM := Mem.begin C [.dat (sliceRep NodeRep) b5.Nodes [vL A6 b5.Nodes c7], .dat (sliceRep NodeRep) a1.Nodes [vL A2 a1.Nodes c3]] ⟨hp8, hp4, trivial⟩
 refine enter Tryz.func15 rfl Tryz.ntmps15 rfl fun a hf => ?_
 unfold m_spec_SameDawg at h
 refine wp_seq ?_
 refine region_pl ?_
 refine pl_l hf rfl rfl rfl (w_box hf hM (cs := [vL A2 (a1.Nodes) c3]) rfl rfl fun b9 w10 hx11 hM a hf => ?_)
 refine pl_l hf rfl rfl rfl (w_box hf hM (cs := [vL A6 (b5.Nodes) c7]) rfl rfl fun b13 w14 hx15 hM a hf => ?_)
 refine q_ hf rfl rfl rfl (e_assign hf rfl) fun a hf => ?_
 refine pl_nil ?_
 refine then_n ?_
 refine wp_seq ?_
 refine region_pl ?_
 obtain ⟨y17, hz18, h⟩ := bind_some h
 refine pl_l hf rfl rfl rfl (w_call hf Tryz.call34 rfl (r_spec_l06Same ⟨_, All C _ _, none_, hM.all_lt, none_not, C.G, hM.g_lt, g_none, hM.tabs⟩ a1 _ _ (hM.lendBox (k := 1) rfl (DawgRep_mk (x := a1) (hM.lendDat (k := 1) rfl))) b5 _ _ (hM.lendBox (k := 0) rfl (DawgRep_mk (x := b5) (hM.lendDat (k := 0) rfl))) _ hz18) ?_)
 rintro _ w19 ⟨rfl, hM2⟩
 obtain ⟨hM, hx20⟩ := hM.backA hM2
 clear hM2
 refine ⟨_, rfl, fun a hf => ?_⟩
 refine q_ hf rfl rfl rfl (e_assign hf rfl) fun a hf => ?_
 refine pl_nil ?_
 refine then_n ?_
 refine wp_ret ?_
 obtain rfl := some_inj h
 have hM := hM.outs (own' := []) 0 rfl
 exact leave1 hf rfl rfl ⟨rfl, hM.fin⟩
theorem r_laws_FnSets (C : Cx) (code1 : Str) (A2 : Option Addr) (c3 : Nat) (hp4 : (sliceRep byteRep).R C.w0 C.S0 code1 [vL A2 code1 c3]) (more5 : Str) (A6 : Option Addr) (c7 : Nat) (hp8 : (sliceRep byteRep).R C.w0 C.S0 more5 [vL A6 more5 c7]) (r : Bool) (h : m_laws_FnSets code1 more5 = some r) :
    Calls Tryz.prog 3 #[vL A2 (code1) c3, vL A6 (more5) c7] C.w0 fun e w => e = .returned (.bool (r)) ∧ Mem C w [] [] := by
 have hM := Mem.begin C [.dat (sliceRep byteRep) more5 [vL A6 more5 c7], .dat (sliceRep byteRep) code1 [vL A2 code1 c3]] ⟨hp8, hp4, trivial⟩
 refine enter Tryz.func3 rfl Tryz.ntmps3 rfl fun a hf => ?_
 unfold m_laws_FnSets at h
 refine wp_seq ?_
 refine region_pl ?_
 refine q_ hf rfl rfl rfl (e_assign hf rfl) fun a hf => ?_
 refine pl_nil ?_
 refine then_n ?_
 iterate 2 refine wp_seq ?_
 refine region_pl ?_
 iterate 2 refine q_ hf rfl rfl rfl (e_move hf rfl) fun a hf => ?_
 obtain ⟨y9, hz10, h⟩ := bind_some h
 refine pl_l hf rfl rfl rfl (w_call hf Tryz.call7 rfl (r_laws_a2Long ⟨_, Sh C _ _, none_, hM.sh_lt, none_not, C.G, hM.g_lt, g_none, hM.tabs⟩ code1 _ _ (hM.dat (k := 1) rfl) more5 _ _ (hM.dat (k := 0) rfl) _ hz10) ?_)
 rintro _ w11 ⟨rfl, hM2⟩
 obtain ⟨hM, hx12, hup13⟩ := hM.back hM2
 dsimp only [List.cons_append, List.nil_append] at hM hup13
 clear hM2
 refine ⟨_, rfl, fun a hf => ?_⟩
 refine pl_nil ?_
 refine then_n ?_
 rcases cond_some h with ⟨hc14, h⟩ | ⟨hc14, h⟩
 ·refine cond_t hf rfl hc14 ?_
  refine wp_seq ?_
  refine region_pl ?_
  refine q_ hf rfl rfl rfl (e_assign hf rfl) fun a hf => ?_
  refine pl_nil ?_
  refine then_n ?_
  refine wp_ret ?_
  refine then_r ?_
  obtain rfl := some_inj h
  exact leave1 hf rfl rfl ⟨rfl, hM.fin⟩
 refine cond_f hf rfl hc14 ?_
 refine wp_skip ?_
 refine then_n ?_
 refine wp_seq ?_
 refine region_pl ?_
 refine q_ hf rfl rfl rfl (e_move hf rfl) fun a hf => ?_
 obtain ⟨y15, hz16, h⟩ := bind_some h
 refine pl_l hf rfl rfl rfl (w_call hf Tryz.call8 rfl (r_spec_A2Dawg ⟨_, Sh C _ _, none_, hM.sh_lt, none_not, C.G, hM.g_lt, g_none, hM.tabs⟩ code1 _ _ (hM.dat (k := 1) rfl) _ hz16) ?_)
 rintro _ w20 ⟨A17, c18, rfl, hM2, hv19⟩
 obtain ⟨hM, hx21, hup22⟩ := hM.back hM2
 dsimp only [List.cons_append, List.nil_append] at hM hup22
 clear hM2
 have hM := hM.add (y := .dat (sliceRep NodeRep) y15.Nodes [vL A17 y15.Nodes c18]) (hup22 hv19)
 refine ⟨_, rfl, fun a hf => ?_⟩
 refine pl_l hf rfl rfl rfl (w_alloc hM (cs := [vL none (([] : (List Node))) 0]) Tryz.zeroValue26 rfl fun b23 w24 hx25 hM a hf => ?_)
 refine pl_0 hf rfl rfl (w_store hf hM (us := [vL A17 (y15.Nodes) c18]) (cs' := [vL A17 (y15.Nodes) c18]) rfl rfl (k := 0) rfl rfl Tryz.sizeOf26 rfl rfl rfl fun w27 hM => ?_)
 dsimp only [List.set] at hM
 refine pl_nil ?_
 refine then_n ?_
 refine wp_seq ?_
 refine region_pl ?_
 refine q_ hf rfl rfl rfl (e_move hf rfl) fun a hf => ?_
 obtain ⟨y30, hz31, h⟩ := bind_some h
 refine pl_l hf rfl rfl rfl (w_call hf Tryz.call8 rfl (r_spec_A2Dawg ⟨_, Sh C _ _, none_, hM.sh_lt, none_not, C.G, hM.g_lt, g_none, hM.tabs⟩ more5 _ _ (hM.dat (k := 1) rfl) _ hz31) ?_)
 rintro _ w35 ⟨A32, c33, rfl, hM2, hv34⟩
 obtain ⟨hM, hx36, hup37⟩ := hM.back hM2
 dsimp only [List.cons_append, List.nil_append] at hM hup37
 clear hM2
 have hM := hM.add (y := .dat (sliceRep NodeRep) y30.Nodes [vL A32 y30.Nodes c33]) (hup37 hv34)
 refine ⟨_, rfl, fun a hf => ?_⟩
 refine pl_l hf rfl rfl rfl (w_alloc hM (cs := [vL none (([] : (List Node))) 0]) Tryz.zeroValue26 rfl fun b38 w39 hx40 hM a hf => ?_)
 refine pl_0 hf rfl rfl (w_store hf hM (us := [vL A32 (y30.Nodes) c33]) (cs' := [vL A32 (y30.Nodes) c33]) rfl rfl (k := 0) rfl rfl Tryz.sizeOf26 rfl rfl rfl fun w42 hM => ?_)
 dsimp only [List.set] at hM
 refine pl_nil ?_
 refine then_n ?_
 refine wp_seq ?_
 refine region_pl ?_
 refine q_ hf rfl rfl rfl (e_loadA hf (us := [vL A17 (y15.Nodes) c18]) rfl ⟨Tryz.isAgg26, Tryz.sizeOf26⟩ rfl (hM.boxSub (k := 1) (us := [vL A17 (y15.Nodes) c18]) (o := 0) rfl rfl)) fun a hf => ?_
 refine q_ hf rfl rfl rfl (e_loadA hf (us := [vL A32 (y30.Nodes) c33]) rfl ⟨Tryz.isAgg26, Tryz.sizeOf26⟩ rfl (hM.boxSub (k := 0) (us := [vL A32 (y30.Nodes) c33]) (o := 0) rfl rfl)) fun a hf => ?_
 obtain ⟨y45, hz46, h⟩ := bind_some h
 refine pl_l hf rfl rfl rfl (w_call hf Tryz.call9 rfl (r_impl_UnionDawg ⟨_, Sh C _ _, none_, hM.sh_lt, none_not, C.G, hM.g_lt, g_none, hM.tabs⟩ y15 _ _ (hM.dat (k := 1) rfl) y30 _ _ (hM.dat (k := 0) rfl) _ hz46) ?_)
 rintro _ w52 ⟨A47, c48, ws49, rfl, hM2, hw50, hv51⟩
 obtain ⟨hM, hx53, hup54⟩ := hM.back hM2
 try dsimp only [List.cons_append, List.nil_append] at hM hup54
 clear hM2
 have hM : Mem C _ (.box b38 [vL A32 (y30.Nodes) c33] 26 :: .box b23 [vL A17 (y15.Nodes) c18] 26 :: (nestW A47 c48 79 2 ws49)) _ := Mem.perm (own := (nestW A47 c48 79 2 ws49) ++ [.box b38 [vL A32 (y30.Nodes) c33] 26, .box b23 [vL A17 (y15.Nodes) c18] 26]) (own' := ([] ++ [.box b38 [vL A32 (y30.Nodes) c33] 26, .box b23 [vL A17 (y15.Nodes) c18] 26]) ++ (nestW A47 c48 79 2 ws49)) hM (fun a => by simp only [List.count_append, List.count_nil]; omega)
 refine ⟨_, rfl, fun a hf => ?_⟩
 refine q_ hf rfl rfl rfl (e_move hf rfl) fun a hf => ?_
 iterate 2 refine q_ hf rfl rfl rfl (e_extract hf rfl rfl) fun a hf => ?_
 refine pl_l hf rfl rfl rfl (w_alloc hM (cs := [vL none (([] : (List Node))) 0]) Tryz.zeroValue26 rfl fun b55 w56 hx57 hM a hf => ?_)
 refine pl_0 hf rfl rfl (w_store hf hM (us := [vL A47 (y45.1.Nodes) c48]) (cs' := [vL A47 (y45.1.Nodes) c48]) rfl rfl (k := 0) rfl rfl Tryz.sizeOf26 rfl rfl rfl fun w59 hM => ?_)
 dsimp only [List.set] at hM
 refine q_ hf rfl rfl rfl (e_assign hf rfl) fun a hf => ?_
 refine pl_nil ?_
 refine then_n ?_
 refine wp_seq ?_
 refine region_pl ?_
 refine q_ hf rfl rfl rfl (e_loadA hf (us := [vL A17 (y15.Nodes) c18]) rfl ⟨Tryz.isAgg26, Tryz.sizeOf26⟩ rfl (hM.boxSub (k := 2) (us := [vL A17 (y15.Nodes) c18]) (o := 0) rfl rfl)) fun a hf => ?_
 refine q_ hf rfl rfl rfl (e_loadA hf (us := [vL A32 (y30.Nodes) c33]) rfl ⟨Tryz.isAgg26, Tryz.sizeOf26⟩ rfl (hM.boxSub (k := 1) (us := [vL A32 (y30.Nodes) c33]) (o := 0) rfl rfl)) fun a hf => ?_
 obtain ⟨y62, hz63, h⟩ := bind_some h
 refine pl_l hf rfl rfl rfl (w_call hf Tryz.call10 rfl (r_impl_MeetDawg ⟨_, Sh C _ _, none_, hM.sh_lt, none_not, C.G, hM.g_lt, g_none, hM.tabs⟩ y15 _ _ (hM.dat (k := 1) rfl) y30 _ _ (hM.dat (k := 0) rfl) _ hz63) ?_)
 rintro _ w69 ⟨A64, c65, ws66, rfl, hM2, hw67, hv68⟩
 obtain ⟨hM, hx70, hup71⟩ := hM.back hM2
 try dsimp only [List.cons_append, List.nil_append] at hM hup71
 clear hM2
 have hM : Mem C _ (.box b55 [vL A47 (y45.1.Nodes) c48] 26 :: .box b38 [vL A32 (y30.Nodes) c33] 26 :: .box b23 [vL A17 (y15.Nodes) c18] 26 :: ((nestW A47 c48 79 2 ws49) ++ nestW A64 c65 79 2 ws66)) _ := Mem.perm (own := (nestW A64 c65 79 2 ws66) ++ ([.box b55 [vL A47 (y45.1.Nodes) c48] 26, .box b38 [vL A32 (y30.Nodes) c33] 26, .box b23 [vL A17 (y15.Nodes) c18] 26] ++ (nestW A47 c48 79 2 ws49))) (own' := ([] ++ [.box b55 [vL A47 (y45.1.Nodes) c48] 26, .box b38 [vL A32 (y30.Nodes) c33] 26, .box b23 [vL A17 (y15.Nodes) c18] 26]) ++ ((nestW A47 c48 79 2 ws49) ++ nestW A64 c65 79 2 ws66)) hM (fun a => by simp only [List.count_append, List.count_nil]; omega)
 refine ⟨_, rfl, fun a hf => ?_⟩
 refine q_ hf rfl rfl rfl (e_move hf rfl) fun a hf => ?_
 iterate 2 refine q_ hf rfl rfl rfl (e_extract hf rfl rfl) fun a hf => ?_
 refine pl_l hf rfl rfl rfl (w_alloc hM (cs := [vL none (([] : (List Node))) 0]) Tryz.zeroValue26 rfl fun b72 w73 hx74 hM a hf => ?_)
 refine pl_0 hf rfl rfl (w_store hf hM (us := [vL A64 (y62.1.Nodes) c65]) (cs' := [vL A64 (y62.1.Nodes) c65]) rfl rfl (k := 0) rfl rfl Tryz.sizeOf26 rfl rfl rfl fun w76 hM => ?_)
 dsimp only [List.set] at hM
 refine q_ hf rfl rfl rfl (e_assign hf rfl) fun a hf => ?_
 refine pl_nil ?_
 refine then_n ?_
 refine wp_seq ?_
 refine region_pl ?_
 refine q_ hf rfl rfl rfl (e_loadA hf (us := [vL A17 (y15.Nodes) c18]) rfl ⟨Tryz.isAgg26, Tryz.sizeOf26⟩ rfl (hM.boxSub (k := 3) (us := [vL A17 (y15.Nodes) c18]) (o := 0) rfl rfl)) fun a hf => ?_
 refine q_ hf rfl rfl rfl (e_loadA hf (us := [vL A32 (y30.Nodes) c33]) rfl ⟨Tryz.isAgg26, Tryz.sizeOf26⟩ rfl (hM.boxSub (k := 2) (us := [vL A32 (y30.Nodes) c33]) (o := 0) rfl rfl)) fun a hf => ?_
 obtain ⟨y79, hz80, h⟩ := bind_some h
 refine pl_l hf rfl rfl rfl (w_call hf Tryz.call11 rfl (r_impl_MinusDawg ⟨_, Sh C _ _, none_, hM.sh_lt, none_not, C.G, hM.g_lt, g_none, hM.tabs⟩ y15 _ _ (hM.dat (k := 1) rfl) y30 _ _ (hM.dat (k := 0) rfl) _ hz80) ?_)
 rintro _ w86 ⟨A81, c82, ws83, rfl, hM2, hw84, hv85⟩
 obtain ⟨hM, hx87, hup88⟩ := hM.back hM2
 try dsimp only [List.cons_append, List.nil_append] at hM hup88
 clear hM2
 have hM : Mem C _ (.box b72 [vL A64 (y62.1.Nodes) c65] 26 :: .box b55 [vL A47 (y45.1.Nodes) c48] 26 :: .box b38 [vL A32 (y30.Nodes) c33] 26 :: .box b23 [vL A17 (y15.Nodes) c18] 26 :: (((nestW A47 c48 79 2 ws49) ++ nestW A64 c65 79 2 ws66) ++ nestW A81 c82 79 2 ws83)) _ := Mem.perm (own := (nestW A81 c82 79 2 ws83) ++ ([.box b72 [vL A64 (y62.1.Nodes) c65] 26, .box b55 [vL A47 (y45.1.Nodes) c48] 26, .box b38 [vL A32 (y30.Nodes) c33] 26, .box b23 [vL A17 (y15.Nodes) c18] 26] ++ ((nestW A47 c48 79 2 ws49) ++ nestW A64 c65 79 2 ws66))) (own' := ([] ++ [.box b72 [vL A64 (y62.1.Nodes) c65] 26, .box b55 [vL A47 (y45.1.Nodes) c48] 26, .box b38 [vL A32 (y30.Nodes) c33] 26, .box b23 [vL A17 (y15.Nodes) c18] 26]) ++ (((nestW A47 c48 79 2 ws49) ++ nestW A64 c65 79 2 ws66) ++ nestW A81 c82 79 2 ws83)) hM (fun a => by simp only [List.count_append, List.count_nil]; omega)
 refine ⟨_, rfl, fun a hf => ?_⟩
 refine q_ hf rfl rfl rfl (e_move hf rfl) fun a hf => ?_
 iterate 2 refine q_ hf rfl rfl rfl (e_extract hf rfl rfl) fun a hf => ?_
 refine pl_l hf rfl rfl rfl (w_alloc hM (cs := [vL none (([] : (List Node))) 0]) Tryz.zeroValue26 rfl fun b89 w90 hx91 hM a hf => ?_)
 refine pl_0 hf rfl rfl (w_store hf hM (us := [vL A81 (y79.1.Nodes) c82]) (cs' := [vL A81 (y79.1.Nodes) c82]) rfl rfl (k := 0) rfl rfl Tryz.sizeOf26 rfl rfl rfl fun w93 hM => ?_)
 dsimp only [List.set] at hM
 refine q_ hf rfl rfl rfl (e_assign hf rfl) fun a hf => ?_
 refine pl_nil ?_
 refine then_n ?_
 refine wp_seq ?_
 refine region_pl ?_
 refine q_ hf rfl rfl rfl (e_loadA hf (us := [vL A47 (y45.1.Nodes) c48]) rfl ⟨Tryz.isAgg26, Tryz.sizeOf26⟩ rfl (hM.boxSub (k := 2) (us := [vL A47 (y45.1.Nodes) c48]) (o := 0) rfl rfl)) fun a hf => ?_
 obtain ⟨y96, hz97, h⟩ := bind_some h
 refine pl_l hf rfl rfl rfl (w_call hf Tryz.call12 rfl (r_impl_WordsOf ⟨_, All C _ _, none_, hM.all_lt, none_not, C.G, hM.g_lt, g_none, hM.tabs⟩ y45.1 _ _ (hM.lendNest (A := A47) (c := c48) (E := 79) (E2 := 2) (ws := ws49) (fun q hq => by simp [hq]) hw50) _ hz97) ?_)
 rintro _ w101 ⟨A98, c99, rfl, hM2, hv100⟩
 obtain ⟨hM, hx102⟩ := hM.backAF strRep_flat hM2
 clear hM2
 refine ⟨_, rfl, fun a hf => ?_⟩
 refine q_ hf rfl rfl rfl (e_move hf rfl) fun a hf => ?_
 iterate 2 refine q_ hf rfl rfl rfl (e_extract hf rfl rfl) fun a hf => ?_
 iterate 2 refine q_ hf rfl rfl rfl (e_assign hf rfl) fun a hf => ?_
 refine pl_nil ?_
 refine then_n ?_
 refine wp_seq ?_
 refine region_pl ?_
 refine q_ hf rfl rfl rfl (e_loadA hf (us := [vL A64 (y62.1.Nodes) c65]) rfl ⟨Tryz.isAgg26, Tryz.sizeOf26⟩ rfl (hM.boxSub (k := 2) (us := [vL A64 (y62.1.Nodes) c65]) (o := 0) rfl rfl)) fun a hf => ?_
 obtain ⟨y104, hz105, h⟩ := bind_some h
 refine pl_l hf rfl rfl rfl (w_call hf Tryz.call12 rfl (r_impl_WordsOf ⟨_, All C _ _, none_, hM.all_lt, none_not, C.G, hM.g_lt, g_none, hM.tabs⟩ y62.1 _ _ (hM.lendNest (A := A64) (c := c65) (E := 79) (E2 := 2) (ws := ws66) (fun q hq => by simp [hq]) hw67) _ hz105) ?_)
 rintro _ w109 ⟨A106, c107, rfl, hM2, hv108⟩
 obtain ⟨hM, hx110⟩ := hM.backAF strRep_flat hM2
 clear hM2
 refine ⟨_, rfl, fun a hf => ?_⟩
 refine q_ hf rfl rfl rfl (e_move hf rfl) fun a hf => ?_
 iterate 2 refine q_ hf rfl rfl rfl (e_extract hf rfl rfl) fun a hf => ?_
 iterate 2 refine q_ hf rfl rfl rfl (e_assign hf rfl) fun a hf => ?_
 refine pl_nil ?_
 refine then_n ?_
 refine wp_seq ?_
 refine region_pl ?_
 refine q_ hf rfl rfl rfl (e_loadA hf (us := [vL A81 (y79.1.Nodes) c82]) rfl ⟨Tryz.isAgg26, Tryz.sizeOf26⟩ rfl (hM.boxSub (k := 2) (us := [vL A81 (y79.1.Nodes) c82]) (o := 0) rfl rfl)) fun a hf => ?_
 obtain ⟨y112, hz113, h⟩ := bind_some h
 refine pl_l hf rfl rfl rfl (w_call hf Tryz.call12 rfl (r_impl_WordsOf ⟨_, All C _ _, none_, hM.all_lt, none_not, C.G, hM.g_lt, g_none, hM.tabs⟩ y79.1 _ _ (hM.lendNest (A := A81) (c := c82) (E := 79) (E2 := 2) (ws := ws83) (fun q hq => by simp [hq]) hw84) _ hz113) ?_)
 rintro _ w117 ⟨A114, c115, rfl, hM2, hv116⟩
 obtain ⟨hM, hx118⟩ := hM.backAF strRep_flat hM2
 clear hM2
 refine ⟨_, rfl, fun a hf => ?_⟩
 refine q_ hf rfl rfl rfl (e_move hf rfl) fun a hf => ?_
 iterate 2 refine q_ hf rfl rfl rfl (e_extract hf rfl rfl) fun a hf => ?_
 iterate 2 refine q_ hf rfl rfl rfl (e_assign hf rfl) fun a hf => ?_
 refine pl_nil ?_
 refine then_n ?_
 refine wp_seq ?_
 refine region_pl ?_
 refine q_ hf rfl rfl rfl (e_loadA hf (us := [vL A17 (y15.Nodes) c18]) rfl ⟨Tryz.isAgg26, Tryz.sizeOf26⟩ rfl (hM.boxSub (k := 7) (us := [vL A17 (y15.Nodes) c18]) (o := 0) rfl rfl)) fun a hf => ?_
 obtain ⟨y120, hz121, h⟩ := bind_some h
 refine pl_l hf rfl rfl rfl (w_call hf Tryz.call13 rfl (r_spec_WordsOf ⟨_, Sh C _ _, none_, hM.sh_lt, none_not, C.G, hM.g_lt, g_none, hM.tabs⟩ y15 _ _ (hM.dat (k := 1) rfl) _ hz121) ?_)
 rintro _ w125 ⟨A122, c123, rfl, hM2, hv124⟩
 obtain ⟨hM, hx126, hup127⟩ := hM.back hM2
 try dsimp only [List.cons_append, List.nil_append] at hM hup127
 clear hM2
 refine ⟨_, rfl, fun a hf => ?_⟩
 refine q_ hf rfl rfl rfl (e_move hf rfl) fun a hf => ?_
 iterate 2 refine q_ hf rfl rfl rfl (e_extract hf rfl rfl) fun a hf => ?_
 iterate 2 refine q_ hf rfl rfl rfl (e_assign hf rfl) fun a hf => ?_
 refine pl_nil ?_
 refine then_n ?_
 refine wp_seq ?_
 refine region_pl ?_
 refine q_ hf rfl rfl rfl (e_loadA hf (us := [vL A32 (y30.Nodes) c33]) rfl ⟨Tryz.isAgg26, Tryz.sizeOf26⟩ rfl (hM.boxSub (k := 7) (us := [vL A32 (y30.Nodes) c33]) (o := 0) rfl rfl)) fun a hf => ?_
 obtain ⟨y128, hz129, h⟩ := bind_some h
 refine pl_l hf rfl rfl rfl (w_call hf Tryz.call13 rfl (r_spec_WordsOf ⟨_, Sh C _ _, none_, hM.sh_lt, none_not, C.G, hM.g_lt, g_none, hM.tabs⟩ y30 _ _ (hM.dat (k := 0) rfl) _ hz129) ?_)
 rintro _ w133 ⟨A130, c131, rfl, hM2, hv132⟩
 obtain ⟨hM, hx134, hup135⟩ := hM.back hM2
 try dsimp only [List.cons_append, List.nil_append] at hM hup135
 clear hM2
 refine ⟨_, rfl, fun a hf => ?_⟩
 refine q_ hf rfl rfl rfl (e_move hf rfl) fun a hf => ?_
 iterate 2 refine q_ hf rfl rfl rfl (e_extract hf rfl rfl) fun a hf => ?_
 iterate 2 refine q_ hf rfl rfl rfl (e_assign hf rfl) fun a hf => ?_
 refine pl_nil ?_
 refine then_n ?_
 refine wp_seq ?_
 obtain ⟨x138, h139, h⟩ := bind_some h
 refine seq_join (fun a w => ∃ (t136 : Bool), t136 = x138 ∧ Has 160 a [(5, vP b23 (0)), (9, vP b72 (0)), (11, vP b89 (0)), (13, vL A98 (y96.1) c99), (15, vL A106 (y104.1) c107), (17, vL A114 (y112.1) c115), (19, vL A122 (y120.1) c123), (21, vL A130 (y128.1) c131), (100, .bool (t136))] ∧ Mem C w (.row strRep A130 c131 9 y128.1 true :: .row strRep A122 c123 9 y120.1 true :: .row strRep A114 c115 9 y112.1 true :: .row strRep A106 c107 9 y104.1 true :: .row strRep A98 c99 9 y96.1 true :: .box b89 [vL A81 (y79.1.Nodes) c82] 26 :: .box b72 [vL A64 (y62.1.Nodes) c65] 26 :: .box b55 [vL A47 (y45.1.Nodes) c48] 26 :: .box b38 [vL A32 (y30.Nodes) c33] 26 :: .box b23 [vL A17 (y15.Nodes) c18] 26 :: (((nestW A47 c48 79 2 ws49) ++ nestW A64 c65 79 2 ws66) ++ nestW A81 c82 79 2 ws83)) [.dat (sliceRep NodeRep) y30.Nodes [vL A32 y30.Nodes c33], .dat (sliceRep NodeRep) y15.Nodes [vL A17 y15.Nodes c18], .dat (sliceRep byteRep) more5 [vL A6 more5 c7], .dat (sliceRep byteRep) code1 [vL A2 code1 c3]]) ?_ ?_
 ·refine region_pl ?_
  refine q_ hf rfl rfl rfl (e_move hf rfl) fun a hf => ?_
  refine q_ hf rfl rfl rfl (e_ne hf (x := y45.2) (y := 0) rfl rfl) fun a hf => ?_
  refine q_ hf rfl rfl rfl (e_move hf rfl) fun a hf => ?_
  rcases cond_some h139 with ⟨hc140, h139⟩ | ⟨hc140, h139⟩
  ·iterate 2 refine pl_gs (wanted_f hf rfl rfl rfl rfl hc140) hf rfl rfl fun a hf => ?_
   refine q_ hf rfl rfl rfl (e_pick_t hf rfl hc140 rfl) fun a hf => ?_
   refine q_ hf rfl rfl rfl (e_move hf rfl) fun a hf => ?_
   iterate 2 refine pl_gs (wanted_f hf rfl rfl rfl rfl rfl) hf rfl rfl fun a hf => ?_
   refine q_ hf rfl rfl rfl (e_pick_t hf rfl rfl rfl) fun a hf => ?_
   refine q_ hf rfl rfl rfl (e_move hf rfl) fun a hf => ?_
   iterate 2 refine pl_gs (wanted_f hf rfl rfl rfl rfl rfl) hf rfl rfl fun a hf => ?_
   refine q_ hf rfl rfl rfl (e_pick_t hf rfl rfl rfl) fun a hf => ?_
   refine q_ hf rfl rfl rfl (e_move hf rfl) fun a hf => ?_
   iterate 2 refine pl_gs (wanted_f hf rfl rfl rfl rfl rfl) hf rfl rfl fun a hf => ?_
   refine q_ hf rfl rfl rfl (e_pick_t hf rfl rfl rfl) fun a hf => ?_
   refine q_ hf rfl rfl rfl (e_move hf rfl) fun a hf => ?_
   iterate 2 refine pl_gs (wanted_f hf rfl rfl rfl rfl rfl) hf rfl rfl fun a hf => ?_
   refine q_ hf rfl rfl rfl (e_pick_t hf rfl rfl rfl) fun a hf => ?_
   refine pl_nil ?_
   obtain rfl := some_inj h139
   refine then_n ?_
   exact ⟨true, rfl, hf.keep ⟨rfl, rfl, rfl, rfl, rfl, rfl, rfl, rfl, rfl, trivial⟩, hM.pick [0, 1, 2, 3] rfl⟩
  refine gq (wanted_t hf rfl rfl rfl rfl hc140) hf rfl rfl (e_move hf rfl) fun a hf => ?_
  refine gq (wanted_t hf rfl rfl rfl rfl hc140) hf rfl rfl (e_ne hf (x := y62.2) (y := 0) rfl rfl) fun a hf => ?_
  refine q_ hf rfl rfl rfl (e_pick_f hf rfl hc140 rfl) fun a hf => ?_
  refine q_ hf rfl rfl rfl (e_move hf rfl) fun a hf => ?_
  rcases cond_some h139 with ⟨hc142, h139⟩ | ⟨hc142, h139⟩
  ·iterate 2 refine pl_gs (wanted_f hf rfl rfl rfl rfl hc142) hf rfl rfl fun a hf => ?_
   refine q_ hf rfl rfl rfl (e_pick_t hf rfl hc142 rfl) fun a hf => ?_
   refine q_ hf rfl rfl rfl (e_move hf rfl) fun a hf => ?_
   iterate 2 refine pl_gs (wanted_f hf rfl rfl rfl rfl rfl) hf rfl rfl fun a hf => ?_
   refine q_ hf rfl rfl rfl (e_pick_t hf rfl rfl rfl) fun a hf => ?_
   refine q_ hf rfl rfl rfl (e_move hf rfl) fun a hf => ?_
   iterate 2 refine pl_gs (wanted_f hf rfl rfl rfl rfl rfl) hf rfl rfl fun a hf => ?_
   refine q_ hf rfl rfl rfl (e_pick_t hf rfl rfl rfl) fun a hf => ?_
   refine q_ hf rfl rfl rfl (e_move hf rfl) fun a hf => ?_
   iterate 2 refine pl_gs (wanted_f hf rfl rfl rfl rfl rfl) hf rfl rfl fun a hf => ?_
   refine q_ hf rfl rfl rfl (e_pick_t hf rfl rfl rfl) fun a hf => ?_
   refine pl_nil ?_
   obtain rfl := some_inj h139
   refine then_n ?_
   exact ⟨true, rfl, hf.keep ⟨rfl, rfl, rfl, rfl, rfl, rfl, rfl, rfl, rfl, trivial⟩, hM.pick [0, 1, 2, 3] rfl⟩
  refine gq (wanted_t hf rfl rfl rfl rfl hc142) hf rfl rfl (e_move hf rfl) fun a hf => ?_
  refine gq (wanted_t hf rfl rfl rfl rfl hc142) hf rfl rfl (e_ne hf (x := y79.2) (y := 0) rfl rfl) fun a hf => ?_
  refine q_ hf rfl rfl rfl (e_pick_f hf rfl hc142 rfl) fun a hf => ?_
  refine q_ hf rfl rfl rfl (e_move hf rfl) fun a hf => ?_
  rcases cond_some h139 with ⟨hc144, h139⟩ | ⟨hc144, h139⟩
  ·iterate 2 refine pl_gs (wanted_f hf rfl rfl rfl rfl hc144) hf rfl rfl fun a hf => ?_
   refine q_ hf rfl rfl rfl (e_pick_t hf rfl hc144 rfl) fun a hf => ?_
   refine q_ hf rfl rfl rfl (e_move hf rfl) fun a hf => ?_
   iterate 2 refine pl_gs (wanted_f hf rfl rfl rfl rfl rfl) hf rfl rfl fun a hf => ?_
   refine q_ hf rfl rfl rfl (e_pick_t hf rfl rfl rfl) fun a hf => ?_
   refine q_ hf rfl rfl rfl (e_move hf rfl) fun a hf => ?_
   iterate 2 refine pl_gs (wanted_f hf rfl rfl rfl rfl rfl) hf rfl rfl fun a hf => ?_
   refine q_ hf rfl rfl rfl (e_pick_t hf rfl rfl rfl) fun a hf => ?_
   refine pl_nil ?_
   obtain rfl := some_inj h139
   refine then_n ?_
   exact ⟨true, rfl, hf.keep ⟨rfl, rfl, rfl, rfl, rfl, rfl, rfl, rfl, rfl, trivial⟩, hM.pick [0, 1, 2, 3] rfl⟩
  refine gq (wanted_t hf rfl rfl rfl rfl hc144) hf rfl rfl (e_move hf rfl) fun a hf => ?_
  refine gq (wanted_t hf rfl rfl rfl rfl hc144) hf rfl rfl (e_ne hf (x := y96.2) (y := 0) rfl rfl) fun a hf => ?_
  refine q_ hf rfl rfl rfl (e_pick_f hf rfl hc144 rfl) fun a hf => ?_
  refine q_ hf rfl rfl rfl (e_move hf rfl) fun a hf => ?_
  rcases cond_some h139 with ⟨hc146, h139⟩ | ⟨hc146, h139⟩
  ·iterate 2 refine pl_gs (wanted_f hf rfl rfl rfl rfl hc146) hf rfl rfl fun a hf => ?_
   refine q_ hf rfl rfl rfl (e_pick_t hf rfl hc146 rfl) fun a hf => ?_
   refine q_ hf rfl rfl rfl (e_move hf rfl) fun a hf => ?_
   iterate 2 refine pl_gs (wanted_f hf rfl rfl rfl rfl rfl) hf rfl rfl fun a hf => ?_
   refine q_ hf rfl rfl rfl (e_pick_t hf rfl rfl rfl) fun a hf => ?_
   refine pl_nil ?_
   obtain rfl := some_inj h139
   refine then_n ?_
   exact ⟨true, rfl, hf.keep ⟨rfl, rfl, rfl, rfl, rfl, rfl, rfl, rfl, rfl, trivial⟩, hM.pick [0, 1, 2, 3] rfl⟩
  refine gq (wanted_t hf rfl rfl rfl rfl hc146) hf rfl rfl (e_move hf rfl) fun a hf => ?_
  refine gq (wanted_t hf rfl rfl rfl rfl hc146) hf rfl rfl (e_ne hf (x := y104.2) (y := 0) rfl rfl) fun a hf => ?_
  refine q_ hf rfl rfl rfl (e_pick_f hf rfl hc146 rfl) fun a hf => ?_
  refine q_ hf rfl rfl rfl (e_move hf rfl) fun a hf => ?_
  rcases cond_some h139 with ⟨hc148, h139⟩ | ⟨hc148, h139⟩
  ·iterate 2 refine pl_gs (wanted_f hf rfl rfl rfl rfl hc148) hf rfl rfl fun a hf => ?_
   refine q_ hf rfl rfl rfl (e_pick_t hf rfl hc148 rfl) fun a hf => ?_
   refine pl_nil ?_
   obtain rfl := some_inj h139
   refine then_n ?_
   exact ⟨true, rfl, hf.keep ⟨rfl, rfl, rfl, rfl, rfl, rfl, rfl, rfl, rfl, trivial⟩, hM.pick [0, 1, 2, 3] rfl⟩
  refine gq (wanted_t hf rfl rfl rfl rfl hc148) hf rfl rfl (e_move hf rfl) fun a hf => ?_
  refine gq (wanted_t hf rfl rfl rfl rfl hc148) hf rfl rfl (e_ne hf (x := y112.2) (y := 0) rfl rfl) fun a hf => ?_
  refine q_ hf rfl rfl rfl (e_pick_f hf rfl hc148 rfl) fun a hf => ?_
  refine pl_nil ?_
  obtain rfl := some_inj h139
  refine then_n ?_
  exact ⟨(y112.2 != 0), rfl, hf.keep ⟨rfl, rfl, rfl, rfl, rfl, rfl, rfl, rfl, rfl, trivial⟩, hM.pick [0, 1, 2, 3] rfl⟩
 rintro a w151 ⟨t136, rfl, hf, hM⟩
 try dsimp only at h
 rcases cond_some h with ⟨hc152, h⟩ | ⟨hc152, h⟩
 ·refine cond_t hf rfl hc152 ?_
  refine wp_seq ?_
  refine region_pl ?_
  refine q_ hf rfl rfl rfl (e_assign hf rfl) fun a hf => ?_
  refine pl_nil ?_
  refine then_n ?_
  refine wp_ret ?_
  refine then_r ?_
  obtain rfl := some_inj h
  have hM := hM.outs (own' := []) 0 rfl
  exact leave1 hf rfl rfl ⟨rfl, hM.fin⟩
 refine cond_f hf rfl hc152 ?_
 refine wp_skip ?_
 refine then_n ?_
 refine wp_seq ?_
 refine region_pl ?_
 refine q_ hf rfl rfl rfl (e_loadA hf (us := [vL A81 (y79.1.Nodes) c82]) rfl ⟨Tryz.isAgg26, Tryz.sizeOf26⟩ rfl (hM.boxSub (k := 5) (us := [vL A81 (y79.1.Nodes) c82]) (o := 0) rfl rfl)) fun a hf => ?_
 refine q_ hf rfl rfl rfl (e_loadA hf (us := [vL A64 (y62.1.Nodes) c65]) rfl ⟨Tryz.isAgg26, Tryz.sizeOf26⟩ rfl (hM.boxSub (k := 6) (us := [vL A64 (y62.1.Nodes) c65]) (o := 0) rfl rfl)) fun a hf => ?_
 obtain ⟨y153, hz154, h⟩ := bind_some h
 refine pl_l hf rfl rfl rfl (w_call hf Tryz.call9 rfl (r_impl_UnionDawg ⟨_, All C _ _, none_, hM.all_lt, none_not, C.G, hM.g_lt, g_none, hM.tabs⟩ y79.1 _ _ (hM.lendNest (A := A81) (c := c82) (E := 79) (E2 := 2) (ws := ws83) (fun q hq => by simp [hq]) hw84) y62.1 _ _ (hM.lendNest (A := A64) (c := c65) (E := 79) (E2 := 2) (ws := ws66) (fun q hq => by simp [hq]) hw67) _ hz154) ?_)
 rintro _ w160 ⟨A155, c156, ws157, rfl, hM2, hw158, hv159⟩
 obtain ⟨hM, hx161⟩ := hM.backAL OFlat.nest hM2
 clear hM2
 have hM : Mem C _ (.row strRep A130 c131 9 y128.1 true :: .row strRep A122 c123 9 y120.1 true :: .row strRep A114 c115 9 y112.1 true :: .row strRep A106 c107 9 y104.1 true :: .row strRep A98 c99 9 y96.1 true :: .box b89 [vL A81 (y79.1.Nodes) c82] 26 :: .box b72 [vL A64 (y62.1.Nodes) c65] 26 :: .box b55 [vL A47 (y45.1.Nodes) c48] 26 :: .box b38 [vL A32 (y30.Nodes) c33] 26 :: .box b23 [vL A17 (y15.Nodes) c18] 26 :: ((((nestW A47 c48 79 2 ws49) ++ nestW A64 c65 79 2 ws66) ++ nestW A81 c82 79 2 ws83) ++ nestW A155 c156 79 2 ws157)) _ := Mem.perm (own := (nestW A155 c156 79 2 ws157) ++ ([.row strRep A130 c131 9 y128.1 true, .row strRep A122 c123 9 y120.1 true, .row strRep A114 c115 9 y112.1 true, .row strRep A106 c107 9 y104.1 true, .row strRep A98 c99 9 y96.1 true, .box b89 [vL A81 (y79.1.Nodes) c82] 26, .box b72 [vL A64 (y62.1.Nodes) c65] 26, .box b55 [vL A47 (y45.1.Nodes) c48] 26, .box b38 [vL A32 (y30.Nodes) c33] 26, .box b23 [vL A17 (y15.Nodes) c18] 26] ++ (((nestW A47 c48 79 2 ws49) ++ nestW A64 c65 79 2 ws66) ++ nestW A81 c82 79 2 ws83))) (own' := ([] ++ [.row strRep A130 c131 9 y128.1 true, .row strRep A122 c123 9 y120.1 true, .row strRep A114 c115 9 y112.1 true, .row strRep A106 c107 9 y104.1 true, .row strRep A98 c99 9 y96.1 true, .box b89 [vL A81 (y79.1.Nodes) c82] 26, .box b72 [vL A64 (y62.1.Nodes) c65] 26, .box b55 [vL A47 (y45.1.Nodes) c48] 26, .box b38 [vL A32 (y30.Nodes) c33] 26, .box b23 [vL A17 (y15.Nodes) c18] 26]) ++ ((((nestW A47 c48 79 2 ws49) ++ nestW A64 c65 79 2 ws66) ++ nestW A81 c82 79 2 ws83) ++ nestW A155 c156 79 2 ws157)) hM (fun a => by simp only [List.count_append, List.count_nil]; omega)
 refine ⟨_, rfl, fun a hf => ?_⟩
 refine q_ hf rfl rfl rfl (e_move hf rfl) fun a hf => ?_
 iterate 2 refine q_ hf rfl rfl rfl (e_extract hf rfl rfl) fun a hf => ?_
 refine pl_l hf rfl rfl rfl (w_alloc hM (cs := [vL none (([] : (List Node))) 0]) Tryz.zeroValue26 rfl fun b163 w164 hx165 hM a hf => ?_)
 refine pl_0 hf rfl rfl (w_store hf hM (us := [vL A155 (y153.1.Nodes) c156]) (cs' := [vL A155 (y153.1.Nodes) c156]) rfl rfl (k := 0) rfl rfl Tryz.sizeOf26 rfl rfl rfl fun w167 hM => ?_)
 dsimp only [List.set] at hM
 refine q_ hf rfl rfl rfl (e_assign hf rfl) fun a hf => ?_
 refine pl_nil ?_
 refine then_n ?_
 refine wp_seq ?_
 refine region_pl ?_
 refine q_ hf rfl rfl rfl (e_loadA hf (us := [vL A17 (y15.Nodes) c18]) rfl ⟨Tryz.isAgg26, Tryz.sizeOf26⟩ rfl (hM.boxSub (k := 10) (us := [vL A17 (y15.Nodes) c18]) (o := 0) rfl rfl)) fun a hf => ?_
 obtain ⟨y170, hz171, h⟩ := bind_some h
 refine pl_l hf rfl rfl rfl (w_call hf Tryz.call14 rfl (r_impl_ReverseDawg ⟨_, Sh C _ _, none_, hM.sh_lt, none_not, C.G, hM.g_lt, g_none, hM.tabs⟩ y15 _ _ (hM.dat (k := 1) rfl) _ hz171) ?_)
 rintro _ w177 ⟨A172, c173, ws174, rfl, hM2, hw175, hv176⟩
 obtain ⟨hM, hx178, hup179⟩ := hM.back hM2
 try dsimp only [List.cons_append, List.nil_append] at hM hup179
 clear hM2
 have hM : Mem C _ (.box b163 [vL A155 (y153.1.Nodes) c156] 26 :: .row strRep A130 c131 9 y128.1 true :: .row strRep A122 c123 9 y120.1 true :: .row strRep A114 c115 9 y112.1 true :: .row strRep A106 c107 9 y104.1 true :: .row strRep A98 c99 9 y96.1 true :: .box b89 [vL A81 (y79.1.Nodes) c82] 26 :: .box b72 [vL A64 (y62.1.Nodes) c65] 26 :: .box b55 [vL A47 (y45.1.Nodes) c48] 26 :: .box b38 [vL A32 (y30.Nodes) c33] 26 :: .box b23 [vL A17 (y15.Nodes) c18] 26 :: (((((nestW A47 c48 79 2 ws49) ++ nestW A64 c65 79 2 ws66) ++ nestW A81 c82 79 2 ws83) ++ nestW A155 c156 79 2 ws157) ++ nestW A172 c173 79 2 ws174)) _ := Mem.perm (own := (nestW A172 c173 79 2 ws174) ++ ([.box b163 [vL A155 (y153.1.Nodes) c156] 26, .row strRep A130 c131 9 y128.1 true, .row strRep A122 c123 9 y120.1 true, .row strRep A114 c115 9 y112.1 true, .row strRep A106 c107 9 y104.1 true, .row strRep A98 c99 9 y96.1 true, .box b89 [vL A81 (y79.1.Nodes) c82] 26, .box b72 [vL A64 (y62.1.Nodes) c65] 26, .box b55 [vL A47 (y45.1.Nodes) c48] 26, .box b38 [vL A32 (y30.Nodes) c33] 26, .box b23 [vL A17 (y15.Nodes) c18] 26] ++ ((((nestW A47 c48 79 2 ws49) ++ nestW A64 c65 79 2 ws66) ++ nestW A81 c82 79 2 ws83) ++ nestW A155 c156 79 2 ws157))) (own' := ([] ++ [.box b163 [vL A155 (y153.1.Nodes) c156] 26, .row strRep A130 c131 9 y128.1 true, .row strRep A122 c123 9 y120.1 true, .row strRep A114 c115 9 y112.1 true, .row strRep A106 c107 9 y104.1 true, .row strRep A98 c99 9 y96.1 true, .box b89 [vL A81 (y79.1.Nodes) c82] 26, .box b72 [vL A64 (y62.1.Nodes) c65] 26, .box b55 [vL A47 (y45.1.Nodes) c48] 26, .box b38 [vL A32 (y30.Nodes) c33] 26, .box b23 [vL A17 (y15.Nodes) c18] 26]) ++ (((((nestW A47 c48 79 2 ws49) ++ nestW A64 c65 79 2 ws66) ++ nestW A81 c82 79 2 ws83) ++ nestW A155 c156 79 2 ws157) ++ nestW A172 c173 79 2 ws174)) hM (fun a => by simp only [List.count_append, List.count_nil]; omega)
 refine ⟨_, rfl, fun a hf => ?_⟩
 refine q_ hf rfl rfl rfl (e_move hf rfl) fun a hf => ?_
 iterate 2 refine q_ hf rfl rfl rfl (e_extract hf rfl rfl) fun a hf => ?_
 refine pl_l hf rfl rfl rfl (w_alloc hM (cs := [vL none (([] : (List Node))) 0]) Tryz.zeroValue26 rfl fun b180 w181 hx182 hM a hf => ?_)
 refine pl_0 hf rfl rfl (w_store hf hM (us := [vL A172 (y170.1.Nodes) c173]) (cs' := [vL A172 (y170.1.Nodes) c173]) rfl rfl (k := 0) rfl rfl Tryz.sizeOf26 rfl rfl rfl fun w184 hM => ?_)
 dsimp only [List.set] at hM
 refine q_ hf rfl rfl rfl (e_assign hf rfl) fun a hf => ?_
 refine pl_nil ?_
 refine then_n ?_
 refine wp_seq ?_
 refine region_pl ?_
 refine q_ hf rfl rfl rfl (e_loadA hf (us := [vL A172 (y170.1.Nodes) c173]) rfl ⟨Tryz.isAgg26, Tryz.sizeOf26⟩ rfl (hM.boxSub (k := 0) (us := [vL A172 (y170.1.Nodes) c173]) (o := 0) rfl rfl)) fun a hf => ?_
 obtain ⟨y187, hz188, h⟩ := bind_some h
 refine pl_l hf rfl rfl rfl (w_call hf Tryz.call14 rfl (r_impl_ReverseDawg ⟨_, All C _ _, none_, hM.all_lt, none_not, C.G, hM.g_lt, g_none, hM.tabs⟩ y170.1 _ _ (hM.lendNest (A := A172) (c := c173) (E := 79) (E2 := 2) (ws := ws174) (fun q hq => by simp [hq]) hw175) _ hz188) ?_)
 rintro _ w194 ⟨A189, c190, ws191, rfl, hM2, hw192, hv193⟩
 obtain ⟨hM, hx195⟩ := hM.backAL OFlat.nest hM2
 clear hM2
 have hM : Mem C _ (.box b180 [vL A172 (y170.1.Nodes) c173] 26 :: .box b163 [vL A155 (y153.1.Nodes) c156] 26 :: .row strRep A130 c131 9 y128.1 true :: .row strRep A122 c123 9 y120.1 true :: .row strRep A114 c115 9 y112.1 true :: .row strRep A106 c107 9 y104.1 true :: .row strRep A98 c99 9 y96.1 true :: .box b89 [vL A81 (y79.1.Nodes) c82] 26 :: .box b72 [vL A64 (y62.1.Nodes) c65] 26 :: .box b55 [vL A47 (y45.1.Nodes) c48] 26 :: .box b38 [vL A32 (y30.Nodes) c33] 26 :: .box b23 [vL A17 (y15.Nodes) c18] 26 :: ((((((nestW A47 c48 79 2 ws49) ++ nestW A64 c65 79 2 ws66) ++ nestW A81 c82 79 2 ws83) ++ nestW A155 c156 79 2 ws157) ++ nestW A172 c173 79 2 ws174) ++ nestW A189 c190 79 2 ws191)) _ := Mem.perm (own := (nestW A189 c190 79 2 ws191) ++ ([.box b180 [vL A172 (y170.1.Nodes) c173] 26, .box b163 [vL A155 (y153.1.Nodes) c156] 26, .row strRep A130 c131 9 y128.1 true, .row strRep A122 c123 9 y120.1 true, .row strRep A114 c115 9 y112.1 true, .row strRep A106 c107 9 y104.1 true, .row strRep A98 c99 9 y96.1 true, .box b89 [vL A81 (y79.1.Nodes) c82] 26, .box b72 [vL A64 (y62.1.Nodes) c65] 26, .box b55 [vL A47 (y45.1.Nodes) c48] 26, .box b38 [vL A32 (y30.Nodes) c33] 26, .box b23 [vL A17 (y15.Nodes) c18] 26] ++ (((((nestW A47 c48 79 2 ws49) ++ nestW A64 c65 79 2 ws66) ++ nestW A81 c82 79 2 ws83) ++ nestW A155 c156 79 2 ws157) ++ nestW A172 c173 79 2 ws174))) (own' := ([] ++ [.box b180 [vL A172 (y170.1.Nodes) c173] 26, .box b163 [vL A155 (y153.1.Nodes) c156] 26, .row strRep A130 c131 9 y128.1 true, .row strRep A122 c123 9 y120.1 true, .row strRep A114 c115 9 y112.1 true, .row strRep A106 c107 9 y104.1 true, .row strRep A98 c99 9 y96.1 true, .box b89 [vL A81 (y79.1.Nodes) c82] 26, .box b72 [vL A64 (y62.1.Nodes) c65] 26, .box b55 [vL A47 (y45.1.Nodes) c48] 26, .box b38 [vL A32 (y30.Nodes) c33] 26, .box b23 [vL A17 (y15.Nodes) c18] 26]) ++ ((((((nestW A47 c48 79 2 ws49) ++ nestW A64 c65 79 2 ws66) ++ nestW A81 c82 79 2 ws83) ++ nestW A155 c156 79 2 ws157) ++ nestW A172 c173 79 2 ws174) ++ nestW A189 c190 79 2 ws191)) hM (fun a => by simp only [List.count_append, List.count_nil]; omega)
 refine ⟨_, rfl, fun a hf => ?_⟩
 refine q_ hf rfl rfl rfl (e_move hf rfl) fun a hf => ?_
 iterate 2 refine q_ hf rfl rfl rfl (e_extract hf rfl rfl) fun a hf => ?_
 refine pl_l hf rfl rfl rfl (w_alloc hM (cs := [vL none (([] : (List Node))) 0]) Tryz.zeroValue26 rfl fun b197 w198 hx199 hM a hf => ?_)
 refine pl_0 hf rfl rfl (w_store hf hM (us := [vL A189 (y187.1.Nodes) c190]) (cs' := [vL A189 (y187.1.Nodes) c190]) rfl rfl (k := 0) rfl rfl Tryz.sizeOf26 rfl rfl rfl fun w201 hM => ?_)
 dsimp only [List.set] at hM
 refine q_ hf rfl rfl rfl (e_assign hf rfl) fun a hf => ?_
 refine pl_nil ?_
 refine then_n ?_
 obtain ⟨x206, h207, h⟩ := bind_some h
 refine seq_join (fun a w => ∃ (b204 : Bool), b204 = x206 ∧ Has 160 a [(4, .bool (b204))] ∧ Mem C w (.box b197 [vL A189 (y187.1.Nodes) c190] 26 :: .box b180 [vL A172 (y170.1.Nodes) c173] 26 :: .box b163 [vL A155 (y153.1.Nodes) c156] 26 :: .row strRep A130 c131 9 y128.1 true :: .row strRep A122 c123 9 y120.1 true :: .row strRep A114 c115 9 y112.1 true :: .row strRep A106 c107 9 y104.1 true :: .row strRep A98 c99 9 y96.1 true :: .box b89 [vL A81 (y79.1.Nodes) c82] 26 :: .box b72 [vL A64 (y62.1.Nodes) c65] 26 :: .box b55 [vL A47 (y45.1.Nodes) c48] 26 :: .box b38 [vL A32 (y30.Nodes) c33] 26 :: .box b23 [vL A17 (y15.Nodes) c18] 26 :: ((((((nestW A47 c48 79 2 ws49) ++ nestW A64 c65 79 2 ws66) ++ nestW A81 c82 79 2 ws83) ++ nestW A155 c156 79 2 ws157) ++ nestW A172 c173 79 2 ws174) ++ nestW A189 c190 79 2 ws191)) [.dat (sliceRep NodeRep) y30.Nodes [vL A32 y30.Nodes c33], .dat (sliceRep NodeRep) y15.Nodes [vL A17 y15.Nodes c18], .dat (sliceRep byteRep) more5 [vL A6 more5 c7], .dat (sliceRep byteRep) code1 [vL A2 code1 c3]]) ?_ ?_
 ·refine region_pl ?_
  refine q_ hf rfl rfl rfl (e_move hf rfl) fun a hf => ?_
  have hl208 := row_len (hM.ownAt (k := 7) rfl)
  refine q_ hf rfl rfl rfl (e_lenL hf (x := y96.1) rfl Tryz.underlying30) fun a hf => ?_
  refine q_ hf rfl rfl rfl (e_move hf rfl) fun a hf => ?_
  have hl209 := row_len (hM.ownAt (k := 6) rfl)
  refine q_ hf rfl rfl rfl (e_lenL hf (x := y104.1) rfl Tryz.underlying30) fun a hf => ?_
  obtain ⟨z210, hz211, h207⟩ := bind_some h207
  refine q_ hf rfl rfl rfl (e_add hf rfl rfl hz211) fun a hf => ?_
  refine q_ hf rfl rfl rfl (e_move hf rfl) fun a hf => ?_
  have hl212 := row_len (hM.ownAt (k := 4) rfl)
  refine q_ hf rfl rfl rfl (e_lenL hf (x := y120.1) rfl Tryz.underlying30) fun a hf => ?_
  refine q_ hf rfl rfl rfl (e_move hf rfl) fun a hf => ?_
  have hl213 := row_len (hM.ownAt (k := 3) rfl)
  refine q_ hf rfl rfl rfl (e_lenL hf (x := y128.1) rfl Tryz.underlying30) fun a hf => ?_
  obtain ⟨z214, hz215, h207⟩ := bind_some h207
  refine q_ hf rfl rfl rfl (e_add hf rfl rfl hz215) fun a hf => ?_
  refine q_ hf rfl rfl rfl (e_eq hf (x := z210) (y := z214) rfl rfl) fun a hf => ?_
  refine q_ hf rfl rfl rfl (e_move hf rfl) fun a hf => ?_
  rcases cond_some h207 with ⟨hc216, h207⟩ | ⟨hc216, h207⟩
  ·refine gq (wanted_t hf rfl rfl rfl rfl hc216) hf rfl rfl (e_move hf rfl) fun a hf => ?_
   have hl217 := row_len (hM.ownAt (k := 5) rfl)
   refine gq (wanted_t hf rfl rfl rfl rfl hc216) hf rfl rfl (e_lenL hf (x := y112.1) rfl Tryz.underlying30) fun a hf => ?_
   refine gq (wanted_t hf rfl rfl rfl rfl hc216) hf rfl rfl (e_move hf rfl) fun a hf => ?_
   have hl218 := row_len (hM.ownAt (k := 6) rfl)
   refine gq (wanted_t hf rfl rfl rfl rfl hc216) hf rfl rfl (e_lenL hf (x := y104.1) rfl Tryz.underlying30) fun a hf => ?_
   obtain ⟨z219, hz220, h207⟩ := bind_some h207
   refine gq (wanted_t hf rfl rfl rfl rfl hc216) hf rfl rfl (e_add hf rfl rfl hz220) fun a hf => ?_
   refine gq (wanted_t hf rfl rfl rfl rfl hc216) hf rfl rfl (e_move hf rfl) fun a hf => ?_
   have hl221 := row_len (hM.ownAt (k := 4) rfl)
   refine gq (wanted_t hf rfl rfl rfl rfl hc216) hf rfl rfl (e_lenL hf (x := y120.1) rfl Tryz.underlying30) fun a hf => ?_
   refine gq (wanted_t hf rfl rfl rfl rfl hc216) hf rfl rfl (e_eq hf (x := z219) (y := (y120.1.length : Int)) rfl rfl) fun a hf => ?_
   refine q_ hf rfl rfl rfl (e_pick_t hf rfl hc216 rfl) fun a hf => ?_
   refine q_ hf rfl rfl rfl (e_move hf rfl) fun a hf => ?_
   rcases cond_some h207 with ⟨hc222, h207⟩ | ⟨hc222, h207⟩
   ·refine gq (wanted_t hf rfl rfl rfl rfl hc222) hf rfl rfl (e_move hf rfl) fun a hf => ?_
    refine gq (wanted_t hf rfl rfl rfl rfl hc222) hf rfl rfl (e_eq hf (x := y153.2) (y := 0) rfl rfl) fun a hf => ?_
    refine q_ hf rfl rfl rfl (e_pick_t hf rfl hc222 rfl) fun a hf => ?_
    refine q_ hf rfl rfl rfl (e_move hf rfl) fun a hf => ?_
    rcases cond_some h207 with ⟨hc223, h207⟩ | ⟨hc223, h207⟩
    ·refine gq (wanted_t hf rfl rfl rfl rfl hc223) hf rfl rfl (e_loadA hf (us := [vL A155 (y153.1.Nodes) c156]) rfl ⟨Tryz.isAgg26, Tryz.sizeOf26⟩ rfl (hM.boxSub (k := 2) (us := [vL A155 (y153.1.Nodes) c156]) (o := 0) rfl rfl)) fun a hf => ?_
     refine gq (wanted_t hf rfl rfl rfl rfl hc223) hf rfl rfl (e_loadA hf (us := [vL A17 (y15.Nodes) c18]) rfl ⟨Tryz.isAgg26, Tryz.sizeOf26⟩ rfl (hM.boxSub (k := 12) (us := [vL A17 (y15.Nodes) c18]) (o := 0) rfl rfl)) fun a hf => ?_
     obtain ⟨y224, hz225, h207⟩ := bind_some h207
     refine pl_gl (wanted_t hf rfl rfl rfl rfl hc223) hf rfl rfl (w_call hf Tryz.call15 rfl (r_spec_SameDawg ⟨_, All C _ _, none_, hM.all_lt, none_not, C.G, hM.g_lt, g_none, hM.tabs⟩ y153.1 _ _ (hM.lendNest (A := A155) (c := c156) (E := 79) (E2 := 2) (ws := ws157) (fun q hq => by simp [hq]) hw158) y15 _ _ (hM.lendDat (k := 1) rfl) _ hz225) ?_)
     rintro _ w226 ⟨rfl, hM2⟩
     obtain ⟨hM, hx227⟩ := hM.backA hM2
     clear hM2
     refine ⟨_, rfl, fun a hf => ?_⟩
     refine q_ hf rfl rfl rfl (e_pick_t hf rfl hc223 rfl) fun a hf => ?_
     refine q_ hf rfl rfl rfl (e_move hf rfl) fun a hf => ?_
     rcases cond_some h207 with ⟨hc229, h207⟩ | ⟨hc229, h207⟩
     ·refine gq (wanted_t hf rfl rfl rfl rfl hc229) hf rfl rfl (e_move hf rfl) fun a hf => ?_
      refine gq (wanted_t hf rfl rfl rfl rfl hc229) hf rfl rfl (e_eq hf (x := y170.2) (y := 0) rfl rfl) fun a hf => ?_
      refine q_ hf rfl rfl rfl (e_pick_t hf rfl hc229 rfl) fun a hf => ?_
      refine q_ hf rfl rfl rfl (e_move hf rfl) fun a hf => ?_
      rcases cond_some h207 with ⟨hc230, h207⟩ | ⟨hc230, h207⟩
      ·refine gq (wanted_t hf rfl rfl rfl rfl hc230) hf rfl rfl (e_move hf rfl) fun a hf => ?_
       refine gq (wanted_t hf rfl rfl rfl rfl hc230) hf rfl rfl (e_eq hf (x := y187.2) (y := 0) rfl rfl) fun a hf => ?_
       refine q_ hf rfl rfl rfl (e_pick_t hf rfl hc230 rfl) fun a hf => ?_
       refine q_ hf rfl rfl rfl (e_move hf rfl) fun a hf => ?_
       rcases cond_some h207 with ⟨hc231, h207⟩ | ⟨hc231, h207⟩
       ·refine gq (wanted_t hf rfl rfl rfl rfl hc231) hf rfl rfl (e_loadA hf (us := [vL A189 (y187.1.Nodes) c190]) rfl ⟨Tryz.isAgg26, Tryz.sizeOf26⟩ rfl (hM.boxSub (k := 0) (us := [vL A189 (y187.1.Nodes) c190]) (o := 0) rfl rfl)) fun a hf => ?_
        refine gq (wanted_t hf rfl rfl rfl rfl hc231) hf rfl rfl (e_loadA hf (us := [vL A17 (y15.Nodes) c18]) rfl ⟨Tryz.isAgg26, Tryz.sizeOf26⟩ rfl (hM.boxSub (k := 12) (us := [vL A17 (y15.Nodes) c18]) (o := 0) rfl rfl)) fun a hf => ?_
        obtain ⟨y232, hz233, h207⟩ := bind_some h207
        refine pl_gl (wanted_t hf rfl rfl rfl rfl hc231) hf rfl rfl (w_call hf Tryz.call15 rfl (r_spec_SameDawg ⟨_, All C _ _, none_, hM.all_lt, none_not, C.G, hM.g_lt, g_none, hM.tabs⟩ y187.1 _ _ (hM.lendNest (A := A189) (c := c190) (E := 79) (E2 := 2) (ws := ws191) (fun q hq => by simp [hq]) hw192) y15 _ _ (hM.lendDat (k := 1) rfl) _ hz233) ?_)
        rintro _ w234 ⟨rfl, hM2⟩
        obtain ⟨hM, hx235⟩ := hM.backA hM2
        clear hM2
        refine ⟨_, rfl, fun a hf => ?_⟩
        refine q_ hf rfl rfl rfl (e_pick_t hf rfl hc231 rfl) fun a hf => ?_
        refine q_ hf rfl rfl rfl (e_assign hf rfl) fun a hf => ?_
        refine pl_nil ?_
        obtain rfl := some_inj h207
        refine then_n ?_
        exact ⟨y232, rfl, hf.keep ⟨rfl, trivial⟩, hM.pick [0, 1, 2, 3] rfl⟩
       iterate 3 refine pl_gs (wanted_f hf rfl rfl rfl rfl hc231) hf rfl rfl fun a hf => ?_
       refine q_ hf rfl rfl rfl (e_pick_f hf rfl hc231 rfl) fun a hf => ?_
       refine q_ hf rfl rfl rfl (e_assign hf rfl) fun a hf => ?_
       refine pl_nil ?_
       obtain rfl := some_inj h207
       refine then_n ?_
       exact ⟨false, rfl, hf.keep ⟨rfl, trivial⟩, hM.pick [0, 1, 2, 3] rfl⟩
      iterate 2 refine pl_gs (wanted_f hf rfl rfl rfl rfl hc230) hf rfl rfl fun a hf => ?_
      refine q_ hf rfl rfl rfl (e_pick_f hf rfl hc230 rfl) fun a hf => ?_
      refine q_ hf rfl rfl rfl (e_move hf rfl) fun a hf => ?_
      iterate 3 refine pl_gs (wanted_f hf rfl rfl rfl rfl rfl) hf rfl rfl fun a hf => ?_
      refine q_ hf rfl rfl rfl (e_pick_f hf rfl rfl rfl) fun a hf => ?_
      refine q_ hf rfl rfl rfl (e_assign hf rfl) fun a hf => ?_
      refine pl_nil ?_
      obtain rfl := some_inj h207
      refine then_n ?_
      exact ⟨false, rfl, hf.keep ⟨rfl, trivial⟩, hM.pick [0, 1, 2, 3] rfl⟩
     iterate 2 refine pl_gs (wanted_f hf rfl rfl rfl rfl hc229) hf rfl rfl fun a hf => ?_
     refine q_ hf rfl rfl rfl (e_pick_f hf rfl hc229 rfl) fun a hf => ?_
     refine q_ hf rfl rfl rfl (e_move hf rfl) fun a hf => ?_
     iterate 2 refine pl_gs (wanted_f hf rfl rfl rfl rfl rfl) hf rfl rfl fun a hf => ?_
     refine q_ hf rfl rfl rfl (e_pick_f hf rfl rfl rfl) fun a hf => ?_
     refine q_ hf rfl rfl rfl (e_move hf rfl) fun a hf => ?_
     iterate 3 refine pl_gs (wanted_f hf rfl rfl rfl rfl rfl) hf rfl rfl fun a hf => ?_
     refine q_ hf rfl rfl rfl (e_pick_f hf rfl rfl rfl) fun a hf => ?_
     refine q_ hf rfl rfl rfl (e_assign hf rfl) fun a hf => ?_
     refine pl_nil ?_
     obtain rfl := some_inj h207
     refine then_n ?_
     exact ⟨false, rfl, hf.keep ⟨rfl, trivial⟩, hM.pick [0, 1, 2, 3] rfl⟩
    iterate 3 refine pl_gs (wanted_f hf rfl rfl rfl rfl hc223) hf rfl rfl fun a hf => ?_
    refine q_ hf rfl rfl rfl (e_pick_f hf rfl hc223 rfl) fun a hf => ?_
    refine q_ hf rfl rfl rfl (e_move hf rfl) fun a hf => ?_
    iterate 2 refine pl_gs (wanted_f hf rfl rfl rfl rfl rfl) hf rfl rfl fun a hf => ?_
    refine q_ hf rfl rfl rfl (e_pick_f hf rfl rfl rfl) fun a hf => ?_
    refine q_ hf rfl rfl rfl (e_move hf rfl) fun a hf => ?_
    iterate 2 refine pl_gs (wanted_f hf rfl rfl rfl rfl rfl) hf rfl rfl fun a hf => ?_
    refine q_ hf rfl rfl rfl (e_pick_f hf rfl rfl rfl) fun a hf => ?_
    refine q_ hf rfl rfl rfl (e_move hf rfl) fun a hf => ?_
    iterate 3 refine pl_gs (wanted_f hf rfl rfl rfl rfl rfl) hf rfl rfl fun a hf => ?_
    refine q_ hf rfl rfl rfl (e_pick_f hf rfl rfl rfl) fun a hf => ?_
    refine q_ hf rfl rfl rfl (e_assign hf rfl) fun a hf => ?_
    refine pl_nil ?_
    obtain rfl := some_inj h207
    refine then_n ?_
    exact ⟨false, rfl, hf.keep ⟨rfl, trivial⟩, hM.pick [0, 1, 2, 3] rfl⟩
   iterate 2 refine pl_gs (wanted_f hf rfl rfl rfl rfl hc222) hf rfl rfl fun a hf => ?_
   refine q_ hf rfl rfl rfl (e_pick_f hf rfl hc222 rfl) fun a hf => ?_
   refine q_ hf rfl rfl rfl (e_move hf rfl) fun a hf => ?_
   iterate 3 refine pl_gs (wanted_f hf rfl rfl rfl rfl rfl) hf rfl rfl fun a hf => ?_
   refine q_ hf rfl rfl rfl (e_pick_f hf rfl rfl rfl) fun a hf => ?_
   refine q_ hf rfl rfl rfl (e_move hf rfl) fun a hf => ?_
   iterate 2 refine pl_gs (wanted_f hf rfl rfl rfl rfl rfl) hf rfl rfl fun a hf => ?_
   refine q_ hf rfl rfl rfl (e_pick_f hf rfl rfl rfl) fun a hf => ?_
   refine q_ hf rfl rfl rfl (e_move hf rfl) fun a hf => ?_
   iterate 2 refine pl_gs (wanted_f hf rfl rfl rfl rfl rfl) hf rfl rfl fun a hf => ?_
   refine q_ hf rfl rfl rfl (e_pick_f hf rfl rfl rfl) fun a hf => ?_
   refine q_ hf rfl rfl rfl (e_move hf rfl) fun a hf => ?_
   iterate 3 refine pl_gs (wanted_f hf rfl rfl rfl rfl rfl) hf rfl rfl fun a hf => ?_
   refine q_ hf rfl rfl rfl (e_pick_f hf rfl rfl rfl) fun a hf => ?_
   refine q_ hf rfl rfl rfl (e_assign hf rfl) fun a hf => ?_
   refine pl_nil ?_
   obtain rfl := some_inj h207
   refine then_n ?_
   exact ⟨false, rfl, hf.keep ⟨rfl, trivial⟩, hM.pick [0, 1, 2, 3] rfl⟩
  iterate 8 refine pl_gs (wanted_f hf rfl rfl rfl rfl hc216) hf rfl rfl fun a hf => ?_
  refine q_ hf rfl rfl rfl (e_pick_f hf rfl hc216 rfl) fun a hf => ?_
  refine q_ hf rfl rfl rfl (e_move hf rfl) fun a hf => ?_
  iterate 2 refine pl_gs (wanted_f hf rfl rfl rfl rfl rfl) hf rfl rfl fun a hf => ?_
  refine q_ hf rfl rfl rfl (e_pick_f hf rfl rfl rfl) fun a hf => ?_
  refine q_ hf rfl rfl rfl (e_move hf rfl) fun a hf => ?_
  iterate 3 refine pl_gs (wanted_f hf rfl rfl rfl rfl rfl) hf rfl rfl fun a hf => ?_
  refine q_ hf rfl rfl rfl (e_pick_f hf rfl rfl rfl) fun a hf => ?_
  refine q_ hf rfl rfl rfl (e_move hf rfl) fun a hf => ?_
  iterate 2 refine pl_gs (wanted_f hf rfl rfl rfl rfl rfl) hf rfl rfl fun a hf => ?_
  refine q_ hf rfl rfl rfl (e_pick_f hf rfl rfl rfl) fun a hf => ?_
  refine q_ hf rfl rfl rfl (e_move hf rfl) fun a hf => ?_
  iterate 2 refine pl_gs (wanted_f hf rfl rfl rfl rfl rfl) hf rfl rfl fun a hf => ?_
  refine q_ hf rfl rfl rfl (e_pick_f hf rfl rfl rfl) fun a hf => ?_
  refine q_ hf rfl rfl rfl (e_move hf rfl) fun a hf => ?_
  iterate 3 refine pl_gs (wanted_f hf rfl rfl rfl rfl rfl) hf rfl rfl fun a hf => ?_
  refine q_ hf rfl rfl rfl (e_pick_f hf rfl rfl rfl) fun a hf => ?_
  refine q_ hf rfl rfl rfl (e_assign hf rfl) fun a hf => ?_
  refine pl_nil ?_
  obtain rfl := some_inj h207
  refine then_n ?_
  exact ⟨false, rfl, hf.keep ⟨rfl, trivial⟩, hM.pick [0, 1, 2, 3] rfl⟩
 rintro a w244 ⟨b204, rfl, hf, hM⟩
 try dsimp only at h
 refine wp_ret ?_
 obtain rfl := some_inj h
 have hM := hM.outs (own' := []) 0 rfl
 exact leave1 hf rfl rfl ⟨rfl, hM.fin⟩
end Go.Proofs.YtccoeheoifbpcaaGreatDoor
