/- The functions that this law reaches do what their models say. Printed by gen.py. -/
import Derived.Test.YtdaoecpkgobelaaDoorMod
import Derived.Test.YtdaoecpkgobelaaDoorLib
import Derived.Test.YtdaoecpkgobelaaDoorNumberOfRefB
namespace Go.Proofs.YtdaoecpkgobelaaDoor
open Go Go.RowKit
set_option linter.unusedSimpArgs false
set_option linter.unusedVariables false

set_option maxRecDepth 100000 in
set_option maxHeartbeats 4000000 in
theorem r_impl_ValidDawg (C : Cx) (d1 : Dawg) (A2 : Option Addr) (c3 : Nat) (hp4 : (sliceRep NodeRep).R C.w0 C.S0 d1.Nodes [vL A2 d1.Nodes c3]) (r : Bool) (h : m_impl_ValidDawg d1 = some r) :
    Calls Tryd.prog 45 #[.agg #[vL A2 (d1.Nodes) c3]] C.w0 fun e w => e = .returned (.bool (r)) ∧ Mem C w [] [] := by
 have hM := Mem.begin C [.dat (sliceRep NodeRep) d1.Nodes [vL A2 d1.Nodes c3]] ⟨hp4, trivial⟩
 refine enter Tryd.func45 rfl Tryd.ntmps45 rfl fun a hf => ?_
 unfold m_impl_ValidDawg at h
 refine wp_seq ?_
 refine region_pl ?_
 refine pl_l hf rfl rfl rfl (w_box hf hM (cs := [vL A2 (d1.Nodes) c3]) rfl rfl fun b5 w6 hx7 hM a hf => ?_)
 refine q_ hf rfl rfl rfl (e_assign hf rfl) fun a hf => ?_
 refine pl_nil ?_
 refine then_n ?_
 refine wp_seq ?_
 obtain ⟨x11, h12, h⟩ := bind_some h
 refine seq_join (fun a w => ∃ (t9 : Bool), t9 = x11 ∧ Has 76 a [(1, vP b5 (0)), (18, .bool (t9))] ∧ Mem C w [.box b5 [vL A2 (d1.Nodes) c3] 26] [.dat (sliceRep NodeRep) d1.Nodes [vL A2 d1.Nodes c3]]) ?_ ?_
 ·refine region_pl ?_
  refine q_ hf rfl rfl rfl (e_loadA hf (us := [vL A2 (d1.Nodes) c3]) rfl ⟨Tryd.isAgg26, Tryd.sizeOf26⟩ rfl (hM.boxSub (k := 0) (us := [vL A2 (d1.Nodes) c3]) (o := 0) rfl rfl)) fun a hf => ?_
  obtain ⟨y13, hz14, h12⟩ := bind_some h12
  refine pl_l hf rfl rfl rfl (w_call hf Tryd.call76 rfl (r_impl_nodesOk ⟨_, Sh C _ _, none_, hM.sh_lt, none_not, C.G, hM.g_lt, g_none, hM.tabs⟩ d1 _ _ (hM.dat (k := 0) rfl) _ hz14) ?_)
  rintro _ w15 ⟨rfl, hM2⟩
  obtain ⟨hM, hx16, hup17⟩ := hM.back hM2
  dsimp only [List.cons_append, List.nil_append] at hM hup17
  clear hM2
  refine ⟨_, rfl, fun a hf => ?_⟩
  refine q_ hf rfl rfl rfl (e_not hf rfl) fun a hf => ?_
  refine q_ hf rfl rfl rfl (e_move hf rfl) fun a hf => ?_
  rcases cond_some h12 with ⟨hc18, h12⟩ | ⟨hc18, h12⟩
  ·iterate 5 refine pl_gs (wanted_f hf rfl rfl rfl rfl hc18) hf rfl rfl fun a hf => ?_
   refine q_ hf rfl rfl rfl (e_pick_t hf rfl hc18 rfl) fun a hf => ?_
   refine pl_nil ?_
   obtain rfl := some_inj h12
   refine then_n ?_
   exact ⟨true, rfl, hf.keep ⟨rfl, rfl, trivial⟩, hM.pick [0] rfl⟩
  refine gq (wanted_t hf rfl rfl rfl rfl hc18) hf rfl rfl (e_field hf rfl Tryd.underlying26 rfl Tryd.sizeOf24 (o' := 0) rfl) fun a hf => ?_
  refine gq (wanted_t hf rfl rfl rfl rfl hc18) hf rfl rfl (e_load1 hf rfl Tryd.isAgg24 (hM.boxCell (k := 0) rfl rfl)) fun a hf => ?_
  obtain ⟨e20, hz21, h12⟩ := bind_some h12
  obtain ⟨b25, o26, _, hA27, h22, h23, hr24, hM⟩ := hM.elem (hM.dat (k := 0) rfl) (n := 3) rfl hz21
  obtain ⟨A29, c30, rfl, hv28, hv31⟩ := NodeRep_open hr24
  have hM := hM.add (y := .dat (sliceRep intRep) e20.Next [vL A29 e20.Next c30]) hv31
  refine gq (wanted_t hf rfl rfl rfl rfl hc18) hf rfl rfl (e_indexAddr (A := A2) (b := b25) (o := o26) (xs := d1.Nodes) (i := 0) hf hA27 rfl rfl Tryd.underlying24 Tryd.sizeOf76 h22 h23) fun a hf => ?_
  refine gq (wanted_t hf rfl rfl rfl rfl hc18) hf rfl rfl (e_field hf rfl Tryd.underlying76 rfl Tryd.sizeOf4 (o' := (o26 + (0 : Int).toNat * 3) + 0) rfl) fun a hf => ?_
  refine gq (wanted_t hf rfl rfl rfl rfl hc18) hf rfl rfl (e_load1 hf rfl Tryd.isAgg4 (hM.litCell (k := 1) (j := 0) rfl rfl rfl)) fun a hf => ?_
  refine q_ hf rfl rfl rfl (e_pick_f hf rfl hc18 rfl) fun a hf => ?_
  refine pl_nil ?_
  obtain rfl := some_inj h12
  refine then_n ?_
  exact ⟨e20.Final, rfl, hf.keep ⟨rfl, rfl, trivial⟩, hM.pick [2] rfl⟩
 rintro a w33 ⟨t9, rfl, hf, hM⟩
 try dsimp only at h
 rcases cond_some h with ⟨hc34, h⟩ | ⟨hc34, h⟩
 ·refine cond_t hf rfl hc34 ?_
  refine wp_seq ?_
  refine region_pl ?_
  refine q_ hf rfl rfl rfl (e_assign hf rfl) fun a hf => ?_
  refine pl_nil ?_
  refine then_n ?_
  refine wp_ret ?_
  refine then_r ?_
  obtain rfl := some_inj h
  have hM := hM.outs (own' := []) 0 rfl
  exact leave1 hf rfl rfl ⟨rfl, hM.fin⟩
 refine cond_f hf rfl hc34 ?_
 refine wp_skip ?_
 refine then_n ?_
 refine wp_seq ?_
 refine region_pl ?_
 refine q_ hf rfl rfl rfl (e_field hf rfl Tryd.underlying26 rfl Tryd.sizeOf24 (o' := 0) rfl) fun a hf => ?_
 refine q_ hf rfl rfl rfl (e_load1 hf rfl Tryd.isAgg24 (hM.boxCell (k := 0) rfl rfl)) fun a hf => ?_
 have hl35 := slice_len (hM.dat (k := 0) rfl)
 refine q_ hf rfl rfl rfl (e_lenL hf (x := d1.Nodes) rfl Tryd.underlying24) fun a hf => ?_
 refine q_ hf rfl rfl rfl (e_assign hf rfl) fun a hf => ?_
 refine pl_nil ?_
 refine then_n ?_
 refine wp_seq ?_
 obtain ⟨w36, hw⟩ : ∃ x, x = w33.drew := ⟨_, rfl⟩
 refine region_pi (.q 0 (.q 1 (.q 3 (.q 5 (.c 2 4 6 (.b 4 6 (.l 6 (.q 7 (.l 8 (.q 9 (.nil))))) (.l 4 (.q 7 (.l 8 (.q 9 (.nil)))))) (.b 2 6 (.l 6 (.q 7 (.l 8 (.q 9 (.nil))))) (.l 2 (.q 7 (.l 8 (.q 9 (.nil)))))) (.b 2 4 (.l 4 (.q 7 (.l 8 (.q 9 (.nil))))) (.l 2 (.q 7 (.l 8 (.q 9 (.nil))))))))))) (Ext w36) rfl (by kernel_rfl) ?_
 have hM := hM.drew
 rw [← hw] at hM ⊢
 clear hw
 refine pi_q hf rfl rfl rfl rfl (Ext.refl _) (e_loadA hf (us := [vL A2 (d1.Nodes) c3]) rfl ⟨Tryd.isAgg26, Tryd.sizeOf26⟩ rfl (hM.boxSub (k := 0) (us := [vL A2 (d1.Nodes) c3]) (o := 0) rfl rfl)) fun a hf => ?_
 iterate 3 refine pi_q hf rfl rfl rfl rfl (Ext.refl _) (e_move hf rfl) fun a hf => ?_
 obtain ⟨xs37, hz38, h⟩ := bind_some h
 obtain ⟨xs42, hz43, h⟩ := bind_some h
 obtain ⟨xs47, hz48, h⟩ := bind_some h
 refine pi_three ?_ ?_ ?_
 ·refine pi_l hf rfl rfl rfl rfl (w_make hf hM (K := boolRep) Tryd.underlying108 ei_4 Tryd.zeroValue4 rfl rfl rfl rfl hz38 fun b52 w53 hx54 hM => ⟨Ext w53, fun _ h => Ext.trans hx54 h, Ext.refl _, fun a hf => ?_⟩)
  refine pi_two ?_ ?_
  ·refine pi_l hf rfl rfl rfl rfl (w_make hf hM (K := intRep) Tryd.underlying31 ei_2 Tryd.zeroValue2 rfl rfl rfl ⟨rfl, (R64_lit rfl)⟩ hz43 fun b55 w56 hx57 hM => ⟨Ext w56, fun _ h => Ext.trans hx57 h, Ext.refl _, fun a hf => ?_⟩)
   refine pi_one ?_
   refine pi_l hf rfl rfl rfl rfl (w_make hf hM (K := intRep) Tryd.underlying109 ei_3 Tryd.zeroValue3 rfl rfl rfl ⟨rfl, (R64_lit rfl)⟩ hz48 fun b58 w59 hx60 hM => ⟨Ext w59, fun _ h => Ext.trans hx60 h, Ext.refl _, fun a hf => ?_⟩)
   refine pi_q hf rfl rfl rfl rfl (Ext.refl _) (e_build hf Tryd.zeroValue111 Tryd.underlying111 (bp_111 _ Tryd.underlying111.symm) rfl (cs := #[vL A2 (d1.Nodes) c3, vI (0), vL (some ⟨b52, 0, none⟩) (xs37) (((d1.Nodes.length : Int) : Int).toNat), vL (some ⟨b55, 0, none⟩) (xs42) (((d1.Nodes.length : Int) : Int).toNat), vL (some ⟨b58, 0, none⟩) (xs47) (((d1.Nodes.length : Int) : Int).toNat)]) (by kernel_rfl)) fun a hf => ?_
   refine pi_one ?_
   refine pi_l hf rfl rfl rfl rfl (w_box hf hM (cs := [vL A2 (d1.Nodes) c3, vI (0), vL (some ⟨b52, 0, none⟩) (xs37) (((d1.Nodes.length : Int) : Int).toNat), vL (some ⟨b55, 0, none⟩) (xs42) (((d1.Nodes.length : Int) : Int).toNat), vL (some ⟨b58, 0, none⟩) (xs47) (((d1.Nodes.length : Int) : Int).toNat)]) rfl rfl fun b61 w62 hx63 hM => ⟨Ext w62, fun _ h => Ext.trans hx63 h, Ext.refl _, fun a hf => ?_⟩)
   refine pi_q hf rfl rfl rfl rfl (Ext.refl _) (e_assign hf rfl) fun a hf => ?_
   refine pi_nil ?_
   refine then_n ?_
   refine wp_seq ?_
   obtain ⟨x78, h79, h⟩ := bind_some h
   refine seq_join (fun a w => ∃ (n65 : Int) (xs67 : (List Bool)) (xs70 : (List Int)) (xs73 : (List Int)) (t76 : Bool) (A68 : Option Addr) (c69 : Nat) (A71 : Option Addr) (c72 : Nat) (A74 : Option Addr) (c75 : Nat), (n65, xs67, xs70, xs73, t76) = x78 ∧ Has 76 a [(1, vP b5 (0)), (59, .bool (t76))] ∧ Mem C w [.box b61 [vL A2 (d1.Nodes) c3, vI (n65), vL A68 (xs67) c69, vL A71 (xs70) c72, vL A74 (xs73) c75] 111, .row intRep A74 c75 3 xs73 true, .row intRep A71 c72 2 xs70 true, .row boolRep A68 c69 4 xs67 true, .box b5 [vL A2 (d1.Nodes) c3] 26] [.dat (sliceRep NodeRep) d1.Nodes [vL A2 d1.Nodes c3]] ∧ R64 n65) ?_ ?_
   ·refine region_pl ?_
    refine q_ hf rfl rfl rfl (e_move hf rfl) fun a hf => ?_
    have hM := hM.front (k := 1) rfl
    dsimp only [List.eraseIdx] at hM
    have hM := hM.front (k := 2) rfl
    dsimp only [List.eraseIdx] at hM
    have hM := hM.front (k := 3) rfl
    dsimp only [List.eraseIdx] at hM
    have hM := hM.front (k := 3) rfl
    dsimp only [List.eraseIdx] at hM
    have hM : Mem C _ ([.box b61 [vL A2 (d1.Nodes) c3, vI (0), vL (some ⟨b52, 0, none⟩) (xs37) (((d1.Nodes.length : Int) : Int).toNat), vL (some ⟨b55, 0, none⟩) (xs42) (((d1.Nodes.length : Int) : Int).toNat), vL (some ⟨b58, 0, none⟩) (xs47) (((d1.Nodes.length : Int) : Int).toNat)] 111, .row boolRep (some ⟨b52, 0, none⟩) (((d1.Nodes.length : Int) : Int).toNat) 4 xs37 true, .row intRep (some ⟨b55, 0, none⟩) (((d1.Nodes.length : Int) : Int).toNat) 2 xs42 true, .row intRep (some ⟨b58, 0, none⟩) (((d1.Nodes.length : Int) : Int).toNat) 3 xs47 true] ++ [.box b5 [vL A2 (d1.Nodes) c3] 26]) _ := hM
    obtain ⟨y80, hz81, h79⟩ := bind_some h79
    refine pl_l hf rfl rfl rfl (w_call hf Tryd.call77 rfl (r_impl_inspector_visit ⟨_, Sh C _ _, ownB _, hM.sh_lt, sub_dis, C.G, hM.g_lt, hM.g_own, hM.tabs⟩ (⟨⟨d1.Nodes⟩, 0, xs37, xs42, xs47⟩ : inspector) _ _ _ (hM.dat (k := 0) rfl) (R64_lit rfl) _ _ _ _ _ _ 0 (R64_lit rfl) hM.sub sub_dis _ hz81) ?_)
    rintro _ w89 ⟨A83, c84, A85, c86, A87, c88, rfl, hM2, hv82⟩
    obtain ⟨hM, hup91⟩ := hM.backG hM2
    dsimp only [List.cons_append, List.nil_append] at hM hup91
    clear hM2
    refine ⟨_, rfl, fun a hf => ?_⟩
    refine q_ hf rfl rfl rfl (e_not hf rfl) fun a hf => ?_
    refine q_ hf rfl rfl rfl (e_move hf rfl) fun a hf => ?_
    rcases cond_some h79 with ⟨hc92, h79⟩ | ⟨hc92, h79⟩
    ·iterate 6 refine pl_gs (wanted_f hf rfl rfl rfl rfl hc92) hf rfl rfl fun a hf => ?_
     refine q_ hf rfl rfl rfl (e_pick_t hf rfl hc92 rfl) fun a hf => ?_
     refine q_ hf rfl rfl rfl (e_move hf rfl) fun a hf => ?_
     iterate 7 refine pl_gs (wanted_f hf rfl rfl rfl rfl rfl) hf rfl rfl fun a hf => ?_
     refine q_ hf rfl rfl rfl (e_pick_t hf rfl rfl rfl) fun a hf => ?_
     refine q_ hf rfl rfl rfl (e_move hf rfl) fun a hf => ?_
     iterate 7 refine pl_gs (wanted_f hf rfl rfl rfl rfl rfl) hf rfl rfl fun a hf => ?_
     refine q_ hf rfl rfl rfl (e_pick_t hf rfl rfl rfl) fun a hf => ?_
     refine pl_nil ?_
     obtain rfl := some_inj h79
     refine then_n ?_
     have hM := hM.front (k := 4) rfl
     dsimp only [List.eraseIdx] at hM
     have hM := hM.front (k := 2) rfl
     dsimp only [List.eraseIdx] at hM
     have hM := hM.front (k := 3) rfl
     dsimp only [List.eraseIdx] at hM
     have hM := hM.front (k := 4) rfl
     dsimp only [List.eraseIdx] at hM
     have hM := hM.front (k := 4) rfl
     dsimp only [List.eraseIdx] at hM
     exact ⟨y80.2.met, y80.2.open_, y80.2.strings, y80.2.longest, true, A83, c84, A85, c86, A87, c88, rfl, hf.keep ⟨rfl, rfl, trivial⟩, hM.pick [0] rfl, hv82⟩
    refine gq (wanted_t hf rfl rfl rfl rfl hc92) hf rfl rfl (e_move hf rfl) fun a hf => ?_
    refine gq (wanted_t hf rfl rfl rfl rfl hc92) hf rfl rfl (e_nil hf rfl) fun a hf => ?_
    refine gq (wanted_t hf rfl rfl rfl rfl hc92) hf rfl rfl (e_field hf rfl Tryd.underlying111 rfl Tryd.sizeOf2 (o' := 1) rfl) fun a hf => ?_
    refine gq (wanted_t hf rfl rfl rfl rfl hc92) hf rfl rfl (e_load1 hf rfl Tryd.isAgg2 (hM.boxCell (k := 0) rfl rfl)) fun a hf => ?_
    refine gq (wanted_t hf rfl rfl rfl rfl hc92) hf rfl rfl (e_move hf rfl) fun a hf => ?_
    refine gq (wanted_t hf rfl rfl rfl rfl hc92) hf rfl rfl (e_ne hf (x := y80.2.met) (y := (d1.Nodes.length : Int)) rfl rfl) fun a hf => ?_
    refine q_ hf rfl rfl rfl (e_pick_f hf rfl hc92 rfl) fun a hf => ?_
    refine q_ hf rfl rfl rfl (e_move hf rfl) fun a hf => ?_
    rcases cond_some h79 with ⟨hc94, h79⟩ | ⟨hc94, h79⟩
    ·iterate 7 refine pl_gs (wanted_f hf rfl rfl rfl rfl hc94) hf rfl rfl fun a hf => ?_
     refine q_ hf rfl rfl rfl (e_pick_t hf rfl hc94 rfl) fun a hf => ?_
     refine q_ hf rfl rfl rfl (e_move hf rfl) fun a hf => ?_
     iterate 7 refine pl_gs (wanted_f hf rfl rfl rfl rfl rfl) hf rfl rfl fun a hf => ?_
     refine q_ hf rfl rfl rfl (e_pick_t hf rfl rfl rfl) fun a hf => ?_
     refine pl_nil ?_
     obtain rfl := some_inj h79
     refine then_n ?_
     have hM := hM.front (k := 4) rfl
     dsimp only [List.eraseIdx] at hM
     have hM := hM.front (k := 2) rfl
     dsimp only [List.eraseIdx] at hM
     have hM := hM.front (k := 3) rfl
     dsimp only [List.eraseIdx] at hM
     have hM := hM.front (k := 4) rfl
     dsimp only [List.eraseIdx] at hM
     have hM := hM.front (k := 4) rfl
     dsimp only [List.eraseIdx] at hM
     exact ⟨y80.2.met, y80.2.open_, y80.2.strings, y80.2.longest, true, A83, c84, A85, c86, A87, c88, rfl, hf.keep ⟨rfl, rfl, trivial⟩, hM.pick [0] rfl, hv82⟩
    refine gq (wanted_t hf rfl rfl rfl rfl hc94) hf rfl rfl (e_move hf rfl) fun a hf => ?_
    refine gq (wanted_t hf rfl rfl rfl rfl hc94) hf rfl rfl (e_nil hf rfl) fun a hf => ?_
    refine gq (wanted_t hf rfl rfl rfl rfl hc94) hf rfl rfl (e_field hf rfl Tryd.underlying111 rfl Tryd.sizeOf31 (o' := 3) rfl) fun a hf => ?_
    refine gq (wanted_t hf rfl rfl rfl rfl hc94) hf rfl rfl (e_load1 hf rfl Tryd.isAgg31 (hM.boxCell (k := 0) rfl rfl)) fun a hf => ?_
    obtain ⟨e96, hz97, h79⟩ := bind_some h79
    obtain ⟨b102, _, hA103, h98, h99, hr100, hcell101⟩ := hM.rowElemN (k := 2) rfl (n := 1) rfl hz97
    obtain ⟨rfl, hv104⟩ := hr100
    refine gq (wanted_t hf rfl rfl rfl rfl hc94) hf rfl rfl (e_indexAddr (A := A85) (b := b102) (o := 0) (xs := y80.2.strings) (i := 0) hf hA103 rfl rfl Tryd.underlying31 Tryd.sizeOf2 h98 h99) fun a hf => ?_
    refine gq (wanted_t hf rfl rfl rfl rfl hc94) hf rfl rfl (e_load1 hf rfl Tryd.isAgg2 (hcell101 0 _ rfl)) fun a hf => ?_
    refine gq (wanted_t hf rfl rfl rfl rfl hc94) hf rfl rfl (e_gt hf (x := e96) (y := 3000) rfl rfl) fun a hf => ?_
    refine q_ hf rfl rfl rfl (e_pick_f hf rfl hc94 rfl) fun a hf => ?_
    refine q_ hf rfl rfl rfl (e_move hf rfl) fun a hf => ?_
    rcases cond_some h79 with ⟨hc105, h79⟩ | ⟨hc105, h79⟩
    ·iterate 7 refine pl_gs (wanted_f hf rfl rfl rfl rfl hc105) hf rfl rfl fun a hf => ?_
     refine q_ hf rfl rfl rfl (e_pick_t hf rfl hc105 rfl) fun a hf => ?_
     refine pl_nil ?_
     obtain rfl := some_inj h79
     refine then_n ?_
     have hM := hM.front (k := 4) rfl
     dsimp only [List.eraseIdx] at hM
     have hM := hM.front (k := 2) rfl
     dsimp only [List.eraseIdx] at hM
     have hM := hM.front (k := 3) rfl
     dsimp only [List.eraseIdx] at hM
     have hM := hM.front (k := 4) rfl
     dsimp only [List.eraseIdx] at hM
     have hM := hM.front (k := 4) rfl
     dsimp only [List.eraseIdx] at hM
     exact ⟨y80.2.met, y80.2.open_, y80.2.strings, y80.2.longest, true, A83, c84, A85, c86, A87, c88, rfl, hf.keep ⟨rfl, rfl, trivial⟩, hM.pick [0] rfl, hv82⟩
    refine gq (wanted_t hf rfl rfl rfl rfl hc105) hf rfl rfl (e_move hf rfl) fun a hf => ?_
    refine gq (wanted_t hf rfl rfl rfl rfl hc105) hf rfl rfl (e_nil hf rfl) fun a hf => ?_
    refine gq (wanted_t hf rfl rfl rfl rfl hc105) hf rfl rfl (e_field hf rfl Tryd.underlying111 rfl Tryd.sizeOf109 (o' := 4) rfl) fun a hf => ?_
    refine gq (wanted_t hf rfl rfl rfl rfl hc105) hf rfl rfl (e_load1 hf rfl Tryd.isAgg109 (hM.boxCell (k := 0) rfl rfl)) fun a hf => ?_
    obtain ⟨e107, hz108, h79⟩ := bind_some h79
    obtain ⟨b113, _, hA114, h109, h110, hr111, hcell112⟩ := hM.rowElemN (k := 3) rfl (n := 1) rfl hz108
    obtain ⟨rfl, hv115⟩ := hr111
    refine gq (wanted_t hf rfl rfl rfl rfl hc105) hf rfl rfl (e_indexAddr (A := A87) (b := b113) (o := 0) (xs := y80.2.longest) (i := 0) hf hA114 rfl rfl Tryd.underlying109 Tryd.sizeOf3 h109 h110) fun a hf => ?_
    refine gq (wanted_t hf rfl rfl rfl rfl hc105) hf rfl rfl (e_load1 hf rfl Tryd.isAgg3 (hcell112 0 _ rfl)) fun a hf => ?_
    refine gq (wanted_t hf rfl rfl rfl rfl hc105) hf rfl rfl (e_gt hf (x := e107) (y := 13) rfl rfl) fun a hf => ?_
    refine q_ hf rfl rfl rfl (e_pick_f hf rfl hc105 rfl) fun a hf => ?_
    refine pl_nil ?_
    obtain rfl := some_inj h79
    refine then_n ?_
    have hM := hM.front (k := 4) rfl
    dsimp only [List.eraseIdx] at hM
    have hM := hM.front (k := 2) rfl
    dsimp only [List.eraseIdx] at hM
    have hM := hM.front (k := 3) rfl
    dsimp only [List.eraseIdx] at hM
    have hM := hM.front (k := 4) rfl
    dsimp only [List.eraseIdx] at hM
    have hM := hM.front (k := 4) rfl
    dsimp only [List.eraseIdx] at hM
    exact ⟨y80.2.met, y80.2.open_, y80.2.strings, y80.2.longest, (decide (13 < e107)), A83, c84, A85, c86, A87, c88, rfl, hf.keep ⟨rfl, rfl, trivial⟩, hM.pick [0] rfl, hv82⟩
   rintro a w117 ⟨n65, xs67, xs70, xs73, t76, A68, c69, A71, c72, A74, c75, rfl, hf, hM, hv66⟩
   try dsimp only at h
   rcases cond_some h with ⟨hc118, h⟩ | ⟨hc118, h⟩
   ·refine cond_t hf rfl hc118 ?_
    refine wp_seq ?_
    refine region_pl ?_
    refine q_ hf rfl rfl rfl (e_assign hf rfl) fun a hf => ?_
    refine pl_nil ?_
    refine then_n ?_
    refine wp_ret ?_
    refine then_r ?_
    obtain rfl := some_inj h
    have hM := hM.outs (own' := []) 0 rfl
    exact leave1 hf rfl rfl ⟨rfl, hM.fin⟩
   refine cond_f hf rfl hc118 ?_
   refine wp_skip ?_
   refine then_n ?_
   refine wp_seq ?_
   refine region_pl ?_
   refine pl_l hf rfl rfl rfl (w_makeMap fS fT hM fun b119 w120 hx121 hM a hf => ?_)
   refine q_ hf rfl rfl rfl (e_assign hf rfl) fun a hf => ?_
   refine pl_nil ?_
   refine then_n ?_
   obtain ⟨x124, h125, h⟩ := bind_some h
   refine seq_join (fun a w => ∃ (mp122 : (List (Str × Bool))) (b123 : Nat), (.inl mp122) = x124 ∧ Has 76 a [] ∧ Mem C w [.obj b123 (mapO fS fT mp122), .box b61 [vL A2 (d1.Nodes) c3, vI (n65), vL A68 (xs67) c69, vL A71 (xs70) c72, vL A74 (xs73) c75] 111, .row intRep A74 c75 3 xs73 true, .row intRep A71 c72 2 xs70 true, .row boolRep A68 c69 4 xs67 true, .box b5 [vL A2 (d1.Nodes) c3] 26] [.dat (sliceRep NodeRep) d1.Nodes [vL A2 d1.Nodes c3]]) ?_ ?_
   ·refine wp_seq ?_
    refine region_pl ?_
    refine q_ hf rfl rfl rfl (e_field hf rfl Tryd.underlying26 rfl Tryd.sizeOf24 (o' := 0) rfl) fun a hf => ?_
    refine q_ hf rfl rfl rfl (e_load1 hf rfl Tryd.isAgg24 (hM.boxCell (k := 5) rfl rfl)) fun a hf => ?_
    have hl126 := slice_len (hM.dat (k := 0) rfl)
    refine q_ hf rfl rfl rfl (e_lenL hf (x := d1.Nodes) rfl Tryd.underlying24) fun a hf => ?_
    refine q_ hf rfl rfl rfl (e_move hf rfl) fun a hf => ?_
    refine pl_nil ?_
    refine then_n ?_
    refine wp_block ?_
    obtain ⟨x134, h135, h125⟩ := bind_some h125
    refine wp_loopM h135 (fun s a w => ∃ (mp127 : (List (Str × Bool))) (n129 : Int) (b128 : Nat), (mp127, n129) = s ∧ Has 76 a [(5, vM b128), (62, vL A2 (d1.Nodes) c3), (63, vI ((d1.Nodes.length : Int))), (64, vI (n129))] ∧ Mem C w [.obj b128 (mapO fS fT mp127), .box b61 [vL A2 (d1.Nodes) c3, vI (n65), vL A68 (xs67) c69, vL A71 (xs70) c72, vL A74 (xs73) c75] 111, .row intRep A74 c75 3 xs73 true, .row intRep A71 c72 2 xs70 true, .row boolRep A68 c69 4 xs67 true, .box b5 [vL A2 (d1.Nodes) c3] 26] [.dat (sliceRep NodeRep) d1.Nodes [vL A2 d1.Nodes c3]] ∧ R64 n129) ?_ ?_
    ·exact ⟨([] : (List (Str × Bool))), 0, b119, rfl, hf.keep ⟨rfl, rfl, rfl, rfl, trivial⟩, hM.pick [0] rfl, (R64_lit rfl)⟩
    rintro s o136 a w131 ⟨mp127, n129, b128, rfl, hf, hM, hv130⟩ h137 hd138
    replace h137 : m_impl_ValidDawg_l1 d1 mp127 n129 = some o136 := h137
    unfold m_impl_ValidDawg_l1 at h137
    refine wp_seq ?_
    refine region_pl ?_
    refine q_ hf rfl rfl rfl (e_lt hf (x := n129) (y := (d1.Nodes.length : Int)) rfl rfl) fun a hf => ?_
    refine pl_nil ?_
    refine then_n ?_
    refine wp_seq ?_
    rcases cond_some h137 with ⟨hc139, h137⟩ | ⟨hc139, h137⟩
    ·refine cond_t hf rfl hc139 ?_
     refine wp_skip ?_
     refine then_n ?_
     refine wp_seq ?_
     refine wp_block ?_
     refine wp_seq ?_
     refine region_pl ?_
     obtain ⟨e140, hz141, h137⟩ := bind_some h137
     obtain ⟨b145, o146, _, hA147, h142, h143, hr144, hM⟩ := hM.elem (hM.dat (k := 0) rfl) (n := 3) rfl hz141
     obtain ⟨A149, c150, rfl, hv148, hv151⟩ := NodeRep_open hr144
     have hM := hM.add (y := .dat (sliceRep intRep) e140.Next [vL A149 e140.Next c150]) hv151
     refine q_ hf rfl rfl rfl (e_indexAddr (A := A2) (b := b145) (o := o146) (xs := d1.Nodes) (i := n129) hf hA147 rfl rfl Tryd.underlying24 Tryd.sizeOf76 h142 h143) fun a hf => ?_
     refine q_ hf rfl rfl rfl (e_loadA hf (us := [.bool (e140.Final), vS (e140.Letters), vL A149 (e140.Next) c150]) rfl ⟨Tryd.isAgg76, Tryd.sizeOf76⟩ rfl (hM.litSub (k := 1) (d := 0) (us := [.bool (e140.Final), vS (e140.Letters), vL A149 (e140.Next) c150]) rfl rfl rfl)) fun a hf => ?_
     refine pl_l hf rfl rfl rfl (w_alloc hM (cs := [.bool (false), vS (([] : Str)), vL none (([] : (List Int))) 0]) Tryd.zeroValue76 rfl fun b152 w153 hx154 hM a hf => ?_)
     refine pl_0 hf rfl rfl (w_store hf hM (us := [.bool (e140.Final), vS (e140.Letters), vL A149 (e140.Next) c150]) (cs' := [.bool (e140.Final), vS (e140.Letters), vL A149 (e140.Next) c150]) rfl rfl (k := 0) rfl rfl Tryd.sizeOf76 rfl rfl rfl fun w156 hM => ?_)
     dsimp only [List.set] at hM
     refine pl_nil ?_
     refine then_n ?_
     refine wp_seq ?_
     refine region_pl ?_
     refine q_ hf rfl rfl rfl (e_loadA hf (us := [.bool (e140.Final), vS (e140.Letters), vL A149 (e140.Next) c150]) rfl ⟨Tryd.isAgg76, Tryd.sizeOf76⟩ rfl (hM.boxSub (k := 0) (us := [.bool (e140.Final), vS (e140.Letters), vL A149 (e140.Next) c150]) (o := 0) rfl rfl)) fun a hf => ?_
     obtain ⟨y159, hz160, h137⟩ := bind_some h137
     refine pl_l hf rfl rfl rfl (w_call hf Tryd.call78 rfl (r_impl_keyOf ⟨_, Sh C _ _, none_, hM.sh_lt, none_not, C.G, hM.g_lt, g_none, hM.tabs⟩ e140 hv148 _ _ (hM.dat (k := 0) rfl) _ hz160) ?_)
     rintro _ w162 ⟨rfl, hM2, hv161⟩
     obtain ⟨hM, hx163, hup164⟩ := hM.back hM2
     dsimp only [List.cons_append, List.nil_append] at hM hup164
     clear hM2
     refine ⟨_, rfl, fun a hf => ?_⟩
     refine q_ hf rfl rfl rfl (e_assign hf rfl) fun a hf => ?_
     refine pl_nil ?_
     refine then_n ?_
     iterate 2 refine wp_seq ?_
     refine region_pl ?_
     iterate 2 refine q_ hf rfl rfl rfl (e_move hf rfl) fun a hf => ?_
     refine q_ hf rfl rfl rfl (e_lookup (fk := fS) (fv := fT) hf (keyS Tryd.underlying9) Tryd.underlying113 (k := y159) (z := false) rfl rfl Tryd.zeroValue4 (hM.ownAt (k := 1) rfl)) fun a hf => ?_
     refine pl_nil ?_
     refine then_n ?_
     rcases cond_some h137 with ⟨hc165, h137⟩ | ⟨hc165, h137⟩
     ·refine cond_t hf rfl hc165 ?_
      refine wp_seq ?_
      refine region_pl ?_
      refine q_ hf rfl rfl rfl (e_assign hf rfl) fun a hf => ?_
      refine pl_nil ?_
      refine then_n ?_
      refine wp_ret ?_
      refine then_r ?_
      refine blk_r ?_
      refine then_r ?_
      obtain rfl := some_inj h137
      obtain rfl := hd138 _ rfl
      try dsimp only at h125
      refine then_r ?_
      refine blk_r ?_
      obtain rfl := some_inj h125
      try dsimp only at h
      refine then_r ?_
      obtain rfl := some_inj h
      have hM := hM.outs (own' := []) 0 rfl
      exact leave1 hf rfl rfl ⟨rfl, hM.fin⟩
     refine cond_f hf rfl hc165 ?_
     refine wp_skip ?_
     refine then_n ?_
     refine region_pl ?_
     iterate 2 refine q_ hf rfl rfl rfl (e_move hf rfl) fun a hf => ?_
     refine pl_0 hf rfl rfl (w_mapUpdate (fk := fS) (fv := fT) hf hM (keyS Tryd.underlying9) Tryd.underlying113 (k := y159) (v := true) rfl rfl rfl (n := 1) rfl fun w166 hM => ?_)
     dsimp only [List.set] at hM
     refine pl_nil ?_
     refine blk_n ?_
     refine then_n ?_
     refine region_pl ?_
     obtain ⟨z167, hz168, h137⟩ := bind_some h137
     refine q_ hf rfl rfl rfl (e_add hf rfl rfl hz168) fun a hf => ?_
     refine q_ hf rfl rfl rfl (e_move hf rfl) fun a hf => ?_
     refine pl_nil ?_
     obtain rfl := some_inj h137
     refine then_n ⟨_, rfl, ?_⟩
     exact ⟨(putM mp127 y159 true), z167, b128, rfl, hf.keep ⟨rfl, rfl, rfl, rfl, trivial⟩, (hM.drop (.cons _ (.cons_cons _ (.cons_cons _ (.cons_cons _ (.cons_cons _ (.cons_cons _ (.cons_cons _ .slnil)))))))).pick [2] rfl, (chk_R hz168)⟩
    refine cond_f hf rfl hc139 ?_
    refine wp_exit ?_
    refine then_x ?_
    obtain rfl := some_inj h137
    obtain rfl := hd138 _ rfl
    try dsimp only at h125
    refine then_x ?_
    refine exit_hit ?_
    obtain rfl := some_inj h125
    refine then_n ?_
    exact ⟨mp127, b128, rfl, hf.keep trivial, hM.pick [0] rfl⟩
   rintro a w175 ⟨mp122, b123, rfl, hf, hM⟩
   try dsimp only at h
   refine wp_seq ?_
   refine region_pl ?_
   refine q_ hf rfl rfl rfl (e_assign hf rfl) fun a hf => ?_
   refine pl_nil ?_
   refine then_n ?_
   refine wp_ret ?_
   obtain rfl := some_inj h
   have hM := hM.outs (own' := []) 0 rfl
   exact leave1 hf rfl rfl ⟨rfl, hM.fin⟩
  refine pi_l hf rfl rfl rfl rfl (w_make hf hM (K := intRep) Tryd.underlying109 ei_3 Tryd.zeroValue3 rfl rfl rfl ⟨rfl, (R64_lit rfl)⟩ hz48 fun b177 w178 hx179 hM => ⟨Ext w178, fun _ h => Ext.trans hx179 h, Ext.refl _, fun a hf => ?_⟩)
  refine pi_one ?_
  refine pi_l hf rfl rfl rfl rfl (w_make hf hM (K := intRep) Tryd.underlying31 ei_2 Tryd.zeroValue2 rfl rfl rfl ⟨rfl, (R64_lit rfl)⟩ hz43 fun b180 w181 hx182 hM => ⟨Ext w181, fun _ h => Ext.trans hx182 h, Ext.refl _, fun a hf => ?_⟩)
  refine pi_q hf rfl rfl rfl rfl (Ext.refl _) (e_build hf Tryd.zeroValue111 Tryd.underlying111 (bp_111 _ Tryd.underlying111.symm) rfl (cs := #[vL A2 (d1.Nodes) c3, vI (0), vL (some ⟨b52, 0, none⟩) (xs37) (((d1.Nodes.length : Int) : Int).toNat), vL (some ⟨b180, 0, none⟩) (xs42) (((d1.Nodes.length : Int) : Int).toNat), vL (some ⟨b177, 0, none⟩) (xs47) (((d1.Nodes.length : Int) : Int).toNat)]) (by kernel_rfl)) fun a hf => ?_
  refine pi_one ?_
  refine pi_l hf rfl rfl rfl rfl (w_box hf hM (cs := [vL A2 (d1.Nodes) c3, vI (0), vL (some ⟨b52, 0, none⟩) (xs37) (((d1.Nodes.length : Int) : Int).toNat), vL (some ⟨b180, 0, none⟩) (xs42) (((d1.Nodes.length : Int) : Int).toNat), vL (some ⟨b177, 0, none⟩) (xs47) (((d1.Nodes.length : Int) : Int).toNat)]) rfl rfl fun b183 w184 hx185 hM => ⟨Ext w184, fun _ h => Ext.trans hx185 h, Ext.refl _, fun a hf => ?_⟩)
  refine pi_q hf rfl rfl rfl rfl (Ext.refl _) (e_assign hf rfl) fun a hf => ?_
  refine pi_nil ?_
  refine then_n ?_
  refine wp_seq ?_
  obtain ⟨x200, h201, h⟩ := bind_some h
  refine seq_join (fun a w => ∃ (n187 : Int) (xs189 : (List Bool)) (xs192 : (List Int)) (xs195 : (List Int)) (t198 : Bool) (A190 : Option Addr) (c191 : Nat) (A193 : Option Addr) (c194 : Nat) (A196 : Option Addr) (c197 : Nat), (n187, xs189, xs192, xs195, t198) = x200 ∧ Has 76 a [(1, vP b5 (0)), (59, .bool (t198))] ∧ Mem C w [.box b183 [vL A2 (d1.Nodes) c3, vI (n187), vL A190 (xs189) c191, vL A193 (xs192) c194, vL A196 (xs195) c197] 111, .row intRep A193 c194 2 xs192 true, .row intRep A196 c197 3 xs195 true, .row boolRep A190 c191 4 xs189 true, .box b5 [vL A2 (d1.Nodes) c3] 26] [.dat (sliceRep NodeRep) d1.Nodes [vL A2 d1.Nodes c3]] ∧ R64 n187) ?_ ?_
  ·refine region_pl ?_
   refine q_ hf rfl rfl rfl (e_move hf rfl) fun a hf => ?_
   have hM := hM.front (k := 2) rfl
   dsimp only [List.eraseIdx] at hM
   have hM := hM.front (k := 2) rfl
   dsimp only [List.eraseIdx] at hM
   have hM := hM.front (k := 3) rfl
   dsimp only [List.eraseIdx] at hM
   have hM := hM.front (k := 3) rfl
   dsimp only [List.eraseIdx] at hM
   have hM : Mem C _ ([.box b183 [vL A2 (d1.Nodes) c3, vI (0), vL (some ⟨b52, 0, none⟩) (xs37) (((d1.Nodes.length : Int) : Int).toNat), vL (some ⟨b180, 0, none⟩) (xs42) (((d1.Nodes.length : Int) : Int).toNat), vL (some ⟨b177, 0, none⟩) (xs47) (((d1.Nodes.length : Int) : Int).toNat)] 111, .row boolRep (some ⟨b52, 0, none⟩) (((d1.Nodes.length : Int) : Int).toNat) 4 xs37 true, .row intRep (some ⟨b180, 0, none⟩) (((d1.Nodes.length : Int) : Int).toNat) 2 xs42 true, .row intRep (some ⟨b177, 0, none⟩) (((d1.Nodes.length : Int) : Int).toNat) 3 xs47 true] ++ [.box b5 [vL A2 (d1.Nodes) c3] 26]) _ := hM
   obtain ⟨y202, hz203, h201⟩ := bind_some h201
   refine pl_l hf rfl rfl rfl (w_call hf Tryd.call77 rfl (r_impl_inspector_visit ⟨_, Sh C _ _, ownB _, hM.sh_lt, sub_dis, C.G, hM.g_lt, hM.g_own, hM.tabs⟩ (⟨⟨d1.Nodes⟩, 0, xs37, xs42, xs47⟩ : inspector) _ _ _ (hM.dat (k := 0) rfl) (R64_lit rfl) _ _ _ _ _ _ 0 (R64_lit rfl) hM.sub sub_dis _ hz203) ?_)
   rintro _ w211 ⟨A205, c206, A207, c208, A209, c210, rfl, hM2, hv204⟩
   obtain ⟨hM, hup213⟩ := hM.backG hM2
   dsimp only [List.cons_append, List.nil_append] at hM hup213
   clear hM2
   refine ⟨_, rfl, fun a hf => ?_⟩
   refine q_ hf rfl rfl rfl (e_not hf rfl) fun a hf => ?_
   refine q_ hf rfl rfl rfl (e_move hf rfl) fun a hf => ?_
   rcases cond_some h201 with ⟨hc214, h201⟩ | ⟨hc214, h201⟩
   ·iterate 6 refine pl_gs (wanted_f hf rfl rfl rfl rfl hc214) hf rfl rfl fun a hf => ?_
    refine q_ hf rfl rfl rfl (e_pick_t hf rfl hc214 rfl) fun a hf => ?_
    refine q_ hf rfl rfl rfl (e_move hf rfl) fun a hf => ?_
    iterate 7 refine pl_gs (wanted_f hf rfl rfl rfl rfl rfl) hf rfl rfl fun a hf => ?_
    refine q_ hf rfl rfl rfl (e_pick_t hf rfl rfl rfl) fun a hf => ?_
    refine q_ hf rfl rfl rfl (e_move hf rfl) fun a hf => ?_
    iterate 7 refine pl_gs (wanted_f hf rfl rfl rfl rfl rfl) hf rfl rfl fun a hf => ?_
    refine q_ hf rfl rfl rfl (e_pick_t hf rfl rfl rfl) fun a hf => ?_
    refine pl_nil ?_
    obtain rfl := some_inj h201
    refine then_n ?_
    have hM := hM.front (k := 4) rfl
    dsimp only [List.eraseIdx] at hM
    have hM := hM.front (k := 2) rfl
    dsimp only [List.eraseIdx] at hM
    have hM := hM.front (k := 4) rfl
    dsimp only [List.eraseIdx] at hM
    have hM := hM.front (k := 4) rfl
    dsimp only [List.eraseIdx] at hM
    have hM := hM.front (k := 4) rfl
    dsimp only [List.eraseIdx] at hM
    exact ⟨y202.2.met, y202.2.open_, y202.2.strings, y202.2.longest, true, A205, c206, A207, c208, A209, c210, rfl, hf.keep ⟨rfl, rfl, trivial⟩, hM.pick [0] rfl, hv204⟩
   refine gq (wanted_t hf rfl rfl rfl rfl hc214) hf rfl rfl (e_move hf rfl) fun a hf => ?_
   refine gq (wanted_t hf rfl rfl rfl rfl hc214) hf rfl rfl (e_nil hf rfl) fun a hf => ?_
   refine gq (wanted_t hf rfl rfl rfl rfl hc214) hf rfl rfl (e_field hf rfl Tryd.underlying111 rfl Tryd.sizeOf2 (o' := 1) rfl) fun a hf => ?_
   refine gq (wanted_t hf rfl rfl rfl rfl hc214) hf rfl rfl (e_load1 hf rfl Tryd.isAgg2 (hM.boxCell (k := 0) rfl rfl)) fun a hf => ?_
   refine gq (wanted_t hf rfl rfl rfl rfl hc214) hf rfl rfl (e_move hf rfl) fun a hf => ?_
   refine gq (wanted_t hf rfl rfl rfl rfl hc214) hf rfl rfl (e_ne hf (x := y202.2.met) (y := (d1.Nodes.length : Int)) rfl rfl) fun a hf => ?_
   refine q_ hf rfl rfl rfl (e_pick_f hf rfl hc214 rfl) fun a hf => ?_
   refine q_ hf rfl rfl rfl (e_move hf rfl) fun a hf => ?_
   rcases cond_some h201 with ⟨hc216, h201⟩ | ⟨hc216, h201⟩
   ·iterate 7 refine pl_gs (wanted_f hf rfl rfl rfl rfl hc216) hf rfl rfl fun a hf => ?_
    refine q_ hf rfl rfl rfl (e_pick_t hf rfl hc216 rfl) fun a hf => ?_
    refine q_ hf rfl rfl rfl (e_move hf rfl) fun a hf => ?_
    iterate 7 refine pl_gs (wanted_f hf rfl rfl rfl rfl rfl) hf rfl rfl fun a hf => ?_
    refine q_ hf rfl rfl rfl (e_pick_t hf rfl rfl rfl) fun a hf => ?_
    refine pl_nil ?_
    obtain rfl := some_inj h201
    refine then_n ?_
    have hM := hM.front (k := 4) rfl
    dsimp only [List.eraseIdx] at hM
    have hM := hM.front (k := 2) rfl
    dsimp only [List.eraseIdx] at hM
    have hM := hM.front (k := 4) rfl
    dsimp only [List.eraseIdx] at hM
    have hM := hM.front (k := 4) rfl
    dsimp only [List.eraseIdx] at hM
    have hM := hM.front (k := 4) rfl
    dsimp only [List.eraseIdx] at hM
    exact ⟨y202.2.met, y202.2.open_, y202.2.strings, y202.2.longest, true, A205, c206, A207, c208, A209, c210, rfl, hf.keep ⟨rfl, rfl, trivial⟩, hM.pick [0] rfl, hv204⟩
   refine gq (wanted_t hf rfl rfl rfl rfl hc216) hf rfl rfl (e_move hf rfl) fun a hf => ?_
   refine gq (wanted_t hf rfl rfl rfl rfl hc216) hf rfl rfl (e_nil hf rfl) fun a hf => ?_
   refine gq (wanted_t hf rfl rfl rfl rfl hc216) hf rfl rfl (e_field hf rfl Tryd.underlying111 rfl Tryd.sizeOf31 (o' := 3) rfl) fun a hf => ?_
   refine gq (wanted_t hf rfl rfl rfl rfl hc216) hf rfl rfl (e_load1 hf rfl Tryd.isAgg31 (hM.boxCell (k := 0) rfl rfl)) fun a hf => ?_
   obtain ⟨e218, hz219, h201⟩ := bind_some h201
   obtain ⟨b224, _, hA225, h220, h221, hr222, hcell223⟩ := hM.rowElemN (k := 2) rfl (n := 1) rfl hz219
   obtain ⟨rfl, hv226⟩ := hr222
   refine gq (wanted_t hf rfl rfl rfl rfl hc216) hf rfl rfl (e_indexAddr (A := A207) (b := b224) (o := 0) (xs := y202.2.strings) (i := 0) hf hA225 rfl rfl Tryd.underlying31 Tryd.sizeOf2 h220 h221) fun a hf => ?_
   refine gq (wanted_t hf rfl rfl rfl rfl hc216) hf rfl rfl (e_load1 hf rfl Tryd.isAgg2 (hcell223 0 _ rfl)) fun a hf => ?_
   refine gq (wanted_t hf rfl rfl rfl rfl hc216) hf rfl rfl (e_gt hf (x := e218) (y := 3000) rfl rfl) fun a hf => ?_
   refine q_ hf rfl rfl rfl (e_pick_f hf rfl hc216 rfl) fun a hf => ?_
   refine q_ hf rfl rfl rfl (e_move hf rfl) fun a hf => ?_
   rcases cond_some h201 with ⟨hc227, h201⟩ | ⟨hc227, h201⟩
   ·iterate 7 refine pl_gs (wanted_f hf rfl rfl rfl rfl hc227) hf rfl rfl fun a hf => ?_
    refine q_ hf rfl rfl rfl (e_pick_t hf rfl hc227 rfl) fun a hf => ?_
    refine pl_nil ?_
    obtain rfl := some_inj h201
    refine then_n ?_
    have hM := hM.front (k := 4) rfl
    dsimp only [List.eraseIdx] at hM
    have hM := hM.front (k := 2) rfl
    dsimp only [List.eraseIdx] at hM
    have hM := hM.front (k := 4) rfl
    dsimp only [List.eraseIdx] at hM
    have hM := hM.front (k := 4) rfl
    dsimp only [List.eraseIdx] at hM
    have hM := hM.front (k := 4) rfl
    dsimp only [List.eraseIdx] at hM
    exact ⟨y202.2.met, y202.2.open_, y202.2.strings, y202.2.longest, true, A205, c206, A207, c208, A209, c210, rfl, hf.keep ⟨rfl, rfl, trivial⟩, hM.pick [0] rfl, hv204⟩
   refine gq (wanted_t hf rfl rfl rfl rfl hc227) hf rfl rfl (e_move hf rfl) fun a hf => ?_
   refine gq (wanted_t hf rfl rfl rfl rfl hc227) hf rfl rfl (e_nil hf rfl) fun a hf => ?_
   refine gq (wanted_t hf rfl rfl rfl rfl hc227) hf rfl rfl (e_field hf rfl Tryd.underlying111 rfl Tryd.sizeOf109 (o' := 4) rfl) fun a hf => ?_
   refine gq (wanted_t hf rfl rfl rfl rfl hc227) hf rfl rfl (e_load1 hf rfl Tryd.isAgg109 (hM.boxCell (k := 0) rfl rfl)) fun a hf => ?_
   obtain ⟨e229, hz230, h201⟩ := bind_some h201
   obtain ⟨b235, _, hA236, h231, h232, hr233, hcell234⟩ := hM.rowElemN (k := 3) rfl (n := 1) rfl hz230
   obtain ⟨rfl, hv237⟩ := hr233
   refine gq (wanted_t hf rfl rfl rfl rfl hc227) hf rfl rfl (e_indexAddr (A := A209) (b := b235) (o := 0) (xs := y202.2.longest) (i := 0) hf hA236 rfl rfl Tryd.underlying109 Tryd.sizeOf3 h231 h232) fun a hf => ?_
   refine gq (wanted_t hf rfl rfl rfl rfl hc227) hf rfl rfl (e_load1 hf rfl Tryd.isAgg3 (hcell234 0 _ rfl)) fun a hf => ?_
   refine gq (wanted_t hf rfl rfl rfl rfl hc227) hf rfl rfl (e_gt hf (x := e229) (y := 13) rfl rfl) fun a hf => ?_
   refine q_ hf rfl rfl rfl (e_pick_f hf rfl hc227 rfl) fun a hf => ?_
   refine pl_nil ?_
   obtain rfl := some_inj h201
   refine then_n ?_
   have hM := hM.front (k := 4) rfl
   dsimp only [List.eraseIdx] at hM
   have hM := hM.front (k := 2) rfl
   dsimp only [List.eraseIdx] at hM
   have hM := hM.front (k := 4) rfl
   dsimp only [List.eraseIdx] at hM
   have hM := hM.front (k := 4) rfl
   dsimp only [List.eraseIdx] at hM
   have hM := hM.front (k := 4) rfl
   dsimp only [List.eraseIdx] at hM
   exact ⟨y202.2.met, y202.2.open_, y202.2.strings, y202.2.longest, (decide (13 < e229)), A205, c206, A207, c208, A209, c210, rfl, hf.keep ⟨rfl, rfl, trivial⟩, hM.pick [0] rfl, hv204⟩
  rintro a w239 ⟨n187, xs189, xs192, xs195, t198, A190, c191, A193, c194, A196, c197, rfl, hf, hM, hv188⟩
  try dsimp only at h
  rcases cond_some h with ⟨hc240, h⟩ | ⟨hc240, h⟩
  ·refine cond_t hf rfl hc240 ?_
   refine wp_seq ?_
   refine region_pl ?_
   refine q_ hf rfl rfl rfl (e_assign hf rfl) fun a hf => ?_
   refine pl_nil ?_
   refine then_n ?_
   refine wp_ret ?_
   refine then_r ?_
   obtain rfl := some_inj h
   have hM := hM.outs (own' := []) 0 rfl
   exact leave1 hf rfl rfl ⟨rfl, hM.fin⟩
  refine cond_f hf rfl hc240 ?_
  refine wp_skip ?_
  refine then_n ?_
  refine wp_seq ?_
  refine region_pl ?_
  refine pl_l hf rfl rfl rfl (w_makeMap fS fT hM fun b241 w242 hx243 hM a hf => ?_)
  refine q_ hf rfl rfl rfl (e_assign hf rfl) fun a hf => ?_
  refine pl_nil ?_
  refine then_n ?_
  obtain ⟨x246, h247, h⟩ := bind_some h
  refine seq_join (fun a w => ∃ (mp244 : (List (Str × Bool))) (b245 : Nat), (.inl mp244) = x246 ∧ Has 76 a [] ∧ Mem C w [.obj b245 (mapO fS fT mp244), .box b183 [vL A2 (d1.Nodes) c3, vI (n187), vL A190 (xs189) c191, vL A193 (xs192) c194, vL A196 (xs195) c197] 111, .row intRep A193 c194 2 xs192 true, .row intRep A196 c197 3 xs195 true, .row boolRep A190 c191 4 xs189 true, .box b5 [vL A2 (d1.Nodes) c3] 26] [.dat (sliceRep NodeRep) d1.Nodes [vL A2 d1.Nodes c3]]) ?_ ?_
  ·refine wp_seq ?_
   refine region_pl ?_
   refine q_ hf rfl rfl rfl (e_field hf rfl Tryd.underlying26 rfl Tryd.sizeOf24 (o' := 0) rfl) fun a hf => ?_
   refine q_ hf rfl rfl rfl (e_load1 hf rfl Tryd.isAgg24 (hM.boxCell (k := 5) rfl rfl)) fun a hf => ?_
   have hl248 := slice_len (hM.dat (k := 0) rfl)
   refine q_ hf rfl rfl rfl (e_lenL hf (x := d1.Nodes) rfl Tryd.underlying24) fun a hf => ?_
   refine q_ hf rfl rfl rfl (e_move hf rfl) fun a hf => ?_
   refine pl_nil ?_
   refine then_n ?_
   refine wp_block ?_
   obtain ⟨x256, h257, h247⟩ := bind_some h247
   refine wp_loopM h257 (fun s a w => ∃ (mp249 : (List (Str × Bool))) (n251 : Int) (b250 : Nat), (mp249, n251) = s ∧ Has 76 a [(5, vM b250), (62, vL A2 (d1.Nodes) c3), (63, vI ((d1.Nodes.length : Int))), (64, vI (n251))] ∧ Mem C w [.obj b250 (mapO fS fT mp249), .box b183 [vL A2 (d1.Nodes) c3, vI (n187), vL A190 (xs189) c191, vL A193 (xs192) c194, vL A196 (xs195) c197] 111, .row intRep A193 c194 2 xs192 true, .row intRep A196 c197 3 xs195 true, .row boolRep A190 c191 4 xs189 true, .box b5 [vL A2 (d1.Nodes) c3] 26] [.dat (sliceRep NodeRep) d1.Nodes [vL A2 d1.Nodes c3]] ∧ R64 n251) ?_ ?_
   ·exact ⟨([] : (List (Str × Bool))), 0, b241, rfl, hf.keep ⟨rfl, rfl, rfl, rfl, trivial⟩, hM.pick [0] rfl, (R64_lit rfl)⟩
   rintro s o258 a w253 ⟨mp249, n251, b250, rfl, hf, hM, hv252⟩ h259 hd260
   replace h259 : m_impl_ValidDawg_l1 d1 mp249 n251 = some o258 := h259
   unfold m_impl_ValidDawg_l1 at h259
   refine wp_seq ?_
   refine region_pl ?_
   refine q_ hf rfl rfl rfl (e_lt hf (x := n251) (y := (d1.Nodes.length : Int)) rfl rfl) fun a hf => ?_
   refine pl_nil ?_
   refine then_n ?_
   refine wp_seq ?_
   rcases cond_some h259 with ⟨hc261, h259⟩ | ⟨hc261, h259⟩
   ·refine cond_t hf rfl hc261 ?_
    refine wp_skip ?_
    refine then_n ?_
    refine wp_seq ?_
    refine wp_block ?_
    refine wp_seq ?_
    refine region_pl ?_
    obtain ⟨e262, hz263, h259⟩ := bind_some h259
    obtain ⟨b267, o268, _, hA269, h264, h265, hr266, hM⟩ := hM.elem (hM.dat (k := 0) rfl) (n := 3) rfl hz263
    obtain ⟨A271, c272, rfl, hv270, hv273⟩ := NodeRep_open hr266
    have hM := hM.add (y := .dat (sliceRep intRep) e262.Next [vL A271 e262.Next c272]) hv273
    refine q_ hf rfl rfl rfl (e_indexAddr (A := A2) (b := b267) (o := o268) (xs := d1.Nodes) (i := n251) hf hA269 rfl rfl Tryd.underlying24 Tryd.sizeOf76 h264 h265) fun a hf => ?_
    refine q_ hf rfl rfl rfl (e_loadA hf (us := [.bool (e262.Final), vS (e262.Letters), vL A271 (e262.Next) c272]) rfl ⟨Tryd.isAgg76, Tryd.sizeOf76⟩ rfl (hM.litSub (k := 1) (d := 0) (us := [.bool (e262.Final), vS (e262.Letters), vL A271 (e262.Next) c272]) rfl rfl rfl)) fun a hf => ?_
    refine pl_l hf rfl rfl rfl (w_alloc hM (cs := [.bool (false), vS (([] : Str)), vL none (([] : (List Int))) 0]) Tryd.zeroValue76 rfl fun b274 w275 hx276 hM a hf => ?_)
    refine pl_0 hf rfl rfl (w_store hf hM (us := [.bool (e262.Final), vS (e262.Letters), vL A271 (e262.Next) c272]) (cs' := [.bool (e262.Final), vS (e262.Letters), vL A271 (e262.Next) c272]) rfl rfl (k := 0) rfl rfl Tryd.sizeOf76 rfl rfl rfl fun w278 hM => ?_)
    dsimp only [List.set] at hM
    refine pl_nil ?_
    refine then_n ?_
    refine wp_seq ?_
    refine region_pl ?_
    refine q_ hf rfl rfl rfl (e_loadA hf (us := [.bool (e262.Final), vS (e262.Letters), vL A271 (e262.Next) c272]) rfl ⟨Tryd.isAgg76, Tryd.sizeOf76⟩ rfl (hM.boxSub (k := 0) (us := [.bool (e262.Final), vS (e262.Letters), vL A271 (e262.Next) c272]) (o := 0) rfl rfl)) fun a hf => ?_
    obtain ⟨y281, hz282, h259⟩ := bind_some h259
    refine pl_l hf rfl rfl rfl (w_call hf Tryd.call78 rfl (r_impl_keyOf ⟨_, Sh C _ _, none_, hM.sh_lt, none_not, C.G, hM.g_lt, g_none, hM.tabs⟩ e262 hv270 _ _ (hM.dat (k := 0) rfl) _ hz282) ?_)
    rintro _ w284 ⟨rfl, hM2, hv283⟩
    obtain ⟨hM, hx285, hup286⟩ := hM.back hM2
    dsimp only [List.cons_append, List.nil_append] at hM hup286
    clear hM2
    refine ⟨_, rfl, fun a hf => ?_⟩
    refine q_ hf rfl rfl rfl (e_assign hf rfl) fun a hf => ?_
    refine pl_nil ?_
    refine then_n ?_
    iterate 2 refine wp_seq ?_
    refine region_pl ?_
    iterate 2 refine q_ hf rfl rfl rfl (e_move hf rfl) fun a hf => ?_
    refine q_ hf rfl rfl rfl (e_lookup (fk := fS) (fv := fT) hf (keyS Tryd.underlying9) Tryd.underlying113 (k := y281) (z := false) rfl rfl Tryd.zeroValue4 (hM.ownAt (k := 1) rfl)) fun a hf => ?_
    refine pl_nil ?_
    refine then_n ?_
    rcases cond_some h259 with ⟨hc287, h259⟩ | ⟨hc287, h259⟩
    ·refine cond_t hf rfl hc287 ?_
     refine wp_seq ?_
     refine region_pl ?_
     refine q_ hf rfl rfl rfl (e_assign hf rfl) fun a hf => ?_
     refine pl_nil ?_
     refine then_n ?_
     refine wp_ret ?_
     refine then_r ?_
     refine blk_r ?_
     refine then_r ?_
     obtain rfl := some_inj h259
     obtain rfl := hd260 _ rfl
     try dsimp only at h247
     refine then_r ?_
     refine blk_r ?_
     obtain rfl := some_inj h247
     try dsimp only at h
     refine then_r ?_
     obtain rfl := some_inj h
     have hM := hM.outs (own' := []) 0 rfl
     exact leave1 hf rfl rfl ⟨rfl, hM.fin⟩
    refine cond_f hf rfl hc287 ?_
    refine wp_skip ?_
    refine then_n ?_
    refine region_pl ?_
    iterate 2 refine q_ hf rfl rfl rfl (e_move hf rfl) fun a hf => ?_
    refine pl_0 hf rfl rfl (w_mapUpdate (fk := fS) (fv := fT) hf hM (keyS Tryd.underlying9) Tryd.underlying113 (k := y281) (v := true) rfl rfl rfl (n := 1) rfl fun w288 hM => ?_)
    dsimp only [List.set] at hM
    refine pl_nil ?_
    refine blk_n ?_
    refine then_n ?_
    refine region_pl ?_
    obtain ⟨z289, hz290, h259⟩ := bind_some h259
    refine q_ hf rfl rfl rfl (e_add hf rfl rfl hz290) fun a hf => ?_
    refine q_ hf rfl rfl rfl (e_move hf rfl) fun a hf => ?_
    refine pl_nil ?_
    obtain rfl := some_inj h259
    refine then_n ⟨_, rfl, ?_⟩
    exact ⟨(putM mp249 y281 true), z289, b250, rfl, hf.keep ⟨rfl, rfl, rfl, rfl, trivial⟩, (hM.drop (.cons _ (.cons_cons _ (.cons_cons _ (.cons_cons _ (.cons_cons _ (.cons_cons _ (.cons_cons _ .slnil)))))))).pick [2] rfl, (chk_R hz290)⟩
   refine cond_f hf rfl hc261 ?_
   refine wp_exit ?_
   refine then_x ?_
   obtain rfl := some_inj h259
   obtain rfl := hd260 _ rfl
   try dsimp only at h247
   refine then_x ?_
   refine exit_hit ?_
   obtain rfl := some_inj h247
   refine then_n ?_
   exact ⟨mp249, b250, rfl, hf.keep trivial, hM.pick [0] rfl⟩
  rintro a w297 ⟨mp244, b245, rfl, hf, hM⟩
  try dsimp only at h
  refine wp_seq ?_
  refine region_pl ?_
  refine q_ hf rfl rfl rfl (e_assign hf rfl) fun a hf => ?_
  refine pl_nil ?_
  refine then_n ?_
  refine wp_ret ?_
  obtain rfl := some_inj h
  have hM := hM.outs (own' := []) 0 rfl
  exact leave1 hf rfl rfl ⟨rfl, hM.fin⟩
 ·refine pi_l hf rfl rfl rfl rfl (w_make hf hM (K := intRep) Tryd.underlying31 ei_2 Tryd.zeroValue2 rfl rfl rfl ⟨rfl, (R64_lit rfl)⟩ hz43 fun b299 w300 hx301 hM => ⟨Ext w300, fun _ h => Ext.trans hx301 h, Ext.refl _, fun a hf => ?_⟩)
  refine pi_two ?_ ?_
  ·refine pi_l hf rfl rfl rfl rfl (w_make hf hM (K := boolRep) Tryd.underlying108 ei_4 Tryd.zeroValue4 rfl rfl rfl rfl hz38 fun b302 w303 hx304 hM => ⟨Ext w303, fun _ h => Ext.trans hx304 h, Ext.refl _, fun a hf => ?_⟩)
   refine pi_one ?_
   refine pi_l hf rfl rfl rfl rfl (w_make hf hM (K := intRep) Tryd.underlying109 ei_3 Tryd.zeroValue3 rfl rfl rfl ⟨rfl, (R64_lit rfl)⟩ hz48 fun b305 w306 hx307 hM => ⟨Ext w306, fun _ h => Ext.trans hx307 h, Ext.refl _, fun a hf => ?_⟩)
   refine pi_q hf rfl rfl rfl rfl (Ext.refl _) (e_build hf Tryd.zeroValue111 Tryd.underlying111 (bp_111 _ Tryd.underlying111.symm) rfl (cs := #[vL A2 (d1.Nodes) c3, vI (0), vL (some ⟨b302, 0, none⟩) (xs37) (((d1.Nodes.length : Int) : Int).toNat), vL (some ⟨b299, 0, none⟩) (xs42) (((d1.Nodes.length : Int) : Int).toNat), vL (some ⟨b305, 0, none⟩) (xs47) (((d1.Nodes.length : Int) : Int).toNat)]) (by kernel_rfl)) fun a hf => ?_
   refine pi_one ?_
   refine pi_l hf rfl rfl rfl rfl (w_box hf hM (cs := [vL A2 (d1.Nodes) c3, vI (0), vL (some ⟨b302, 0, none⟩) (xs37) (((d1.Nodes.length : Int) : Int).toNat), vL (some ⟨b299, 0, none⟩) (xs42) (((d1.Nodes.length : Int) : Int).toNat), vL (some ⟨b305, 0, none⟩) (xs47) (((d1.Nodes.length : Int) : Int).toNat)]) rfl rfl fun b308 w309 hx310 hM => ⟨Ext w309, fun _ h => Ext.trans hx310 h, Ext.refl _, fun a hf => ?_⟩)
   refine pi_q hf rfl rfl rfl rfl (Ext.refl _) (e_assign hf rfl) fun a hf => ?_
   refine pi_nil ?_
   refine then_n ?_
   refine wp_seq ?_
   obtain ⟨x325, h326, h⟩ := bind_some h
   refine seq_join (fun a w => ∃ (n312 : Int) (xs314 : (List Bool)) (xs317 : (List Int)) (xs320 : (List Int)) (t323 : Bool) (A315 : Option Addr) (c316 : Nat) (A318 : Option Addr) (c319 : Nat) (A321 : Option Addr) (c322 : Nat), (n312, xs314, xs317, xs320, t323) = x325 ∧ Has 76 a [(1, vP b5 (0)), (59, .bool (t323))] ∧ Mem C w [.box b308 [vL A2 (d1.Nodes) c3, vI (n312), vL A315 (xs314) c316, vL A318 (xs317) c319, vL A321 (xs320) c322] 111, .row intRep A321 c322 3 xs320 true, .row boolRep A315 c316 4 xs314 true, .row intRep A318 c319 2 xs317 true, .box b5 [vL A2 (d1.Nodes) c3] 26] [.dat (sliceRep NodeRep) d1.Nodes [vL A2 d1.Nodes c3]] ∧ R64 n312) ?_ ?_
   ·refine region_pl ?_
    refine q_ hf rfl rfl rfl (e_move hf rfl) fun a hf => ?_
    have hM := hM.front (k := 1) rfl
    dsimp only [List.eraseIdx] at hM
    have hM := hM.front (k := 3) rfl
    dsimp only [List.eraseIdx] at hM
    have hM := hM.front (k := 3) rfl
    dsimp only [List.eraseIdx] at hM
    have hM := hM.front (k := 3) rfl
    dsimp only [List.eraseIdx] at hM
    have hM : Mem C _ ([.box b308 [vL A2 (d1.Nodes) c3, vI (0), vL (some ⟨b302, 0, none⟩) (xs37) (((d1.Nodes.length : Int) : Int).toNat), vL (some ⟨b299, 0, none⟩) (xs42) (((d1.Nodes.length : Int) : Int).toNat), vL (some ⟨b305, 0, none⟩) (xs47) (((d1.Nodes.length : Int) : Int).toNat)] 111, .row boolRep (some ⟨b302, 0, none⟩) (((d1.Nodes.length : Int) : Int).toNat) 4 xs37 true, .row intRep (some ⟨b299, 0, none⟩) (((d1.Nodes.length : Int) : Int).toNat) 2 xs42 true, .row intRep (some ⟨b305, 0, none⟩) (((d1.Nodes.length : Int) : Int).toNat) 3 xs47 true] ++ [.box b5 [vL A2 (d1.Nodes) c3] 26]) _ := hM
    obtain ⟨y327, hz328, h326⟩ := bind_some h326
    refine pl_l hf rfl rfl rfl (w_call hf Tryd.call77 rfl (r_impl_inspector_visit ⟨_, Sh C _ _, ownB _, hM.sh_lt, sub_dis, C.G, hM.g_lt, hM.g_own, hM.tabs⟩ (⟨⟨d1.Nodes⟩, 0, xs37, xs42, xs47⟩ : inspector) _ _ _ (hM.dat (k := 0) rfl) (R64_lit rfl) _ _ _ _ _ _ 0 (R64_lit rfl) hM.sub sub_dis _ hz328) ?_)
    rintro _ w336 ⟨A330, c331, A332, c333, A334, c335, rfl, hM2, hv329⟩
    obtain ⟨hM, hup338⟩ := hM.backG hM2
    dsimp only [List.cons_append, List.nil_append] at hM hup338
    clear hM2
    refine ⟨_, rfl, fun a hf => ?_⟩
    refine q_ hf rfl rfl rfl (e_not hf rfl) fun a hf => ?_
    refine q_ hf rfl rfl rfl (e_move hf rfl) fun a hf => ?_
    rcases cond_some h326 with ⟨hc339, h326⟩ | ⟨hc339, h326⟩
    ·iterate 6 refine pl_gs (wanted_f hf rfl rfl rfl rfl hc339) hf rfl rfl fun a hf => ?_
     refine q_ hf rfl rfl rfl (e_pick_t hf rfl hc339 rfl) fun a hf => ?_
     refine q_ hf rfl rfl rfl (e_move hf rfl) fun a hf => ?_
     iterate 7 refine pl_gs (wanted_f hf rfl rfl rfl rfl rfl) hf rfl rfl fun a hf => ?_
     refine q_ hf rfl rfl rfl (e_pick_t hf rfl rfl rfl) fun a hf => ?_
     refine q_ hf rfl rfl rfl (e_move hf rfl) fun a hf => ?_
     iterate 7 refine pl_gs (wanted_f hf rfl rfl rfl rfl rfl) hf rfl rfl fun a hf => ?_
     refine q_ hf rfl rfl rfl (e_pick_t hf rfl rfl rfl) fun a hf => ?_
     refine pl_nil ?_
     obtain rfl := some_inj h326
     refine then_n ?_
     have hM := hM.front (k := 4) rfl
     dsimp only [List.eraseIdx] at hM
     have hM := hM.front (k := 3) rfl
     dsimp only [List.eraseIdx] at hM
     have hM := hM.front (k := 3) rfl
     dsimp only [List.eraseIdx] at hM
     have hM := hM.front (k := 4) rfl
     dsimp only [List.eraseIdx] at hM
     have hM := hM.front (k := 4) rfl
     dsimp only [List.eraseIdx] at hM
     exact ⟨y327.2.met, y327.2.open_, y327.2.strings, y327.2.longest, true, A330, c331, A332, c333, A334, c335, rfl, hf.keep ⟨rfl, rfl, trivial⟩, hM.pick [0] rfl, hv329⟩
    refine gq (wanted_t hf rfl rfl rfl rfl hc339) hf rfl rfl (e_move hf rfl) fun a hf => ?_
    refine gq (wanted_t hf rfl rfl rfl rfl hc339) hf rfl rfl (e_nil hf rfl) fun a hf => ?_
    refine gq (wanted_t hf rfl rfl rfl rfl hc339) hf rfl rfl (e_field hf rfl Tryd.underlying111 rfl Tryd.sizeOf2 (o' := 1) rfl) fun a hf => ?_
    refine gq (wanted_t hf rfl rfl rfl rfl hc339) hf rfl rfl (e_load1 hf rfl Tryd.isAgg2 (hM.boxCell (k := 0) rfl rfl)) fun a hf => ?_
    refine gq (wanted_t hf rfl rfl rfl rfl hc339) hf rfl rfl (e_move hf rfl) fun a hf => ?_
    refine gq (wanted_t hf rfl rfl rfl rfl hc339) hf rfl rfl (e_ne hf (x := y327.2.met) (y := (d1.Nodes.length : Int)) rfl rfl) fun a hf => ?_
    refine q_ hf rfl rfl rfl (e_pick_f hf rfl hc339 rfl) fun a hf => ?_
    refine q_ hf rfl rfl rfl (e_move hf rfl) fun a hf => ?_
    rcases cond_some h326 with ⟨hc341, h326⟩ | ⟨hc341, h326⟩
    ·iterate 7 refine pl_gs (wanted_f hf rfl rfl rfl rfl hc341) hf rfl rfl fun a hf => ?_
     refine q_ hf rfl rfl rfl (e_pick_t hf rfl hc341 rfl) fun a hf => ?_
     refine q_ hf rfl rfl rfl (e_move hf rfl) fun a hf => ?_
     iterate 7 refine pl_gs (wanted_f hf rfl rfl rfl rfl rfl) hf rfl rfl fun a hf => ?_
     refine q_ hf rfl rfl rfl (e_pick_t hf rfl rfl rfl) fun a hf => ?_
     refine pl_nil ?_
     obtain rfl := some_inj h326
     refine then_n ?_
     have hM := hM.front (k := 4) rfl
     dsimp only [List.eraseIdx] at hM
     have hM := hM.front (k := 3) rfl
     dsimp only [List.eraseIdx] at hM
     have hM := hM.front (k := 3) rfl
     dsimp only [List.eraseIdx] at hM
     have hM := hM.front (k := 4) rfl
     dsimp only [List.eraseIdx] at hM
     have hM := hM.front (k := 4) rfl
     dsimp only [List.eraseIdx] at hM
     exact ⟨y327.2.met, y327.2.open_, y327.2.strings, y327.2.longest, true, A330, c331, A332, c333, A334, c335, rfl, hf.keep ⟨rfl, rfl, trivial⟩, hM.pick [0] rfl, hv329⟩
    refine gq (wanted_t hf rfl rfl rfl rfl hc341) hf rfl rfl (e_move hf rfl) fun a hf => ?_
    refine gq (wanted_t hf rfl rfl rfl rfl hc341) hf rfl rfl (e_nil hf rfl) fun a hf => ?_
    refine gq (wanted_t hf rfl rfl rfl rfl hc341) hf rfl rfl (e_field hf rfl Tryd.underlying111 rfl Tryd.sizeOf31 (o' := 3) rfl) fun a hf => ?_
    refine gq (wanted_t hf rfl rfl rfl rfl hc341) hf rfl rfl (e_load1 hf rfl Tryd.isAgg31 (hM.boxCell (k := 0) rfl rfl)) fun a hf => ?_
    obtain ⟨e343, hz344, h326⟩ := bind_some h326
    obtain ⟨b349, _, hA350, h345, h346, hr347, hcell348⟩ := hM.rowElemN (k := 2) rfl (n := 1) rfl hz344
    obtain ⟨rfl, hv351⟩ := hr347
    refine gq (wanted_t hf rfl rfl rfl rfl hc341) hf rfl rfl (e_indexAddr (A := A332) (b := b349) (o := 0) (xs := y327.2.strings) (i := 0) hf hA350 rfl rfl Tryd.underlying31 Tryd.sizeOf2 h345 h346) fun a hf => ?_
    refine gq (wanted_t hf rfl rfl rfl rfl hc341) hf rfl rfl (e_load1 hf rfl Tryd.isAgg2 (hcell348 0 _ rfl)) fun a hf => ?_
    refine gq (wanted_t hf rfl rfl rfl rfl hc341) hf rfl rfl (e_gt hf (x := e343) (y := 3000) rfl rfl) fun a hf => ?_
    refine q_ hf rfl rfl rfl (e_pick_f hf rfl hc341 rfl) fun a hf => ?_
    refine q_ hf rfl rfl rfl (e_move hf rfl) fun a hf => ?_
    rcases cond_some h326 with ⟨hc352, h326⟩ | ⟨hc352, h326⟩
    ·iterate 7 refine pl_gs (wanted_f hf rfl rfl rfl rfl hc352) hf rfl rfl fun a hf => ?_
     refine q_ hf rfl rfl rfl (e_pick_t hf rfl hc352 rfl) fun a hf => ?_
     refine pl_nil ?_
     obtain rfl := some_inj h326
     refine then_n ?_
     have hM := hM.front (k := 4) rfl
     dsimp only [List.eraseIdx] at hM
     have hM := hM.front (k := 3) rfl
     dsimp only [List.eraseIdx] at hM
     have hM := hM.front (k := 3) rfl
     dsimp only [List.eraseIdx] at hM
     have hM := hM.front (k := 4) rfl
     dsimp only [List.eraseIdx] at hM
     have hM := hM.front (k := 4) rfl
     dsimp only [List.eraseIdx] at hM
     exact ⟨y327.2.met, y327.2.open_, y327.2.strings, y327.2.longest, true, A330, c331, A332, c333, A334, c335, rfl, hf.keep ⟨rfl, rfl, trivial⟩, hM.pick [0] rfl, hv329⟩
    refine gq (wanted_t hf rfl rfl rfl rfl hc352) hf rfl rfl (e_move hf rfl) fun a hf => ?_
    refine gq (wanted_t hf rfl rfl rfl rfl hc352) hf rfl rfl (e_nil hf rfl) fun a hf => ?_
    refine gq (wanted_t hf rfl rfl rfl rfl hc352) hf rfl rfl (e_field hf rfl Tryd.underlying111 rfl Tryd.sizeOf109 (o' := 4) rfl) fun a hf => ?_
    refine gq (wanted_t hf rfl rfl rfl rfl hc352) hf rfl rfl (e_load1 hf rfl Tryd.isAgg109 (hM.boxCell (k := 0) rfl rfl)) fun a hf => ?_
    obtain ⟨e354, hz355, h326⟩ := bind_some h326
    obtain ⟨b360, _, hA361, h356, h357, hr358, hcell359⟩ := hM.rowElemN (k := 3) rfl (n := 1) rfl hz355
    obtain ⟨rfl, hv362⟩ := hr358
    refine gq (wanted_t hf rfl rfl rfl rfl hc352) hf rfl rfl (e_indexAddr (A := A334) (b := b360) (o := 0) (xs := y327.2.longest) (i := 0) hf hA361 rfl rfl Tryd.underlying109 Tryd.sizeOf3 h356 h357) fun a hf => ?_
    refine gq (wanted_t hf rfl rfl rfl rfl hc352) hf rfl rfl (e_load1 hf rfl Tryd.isAgg3 (hcell359 0 _ rfl)) fun a hf => ?_
    refine gq (wanted_t hf rfl rfl rfl rfl hc352) hf rfl rfl (e_gt hf (x := e354) (y := 13) rfl rfl) fun a hf => ?_
    refine q_ hf rfl rfl rfl (e_pick_f hf rfl hc352 rfl) fun a hf => ?_
    refine pl_nil ?_
    obtain rfl := some_inj h326
    refine then_n ?_
    have hM := hM.front (k := 4) rfl
    dsimp only [List.eraseIdx] at hM
    have hM := hM.front (k := 3) rfl
    dsimp only [List.eraseIdx] at hM
    have hM := hM.front (k := 3) rfl
    dsimp only [List.eraseIdx] at hM
    have hM := hM.front (k := 4) rfl
    dsimp only [List.eraseIdx] at hM
    have hM := hM.front (k := 4) rfl
    dsimp only [List.eraseIdx] at hM
    exact ⟨y327.2.met, y327.2.open_, y327.2.strings, y327.2.longest, (decide (13 < e354)), A330, c331, A332, c333, A334, c335, rfl, hf.keep ⟨rfl, rfl, trivial⟩, hM.pick [0] rfl, hv329⟩
   rintro a w364 ⟨n312, xs314, xs317, xs320, t323, A315, c316, A318, c319, A321, c322, rfl, hf, hM, hv313⟩
   try dsimp only at h
   rcases cond_some h with ⟨hc365, h⟩ | ⟨hc365, h⟩
   ·refine cond_t hf rfl hc365 ?_
    refine wp_seq ?_
    refine region_pl ?_
    refine q_ hf rfl rfl rfl (e_assign hf rfl) fun a hf => ?_
    refine pl_nil ?_
    refine then_n ?_
    refine wp_ret ?_
    refine then_r ?_
    obtain rfl := some_inj h
    have hM := hM.outs (own' := []) 0 rfl
    exact leave1 hf rfl rfl ⟨rfl, hM.fin⟩
   refine cond_f hf rfl hc365 ?_
   refine wp_skip ?_
   refine then_n ?_
   refine wp_seq ?_
   refine region_pl ?_
   refine pl_l hf rfl rfl rfl (w_makeMap fS fT hM fun b366 w367 hx368 hM a hf => ?_)
   refine q_ hf rfl rfl rfl (e_assign hf rfl) fun a hf => ?_
   refine pl_nil ?_
   refine then_n ?_
   obtain ⟨x371, h372, h⟩ := bind_some h
   refine seq_join (fun a w => ∃ (mp369 : (List (Str × Bool))) (b370 : Nat), (.inl mp369) = x371 ∧ Has 76 a [] ∧ Mem C w [.obj b370 (mapO fS fT mp369), .box b308 [vL A2 (d1.Nodes) c3, vI (n312), vL A315 (xs314) c316, vL A318 (xs317) c319, vL A321 (xs320) c322] 111, .row intRep A321 c322 3 xs320 true, .row boolRep A315 c316 4 xs314 true, .row intRep A318 c319 2 xs317 true, .box b5 [vL A2 (d1.Nodes) c3] 26] [.dat (sliceRep NodeRep) d1.Nodes [vL A2 d1.Nodes c3]]) ?_ ?_
   ·refine wp_seq ?_
    refine region_pl ?_
    refine q_ hf rfl rfl rfl (e_field hf rfl Tryd.underlying26 rfl Tryd.sizeOf24 (o' := 0) rfl) fun a hf => ?_
    refine q_ hf rfl rfl rfl (e_load1 hf rfl Tryd.isAgg24 (hM.boxCell (k := 5) rfl rfl)) fun a hf => ?_
    have hl373 := slice_len (hM.dat (k := 0) rfl)
    refine q_ hf rfl rfl rfl (e_lenL hf (x := d1.Nodes) rfl Tryd.underlying24) fun a hf => ?_
    refine q_ hf rfl rfl rfl (e_move hf rfl) fun a hf => ?_
    refine pl_nil ?_
    refine then_n ?_
    refine wp_block ?_
    obtain ⟨x381, h382, h372⟩ := bind_some h372
    refine wp_loopM h382 (fun s a w => ∃ (mp374 : (List (Str × Bool))) (n376 : Int) (b375 : Nat), (mp374, n376) = s ∧ Has 76 a [(5, vM b375), (62, vL A2 (d1.Nodes) c3), (63, vI ((d1.Nodes.length : Int))), (64, vI (n376))] ∧ Mem C w [.obj b375 (mapO fS fT mp374), .box b308 [vL A2 (d1.Nodes) c3, vI (n312), vL A315 (xs314) c316, vL A318 (xs317) c319, vL A321 (xs320) c322] 111, .row intRep A321 c322 3 xs320 true, .row boolRep A315 c316 4 xs314 true, .row intRep A318 c319 2 xs317 true, .box b5 [vL A2 (d1.Nodes) c3] 26] [.dat (sliceRep NodeRep) d1.Nodes [vL A2 d1.Nodes c3]] ∧ R64 n376) ?_ ?_
    ·exact ⟨([] : (List (Str × Bool))), 0, b366, rfl, hf.keep ⟨rfl, rfl, rfl, rfl, trivial⟩, hM.pick [0] rfl, (R64_lit rfl)⟩
    rintro s o383 a w378 ⟨mp374, n376, b375, rfl, hf, hM, hv377⟩ h384 hd385
    replace h384 : m_impl_ValidDawg_l1 d1 mp374 n376 = some o383 := h384
    unfold m_impl_ValidDawg_l1 at h384
    refine wp_seq ?_
    refine region_pl ?_
    refine q_ hf rfl rfl rfl (e_lt hf (x := n376) (y := (d1.Nodes.length : Int)) rfl rfl) fun a hf => ?_
    refine pl_nil ?_
    refine then_n ?_
    refine wp_seq ?_
    rcases cond_some h384 with ⟨hc386, h384⟩ | ⟨hc386, h384⟩
    ·refine cond_t hf rfl hc386 ?_
     refine wp_skip ?_
     refine then_n ?_
     refine wp_seq ?_
     refine wp_block ?_
     refine wp_seq ?_
     refine region_pl ?_
     obtain ⟨e387, hz388, h384⟩ := bind_some h384
     obtain ⟨b392, o393, _, hA394, h389, h390, hr391, hM⟩ := hM.elem (hM.dat (k := 0) rfl) (n := 3) rfl hz388
     obtain ⟨A396, c397, rfl, hv395, hv398⟩ := NodeRep_open hr391
     have hM := hM.add (y := .dat (sliceRep intRep) e387.Next [vL A396 e387.Next c397]) hv398
     refine q_ hf rfl rfl rfl (e_indexAddr (A := A2) (b := b392) (o := o393) (xs := d1.Nodes) (i := n376) hf hA394 rfl rfl Tryd.underlying24 Tryd.sizeOf76 h389 h390) fun a hf => ?_
     refine q_ hf rfl rfl rfl (e_loadA hf (us := [.bool (e387.Final), vS (e387.Letters), vL A396 (e387.Next) c397]) rfl ⟨Tryd.isAgg76, Tryd.sizeOf76⟩ rfl (hM.litSub (k := 1) (d := 0) (us := [.bool (e387.Final), vS (e387.Letters), vL A396 (e387.Next) c397]) rfl rfl rfl)) fun a hf => ?_
     refine pl_l hf rfl rfl rfl (w_alloc hM (cs := [.bool (false), vS (([] : Str)), vL none (([] : (List Int))) 0]) Tryd.zeroValue76 rfl fun b399 w400 hx401 hM a hf => ?_)
     refine pl_0 hf rfl rfl (w_store hf hM (us := [.bool (e387.Final), vS (e387.Letters), vL A396 (e387.Next) c397]) (cs' := [.bool (e387.Final), vS (e387.Letters), vL A396 (e387.Next) c397]) rfl rfl (k := 0) rfl rfl Tryd.sizeOf76 rfl rfl rfl fun w403 hM => ?_)
     dsimp only [List.set] at hM
     refine pl_nil ?_
     refine then_n ?_
     refine wp_seq ?_
     refine region_pl ?_
     refine q_ hf rfl rfl rfl (e_loadA hf (us := [.bool (e387.Final), vS (e387.Letters), vL A396 (e387.Next) c397]) rfl ⟨Tryd.isAgg76, Tryd.sizeOf76⟩ rfl (hM.boxSub (k := 0) (us := [.bool (e387.Final), vS (e387.Letters), vL A396 (e387.Next) c397]) (o := 0) rfl rfl)) fun a hf => ?_
     obtain ⟨y406, hz407, h384⟩ := bind_some h384
     refine pl_l hf rfl rfl rfl (w_call hf Tryd.call78 rfl (r_impl_keyOf ⟨_, Sh C _ _, none_, hM.sh_lt, none_not, C.G, hM.g_lt, g_none, hM.tabs⟩ e387 hv395 _ _ (hM.dat (k := 0) rfl) _ hz407) ?_)
     rintro _ w409 ⟨rfl, hM2, hv408⟩
     obtain ⟨hM, hx410, hup411⟩ := hM.back hM2
     dsimp only [List.cons_append, List.nil_append] at hM hup411
     clear hM2
     refine ⟨_, rfl, fun a hf => ?_⟩
     refine q_ hf rfl rfl rfl (e_assign hf rfl) fun a hf => ?_
     refine pl_nil ?_
     refine then_n ?_
     iterate 2 refine wp_seq ?_
     refine region_pl ?_
     iterate 2 refine q_ hf rfl rfl rfl (e_move hf rfl) fun a hf => ?_
     refine q_ hf rfl rfl rfl (e_lookup (fk := fS) (fv := fT) hf (keyS Tryd.underlying9) Tryd.underlying113 (k := y406) (z := false) rfl rfl Tryd.zeroValue4 (hM.ownAt (k := 1) rfl)) fun a hf => ?_
     refine pl_nil ?_
     refine then_n ?_
     rcases cond_some h384 with ⟨hc412, h384⟩ | ⟨hc412, h384⟩
     ·refine cond_t hf rfl hc412 ?_
      refine wp_seq ?_
      refine region_pl ?_
      refine q_ hf rfl rfl rfl (e_assign hf rfl) fun a hf => ?_
      refine pl_nil ?_
      refine then_n ?_
      refine wp_ret ?_
      refine then_r ?_
      refine blk_r ?_
      refine then_r ?_
      obtain rfl := some_inj h384
      obtain rfl := hd385 _ rfl
      try dsimp only at h372
      refine then_r ?_
      refine blk_r ?_
      obtain rfl := some_inj h372
      try dsimp only at h
      refine then_r ?_
      obtain rfl := some_inj h
      have hM := hM.outs (own' := []) 0 rfl
      exact leave1 hf rfl rfl ⟨rfl, hM.fin⟩
     refine cond_f hf rfl hc412 ?_
     refine wp_skip ?_
     refine then_n ?_
     refine region_pl ?_
     iterate 2 refine q_ hf rfl rfl rfl (e_move hf rfl) fun a hf => ?_
     refine pl_0 hf rfl rfl (w_mapUpdate (fk := fS) (fv := fT) hf hM (keyS Tryd.underlying9) Tryd.underlying113 (k := y406) (v := true) rfl rfl rfl (n := 1) rfl fun w413 hM => ?_)
     dsimp only [List.set] at hM
     refine pl_nil ?_
     refine blk_n ?_
     refine then_n ?_
     refine region_pl ?_
     obtain ⟨z414, hz415, h384⟩ := bind_some h384
     refine q_ hf rfl rfl rfl (e_add hf rfl rfl hz415) fun a hf => ?_
     refine q_ hf rfl rfl rfl (e_move hf rfl) fun a hf => ?_
     refine pl_nil ?_
     obtain rfl := some_inj h384
     refine then_n ⟨_, rfl, ?_⟩
     exact ⟨(putM mp374 y406 true), z414, b375, rfl, hf.keep ⟨rfl, rfl, rfl, rfl, trivial⟩, (hM.drop (.cons _ (.cons_cons _ (.cons_cons _ (.cons_cons _ (.cons_cons _ (.cons_cons _ (.cons_cons _ .slnil)))))))).pick [2] rfl, (chk_R hz415)⟩
    refine cond_f hf rfl hc386 ?_
    refine wp_exit ?_
    refine then_x ?_
    obtain rfl := some_inj h384
    obtain rfl := hd385 _ rfl
    try dsimp only at h372
    refine then_x ?_
    refine exit_hit ?_
    obtain rfl := some_inj h372
    refine then_n ?_
    exact ⟨mp374, b375, rfl, hf.keep trivial, hM.pick [0] rfl⟩
   rintro a w422 ⟨mp369, b370, rfl, hf, hM⟩
   try dsimp only at h
   refine wp_seq ?_
   refine region_pl ?_
   refine q_ hf rfl rfl rfl (e_assign hf rfl) fun a hf => ?_
   refine pl_nil ?_
   refine then_n ?_
   refine wp_ret ?_
   obtain rfl := some_inj h
   have hM := hM.outs (own' := []) 0 rfl
   exact leave1 hf rfl rfl ⟨rfl, hM.fin⟩
  refine pi_l hf rfl rfl rfl rfl (w_make hf hM (K := intRep) Tryd.underlying109 ei_3 Tryd.zeroValue3 rfl rfl rfl ⟨rfl, (R64_lit rfl)⟩ hz48 fun b424 w425 hx426 hM => ⟨Ext w425, fun _ h => Ext.trans hx426 h, Ext.refl _, fun a hf => ?_⟩)
  refine pi_one ?_
  refine pi_l hf rfl rfl rfl rfl (w_make hf hM (K := boolRep) Tryd.underlying108 ei_4 Tryd.zeroValue4 rfl rfl rfl rfl hz38 fun b427 w428 hx429 hM => ⟨Ext w428, fun _ h => Ext.trans hx429 h, Ext.refl _, fun a hf => ?_⟩)
  refine pi_q hf rfl rfl rfl rfl (Ext.refl _) (e_build hf Tryd.zeroValue111 Tryd.underlying111 (bp_111 _ Tryd.underlying111.symm) rfl (cs := #[vL A2 (d1.Nodes) c3, vI (0), vL (some ⟨b427, 0, none⟩) (xs37) (((d1.Nodes.length : Int) : Int).toNat), vL (some ⟨b299, 0, none⟩) (xs42) (((d1.Nodes.length : Int) : Int).toNat), vL (some ⟨b424, 0, none⟩) (xs47) (((d1.Nodes.length : Int) : Int).toNat)]) (by kernel_rfl)) fun a hf => ?_
  refine pi_one ?_
  refine pi_l hf rfl rfl rfl rfl (w_box hf hM (cs := [vL A2 (d1.Nodes) c3, vI (0), vL (some ⟨b427, 0, none⟩) (xs37) (((d1.Nodes.length : Int) : Int).toNat), vL (some ⟨b299, 0, none⟩) (xs42) (((d1.Nodes.length : Int) : Int).toNat), vL (some ⟨b424, 0, none⟩) (xs47) (((d1.Nodes.length : Int) : Int).toNat)]) rfl rfl fun b430 w431 hx432 hM => ⟨Ext w431, fun _ h => Ext.trans hx432 h, Ext.refl _, fun a hf => ?_⟩)
  refine pi_q hf rfl rfl rfl rfl (Ext.refl _) (e_assign hf rfl) fun a hf => ?_
  refine pi_nil ?_
  refine then_n ?_
  refine wp_seq ?_
  obtain ⟨x447, h448, h⟩ := bind_some h
  refine seq_join (fun a w => ∃ (n434 : Int) (xs436 : (List Bool)) (xs439 : (List Int)) (xs442 : (List Int)) (t445 : Bool) (A437 : Option Addr) (c438 : Nat) (A440 : Option Addr) (c441 : Nat) (A443 : Option Addr) (c444 : Nat), (n434, xs436, xs439, xs442, t445) = x447 ∧ Has 76 a [(1, vP b5 (0)), (59, .bool (t445))] ∧ Mem C w [.box b430 [vL A2 (d1.Nodes) c3, vI (n434), vL A437 (xs436) c438, vL A440 (xs439) c441, vL A443 (xs442) c444] 111, .row boolRep A437 c438 4 xs436 true, .row intRep A443 c444 3 xs442 true, .row intRep A440 c441 2 xs439 true, .box b5 [vL A2 (d1.Nodes) c3] 26] [.dat (sliceRep NodeRep) d1.Nodes [vL A2 d1.Nodes c3]] ∧ R64 n434) ?_ ?_
  ·refine region_pl ?_
   refine q_ hf rfl rfl rfl (e_move hf rfl) fun a hf => ?_
   have hM := hM.front (k := 2) rfl
   dsimp only [List.eraseIdx] at hM
   have hM := hM.front (k := 3) rfl
   dsimp only [List.eraseIdx] at hM
   have hM := hM.front (k := 3) rfl
   dsimp only [List.eraseIdx] at hM
   have hM := hM.front (k := 3) rfl
   dsimp only [List.eraseIdx] at hM
   have hM : Mem C _ ([.box b430 [vL A2 (d1.Nodes) c3, vI (0), vL (some ⟨b427, 0, none⟩) (xs37) (((d1.Nodes.length : Int) : Int).toNat), vL (some ⟨b299, 0, none⟩) (xs42) (((d1.Nodes.length : Int) : Int).toNat), vL (some ⟨b424, 0, none⟩) (xs47) (((d1.Nodes.length : Int) : Int).toNat)] 111, .row boolRep (some ⟨b427, 0, none⟩) (((d1.Nodes.length : Int) : Int).toNat) 4 xs37 true, .row intRep (some ⟨b299, 0, none⟩) (((d1.Nodes.length : Int) : Int).toNat) 2 xs42 true, .row intRep (some ⟨b424, 0, none⟩) (((d1.Nodes.length : Int) : Int).toNat) 3 xs47 true] ++ [.box b5 [vL A2 (d1.Nodes) c3] 26]) _ := hM
   obtain ⟨y449, hz450, h448⟩ := bind_some h448
   refine pl_l hf rfl rfl rfl (w_call hf Tryd.call77 rfl (r_impl_inspector_visit ⟨_, Sh C _ _, ownB _, hM.sh_lt, sub_dis, C.G, hM.g_lt, hM.g_own, hM.tabs⟩ (⟨⟨d1.Nodes⟩, 0, xs37, xs42, xs47⟩ : inspector) _ _ _ (hM.dat (k := 0) rfl) (R64_lit rfl) _ _ _ _ _ _ 0 (R64_lit rfl) hM.sub sub_dis _ hz450) ?_)
   rintro _ w458 ⟨A452, c453, A454, c455, A456, c457, rfl, hM2, hv451⟩
   obtain ⟨hM, hup460⟩ := hM.backG hM2
   dsimp only [List.cons_append, List.nil_append] at hM hup460
   clear hM2
   refine ⟨_, rfl, fun a hf => ?_⟩
   refine q_ hf rfl rfl rfl (e_not hf rfl) fun a hf => ?_
   refine q_ hf rfl rfl rfl (e_move hf rfl) fun a hf => ?_
   rcases cond_some h448 with ⟨hc461, h448⟩ | ⟨hc461, h448⟩
   ·iterate 6 refine pl_gs (wanted_f hf rfl rfl rfl rfl hc461) hf rfl rfl fun a hf => ?_
    refine q_ hf rfl rfl rfl (e_pick_t hf rfl hc461 rfl) fun a hf => ?_
    refine q_ hf rfl rfl rfl (e_move hf rfl) fun a hf => ?_
    iterate 7 refine pl_gs (wanted_f hf rfl rfl rfl rfl rfl) hf rfl rfl fun a hf => ?_
    refine q_ hf rfl rfl rfl (e_pick_t hf rfl rfl rfl) fun a hf => ?_
    refine q_ hf rfl rfl rfl (e_move hf rfl) fun a hf => ?_
    iterate 7 refine pl_gs (wanted_f hf rfl rfl rfl rfl rfl) hf rfl rfl fun a hf => ?_
    refine q_ hf rfl rfl rfl (e_pick_t hf rfl rfl rfl) fun a hf => ?_
    refine pl_nil ?_
    obtain rfl := some_inj h448
    refine then_n ?_
    have hM := hM.front (k := 4) rfl
    dsimp only [List.eraseIdx] at hM
    have hM := hM.front (k := 3) rfl
    dsimp only [List.eraseIdx] at hM
    have hM := hM.front (k := 4) rfl
    dsimp only [List.eraseIdx] at hM
    have hM := hM.front (k := 4) rfl
    dsimp only [List.eraseIdx] at hM
    have hM := hM.front (k := 4) rfl
    dsimp only [List.eraseIdx] at hM
    exact ⟨y449.2.met, y449.2.open_, y449.2.strings, y449.2.longest, true, A452, c453, A454, c455, A456, c457, rfl, hf.keep ⟨rfl, rfl, trivial⟩, hM.pick [0] rfl, hv451⟩
   refine gq (wanted_t hf rfl rfl rfl rfl hc461) hf rfl rfl (e_move hf rfl) fun a hf => ?_
   refine gq (wanted_t hf rfl rfl rfl rfl hc461) hf rfl rfl (e_nil hf rfl) fun a hf => ?_
   refine gq (wanted_t hf rfl rfl rfl rfl hc461) hf rfl rfl (e_field hf rfl Tryd.underlying111 rfl Tryd.sizeOf2 (o' := 1) rfl) fun a hf => ?_
   refine gq (wanted_t hf rfl rfl rfl rfl hc461) hf rfl rfl (e_load1 hf rfl Tryd.isAgg2 (hM.boxCell (k := 0) rfl rfl)) fun a hf => ?_
   refine gq (wanted_t hf rfl rfl rfl rfl hc461) hf rfl rfl (e_move hf rfl) fun a hf => ?_
   refine gq (wanted_t hf rfl rfl rfl rfl hc461) hf rfl rfl (e_ne hf (x := y449.2.met) (y := (d1.Nodes.length : Int)) rfl rfl) fun a hf => ?_
   refine q_ hf rfl rfl rfl (e_pick_f hf rfl hc461 rfl) fun a hf => ?_
   refine q_ hf rfl rfl rfl (e_move hf rfl) fun a hf => ?_
   rcases cond_some h448 with ⟨hc463, h448⟩ | ⟨hc463, h448⟩
   ·iterate 7 refine pl_gs (wanted_f hf rfl rfl rfl rfl hc463) hf rfl rfl fun a hf => ?_
    refine q_ hf rfl rfl rfl (e_pick_t hf rfl hc463 rfl) fun a hf => ?_
    refine q_ hf rfl rfl rfl (e_move hf rfl) fun a hf => ?_
    iterate 7 refine pl_gs (wanted_f hf rfl rfl rfl rfl rfl) hf rfl rfl fun a hf => ?_
    refine q_ hf rfl rfl rfl (e_pick_t hf rfl rfl rfl) fun a hf => ?_
    refine pl_nil ?_
    obtain rfl := some_inj h448
    refine then_n ?_
    have hM := hM.front (k := 4) rfl
    dsimp only [List.eraseIdx] at hM
    have hM := hM.front (k := 3) rfl
    dsimp only [List.eraseIdx] at hM
    have hM := hM.front (k := 4) rfl
    dsimp only [List.eraseIdx] at hM
    have hM := hM.front (k := 4) rfl
    dsimp only [List.eraseIdx] at hM
    have hM := hM.front (k := 4) rfl
    dsimp only [List.eraseIdx] at hM
    exact ⟨y449.2.met, y449.2.open_, y449.2.strings, y449.2.longest, true, A452, c453, A454, c455, A456, c457, rfl, hf.keep ⟨rfl, rfl, trivial⟩, hM.pick [0] rfl, hv451⟩
   refine gq (wanted_t hf rfl rfl rfl rfl hc463) hf rfl rfl (e_move hf rfl) fun a hf => ?_
   refine gq (wanted_t hf rfl rfl rfl rfl hc463) hf rfl rfl (e_nil hf rfl) fun a hf => ?_
   refine gq (wanted_t hf rfl rfl rfl rfl hc463) hf rfl rfl (e_field hf rfl Tryd.underlying111 rfl Tryd.sizeOf31 (o' := 3) rfl) fun a hf => ?_
   refine gq (wanted_t hf rfl rfl rfl rfl hc463) hf rfl rfl (e_load1 hf rfl Tryd.isAgg31 (hM.boxCell (k := 0) rfl rfl)) fun a hf => ?_
   obtain ⟨e465, hz466, h448⟩ := bind_some h448
   obtain ⟨b471, _, hA472, h467, h468, hr469, hcell470⟩ := hM.rowElemN (k := 2) rfl (n := 1) rfl hz466
   obtain ⟨rfl, hv473⟩ := hr469
   refine gq (wanted_t hf rfl rfl rfl rfl hc463) hf rfl rfl (e_indexAddr (A := A454) (b := b471) (o := 0) (xs := y449.2.strings) (i := 0) hf hA472 rfl rfl Tryd.underlying31 Tryd.sizeOf2 h467 h468) fun a hf => ?_
   refine gq (wanted_t hf rfl rfl rfl rfl hc463) hf rfl rfl (e_load1 hf rfl Tryd.isAgg2 (hcell470 0 _ rfl)) fun a hf => ?_
   refine gq (wanted_t hf rfl rfl rfl rfl hc463) hf rfl rfl (e_gt hf (x := e465) (y := 3000) rfl rfl) fun a hf => ?_
   refine q_ hf rfl rfl rfl (e_pick_f hf rfl hc463 rfl) fun a hf => ?_
   refine q_ hf rfl rfl rfl (e_move hf rfl) fun a hf => ?_
   rcases cond_some h448 with ⟨hc474, h448⟩ | ⟨hc474, h448⟩
   ·iterate 7 refine pl_gs (wanted_f hf rfl rfl rfl rfl hc474) hf rfl rfl fun a hf => ?_
    refine q_ hf rfl rfl rfl (e_pick_t hf rfl hc474 rfl) fun a hf => ?_
    refine pl_nil ?_
    obtain rfl := some_inj h448
    refine then_n ?_
    have hM := hM.front (k := 4) rfl
    dsimp only [List.eraseIdx] at hM
    have hM := hM.front (k := 3) rfl
    dsimp only [List.eraseIdx] at hM
    have hM := hM.front (k := 4) rfl
    dsimp only [List.eraseIdx] at hM
    have hM := hM.front (k := 4) rfl
    dsimp only [List.eraseIdx] at hM
    have hM := hM.front (k := 4) rfl
    dsimp only [List.eraseIdx] at hM
    exact ⟨y449.2.met, y449.2.open_, y449.2.strings, y449.2.longest, true, A452, c453, A454, c455, A456, c457, rfl, hf.keep ⟨rfl, rfl, trivial⟩, hM.pick [0] rfl, hv451⟩
   refine gq (wanted_t hf rfl rfl rfl rfl hc474) hf rfl rfl (e_move hf rfl) fun a hf => ?_
   refine gq (wanted_t hf rfl rfl rfl rfl hc474) hf rfl rfl (e_nil hf rfl) fun a hf => ?_
   refine gq (wanted_t hf rfl rfl rfl rfl hc474) hf rfl rfl (e_field hf rfl Tryd.underlying111 rfl Tryd.sizeOf109 (o' := 4) rfl) fun a hf => ?_
   refine gq (wanted_t hf rfl rfl rfl rfl hc474) hf rfl rfl (e_load1 hf rfl Tryd.isAgg109 (hM.boxCell (k := 0) rfl rfl)) fun a hf => ?_
   obtain ⟨e476, hz477, h448⟩ := bind_some h448
   obtain ⟨b482, _, hA483, h478, h479, hr480, hcell481⟩ := hM.rowElemN (k := 3) rfl (n := 1) rfl hz477
   obtain ⟨rfl, hv484⟩ := hr480
   refine gq (wanted_t hf rfl rfl rfl rfl hc474) hf rfl rfl (e_indexAddr (A := A456) (b := b482) (o := 0) (xs := y449.2.longest) (i := 0) hf hA483 rfl rfl Tryd.underlying109 Tryd.sizeOf3 h478 h479) fun a hf => ?_
   refine gq (wanted_t hf rfl rfl rfl rfl hc474) hf rfl rfl (e_load1 hf rfl Tryd.isAgg3 (hcell481 0 _ rfl)) fun a hf => ?_
   refine gq (wanted_t hf rfl rfl rfl rfl hc474) hf rfl rfl (e_gt hf (x := e476) (y := 13) rfl rfl) fun a hf => ?_
   refine q_ hf rfl rfl rfl (e_pick_f hf rfl hc474 rfl) fun a hf => ?_
   refine pl_nil ?_
   obtain rfl := some_inj h448
   refine then_n ?_
   have hM := hM.front (k := 4) rfl
   dsimp only [List.eraseIdx] at hM
   have hM := hM.front (k := 3) rfl
   dsimp only [List.eraseIdx] at hM
   have hM := hM.front (k := 4) rfl
   dsimp only [List.eraseIdx] at hM
   have hM := hM.front (k := 4) rfl
   dsimp only [List.eraseIdx] at hM
   have hM := hM.front (k := 4) rfl
   dsimp only [List.eraseIdx] at hM
   exact ⟨y449.2.met, y449.2.open_, y449.2.strings, y449.2.longest, (decide (13 < e476)), A452, c453, A454, c455, A456, c457, rfl, hf.keep ⟨rfl, rfl, trivial⟩, hM.pick [0] rfl, hv451⟩
  rintro a w486 ⟨n434, xs436, xs439, xs442, t445, A437, c438, A440, c441, A443, c444, rfl, hf, hM, hv435⟩
  try dsimp only at h
  rcases cond_some h with ⟨hc487, h⟩ | ⟨hc487, h⟩
  ·refine cond_t hf rfl hc487 ?_
   refine wp_seq ?_
   refine region_pl ?_
   refine q_ hf rfl rfl rfl (e_assign hf rfl) fun a hf => ?_
   refine pl_nil ?_
   refine then_n ?_
   refine wp_ret ?_
   refine then_r ?_
   obtain rfl := some_inj h
   have hM := hM.outs (own' := []) 0 rfl
   exact leave1 hf rfl rfl ⟨rfl, hM.fin⟩
  refine cond_f hf rfl hc487 ?_
  refine wp_skip ?_
  refine then_n ?_
  refine wp_seq ?_
  refine region_pl ?_
  refine pl_l hf rfl rfl rfl (w_makeMap fS fT hM fun b488 w489 hx490 hM a hf => ?_)
  refine q_ hf rfl rfl rfl (e_assign hf rfl) fun a hf => ?_
  refine pl_nil ?_
  refine then_n ?_
  obtain ⟨x493, h494, h⟩ := bind_some h
  refine seq_join (fun a w => ∃ (mp491 : (List (Str × Bool))) (b492 : Nat), (.inl mp491) = x493 ∧ Has 76 a [] ∧ Mem C w [.obj b492 (mapO fS fT mp491), .box b430 [vL A2 (d1.Nodes) c3, vI (n434), vL A437 (xs436) c438, vL A440 (xs439) c441, vL A443 (xs442) c444] 111, .row boolRep A437 c438 4 xs436 true, .row intRep A443 c444 3 xs442 true, .row intRep A440 c441 2 xs439 true, .box b5 [vL A2 (d1.Nodes) c3] 26] [.dat (sliceRep NodeRep) d1.Nodes [vL A2 d1.Nodes c3]]) ?_ ?_
  ·refine wp_seq ?_
   refine region_pl ?_
   refine q_ hf rfl rfl rfl (e_field hf rfl Tryd.underlying26 rfl Tryd.sizeOf24 (o' := 0) rfl) fun a hf => ?_
   refine q_ hf rfl rfl rfl (e_load1 hf rfl Tryd.isAgg24 (hM.boxCell (k := 5) rfl rfl)) fun a hf => ?_
   have hl495 := slice_len (hM.dat (k := 0) rfl)
   refine q_ hf rfl rfl rfl (e_lenL hf (x := d1.Nodes) rfl Tryd.underlying24) fun a hf => ?_
   refine q_ hf rfl rfl rfl (e_move hf rfl) fun a hf => ?_
   refine pl_nil ?_
   refine then_n ?_
   refine wp_block ?_
   obtain ⟨x503, h504, h494⟩ := bind_some h494
   refine wp_loopM h504 (fun s a w => ∃ (mp496 : (List (Str × Bool))) (n498 : Int) (b497 : Nat), (mp496, n498) = s ∧ Has 76 a [(5, vM b497), (62, vL A2 (d1.Nodes) c3), (63, vI ((d1.Nodes.length : Int))), (64, vI (n498))] ∧ Mem C w [.obj b497 (mapO fS fT mp496), .box b430 [vL A2 (d1.Nodes) c3, vI (n434), vL A437 (xs436) c438, vL A440 (xs439) c441, vL A443 (xs442) c444] 111, .row boolRep A437 c438 4 xs436 true, .row intRep A443 c444 3 xs442 true, .row intRep A440 c441 2 xs439 true, .box b5 [vL A2 (d1.Nodes) c3] 26] [.dat (sliceRep NodeRep) d1.Nodes [vL A2 d1.Nodes c3]] ∧ R64 n498) ?_ ?_
   ·exact ⟨([] : (List (Str × Bool))), 0, b488, rfl, hf.keep ⟨rfl, rfl, rfl, rfl, trivial⟩, hM.pick [0] rfl, (R64_lit rfl)⟩
   rintro s o505 a w500 ⟨mp496, n498, b497, rfl, hf, hM, hv499⟩ h506 hd507
   replace h506 : m_impl_ValidDawg_l1 d1 mp496 n498 = some o505 := h506
   unfold m_impl_ValidDawg_l1 at h506
   refine wp_seq ?_
   refine region_pl ?_
   refine q_ hf rfl rfl rfl (e_lt hf (x := n498) (y := (d1.Nodes.length : Int)) rfl rfl) fun a hf => ?_
   refine pl_nil ?_
   refine then_n ?_
   refine wp_seq ?_
   rcases cond_some h506 with ⟨hc508, h506⟩ | ⟨hc508, h506⟩
   ·refine cond_t hf rfl hc508 ?_
    refine wp_skip ?_
    refine then_n ?_
    refine wp_seq ?_
    refine wp_block ?_
    refine wp_seq ?_
    refine region_pl ?_
    obtain ⟨e509, hz510, h506⟩ := bind_some h506
    obtain ⟨b514, o515, _, hA516, h511, h512, hr513, hM⟩ := hM.elem (hM.dat (k := 0) rfl) (n := 3) rfl hz510
    obtain ⟨A518, c519, rfl, hv517, hv520⟩ := NodeRep_open hr513
    have hM := hM.add (y := .dat (sliceRep intRep) e509.Next [vL A518 e509.Next c519]) hv520
    refine q_ hf rfl rfl rfl (e_indexAddr (A := A2) (b := b514) (o := o515) (xs := d1.Nodes) (i := n498) hf hA516 rfl rfl Tryd.underlying24 Tryd.sizeOf76 h511 h512) fun a hf => ?_
    refine q_ hf rfl rfl rfl (e_loadA hf (us := [.bool (e509.Final), vS (e509.Letters), vL A518 (e509.Next) c519]) rfl ⟨Tryd.isAgg76, Tryd.sizeOf76⟩ rfl (hM.litSub (k := 1) (d := 0) (us := [.bool (e509.Final), vS (e509.Letters), vL A518 (e509.Next) c519]) rfl rfl rfl)) fun a hf => ?_
    refine pl_l hf rfl rfl rfl (w_alloc hM (cs := [.bool (false), vS (([] : Str)), vL none (([] : (List Int))) 0]) Tryd.zeroValue76 rfl fun b521 w522 hx523 hM a hf => ?_)
    refine pl_0 hf rfl rfl (w_store hf hM (us := [.bool (e509.Final), vS (e509.Letters), vL A518 (e509.Next) c519]) (cs' := [.bool (e509.Final), vS (e509.Letters), vL A518 (e509.Next) c519]) rfl rfl (k := 0) rfl rfl Tryd.sizeOf76 rfl rfl rfl fun w525 hM => ?_)
    dsimp only [List.set] at hM
    refine pl_nil ?_
    refine then_n ?_
    refine wp_seq ?_
    refine region_pl ?_
    refine q_ hf rfl rfl rfl (e_loadA hf (us := [.bool (e509.Final), vS (e509.Letters), vL A518 (e509.Next) c519]) rfl ⟨Tryd.isAgg76, Tryd.sizeOf76⟩ rfl (hM.boxSub (k := 0) (us := [.bool (e509.Final), vS (e509.Letters), vL A518 (e509.Next) c519]) (o := 0) rfl rfl)) fun a hf => ?_
    obtain ⟨y528, hz529, h506⟩ := bind_some h506
    refine pl_l hf rfl rfl rfl (w_call hf Tryd.call78 rfl (r_impl_keyOf ⟨_, Sh C _ _, none_, hM.sh_lt, none_not, C.G, hM.g_lt, g_none, hM.tabs⟩ e509 hv517 _ _ (hM.dat (k := 0) rfl) _ hz529) ?_)
    rintro _ w531 ⟨rfl, hM2, hv530⟩
    obtain ⟨hM, hx532, hup533⟩ := hM.back hM2
    dsimp only [List.cons_append, List.nil_append] at hM hup533
    clear hM2
    refine ⟨_, rfl, fun a hf => ?_⟩
    refine q_ hf rfl rfl rfl (e_assign hf rfl) fun a hf => ?_
    refine pl_nil ?_
    refine then_n ?_
    iterate 2 refine wp_seq ?_
    refine region_pl ?_
    iterate 2 refine q_ hf rfl rfl rfl (e_move hf rfl) fun a hf => ?_
    refine q_ hf rfl rfl rfl (e_lookup (fk := fS) (fv := fT) hf (keyS Tryd.underlying9) Tryd.underlying113 (k := y528) (z := false) rfl rfl Tryd.zeroValue4 (hM.ownAt (k := 1) rfl)) fun a hf => ?_
    refine pl_nil ?_
    refine then_n ?_
    rcases cond_some h506 with ⟨hc534, h506⟩ | ⟨hc534, h506⟩
    ·refine cond_t hf rfl hc534 ?_
     refine wp_seq ?_
     refine region_pl ?_
     refine q_ hf rfl rfl rfl (e_assign hf rfl) fun a hf => ?_
     refine pl_nil ?_
     refine then_n ?_
     refine wp_ret ?_
     refine then_r ?_
     refine blk_r ?_
     refine then_r ?_
     obtain rfl := some_inj h506
     obtain rfl := hd507 _ rfl
     try dsimp only at h494
     refine then_r ?_
     refine blk_r ?_
     obtain rfl := some_inj h494
     try dsimp only at h
     refine then_r ?_
     obtain rfl := some_inj h
     have hM := hM.outs (own' := []) 0 rfl
     exact leave1 hf rfl rfl ⟨rfl, hM.fin⟩
    refine cond_f hf rfl hc534 ?_
    refine wp_skip ?_
    refine then_n ?_
    refine region_pl ?_
    iterate 2 refine q_ hf rfl rfl rfl (e_move hf rfl) fun a hf => ?_
    refine pl_0 hf rfl rfl (w_mapUpdate (fk := fS) (fv := fT) hf hM (keyS Tryd.underlying9) Tryd.underlying113 (k := y528) (v := true) rfl rfl rfl (n := 1) rfl fun w535 hM => ?_)
    dsimp only [List.set] at hM
    refine pl_nil ?_
    refine blk_n ?_
    refine then_n ?_
    refine region_pl ?_
    obtain ⟨z536, hz537, h506⟩ := bind_some h506
    refine q_ hf rfl rfl rfl (e_add hf rfl rfl hz537) fun a hf => ?_
    refine q_ hf rfl rfl rfl (e_move hf rfl) fun a hf => ?_
    refine pl_nil ?_
    obtain rfl := some_inj h506
    refine then_n ⟨_, rfl, ?_⟩
    exact ⟨(putM mp496 y528 true), z536, b497, rfl, hf.keep ⟨rfl, rfl, rfl, rfl, trivial⟩, (hM.drop (.cons _ (.cons_cons _ (.cons_cons _ (.cons_cons _ (.cons_cons _ (.cons_cons _ (.cons_cons _ .slnil)))))))).pick [2] rfl, (chk_R hz537)⟩
   refine cond_f hf rfl hc508 ?_
   refine wp_exit ?_
   refine then_x ?_
   obtain rfl := some_inj h506
   obtain rfl := hd507 _ rfl
   try dsimp only at h494
   refine then_x ?_
   refine exit_hit ?_
   obtain rfl := some_inj h494
   refine then_n ?_
   exact ⟨mp496, b497, rfl, hf.keep trivial, hM.pick [0] rfl⟩
  rintro a w544 ⟨mp491, b492, rfl, hf, hM⟩
  try dsimp only at h
  refine wp_seq ?_
  refine region_pl ?_
  refine q_ hf rfl rfl rfl (e_assign hf rfl) fun a hf => ?_
  refine pl_nil ?_
  refine then_n ?_
  refine wp_ret ?_
  obtain rfl := some_inj h
  have hM := hM.outs (own' := []) 0 rfl
  exact leave1 hf rfl rfl ⟨rfl, hM.fin⟩
 refine pi_l hf rfl rfl rfl rfl (w_make hf hM (K := intRep) Tryd.underlying109 ei_3 Tryd.zeroValue3 rfl rfl rfl ⟨rfl, (R64_lit rfl)⟩ hz48 fun b546 w547 hx548 hM => ⟨Ext w547, fun _ h => Ext.trans hx548 h, Ext.refl _, fun a hf => ?_⟩)
 refine pi_two ?_ ?_
 ·refine pi_l hf rfl rfl rfl rfl (w_make hf hM (K := boolRep) Tryd.underlying108 ei_4 Tryd.zeroValue4 rfl rfl rfl rfl hz38 fun b549 w550 hx551 hM => ⟨Ext w550, fun _ h => Ext.trans hx551 h, Ext.refl _, fun a hf => ?_⟩)
  refine pi_one ?_
  refine pi_l hf rfl rfl rfl rfl (w_make hf hM (K := intRep) Tryd.underlying31 ei_2 Tryd.zeroValue2 rfl rfl rfl ⟨rfl, (R64_lit rfl)⟩ hz43 fun b552 w553 hx554 hM => ⟨Ext w553, fun _ h => Ext.trans hx554 h, Ext.refl _, fun a hf => ?_⟩)
  refine pi_q hf rfl rfl rfl rfl (Ext.refl _) (e_build hf Tryd.zeroValue111 Tryd.underlying111 (bp_111 _ Tryd.underlying111.symm) rfl (cs := #[vL A2 (d1.Nodes) c3, vI (0), vL (some ⟨b549, 0, none⟩) (xs37) (((d1.Nodes.length : Int) : Int).toNat), vL (some ⟨b552, 0, none⟩) (xs42) (((d1.Nodes.length : Int) : Int).toNat), vL (some ⟨b546, 0, none⟩) (xs47) (((d1.Nodes.length : Int) : Int).toNat)]) (by kernel_rfl)) fun a hf => ?_
  refine pi_one ?_
  refine pi_l hf rfl rfl rfl rfl (w_box hf hM (cs := [vL A2 (d1.Nodes) c3, vI (0), vL (some ⟨b549, 0, none⟩) (xs37) (((d1.Nodes.length : Int) : Int).toNat), vL (some ⟨b552, 0, none⟩) (xs42) (((d1.Nodes.length : Int) : Int).toNat), vL (some ⟨b546, 0, none⟩) (xs47) (((d1.Nodes.length : Int) : Int).toNat)]) rfl rfl fun b555 w556 hx557 hM => ⟨Ext w556, fun _ h => Ext.trans hx557 h, Ext.refl _, fun a hf => ?_⟩)
  refine pi_q hf rfl rfl rfl rfl (Ext.refl _) (e_assign hf rfl) fun a hf => ?_
  refine pi_nil ?_
  refine then_n ?_
  refine wp_seq ?_
  obtain ⟨x572, h573, h⟩ := bind_some h
  refine seq_join (fun a w => ∃ (n559 : Int) (xs561 : (List Bool)) (xs564 : (List Int)) (xs567 : (List Int)) (t570 : Bool) (A562 : Option Addr) (c563 : Nat) (A565 : Option Addr) (c566 : Nat) (A568 : Option Addr) (c569 : Nat), (n559, xs561, xs564, xs567, t570) = x572 ∧ Has 76 a [(1, vP b5 (0)), (59, .bool (t570))] ∧ Mem C w [.box b555 [vL A2 (d1.Nodes) c3, vI (n559), vL A562 (xs561) c563, vL A565 (xs564) c566, vL A568 (xs567) c569] 111, .row intRep A565 c566 2 xs564 true, .row boolRep A562 c563 4 xs561 true, .row intRep A568 c569 3 xs567 true, .box b5 [vL A2 (d1.Nodes) c3] 26] [.dat (sliceRep NodeRep) d1.Nodes [vL A2 d1.Nodes c3]] ∧ R64 n559) ?_ ?_
  ·refine region_pl ?_
   refine q_ hf rfl rfl rfl (e_move hf rfl) fun a hf => ?_
   have hM := hM.front (k := 3) rfl
   dsimp only [List.eraseIdx] at hM
   have hM := hM.front (k := 2) rfl
   dsimp only [List.eraseIdx] at hM
   have hM := hM.front (k := 3) rfl
   dsimp only [List.eraseIdx] at hM
   have hM := hM.front (k := 3) rfl
   dsimp only [List.eraseIdx] at hM
   have hM : Mem C _ ([.box b555 [vL A2 (d1.Nodes) c3, vI (0), vL (some ⟨b549, 0, none⟩) (xs37) (((d1.Nodes.length : Int) : Int).toNat), vL (some ⟨b552, 0, none⟩) (xs42) (((d1.Nodes.length : Int) : Int).toNat), vL (some ⟨b546, 0, none⟩) (xs47) (((d1.Nodes.length : Int) : Int).toNat)] 111, .row boolRep (some ⟨b549, 0, none⟩) (((d1.Nodes.length : Int) : Int).toNat) 4 xs37 true, .row intRep (some ⟨b552, 0, none⟩) (((d1.Nodes.length : Int) : Int).toNat) 2 xs42 true, .row intRep (some ⟨b546, 0, none⟩) (((d1.Nodes.length : Int) : Int).toNat) 3 xs47 true] ++ [.box b5 [vL A2 (d1.Nodes) c3] 26]) _ := hM
   obtain ⟨y574, hz575, h573⟩ := bind_some h573
   refine pl_l hf rfl rfl rfl (w_call hf Tryd.call77 rfl (r_impl_inspector_visit ⟨_, Sh C _ _, ownB _, hM.sh_lt, sub_dis, C.G, hM.g_lt, hM.g_own, hM.tabs⟩ (⟨⟨d1.Nodes⟩, 0, xs37, xs42, xs47⟩ : inspector) _ _ _ (hM.dat (k := 0) rfl) (R64_lit rfl) _ _ _ _ _ _ 0 (R64_lit rfl) hM.sub sub_dis _ hz575) ?_)
   rintro _ w583 ⟨A577, c578, A579, c580, A581, c582, rfl, hM2, hv576⟩
   obtain ⟨hM, hup585⟩ := hM.backG hM2
   dsimp only [List.cons_append, List.nil_append] at hM hup585
   clear hM2
   refine ⟨_, rfl, fun a hf => ?_⟩
   refine q_ hf rfl rfl rfl (e_not hf rfl) fun a hf => ?_
   refine q_ hf rfl rfl rfl (e_move hf rfl) fun a hf => ?_
   rcases cond_some h573 with ⟨hc586, h573⟩ | ⟨hc586, h573⟩
   ·iterate 6 refine pl_gs (wanted_f hf rfl rfl rfl rfl hc586) hf rfl rfl fun a hf => ?_
    refine q_ hf rfl rfl rfl (e_pick_t hf rfl hc586 rfl) fun a hf => ?_
    refine q_ hf rfl rfl rfl (e_move hf rfl) fun a hf => ?_
    iterate 7 refine pl_gs (wanted_f hf rfl rfl rfl rfl rfl) hf rfl rfl fun a hf => ?_
    refine q_ hf rfl rfl rfl (e_pick_t hf rfl rfl rfl) fun a hf => ?_
    refine q_ hf rfl rfl rfl (e_move hf rfl) fun a hf => ?_
    iterate 7 refine pl_gs (wanted_f hf rfl rfl rfl rfl rfl) hf rfl rfl fun a hf => ?_
    refine q_ hf rfl rfl rfl (e_pick_t hf rfl rfl rfl) fun a hf => ?_
    refine pl_nil ?_
    obtain rfl := some_inj h573
    refine then_n ?_
    have hM := hM.front (k := 4) rfl
    dsimp only [List.eraseIdx] at hM
    have hM := hM.front (k := 4) rfl
    dsimp only [List.eraseIdx] at hM
    have hM := hM.front (k := 3) rfl
    dsimp only [List.eraseIdx] at hM
    have hM := hM.front (k := 4) rfl
    dsimp only [List.eraseIdx] at hM
    have hM := hM.front (k := 4) rfl
    dsimp only [List.eraseIdx] at hM
    exact ⟨y574.2.met, y574.2.open_, y574.2.strings, y574.2.longest, true, A577, c578, A579, c580, A581, c582, rfl, hf.keep ⟨rfl, rfl, trivial⟩, hM.pick [0] rfl, hv576⟩
   refine gq (wanted_t hf rfl rfl rfl rfl hc586) hf rfl rfl (e_move hf rfl) fun a hf => ?_
   refine gq (wanted_t hf rfl rfl rfl rfl hc586) hf rfl rfl (e_nil hf rfl) fun a hf => ?_
   refine gq (wanted_t hf rfl rfl rfl rfl hc586) hf rfl rfl (e_field hf rfl Tryd.underlying111 rfl Tryd.sizeOf2 (o' := 1) rfl) fun a hf => ?_
   refine gq (wanted_t hf rfl rfl rfl rfl hc586) hf rfl rfl (e_load1 hf rfl Tryd.isAgg2 (hM.boxCell (k := 0) rfl rfl)) fun a hf => ?_
   refine gq (wanted_t hf rfl rfl rfl rfl hc586) hf rfl rfl (e_move hf rfl) fun a hf => ?_
   refine gq (wanted_t hf rfl rfl rfl rfl hc586) hf rfl rfl (e_ne hf (x := y574.2.met) (y := (d1.Nodes.length : Int)) rfl rfl) fun a hf => ?_
   refine q_ hf rfl rfl rfl (e_pick_f hf rfl hc586 rfl) fun a hf => ?_
   refine q_ hf rfl rfl rfl (e_move hf rfl) fun a hf => ?_
   rcases cond_some h573 with ⟨hc588, h573⟩ | ⟨hc588, h573⟩
   ·iterate 7 refine pl_gs (wanted_f hf rfl rfl rfl rfl hc588) hf rfl rfl fun a hf => ?_
    refine q_ hf rfl rfl rfl (e_pick_t hf rfl hc588 rfl) fun a hf => ?_
    refine q_ hf rfl rfl rfl (e_move hf rfl) fun a hf => ?_
    iterate 7 refine pl_gs (wanted_f hf rfl rfl rfl rfl rfl) hf rfl rfl fun a hf => ?_
    refine q_ hf rfl rfl rfl (e_pick_t hf rfl rfl rfl) fun a hf => ?_
    refine pl_nil ?_
    obtain rfl := some_inj h573
    refine then_n ?_
    have hM := hM.front (k := 4) rfl
    dsimp only [List.eraseIdx] at hM
    have hM := hM.front (k := 4) rfl
    dsimp only [List.eraseIdx] at hM
    have hM := hM.front (k := 3) rfl
    dsimp only [List.eraseIdx] at hM
    have hM := hM.front (k := 4) rfl
    dsimp only [List.eraseIdx] at hM
    have hM := hM.front (k := 4) rfl
    dsimp only [List.eraseIdx] at hM
    exact ⟨y574.2.met, y574.2.open_, y574.2.strings, y574.2.longest, true, A577, c578, A579, c580, A581, c582, rfl, hf.keep ⟨rfl, rfl, trivial⟩, hM.pick [0] rfl, hv576⟩
   refine gq (wanted_t hf rfl rfl rfl rfl hc588) hf rfl rfl (e_move hf rfl) fun a hf => ?_
   refine gq (wanted_t hf rfl rfl rfl rfl hc588) hf rfl rfl (e_nil hf rfl) fun a hf => ?_
   refine gq (wanted_t hf rfl rfl rfl rfl hc588) hf rfl rfl (e_field hf rfl Tryd.underlying111 rfl Tryd.sizeOf31 (o' := 3) rfl) fun a hf => ?_
   refine gq (wanted_t hf rfl rfl rfl rfl hc588) hf rfl rfl (e_load1 hf rfl Tryd.isAgg31 (hM.boxCell (k := 0) rfl rfl)) fun a hf => ?_
   obtain ⟨e590, hz591, h573⟩ := bind_some h573
   obtain ⟨b596, _, hA597, h592, h593, hr594, hcell595⟩ := hM.rowElemN (k := 2) rfl (n := 1) rfl hz591
   obtain ⟨rfl, hv598⟩ := hr594
   refine gq (wanted_t hf rfl rfl rfl rfl hc588) hf rfl rfl (e_indexAddr (A := A579) (b := b596) (o := 0) (xs := y574.2.strings) (i := 0) hf hA597 rfl rfl Tryd.underlying31 Tryd.sizeOf2 h592 h593) fun a hf => ?_
   refine gq (wanted_t hf rfl rfl rfl rfl hc588) hf rfl rfl (e_load1 hf rfl Tryd.isAgg2 (hcell595 0 _ rfl)) fun a hf => ?_
   refine gq (wanted_t hf rfl rfl rfl rfl hc588) hf rfl rfl (e_gt hf (x := e590) (y := 3000) rfl rfl) fun a hf => ?_
   refine q_ hf rfl rfl rfl (e_pick_f hf rfl hc588 rfl) fun a hf => ?_
   refine q_ hf rfl rfl rfl (e_move hf rfl) fun a hf => ?_
   rcases cond_some h573 with ⟨hc599, h573⟩ | ⟨hc599, h573⟩
   ·iterate 7 refine pl_gs (wanted_f hf rfl rfl rfl rfl hc599) hf rfl rfl fun a hf => ?_
    refine q_ hf rfl rfl rfl (e_pick_t hf rfl hc599 rfl) fun a hf => ?_
    refine pl_nil ?_
    obtain rfl := some_inj h573
    refine then_n ?_
    have hM := hM.front (k := 4) rfl
    dsimp only [List.eraseIdx] at hM
    have hM := hM.front (k := 4) rfl
    dsimp only [List.eraseIdx] at hM
    have hM := hM.front (k := 3) rfl
    dsimp only [List.eraseIdx] at hM
    have hM := hM.front (k := 4) rfl
    dsimp only [List.eraseIdx] at hM
    have hM := hM.front (k := 4) rfl
    dsimp only [List.eraseIdx] at hM
    exact ⟨y574.2.met, y574.2.open_, y574.2.strings, y574.2.longest, true, A577, c578, A579, c580, A581, c582, rfl, hf.keep ⟨rfl, rfl, trivial⟩, hM.pick [0] rfl, hv576⟩
   refine gq (wanted_t hf rfl rfl rfl rfl hc599) hf rfl rfl (e_move hf rfl) fun a hf => ?_
   refine gq (wanted_t hf rfl rfl rfl rfl hc599) hf rfl rfl (e_nil hf rfl) fun a hf => ?_
   refine gq (wanted_t hf rfl rfl rfl rfl hc599) hf rfl rfl (e_field hf rfl Tryd.underlying111 rfl Tryd.sizeOf109 (o' := 4) rfl) fun a hf => ?_
   refine gq (wanted_t hf rfl rfl rfl rfl hc599) hf rfl rfl (e_load1 hf rfl Tryd.isAgg109 (hM.boxCell (k := 0) rfl rfl)) fun a hf => ?_
   obtain ⟨e601, hz602, h573⟩ := bind_some h573
   obtain ⟨b607, _, hA608, h603, h604, hr605, hcell606⟩ := hM.rowElemN (k := 3) rfl (n := 1) rfl hz602
   obtain ⟨rfl, hv609⟩ := hr605
   refine gq (wanted_t hf rfl rfl rfl rfl hc599) hf rfl rfl (e_indexAddr (A := A581) (b := b607) (o := 0) (xs := y574.2.longest) (i := 0) hf hA608 rfl rfl Tryd.underlying109 Tryd.sizeOf3 h603 h604) fun a hf => ?_
   refine gq (wanted_t hf rfl rfl rfl rfl hc599) hf rfl rfl (e_load1 hf rfl Tryd.isAgg3 (hcell606 0 _ rfl)) fun a hf => ?_
   refine gq (wanted_t hf rfl rfl rfl rfl hc599) hf rfl rfl (e_gt hf (x := e601) (y := 13) rfl rfl) fun a hf => ?_
   refine q_ hf rfl rfl rfl (e_pick_f hf rfl hc599 rfl) fun a hf => ?_
   refine pl_nil ?_
   obtain rfl := some_inj h573
   refine then_n ?_
   have hM := hM.front (k := 4) rfl
   dsimp only [List.eraseIdx] at hM
   have hM := hM.front (k := 4) rfl
   dsimp only [List.eraseIdx] at hM
   have hM := hM.front (k := 3) rfl
   dsimp only [List.eraseIdx] at hM
   have hM := hM.front (k := 4) rfl
   dsimp only [List.eraseIdx] at hM
   have hM := hM.front (k := 4) rfl
   dsimp only [List.eraseIdx] at hM
   exact ⟨y574.2.met, y574.2.open_, y574.2.strings, y574.2.longest, (decide (13 < e601)), A577, c578, A579, c580, A581, c582, rfl, hf.keep ⟨rfl, rfl, trivial⟩, hM.pick [0] rfl, hv576⟩
  rintro a w611 ⟨n559, xs561, xs564, xs567, t570, A562, c563, A565, c566, A568, c569, rfl, hf, hM, hv560⟩
  try dsimp only at h
  rcases cond_some h with ⟨hc612, h⟩ | ⟨hc612, h⟩
  ·refine cond_t hf rfl hc612 ?_
   refine wp_seq ?_
   refine region_pl ?_
   refine q_ hf rfl rfl rfl (e_assign hf rfl) fun a hf => ?_
   refine pl_nil ?_
   refine then_n ?_
   refine wp_ret ?_
   refine then_r ?_
   obtain rfl := some_inj h
   have hM := hM.outs (own' := []) 0 rfl
   exact leave1 hf rfl rfl ⟨rfl, hM.fin⟩
  refine cond_f hf rfl hc612 ?_
  refine wp_skip ?_
  refine then_n ?_
  refine wp_seq ?_
  refine region_pl ?_
  refine pl_l hf rfl rfl rfl (w_makeMap fS fT hM fun b613 w614 hx615 hM a hf => ?_)
  refine q_ hf rfl rfl rfl (e_assign hf rfl) fun a hf => ?_
  refine pl_nil ?_
  refine then_n ?_
  obtain ⟨x618, h619, h⟩ := bind_some h
  refine seq_join (fun a w => ∃ (mp616 : (List (Str × Bool))) (b617 : Nat), (.inl mp616) = x618 ∧ Has 76 a [] ∧ Mem C w [.obj b617 (mapO fS fT mp616), .box b555 [vL A2 (d1.Nodes) c3, vI (n559), vL A562 (xs561) c563, vL A565 (xs564) c566, vL A568 (xs567) c569] 111, .row intRep A565 c566 2 xs564 true, .row boolRep A562 c563 4 xs561 true, .row intRep A568 c569 3 xs567 true, .box b5 [vL A2 (d1.Nodes) c3] 26] [.dat (sliceRep NodeRep) d1.Nodes [vL A2 d1.Nodes c3]]) ?_ ?_
  ·refine wp_seq ?_
   refine region_pl ?_
   refine q_ hf rfl rfl rfl (e_field hf rfl Tryd.underlying26 rfl Tryd.sizeOf24 (o' := 0) rfl) fun a hf => ?_
   refine q_ hf rfl rfl rfl (e_load1 hf rfl Tryd.isAgg24 (hM.boxCell (k := 5) rfl rfl)) fun a hf => ?_
   have hl620 := slice_len (hM.dat (k := 0) rfl)
   refine q_ hf rfl rfl rfl (e_lenL hf (x := d1.Nodes) rfl Tryd.underlying24) fun a hf => ?_
   refine q_ hf rfl rfl rfl (e_move hf rfl) fun a hf => ?_
   refine pl_nil ?_
   refine then_n ?_
   refine wp_block ?_
   obtain ⟨x628, h629, h619⟩ := bind_some h619
   refine wp_loopM h629 (fun s a w => ∃ (mp621 : (List (Str × Bool))) (n623 : Int) (b622 : Nat), (mp621, n623) = s ∧ Has 76 a [(5, vM b622), (62, vL A2 (d1.Nodes) c3), (63, vI ((d1.Nodes.length : Int))), (64, vI (n623))] ∧ Mem C w [.obj b622 (mapO fS fT mp621), .box b555 [vL A2 (d1.Nodes) c3, vI (n559), vL A562 (xs561) c563, vL A565 (xs564) c566, vL A568 (xs567) c569] 111, .row intRep A565 c566 2 xs564 true, .row boolRep A562 c563 4 xs561 true, .row intRep A568 c569 3 xs567 true, .box b5 [vL A2 (d1.Nodes) c3] 26] [.dat (sliceRep NodeRep) d1.Nodes [vL A2 d1.Nodes c3]] ∧ R64 n623) ?_ ?_
   ·exact ⟨([] : (List (Str × Bool))), 0, b613, rfl, hf.keep ⟨rfl, rfl, rfl, rfl, trivial⟩, hM.pick [0] rfl, (R64_lit rfl)⟩
   rintro s o630 a w625 ⟨mp621, n623, b622, rfl, hf, hM, hv624⟩ h631 hd632
   replace h631 : m_impl_ValidDawg_l1 d1 mp621 n623 = some o630 := h631
   unfold m_impl_ValidDawg_l1 at h631
   refine wp_seq ?_
   refine region_pl ?_
   refine q_ hf rfl rfl rfl (e_lt hf (x := n623) (y := (d1.Nodes.length : Int)) rfl rfl) fun a hf => ?_
   refine pl_nil ?_
   refine then_n ?_
   refine wp_seq ?_
   rcases cond_some h631 with ⟨hc633, h631⟩ | ⟨hc633, h631⟩
   ·refine cond_t hf rfl hc633 ?_
    refine wp_skip ?_
    refine then_n ?_
    refine wp_seq ?_
    refine wp_block ?_
    refine wp_seq ?_
    refine region_pl ?_
    obtain ⟨e634, hz635, h631⟩ := bind_some h631
    obtain ⟨b639, o640, _, hA641, h636, h637, hr638, hM⟩ := hM.elem (hM.dat (k := 0) rfl) (n := 3) rfl hz635
    obtain ⟨A643, c644, rfl, hv642, hv645⟩ := NodeRep_open hr638
    have hM := hM.add (y := .dat (sliceRep intRep) e634.Next [vL A643 e634.Next c644]) hv645
    refine q_ hf rfl rfl rfl (e_indexAddr (A := A2) (b := b639) (o := o640) (xs := d1.Nodes) (i := n623) hf hA641 rfl rfl Tryd.underlying24 Tryd.sizeOf76 h636 h637) fun a hf => ?_
    refine q_ hf rfl rfl rfl (e_loadA hf (us := [.bool (e634.Final), vS (e634.Letters), vL A643 (e634.Next) c644]) rfl ⟨Tryd.isAgg76, Tryd.sizeOf76⟩ rfl (hM.litSub (k := 1) (d := 0) (us := [.bool (e634.Final), vS (e634.Letters), vL A643 (e634.Next) c644]) rfl rfl rfl)) fun a hf => ?_
    refine pl_l hf rfl rfl rfl (w_alloc hM (cs := [.bool (false), vS (([] : Str)), vL none (([] : (List Int))) 0]) Tryd.zeroValue76 rfl fun b646 w647 hx648 hM a hf => ?_)
    refine pl_0 hf rfl rfl (w_store hf hM (us := [.bool (e634.Final), vS (e634.Letters), vL A643 (e634.Next) c644]) (cs' := [.bool (e634.Final), vS (e634.Letters), vL A643 (e634.Next) c644]) rfl rfl (k := 0) rfl rfl Tryd.sizeOf76 rfl rfl rfl fun w650 hM => ?_)
    dsimp only [List.set] at hM
    refine pl_nil ?_
    refine then_n ?_
    refine wp_seq ?_
    refine region_pl ?_
    refine q_ hf rfl rfl rfl (e_loadA hf (us := [.bool (e634.Final), vS (e634.Letters), vL A643 (e634.Next) c644]) rfl ⟨Tryd.isAgg76, Tryd.sizeOf76⟩ rfl (hM.boxSub (k := 0) (us := [.bool (e634.Final), vS (e634.Letters), vL A643 (e634.Next) c644]) (o := 0) rfl rfl)) fun a hf => ?_
    obtain ⟨y653, hz654, h631⟩ := bind_some h631
    refine pl_l hf rfl rfl rfl (w_call hf Tryd.call78 rfl (r_impl_keyOf ⟨_, Sh C _ _, none_, hM.sh_lt, none_not, C.G, hM.g_lt, g_none, hM.tabs⟩ e634 hv642 _ _ (hM.dat (k := 0) rfl) _ hz654) ?_)
    rintro _ w656 ⟨rfl, hM2, hv655⟩
    obtain ⟨hM, hx657, hup658⟩ := hM.back hM2
    dsimp only [List.cons_append, List.nil_append] at hM hup658
    clear hM2
    refine ⟨_, rfl, fun a hf => ?_⟩
    refine q_ hf rfl rfl rfl (e_assign hf rfl) fun a hf => ?_
    refine pl_nil ?_
    refine then_n ?_
    iterate 2 refine wp_seq ?_
    refine region_pl ?_
    iterate 2 refine q_ hf rfl rfl rfl (e_move hf rfl) fun a hf => ?_
    refine q_ hf rfl rfl rfl (e_lookup (fk := fS) (fv := fT) hf (keyS Tryd.underlying9) Tryd.underlying113 (k := y653) (z := false) rfl rfl Tryd.zeroValue4 (hM.ownAt (k := 1) rfl)) fun a hf => ?_
    refine pl_nil ?_
    refine then_n ?_
    rcases cond_some h631 with ⟨hc659, h631⟩ | ⟨hc659, h631⟩
    ·refine cond_t hf rfl hc659 ?_
     refine wp_seq ?_
     refine region_pl ?_
     refine q_ hf rfl rfl rfl (e_assign hf rfl) fun a hf => ?_
     refine pl_nil ?_
     refine then_n ?_
     refine wp_ret ?_
     refine then_r ?_
     refine blk_r ?_
     refine then_r ?_
     obtain rfl := some_inj h631
     obtain rfl := hd632 _ rfl
     try dsimp only at h619
     refine then_r ?_
     refine blk_r ?_
     obtain rfl := some_inj h619
     try dsimp only at h
     refine then_r ?_
     obtain rfl := some_inj h
     have hM := hM.outs (own' := []) 0 rfl
     exact leave1 hf rfl rfl ⟨rfl, hM.fin⟩
    refine cond_f hf rfl hc659 ?_
    refine wp_skip ?_
    refine then_n ?_
    refine region_pl ?_
    iterate 2 refine q_ hf rfl rfl rfl (e_move hf rfl) fun a hf => ?_
    refine pl_0 hf rfl rfl (w_mapUpdate (fk := fS) (fv := fT) hf hM (keyS Tryd.underlying9) Tryd.underlying113 (k := y653) (v := true) rfl rfl rfl (n := 1) rfl fun w660 hM => ?_)
    dsimp only [List.set] at hM
    refine pl_nil ?_
    refine blk_n ?_
    refine then_n ?_
    refine region_pl ?_
    obtain ⟨z661, hz662, h631⟩ := bind_some h631
    refine q_ hf rfl rfl rfl (e_add hf rfl rfl hz662) fun a hf => ?_
    refine q_ hf rfl rfl rfl (e_move hf rfl) fun a hf => ?_
    refine pl_nil ?_
    obtain rfl := some_inj h631
    refine then_n ⟨_, rfl, ?_⟩
    exact ⟨(putM mp621 y653 true), z661, b622, rfl, hf.keep ⟨rfl, rfl, rfl, rfl, trivial⟩, (hM.drop (.cons _ (.cons_cons _ (.cons_cons _ (.cons_cons _ (.cons_cons _ (.cons_cons _ (.cons_cons _ .slnil)))))))).pick [2] rfl, (chk_R hz662)⟩
   refine cond_f hf rfl hc633 ?_
   refine wp_exit ?_
   refine then_x ?_
   obtain rfl := some_inj h631
   obtain rfl := hd632 _ rfl
   try dsimp only at h619
   refine then_x ?_
   refine exit_hit ?_
   obtain rfl := some_inj h619
   refine then_n ?_
   exact ⟨mp621, b622, rfl, hf.keep trivial, hM.pick [0] rfl⟩
  rintro a w669 ⟨mp616, b617, rfl, hf, hM⟩
  try dsimp only at h
  refine wp_seq ?_
  refine region_pl ?_
  refine q_ hf rfl rfl rfl (e_assign hf rfl) fun a hf => ?_
  refine pl_nil ?_
  refine then_n ?_
  refine wp_ret ?_
  obtain rfl := some_inj h
  have hM := hM.outs (own' := []) 0 rfl
  exact leave1 hf rfl rfl ⟨rfl, hM.fin⟩
 refine pi_l hf rfl rfl rfl rfl (w_make hf hM (K := intRep) Tryd.underlying31 ei_2 Tryd.zeroValue2 rfl rfl rfl ⟨rfl, (R64_lit rfl)⟩ hz43 fun b671 w672 hx673 hM => ⟨Ext w672, fun _ h => Ext.trans hx673 h, Ext.refl _, fun a hf => ?_⟩)
 refine pi_one ?_
 refine pi_l hf rfl rfl rfl rfl (w_make hf hM (K := boolRep) Tryd.underlying108 ei_4 Tryd.zeroValue4 rfl rfl rfl rfl hz38 fun b674 w675 hx676 hM => ⟨Ext w675, fun _ h => Ext.trans hx676 h, Ext.refl _, fun a hf => ?_⟩)
 refine pi_q hf rfl rfl rfl rfl (Ext.refl _) (e_build hf Tryd.zeroValue111 Tryd.underlying111 (bp_111 _ Tryd.underlying111.symm) rfl (cs := #[vL A2 (d1.Nodes) c3, vI (0), vL (some ⟨b674, 0, none⟩) (xs37) (((d1.Nodes.length : Int) : Int).toNat), vL (some ⟨b671, 0, none⟩) (xs42) (((d1.Nodes.length : Int) : Int).toNat), vL (some ⟨b546, 0, none⟩) (xs47) (((d1.Nodes.length : Int) : Int).toNat)]) (by kernel_rfl)) fun a hf => ?_
 refine pi_one ?_
 refine pi_l hf rfl rfl rfl rfl (w_box hf hM (cs := [vL A2 (d1.Nodes) c3, vI (0), vL (some ⟨b674, 0, none⟩) (xs37) (((d1.Nodes.length : Int) : Int).toNat), vL (some ⟨b671, 0, none⟩) (xs42) (((d1.Nodes.length : Int) : Int).toNat), vL (some ⟨b546, 0, none⟩) (xs47) (((d1.Nodes.length : Int) : Int).toNat)]) rfl rfl fun b677 w678 hx679 hM => ⟨Ext w678, fun _ h => Ext.trans hx679 h, Ext.refl _, fun a hf => ?_⟩)
 refine pi_q hf rfl rfl rfl rfl (Ext.refl _) (e_assign hf rfl) fun a hf => ?_
 refine pi_nil ?_
 refine then_n ?_
 refine wp_seq ?_
 obtain ⟨x694, h695, h⟩ := bind_some h
 refine seq_join (fun a w => ∃ (n681 : Int) (xs683 : (List Bool)) (xs686 : (List Int)) (xs689 : (List Int)) (t692 : Bool) (A684 : Option Addr) (c685 : Nat) (A687 : Option Addr) (c688 : Nat) (A690 : Option Addr) (c691 : Nat), (n681, xs683, xs686, xs689, t692) = x694 ∧ Has 76 a [(1, vP b5 (0)), (59, .bool (t692))] ∧ Mem C w [.box b677 [vL A2 (d1.Nodes) c3, vI (n681), vL A684 (xs683) c685, vL A687 (xs686) c688, vL A690 (xs689) c691] 111, .row boolRep A684 c685 4 xs683 true, .row intRep A687 c688 2 xs686 true, .row intRep A690 c691 3 xs689 true, .box b5 [vL A2 (d1.Nodes) c3] 26] [.dat (sliceRep NodeRep) d1.Nodes [vL A2 d1.Nodes c3]] ∧ R64 n681) ?_ ?_
 ·refine region_pl ?_
  refine q_ hf rfl rfl rfl (e_move hf rfl) fun a hf => ?_
  have hM : Mem C _ ([.box b677 [vL A2 (d1.Nodes) c3, vI (0), vL (some ⟨b674, 0, none⟩) (xs37) (((d1.Nodes.length : Int) : Int).toNat), vL (some ⟨b671, 0, none⟩) (xs42) (((d1.Nodes.length : Int) : Int).toNat), vL (some ⟨b546, 0, none⟩) (xs47) (((d1.Nodes.length : Int) : Int).toNat)] 111, .row boolRep (some ⟨b674, 0, none⟩) (((d1.Nodes.length : Int) : Int).toNat) 4 xs37 true, .row intRep (some ⟨b671, 0, none⟩) (((d1.Nodes.length : Int) : Int).toNat) 2 xs42 true, .row intRep (some ⟨b546, 0, none⟩) (((d1.Nodes.length : Int) : Int).toNat) 3 xs47 true] ++ [.box b5 [vL A2 (d1.Nodes) c3] 26]) _ := hM
  obtain ⟨y696, hz697, h695⟩ := bind_some h695
  refine pl_l hf rfl rfl rfl (w_call hf Tryd.call77 rfl (r_impl_inspector_visit ⟨_, Sh C _ _, ownB _, hM.sh_lt, sub_dis, C.G, hM.g_lt, hM.g_own, hM.tabs⟩ (⟨⟨d1.Nodes⟩, 0, xs37, xs42, xs47⟩ : inspector) _ _ _ (hM.dat (k := 0) rfl) (R64_lit rfl) _ _ _ _ _ _ 0 (R64_lit rfl) hM.sub sub_dis _ hz697) ?_)
  rintro _ w705 ⟨A699, c700, A701, c702, A703, c704, rfl, hM2, hv698⟩
  obtain ⟨hM, hup707⟩ := hM.backG hM2
  dsimp only [List.cons_append, List.nil_append] at hM hup707
  clear hM2
  refine ⟨_, rfl, fun a hf => ?_⟩
  refine q_ hf rfl rfl rfl (e_not hf rfl) fun a hf => ?_
  refine q_ hf rfl rfl rfl (e_move hf rfl) fun a hf => ?_
  rcases cond_some h695 with ⟨hc708, h695⟩ | ⟨hc708, h695⟩
  ·iterate 6 refine pl_gs (wanted_f hf rfl rfl rfl rfl hc708) hf rfl rfl fun a hf => ?_
   refine q_ hf rfl rfl rfl (e_pick_t hf rfl hc708 rfl) fun a hf => ?_
   refine q_ hf rfl rfl rfl (e_move hf rfl) fun a hf => ?_
   iterate 7 refine pl_gs (wanted_f hf rfl rfl rfl rfl rfl) hf rfl rfl fun a hf => ?_
   refine q_ hf rfl rfl rfl (e_pick_t hf rfl rfl rfl) fun a hf => ?_
   refine q_ hf rfl rfl rfl (e_move hf rfl) fun a hf => ?_
   iterate 7 refine pl_gs (wanted_f hf rfl rfl rfl rfl rfl) hf rfl rfl fun a hf => ?_
   refine q_ hf rfl rfl rfl (e_pick_t hf rfl rfl rfl) fun a hf => ?_
   refine pl_nil ?_
   obtain rfl := some_inj h695
   refine then_n ?_
   exact ⟨y696.2.met, y696.2.open_, y696.2.strings, y696.2.longest, true, A699, c700, A701, c702, A703, c704, rfl, hf.keep ⟨rfl, rfl, trivial⟩, hM.pick [0] rfl, hv698⟩
  refine gq (wanted_t hf rfl rfl rfl rfl hc708) hf rfl rfl (e_move hf rfl) fun a hf => ?_
  refine gq (wanted_t hf rfl rfl rfl rfl hc708) hf rfl rfl (e_nil hf rfl) fun a hf => ?_
  refine gq (wanted_t hf rfl rfl rfl rfl hc708) hf rfl rfl (e_field hf rfl Tryd.underlying111 rfl Tryd.sizeOf2 (o' := 1) rfl) fun a hf => ?_
  refine gq (wanted_t hf rfl rfl rfl rfl hc708) hf rfl rfl (e_load1 hf rfl Tryd.isAgg2 (hM.boxCell (k := 0) rfl rfl)) fun a hf => ?_
  refine gq (wanted_t hf rfl rfl rfl rfl hc708) hf rfl rfl (e_move hf rfl) fun a hf => ?_
  refine gq (wanted_t hf rfl rfl rfl rfl hc708) hf rfl rfl (e_ne hf (x := y696.2.met) (y := (d1.Nodes.length : Int)) rfl rfl) fun a hf => ?_
  refine q_ hf rfl rfl rfl (e_pick_f hf rfl hc708 rfl) fun a hf => ?_
  refine q_ hf rfl rfl rfl (e_move hf rfl) fun a hf => ?_
  rcases cond_some h695 with ⟨hc710, h695⟩ | ⟨hc710, h695⟩
  ·iterate 7 refine pl_gs (wanted_f hf rfl rfl rfl rfl hc710) hf rfl rfl fun a hf => ?_
   refine q_ hf rfl rfl rfl (e_pick_t hf rfl hc710 rfl) fun a hf => ?_
   refine q_ hf rfl rfl rfl (e_move hf rfl) fun a hf => ?_
   iterate 7 refine pl_gs (wanted_f hf rfl rfl rfl rfl rfl) hf rfl rfl fun a hf => ?_
   refine q_ hf rfl rfl rfl (e_pick_t hf rfl rfl rfl) fun a hf => ?_
   refine pl_nil ?_
   obtain rfl := some_inj h695
   refine then_n ?_
   exact ⟨y696.2.met, y696.2.open_, y696.2.strings, y696.2.longest, true, A699, c700, A701, c702, A703, c704, rfl, hf.keep ⟨rfl, rfl, trivial⟩, hM.pick [0] rfl, hv698⟩
  refine gq (wanted_t hf rfl rfl rfl rfl hc710) hf rfl rfl (e_move hf rfl) fun a hf => ?_
  refine gq (wanted_t hf rfl rfl rfl rfl hc710) hf rfl rfl (e_nil hf rfl) fun a hf => ?_
  refine gq (wanted_t hf rfl rfl rfl rfl hc710) hf rfl rfl (e_field hf rfl Tryd.underlying111 rfl Tryd.sizeOf31 (o' := 3) rfl) fun a hf => ?_
  refine gq (wanted_t hf rfl rfl rfl rfl hc710) hf rfl rfl (e_load1 hf rfl Tryd.isAgg31 (hM.boxCell (k := 0) rfl rfl)) fun a hf => ?_
  obtain ⟨e712, hz713, h695⟩ := bind_some h695
  obtain ⟨b718, _, hA719, h714, h715, hr716, hcell717⟩ := hM.rowElemN (k := 2) rfl (n := 1) rfl hz713
  obtain ⟨rfl, hv720⟩ := hr716
  refine gq (wanted_t hf rfl rfl rfl rfl hc710) hf rfl rfl (e_indexAddr (A := A701) (b := b718) (o := 0) (xs := y696.2.strings) (i := 0) hf hA719 rfl rfl Tryd.underlying31 Tryd.sizeOf2 h714 h715) fun a hf => ?_
  refine gq (wanted_t hf rfl rfl rfl rfl hc710) hf rfl rfl (e_load1 hf rfl Tryd.isAgg2 (hcell717 0 _ rfl)) fun a hf => ?_
  refine gq (wanted_t hf rfl rfl rfl rfl hc710) hf rfl rfl (e_gt hf (x := e712) (y := 3000) rfl rfl) fun a hf => ?_
  refine q_ hf rfl rfl rfl (e_pick_f hf rfl hc710 rfl) fun a hf => ?_
  refine q_ hf rfl rfl rfl (e_move hf rfl) fun a hf => ?_
  rcases cond_some h695 with ⟨hc721, h695⟩ | ⟨hc721, h695⟩
  ·iterate 7 refine pl_gs (wanted_f hf rfl rfl rfl rfl hc721) hf rfl rfl fun a hf => ?_
   refine q_ hf rfl rfl rfl (e_pick_t hf rfl hc721 rfl) fun a hf => ?_
   refine pl_nil ?_
   obtain rfl := some_inj h695
   refine then_n ?_
   exact ⟨y696.2.met, y696.2.open_, y696.2.strings, y696.2.longest, true, A699, c700, A701, c702, A703, c704, rfl, hf.keep ⟨rfl, rfl, trivial⟩, hM.pick [0] rfl, hv698⟩
  refine gq (wanted_t hf rfl rfl rfl rfl hc721) hf rfl rfl (e_move hf rfl) fun a hf => ?_
  refine gq (wanted_t hf rfl rfl rfl rfl hc721) hf rfl rfl (e_nil hf rfl) fun a hf => ?_
  refine gq (wanted_t hf rfl rfl rfl rfl hc721) hf rfl rfl (e_field hf rfl Tryd.underlying111 rfl Tryd.sizeOf109 (o' := 4) rfl) fun a hf => ?_
  refine gq (wanted_t hf rfl rfl rfl rfl hc721) hf rfl rfl (e_load1 hf rfl Tryd.isAgg109 (hM.boxCell (k := 0) rfl rfl)) fun a hf => ?_
  obtain ⟨e723, hz724, h695⟩ := bind_some h695
  obtain ⟨b729, _, hA730, h725, h726, hr727, hcell728⟩ := hM.rowElemN (k := 3) rfl (n := 1) rfl hz724
  obtain ⟨rfl, hv731⟩ := hr727
  refine gq (wanted_t hf rfl rfl rfl rfl hc721) hf rfl rfl (e_indexAddr (A := A703) (b := b729) (o := 0) (xs := y696.2.longest) (i := 0) hf hA730 rfl rfl Tryd.underlying109 Tryd.sizeOf3 h725 h726) fun a hf => ?_
  refine gq (wanted_t hf rfl rfl rfl rfl hc721) hf rfl rfl (e_load1 hf rfl Tryd.isAgg3 (hcell728 0 _ rfl)) fun a hf => ?_
  refine gq (wanted_t hf rfl rfl rfl rfl hc721) hf rfl rfl (e_gt hf (x := e723) (y := 13) rfl rfl) fun a hf => ?_
  refine q_ hf rfl rfl rfl (e_pick_f hf rfl hc721 rfl) fun a hf => ?_
  refine pl_nil ?_
  obtain rfl := some_inj h695
  refine then_n ?_
  exact ⟨y696.2.met, y696.2.open_, y696.2.strings, y696.2.longest, (decide (13 < e723)), A699, c700, A701, c702, A703, c704, rfl, hf.keep ⟨rfl, rfl, trivial⟩, hM.pick [0] rfl, hv698⟩
 rintro a w733 ⟨n681, xs683, xs686, xs689, t692, A684, c685, A687, c688, A690, c691, rfl, hf, hM, hv682⟩
 try dsimp only at h
 rcases cond_some h with ⟨hc734, h⟩ | ⟨hc734, h⟩
 ·refine cond_t hf rfl hc734 ?_
  refine wp_seq ?_
  refine region_pl ?_
  refine q_ hf rfl rfl rfl (e_assign hf rfl) fun a hf => ?_
  refine pl_nil ?_
  refine then_n ?_
  refine wp_ret ?_
  refine then_r ?_
  obtain rfl := some_inj h
  have hM := hM.outs (own' := []) 0 rfl
  exact leave1 hf rfl rfl ⟨rfl, hM.fin⟩
 refine cond_f hf rfl hc734 ?_
 refine wp_skip ?_
 refine then_n ?_
 refine wp_seq ?_
 refine region_pl ?_
 refine pl_l hf rfl rfl rfl (w_makeMap fS fT hM fun b735 w736 hx737 hM a hf => ?_)
 refine q_ hf rfl rfl rfl (e_assign hf rfl) fun a hf => ?_
 refine pl_nil ?_
 refine then_n ?_
 obtain ⟨x740, h741, h⟩ := bind_some h
 refine seq_join (fun a w => ∃ (mp738 : (List (Str × Bool))) (b739 : Nat), (.inl mp738) = x740 ∧ Has 76 a [] ∧ Mem C w [.obj b739 (mapO fS fT mp738), .box b677 [vL A2 (d1.Nodes) c3, vI (n681), vL A684 (xs683) c685, vL A687 (xs686) c688, vL A690 (xs689) c691] 111, .row boolRep A684 c685 4 xs683 true, .row intRep A687 c688 2 xs686 true, .row intRep A690 c691 3 xs689 true, .box b5 [vL A2 (d1.Nodes) c3] 26] [.dat (sliceRep NodeRep) d1.Nodes [vL A2 d1.Nodes c3]]) ?_ ?_
 ·refine wp_seq ?_
  refine region_pl ?_
  refine q_ hf rfl rfl rfl (e_field hf rfl Tryd.underlying26 rfl Tryd.sizeOf24 (o' := 0) rfl) fun a hf => ?_
  refine q_ hf rfl rfl rfl (e_load1 hf rfl Tryd.isAgg24 (hM.boxCell (k := 5) rfl rfl)) fun a hf => ?_
  have hl742 := slice_len (hM.dat (k := 0) rfl)
  refine q_ hf rfl rfl rfl (e_lenL hf (x := d1.Nodes) rfl Tryd.underlying24) fun a hf => ?_
  refine q_ hf rfl rfl rfl (e_move hf rfl) fun a hf => ?_
  refine pl_nil ?_
  refine then_n ?_
  refine wp_block ?_
  obtain ⟨x750, h751, h741⟩ := bind_some h741
  refine wp_loopM h751 (fun s a w => ∃ (mp743 : (List (Str × Bool))) (n745 : Int) (b744 : Nat), (mp743, n745) = s ∧ Has 76 a [(5, vM b744), (62, vL A2 (d1.Nodes) c3), (63, vI ((d1.Nodes.length : Int))), (64, vI (n745))] ∧ Mem C w [.obj b744 (mapO fS fT mp743), .box b677 [vL A2 (d1.Nodes) c3, vI (n681), vL A684 (xs683) c685, vL A687 (xs686) c688, vL A690 (xs689) c691] 111, .row boolRep A684 c685 4 xs683 true, .row intRep A687 c688 2 xs686 true, .row intRep A690 c691 3 xs689 true, .box b5 [vL A2 (d1.Nodes) c3] 26] [.dat (sliceRep NodeRep) d1.Nodes [vL A2 d1.Nodes c3]] ∧ R64 n745) ?_ ?_
  ·exact ⟨([] : (List (Str × Bool))), 0, b735, rfl, hf.keep ⟨rfl, rfl, rfl, rfl, trivial⟩, hM.pick [0] rfl, (R64_lit rfl)⟩
  rintro s o752 a w747 ⟨mp743, n745, b744, rfl, hf, hM, hv746⟩ h753 hd754
  replace h753 : m_impl_ValidDawg_l1 d1 mp743 n745 = some o752 := h753
  unfold m_impl_ValidDawg_l1 at h753
  refine wp_seq ?_
  refine region_pl ?_
  refine q_ hf rfl rfl rfl (e_lt hf (x := n745) (y := (d1.Nodes.length : Int)) rfl rfl) fun a hf => ?_
  refine pl_nil ?_
  refine then_n ?_
  refine wp_seq ?_
  rcases cond_some h753 with ⟨hc755, h753⟩ | ⟨hc755, h753⟩
  ·refine cond_t hf rfl hc755 ?_
   refine wp_skip ?_
   refine then_n ?_
   refine wp_seq ?_
   refine wp_block ?_
   refine wp_seq ?_
   refine region_pl ?_
   obtain ⟨e756, hz757, h753⟩ := bind_some h753
   obtain ⟨b761, o762, _, hA763, h758, h759, hr760, hM⟩ := hM.elem (hM.dat (k := 0) rfl) (n := 3) rfl hz757
   obtain ⟨A765, c766, rfl, hv764, hv767⟩ := NodeRep_open hr760
   have hM := hM.add (y := .dat (sliceRep intRep) e756.Next [vL A765 e756.Next c766]) hv767
   refine q_ hf rfl rfl rfl (e_indexAddr (A := A2) (b := b761) (o := o762) (xs := d1.Nodes) (i := n745) hf hA763 rfl rfl Tryd.underlying24 Tryd.sizeOf76 h758 h759) fun a hf => ?_
   refine q_ hf rfl rfl rfl (e_loadA hf (us := [.bool (e756.Final), vS (e756.Letters), vL A765 (e756.Next) c766]) rfl ⟨Tryd.isAgg76, Tryd.sizeOf76⟩ rfl (hM.litSub (k := 1) (d := 0) (us := [.bool (e756.Final), vS (e756.Letters), vL A765 (e756.Next) c766]) rfl rfl rfl)) fun a hf => ?_
   refine pl_l hf rfl rfl rfl (w_alloc hM (cs := [.bool (false), vS (([] : Str)), vL none (([] : (List Int))) 0]) Tryd.zeroValue76 rfl fun b768 w769 hx770 hM a hf => ?_)
   refine pl_0 hf rfl rfl (w_store hf hM (us := [.bool (e756.Final), vS (e756.Letters), vL A765 (e756.Next) c766]) (cs' := [.bool (e756.Final), vS (e756.Letters), vL A765 (e756.Next) c766]) rfl rfl (k := 0) rfl rfl Tryd.sizeOf76 rfl rfl rfl fun w772 hM => ?_)
   dsimp only [List.set] at hM
   refine pl_nil ?_
   refine then_n ?_
   refine wp_seq ?_
   refine region_pl ?_
   refine q_ hf rfl rfl rfl (e_loadA hf (us := [.bool (e756.Final), vS (e756.Letters), vL A765 (e756.Next) c766]) rfl ⟨Tryd.isAgg76, Tryd.sizeOf76⟩ rfl (hM.boxSub (k := 0) (us := [.bool (e756.Final), vS (e756.Letters), vL A765 (e756.Next) c766]) (o := 0) rfl rfl)) fun a hf => ?_
   obtain ⟨y775, hz776, h753⟩ := bind_some h753
   refine pl_l hf rfl rfl rfl (w_call hf Tryd.call78 rfl (r_impl_keyOf ⟨_, Sh C _ _, none_, hM.sh_lt, none_not, C.G, hM.g_lt, g_none, hM.tabs⟩ e756 hv764 _ _ (hM.dat (k := 0) rfl) _ hz776) ?_)
   rintro _ w778 ⟨rfl, hM2, hv777⟩
   obtain ⟨hM, hx779, hup780⟩ := hM.back hM2
   dsimp only [List.cons_append, List.nil_append] at hM hup780
   clear hM2
   refine ⟨_, rfl, fun a hf => ?_⟩
   refine q_ hf rfl rfl rfl (e_assign hf rfl) fun a hf => ?_
   refine pl_nil ?_
   refine then_n ?_
   iterate 2 refine wp_seq ?_
   refine region_pl ?_
   iterate 2 refine q_ hf rfl rfl rfl (e_move hf rfl) fun a hf => ?_
   refine q_ hf rfl rfl rfl (e_lookup (fk := fS) (fv := fT) hf (keyS Tryd.underlying9) Tryd.underlying113 (k := y775) (z := false) rfl rfl Tryd.zeroValue4 (hM.ownAt (k := 1) rfl)) fun a hf => ?_
   refine pl_nil ?_
   refine then_n ?_
   rcases cond_some h753 with ⟨hc781, h753⟩ | ⟨hc781, h753⟩
   ·refine cond_t hf rfl hc781 ?_
    refine wp_seq ?_
    refine region_pl ?_
    refine q_ hf rfl rfl rfl (e_assign hf rfl) fun a hf => ?_
    refine pl_nil ?_
    refine then_n ?_
    refine wp_ret ?_
    refine then_r ?_
    refine blk_r ?_
    refine then_r ?_
    obtain rfl := some_inj h753
    obtain rfl := hd754 _ rfl
    try dsimp only at h741
    refine then_r ?_
    refine blk_r ?_
    obtain rfl := some_inj h741
    try dsimp only at h
    refine then_r ?_
    obtain rfl := some_inj h
    have hM := hM.outs (own' := []) 0 rfl
    exact leave1 hf rfl rfl ⟨rfl, hM.fin⟩
   refine cond_f hf rfl hc781 ?_
   refine wp_skip ?_
   refine then_n ?_
   refine region_pl ?_
   iterate 2 refine q_ hf rfl rfl rfl (e_move hf rfl) fun a hf => ?_
   refine pl_0 hf rfl rfl (w_mapUpdate (fk := fS) (fv := fT) hf hM (keyS Tryd.underlying9) Tryd.underlying113 (k := y775) (v := true) rfl rfl rfl (n := 1) rfl fun w782 hM => ?_)
   dsimp only [List.set] at hM
   refine pl_nil ?_
   refine blk_n ?_
   refine then_n ?_
   refine region_pl ?_
   obtain ⟨z783, hz784, h753⟩ := bind_some h753
   refine q_ hf rfl rfl rfl (e_add hf rfl rfl hz784) fun a hf => ?_
   refine q_ hf rfl rfl rfl (e_move hf rfl) fun a hf => ?_
   refine pl_nil ?_
   obtain rfl := some_inj h753
   refine then_n ⟨_, rfl, ?_⟩
   exact ⟨(putM mp743 y775 true), z783, b744, rfl, hf.keep ⟨rfl, rfl, rfl, rfl, trivial⟩, (hM.drop (.cons _ (.cons_cons _ (.cons_cons _ (.cons_cons _ (.cons_cons _ (.cons_cons _ (.cons_cons _ .slnil)))))))).pick [2] rfl, (chk_R hz784)⟩
  refine cond_f hf rfl hc755 ?_
  refine wp_exit ?_
  refine then_x ?_
  obtain rfl := some_inj h753
  obtain rfl := hd754 _ rfl
  try dsimp only at h741
  refine then_x ?_
  refine exit_hit ?_
  obtain rfl := some_inj h741
  refine then_n ?_
  exact ⟨mp743, b744, rfl, hf.keep trivial, hM.pick [0] rfl⟩
 rintro a w791 ⟨mp738, b739, rfl, hf, hM⟩
 try dsimp only at h
 refine wp_seq ?_
 refine region_pl ?_
 refine q_ hf rfl rfl rfl (e_assign hf rfl) fun a hf => ?_
 refine pl_nil ?_
 refine then_n ?_
 refine wp_ret ?_
 obtain rfl := some_inj h
 have hM := hM.outs (own' := []) 0 rfl
 exact leave1 hf rfl rfl ⟨rfl, hM.fin⟩

set_option maxRecDepth 100000 in
set_option maxHeartbeats 4000000 in
theorem r_impl_Dawg_step (C : Cx) (d1 : Dawg) (A2 : Option Addr) (c3 : Nat) (hp4 : (sliceRep NodeRep).R C.w0 C.S0 d1.Nodes [vL A2 d1.Nodes c3]) (node5 : Int) (hp6 : R64 node5) (letter7 : UInt8) (r : Int) (h : m_impl_Dawg_step d1 node5 letter7 = some r) :
    Calls Tryd.prog 90 #[.agg #[vL A2 (d1.Nodes) c3], vI (node5), vB (letter7)] C.w0 fun e w => e = .returned (vI (r)) ∧ Mem C w [] [] ∧ R64 r := by
 have hM := Mem.begin C [.dat (sliceRep NodeRep) d1.Nodes [vL A2 d1.Nodes c3]] ⟨hp4, trivial⟩
 refine enter Tryd.func90 rfl Tryd.ntmps90 rfl fun a hf => ?_
 unfold m_impl_Dawg_step at h
 refine wp_seq ?_
 refine region_pl ?_
 refine pl_l hf rfl rfl rfl (w_box hf hM (cs := [vL A2 (d1.Nodes) c3]) rfl rfl fun b8 w9 hx10 hM a hf => ?_)
 refine q_ hf rfl rfl rfl (e_assign hf rfl) fun a hf => ?_
 refine pl_nil ?_
 refine then_n ?_
 iterate 2 refine wp_seq ?_
 refine region_pl ?_
 refine q_ hf rfl rfl rfl (e_move hf rfl) fun a hf => ?_
 refine q_ hf rfl rfl rfl (e_field hf rfl Tryd.underlying26 rfl Tryd.sizeOf24 (o' := 0) rfl) fun a hf => ?_
 refine q_ hf rfl rfl rfl (e_load1 hf rfl Tryd.isAgg24 (hM.boxCell (k := 0) rfl rfl)) fun a hf => ?_
 have hl12 := slice_len (hM.dat (k := 0) rfl)
 refine q_ hf rfl rfl rfl (e_lenL hf (x := d1.Nodes) rfl Tryd.underlying24) fun a hf => ?_
 obtain ⟨z13, hz14, h⟩ := bind_some h
 refine q_ hf rfl rfl rfl (e_sub hf rfl rfl hz14) fun a hf => ?_
 obtain ⟨y15, hz16, h⟩ := bind_some h
 refine pl_l hf rfl rfl rfl (w_call hf Tryd.call50 rfl (r_impl_within ⟨_, Sh C _ _, none_, hM.sh_lt, none_not, C.G, hM.g_lt, g_none, hM.tabs⟩ node5 hp6 0 (R64_lit rfl) z13 (chk_R hz14) _ hz16) ?_)
 rintro _ w17 ⟨rfl, hM2⟩
 obtain ⟨hM, hx18, hup19⟩ := hM.back hM2
 dsimp only [List.cons_append, List.nil_append] at hM hup19
 clear hM2
 refine ⟨_, rfl, fun a hf => ?_⟩
 refine q_ hf rfl rfl rfl (e_not hf rfl) fun a hf => ?_
 refine pl_nil ?_
 refine then_n ?_
 rcases cond_some h with ⟨hc20, h⟩ | ⟨hc20, h⟩
 ·refine cond_t hf rfl hc20 ?_
  refine wp_seq ?_
  refine region_pl ?_
  refine q_ hf rfl rfl rfl (e_assign hf rfl) fun a hf => ?_
  refine pl_nil ?_
  refine then_n ?_
  refine wp_ret ?_
  refine then_r ?_
  obtain rfl := some_inj h
  have hM := hM.outs (own' := []) 0 rfl
  exact leave1 hf rfl rfl ⟨rfl, hM.fin, (R64_lit rfl)⟩
 refine cond_f hf rfl hc20 ?_
 refine wp_skip ?_
 refine then_n ?_
 refine wp_seq ?_
 refine region_pl ?_
 refine q_ hf rfl rfl rfl (e_field hf rfl Tryd.underlying26 rfl Tryd.sizeOf24 (o' := 0) rfl) fun a hf => ?_
 refine q_ hf rfl rfl rfl (e_load1 hf rfl Tryd.isAgg24 (hM.boxCell (k := 0) rfl rfl)) fun a hf => ?_
 refine q_ hf rfl rfl rfl (e_move hf rfl) fun a hf => ?_
 obtain ⟨e21, hz22, h⟩ := bind_some h
 obtain ⟨b26, o27, _, hA28, h23, h24, hr25, hM⟩ := hM.elem (hM.dat (k := 0) rfl) (n := 3) rfl hz22
 obtain ⟨A30, c31, rfl, hv29, hv32⟩ := NodeRep_open hr25
 have hM := hM.add (y := .dat (sliceRep intRep) e21.Next [vL A30 e21.Next c31]) hv32
 refine q_ hf rfl rfl rfl (e_indexAddr (A := A2) (b := b26) (o := o27) (xs := d1.Nodes) (i := node5) hf hA28 rfl rfl Tryd.underlying24 Tryd.sizeOf76 h23 h24) fun a hf => ?_
 refine q_ hf rfl rfl rfl (e_loadA hf (us := [.bool (e21.Final), vS (e21.Letters), vL A30 (e21.Next) c31]) rfl ⟨Tryd.isAgg76, Tryd.sizeOf76⟩ rfl (hM.litSub (k := 1) (d := 0) (us := [.bool (e21.Final), vS (e21.Letters), vL A30 (e21.Next) c31]) rfl rfl rfl)) fun a hf => ?_
 refine pl_l hf rfl rfl rfl (w_alloc hM (cs := [.bool (false), vS (([] : Str)), vL none (([] : (List Int))) 0]) Tryd.zeroValue76 rfl fun b33 w34 hx35 hM a hf => ?_)
 refine pl_0 hf rfl rfl (w_store hf hM (us := [.bool (e21.Final), vS (e21.Letters), vL A30 (e21.Next) c31]) (cs' := [.bool (e21.Final), vS (e21.Letters), vL A30 (e21.Next) c31]) rfl rfl (k := 0) rfl rfl Tryd.sizeOf76 rfl rfl rfl fun w37 hM => ?_)
 dsimp only [List.set] at hM
 refine pl_nil ?_
 refine then_n ?_
 iterate 2 refine wp_seq ?_
 refine region_pl ?_
 refine q_ hf rfl rfl rfl (e_field hf rfl Tryd.underlying76 rfl Tryd.sizeOf9 (o' := 1) rfl) fun a hf => ?_
 refine q_ hf rfl rfl rfl (e_load1 hf rfl Tryd.isAgg9 (hM.boxCell (k := 0) rfl rfl)) fun a hf => ?_
 refine q_ hf rfl rfl rfl (e_move hf rfl) fun a hf => ?_
 obtain ⟨y40, hz41, h⟩ := bind_some h
 refine pl_l hf rfl rfl rfl (w_call hf Tryd.call112 rfl (r_strings_IndexByte ⟨_, Sh C _ _, none_, hM.sh_lt, none_not, C.G, hM.g_lt, g_none, hM.tabs⟩ e21.Letters hv29 letter7 _ hz41) ?_)
 rintro _ w43 ⟨rfl, hM2, hv42⟩
 obtain ⟨hM, hx44, hup45⟩ := hM.back hM2
 dsimp only [List.cons_append, List.nil_append] at hM hup45
 clear hM2
 refine ⟨_, rfl, fun a hf => ?_⟩
 refine q_ hf rfl rfl rfl (e_assign hf rfl) fun a hf => ?_
 refine pl_nil ?_
 refine then_n ?_
 refine wp_seq ?_
 refine region_pl ?_
 refine q_ hf rfl rfl rfl (e_move hf rfl) fun a hf => ?_
 refine q_ hf rfl rfl rfl (e_ge hf (x := y40) (y := 0) rfl rfl) fun a hf => ?_
 refine pl_nil ?_
 refine then_n ?_
 rcases cond_some h with ⟨hc46, h⟩ | ⟨hc46, h⟩
 ·refine cond_t hf rfl hc46 ?_
  refine wp_seq ?_
  refine region_pl ?_
  refine q_ hf rfl rfl rfl (e_field hf rfl Tryd.underlying76 rfl Tryd.sizeOf31 (o' := 2) rfl) fun a hf => ?_
  refine q_ hf rfl rfl rfl (e_load1 hf rfl Tryd.isAgg31 (hM.boxCell (k := 0) rfl rfl)) fun a hf => ?_
  refine q_ hf rfl rfl rfl (e_move hf rfl) fun a hf => ?_
  obtain ⟨e47, hz48, h⟩ := bind_some h
  obtain ⟨b52, o53, _, hA54, h49, h50, hr51, hM⟩ := hM.elem (hM.dat (k := 0) rfl) (n := 1) rfl hz48
  obtain ⟨rfl, hv55⟩ := hr51
  refine q_ hf rfl rfl rfl (e_indexAddr (A := A30) (b := b52) (o := o53) (xs := e21.Next) (i := y40) hf hA54 rfl rfl Tryd.underlying31 Tryd.sizeOf2 h49 h50) fun a hf => ?_
  refine q_ hf rfl rfl rfl (e_load1 hf rfl Tryd.isAgg2 (hM.litCell (k := 0) (j := 0) rfl rfl rfl)) fun a hf => ?_
  refine q_ hf rfl rfl rfl (e_assign hf rfl) fun a hf => ?_
  refine pl_nil ?_
  refine then_n ?_
  refine wp_ret ?_
  refine then_r ?_
  obtain rfl := some_inj h
  have hM := hM.outs (own' := []) 0 rfl
  exact leave1 hf rfl rfl ⟨rfl, hM.fin, hv55⟩
 refine cond_f hf rfl hc46 ?_
 refine wp_skip ?_
 refine then_n ?_
 refine wp_seq ?_
 refine region_pl ?_
 refine q_ hf rfl rfl rfl (e_assign hf rfl) fun a hf => ?_
 refine pl_nil ?_
 refine then_n ?_
 refine wp_ret ?_
 obtain rfl := some_inj h
 have hM := hM.outs (own' := []) 0 rfl
 exact leave1 hf rfl rfl ⟨rfl, hM.fin, (R64_lit rfl)⟩

set_option maxRecDepth 100000 in
set_option maxHeartbeats 4000000 in
theorem r_impl_Dawg_after (C : Cx) (d1 : Dawg) (A2 : Option Addr) (c3 : Nat) (hp4 : (sliceRep NodeRep).R C.w0 C.S0 d1.Nodes [vL A2 d1.Nodes c3]) (s5 : Str) (hp6 : s5.length ≤ maxLen) (r : Int) (h : m_impl_Dawg_after d1 s5 = some r) :
    Calls Tryd.prog 62 #[.agg #[vL A2 (d1.Nodes) c3], vS (s5)] C.w0 fun e w => e = .returned (vI (r)) ∧ Mem C w [] [] ∧ R64 r := by
 have hM := Mem.begin C [.dat (sliceRep NodeRep) d1.Nodes [vL A2 d1.Nodes c3]] ⟨hp4, trivial⟩
 refine enter Tryd.func62 rfl Tryd.ntmps62 rfl fun a hf => ?_
 unfold m_impl_Dawg_after at h
 refine wp_seq ?_
 refine region_pl ?_
 refine pl_l hf rfl rfl rfl (w_box hf hM (cs := [vL A2 (d1.Nodes) c3]) rfl rfl fun b7 w8 hx9 hM a hf => ?_)
 refine q_ hf rfl rfl rfl (e_assign hf rfl) fun a hf => ?_
 refine pl_nil ?_
 refine then_n ?_
 refine wp_seq ?_
 refine region_pl ?_
 refine q_ hf rfl rfl rfl (e_assign hf rfl) fun a hf => ?_
 refine pl_nil ?_
 refine then_n ?_
 obtain ⟨x13, h14, h⟩ := bind_some h
 refine seq_join (fun a w => ∃ (n11 : Int), n11 = x13 ∧ Has 24 a [(5, vI (n11))] ∧ Mem C w [.box b7 [vL A2 (d1.Nodes) c3] 26] [.dat (sliceRep NodeRep) d1.Nodes [vL A2 d1.Nodes c3]] ∧ R64 n11) ?_ ?_
 ·refine wp_seq ?_
  refine region_pl ?_
  refine q_ hf rfl rfl rfl (e_assign hf rfl) fun a hf => ?_
  refine pl_nil ?_
  refine then_n ?_
  refine wp_block ?_
  obtain ⟨x22, h23, h14⟩ := bind_some h14
  refine wp_loopM h23 (fun s a w => ∃ (n15 : Int) (n17 : Int), (n15, n17) = s ∧ Has 24 a [(1, vS (s5)), (2, vP b7 (0)), (5, vI (n15)), (6, vI (n17))] ∧ Mem C w [.box b7 [vL A2 (d1.Nodes) c3] 26] [.dat (sliceRep NodeRep) d1.Nodes [vL A2 d1.Nodes c3]] ∧ R64 n15 ∧ R64 n17) ?_ ?_
  ·exact ⟨0, 0, rfl, hf.keep ⟨rfl, rfl, rfl, rfl, trivial⟩, hM.pick [0] rfl, (R64_lit rfl), (R64_lit rfl)⟩
  rintro s o24 a w19 ⟨n15, n17, rfl, hf, hM, hv16, hv18⟩ h25 hd26
  replace h25 : m_impl_Dawg_after_l1 s5 d1 n15 n17 = some o24 := h25
  unfold m_impl_Dawg_after_l1 at h25
  refine wp_seq ?_
  obtain ⟨x29, h30, h25⟩ := bind_some h25
  refine seq_join (fun a w => ∃ (t27 : Bool), t27 = x29 ∧ Has 24 a [(1, vS (s5)), (2, vP b7 (0)), (5, vI (n15)), (6, vI (n17)), (14, .bool (t27))] ∧ Mem C w [.box b7 [vL A2 (d1.Nodes) c3] 26] [.dat (sliceRep NodeRep) d1.Nodes [vL A2 d1.Nodes c3]]) ?_ ?_
  ·refine region_pl ?_
   iterate 2 refine q_ hf rfl rfl rfl (e_move hf rfl) fun a hf => ?_
   refine q_ hf rfl rfl rfl (e_lenS hf (x := s5) rfl Tryd.underlying9) fun a hf => ?_
   refine q_ hf rfl rfl rfl (e_lt hf (x := n17) (y := (s5.length : Int)) rfl rfl) fun a hf => ?_
   refine q_ hf rfl rfl rfl (e_move hf rfl) fun a hf => ?_
   rcases cond_some h30 with ⟨hc31, h30⟩ | ⟨hc31, h30⟩
   ·refine gq (wanted_t hf rfl rfl rfl rfl hc31) hf rfl rfl (e_move hf rfl) fun a hf => ?_
    refine gq (wanted_t hf rfl rfl rfl rfl hc31) hf rfl rfl (e_ge hf (x := n15) (y := 0) rfl rfl) fun a hf => ?_
    refine q_ hf rfl rfl rfl (e_pick_t hf rfl hc31 rfl) fun a hf => ?_
    refine pl_nil ?_
    obtain rfl := some_inj h30
    refine then_n ?_
    exact ⟨(decide (0 ≤ n15)), rfl, hf.keep ⟨rfl, rfl, rfl, rfl, rfl, trivial⟩, hM.pick [0] rfl⟩
   iterate 2 refine pl_gs (wanted_f hf rfl rfl rfl rfl hc31) hf rfl rfl fun a hf => ?_
   refine q_ hf rfl rfl rfl (e_pick_f hf rfl hc31 rfl) fun a hf => ?_
   refine pl_nil ?_
   obtain rfl := some_inj h30
   refine then_n ?_
   exact ⟨false, rfl, hf.keep ⟨rfl, rfl, rfl, rfl, rfl, trivial⟩, hM.pick [0] rfl⟩
  rintro a w34 ⟨t27, rfl, hf, hM⟩
  try dsimp only at h25
  rcases cond_some h25 with ⟨hc35, h25⟩ | ⟨hc35, h25⟩
  ·refine cond_t hf rfl hc35 ?_
   refine wp_skip ?_
   refine then_n ?_
   refine wp_seq ?_
   refine wp_block ?_
   obtain ⟨w36, hw⟩ : ∃ x, x = w34.drew := ⟨_, rfl⟩
   refine region_pi (.q 0 (.q 1 (.q 2 (.q 3 (.q 4 (.l 5 (.q 6 (.nil)))))))) (Ext w36) rfl (by kernel_rfl) ?_
   have hM := hM.drew
   rw [← hw] at hM ⊢
   clear hw
   refine pi_q hf rfl rfl rfl rfl (Ext.refl _) (e_loadA hf (us := [vL A2 (d1.Nodes) c3]) rfl ⟨Tryd.isAgg26, Tryd.sizeOf26⟩ rfl (hM.boxSub (k := 0) (us := [vL A2 (d1.Nodes) c3]) (o := 0) rfl rfl)) fun a hf => ?_
   iterate 3 refine pi_q hf rfl rfl rfl rfl (Ext.refl _) (e_move hf rfl) fun a hf => ?_
   obtain ⟨c37, hz38, h25⟩ := bind_some h25
   refine pi_q hf rfl rfl rfl rfl (Ext.refl _) (e_indexS hf (x := s5) rfl rfl Tryd.underlying9 hz38) fun a hf => ?_
   refine pi_one ?_
   obtain ⟨y39, hz40, h25⟩ := bind_some h25
   refine pi_l hf rfl rfl rfl rfl (w_call hf Tryd.call90 rfl (r_impl_Dawg_step ⟨_, Sh C _ _, none_, hM.sh_lt, none_not, C.G, hM.g_lt, g_none, hM.tabs⟩ d1 _ _ (hM.dat (k := 0) rfl) n15 hv16 c37 _ hz40) ?_)
   rintro _ w42 ⟨rfl, hM2, hv41⟩
   obtain ⟨hM, hx43, hup44⟩ := hM.back hM2
   dsimp only [List.cons_append, List.nil_append] at hM hup44
   clear hM2
   refine ⟨_, rfl, Ext w42, fun _ h => Ext.trans hx43 h, Ext.refl _, fun a hf => ?_⟩
   refine pi_q hf rfl rfl rfl rfl (Ext.refl _) (e_assign hf rfl) fun a hf => ?_
   refine pi_nil ?_
   refine blk_n ?_
   refine then_n ?_
   refine region_pl ?_
   refine q_ hf rfl rfl rfl (e_move hf rfl) fun a hf => ?_
   obtain ⟨z45, hz46, h25⟩ := bind_some h25
   refine q_ hf rfl rfl rfl (e_add hf rfl rfl hz46) fun a hf => ?_
   refine q_ hf rfl rfl rfl (e_assign hf rfl) fun a hf => ?_
   refine pl_nil ?_
   obtain rfl := some_inj h25
   refine then_n ⟨_, rfl, ?_⟩
   exact ⟨y39, z45, rfl, hf.keep ⟨rfl, rfl, rfl, rfl, trivial⟩, hM.pick [0] rfl, hv41, (chk_R hz46)⟩
  refine cond_f hf rfl hc35 ?_
  refine wp_exit ?_
  refine then_x ?_
  obtain rfl := some_inj h25
  obtain rfl := hd26 _ rfl
  try dsimp only at h14
  refine then_x ?_
  refine exit_hit ?_
  obtain rfl := some_inj h14
  refine then_n ?_
  exact ⟨n15, rfl, hf.keep ⟨rfl, trivial⟩, hM.pick [0] rfl, hv16⟩
 rintro a w52 ⟨n11, rfl, hf, hM, hv12⟩
 try dsimp only at h
 refine wp_seq ?_
 refine region_pl ?_
 refine q_ hf rfl rfl rfl (e_move hf rfl) fun a hf => ?_
 refine q_ hf rfl rfl rfl (e_assign hf rfl) fun a hf => ?_
 refine pl_nil ?_
 refine then_n ?_
 refine wp_ret ?_
 obtain rfl := some_inj h
 have hM := hM.outs (own' := []) 0 rfl
 exact leave1 hf rfl rfl ⟨rfl, hM.fin, hv12⟩

set_option maxRecDepth 100000 in
set_option maxHeartbeats 4000000 in
theorem r_impl_Dawg_accepts (C : Cx) (d1 : Dawg) (A2 : Option Addr) (c3 : Nat) (hp4 : (sliceRep NodeRep).R C.w0 C.S0 d1.Nodes [vL A2 d1.Nodes c3]) (s5 : Str) (hp6 : s5.length ≤ maxLen) (r : Bool) (h : m_impl_Dawg_accepts d1 s5 = some r) :
    Calls Tryd.prog 47 #[.agg #[vL A2 (d1.Nodes) c3], vS (s5)] C.w0 fun e w => e = .returned (.bool (r)) ∧ Mem C w [] [] := by
 have hM := Mem.begin C [.dat (sliceRep NodeRep) d1.Nodes [vL A2 d1.Nodes c3]] ⟨hp4, trivial⟩
 refine enter Tryd.func47 rfl Tryd.ntmps47 rfl fun a hf => ?_
 unfold m_impl_Dawg_accepts at h
 refine wp_seq ?_
 refine region_pl ?_
 refine pl_l hf rfl rfl rfl (w_box hf hM (cs := [vL A2 (d1.Nodes) c3]) rfl rfl fun b7 w8 hx9 hM a hf => ?_)
 refine q_ hf rfl rfl rfl (e_assign hf rfl) fun a hf => ?_
 refine pl_nil ?_
 refine then_n ?_
 refine wp_seq ?_
 refine region_pl ?_
 refine q_ hf rfl rfl rfl (e_loadA hf (us := [vL A2 (d1.Nodes) c3]) rfl ⟨Tryd.isAgg26, Tryd.sizeOf26⟩ rfl (hM.boxSub (k := 0) (us := [vL A2 (d1.Nodes) c3]) (o := 0) rfl rfl)) fun a hf => ?_
 refine q_ hf rfl rfl rfl (e_move hf rfl) fun a hf => ?_
 obtain ⟨y11, hz12, h⟩ := bind_some h
 refine pl_l hf rfl rfl rfl (w_call hf Tryd.call62 rfl (r_impl_Dawg_after ⟨_, Sh C _ _, none_, hM.sh_lt, none_not, C.G, hM.g_lt, g_none, hM.tabs⟩ d1 _ _ (hM.dat (k := 0) rfl) s5 hp6 _ hz12) ?_)
 rintro _ w14 ⟨rfl, hM2, hv13⟩
 obtain ⟨hM, hx15, hup16⟩ := hM.back hM2
 dsimp only [List.cons_append, List.nil_append] at hM hup16
 clear hM2
 refine ⟨_, rfl, fun a hf => ?_⟩
 refine q_ hf rfl rfl rfl (e_assign hf rfl) fun a hf => ?_
 refine pl_nil ?_
 refine then_n ?_
 obtain ⟨x19, h20, h⟩ := bind_some h
 refine seq_join (fun a w => ∃ (t17 : Bool), t17 = x19 ∧ Has 19 a [(4, .bool (t17))] ∧ Mem C w [.box b7 [vL A2 (d1.Nodes) c3] 26] [.dat (sliceRep NodeRep) d1.Nodes [vL A2 d1.Nodes c3]]) ?_ ?_
 ·refine region_pl ?_
  refine q_ hf rfl rfl rfl (e_move hf rfl) fun a hf => ?_
  refine q_ hf rfl rfl rfl (e_ge hf (x := y11) (y := 0) rfl rfl) fun a hf => ?_
  refine q_ hf rfl rfl rfl (e_move hf rfl) fun a hf => ?_
  rcases cond_some h20 with ⟨hc21, h20⟩ | ⟨hc21, h20⟩
  ·refine gq (wanted_t hf rfl rfl rfl rfl hc21) hf rfl rfl (e_field hf rfl Tryd.underlying26 rfl Tryd.sizeOf24 (o' := 0) rfl) fun a hf => ?_
   refine gq (wanted_t hf rfl rfl rfl rfl hc21) hf rfl rfl (e_load1 hf rfl Tryd.isAgg24 (hM.boxCell (k := 0) rfl rfl)) fun a hf => ?_
   refine gq (wanted_t hf rfl rfl rfl rfl hc21) hf rfl rfl (e_move hf rfl) fun a hf => ?_
   obtain ⟨e22, hz23, h20⟩ := bind_some h20
   obtain ⟨b27, o28, _, hA29, h24, h25, hr26, hM⟩ := hM.elem (hM.dat (k := 0) rfl) (n := 3) rfl hz23
   obtain ⟨A31, c32, rfl, hv30, hv33⟩ := NodeRep_open hr26
   have hM := hM.add (y := .dat (sliceRep intRep) e22.Next [vL A31 e22.Next c32]) hv33
   refine gq (wanted_t hf rfl rfl rfl rfl hc21) hf rfl rfl (e_indexAddr (A := A2) (b := b27) (o := o28) (xs := d1.Nodes) (i := y11) hf hA29 rfl rfl Tryd.underlying24 Tryd.sizeOf76 h24 h25) fun a hf => ?_
   refine gq (wanted_t hf rfl rfl rfl rfl hc21) hf rfl rfl (e_field hf rfl Tryd.underlying76 rfl Tryd.sizeOf4 (o' := (o28 + (y11 : Int).toNat * 3) + 0) rfl) fun a hf => ?_
   refine gq (wanted_t hf rfl rfl rfl rfl hc21) hf rfl rfl (e_load1 hf rfl Tryd.isAgg4 (hM.litCell (k := 1) (j := 0) rfl rfl rfl)) fun a hf => ?_
   refine q_ hf rfl rfl rfl (e_pick_t hf rfl hc21 rfl) fun a hf => ?_
   refine q_ hf rfl rfl rfl (e_assign hf rfl) fun a hf => ?_
   refine pl_nil ?_
   obtain rfl := some_inj h20
   refine then_n ?_
   exact ⟨e22.Final, rfl, hf.keep ⟨rfl, trivial⟩, hM.pick [2] rfl⟩
  iterate 6 refine pl_gs (wanted_f hf rfl rfl rfl rfl hc21) hf rfl rfl fun a hf => ?_
  refine q_ hf rfl rfl rfl (e_pick_f hf rfl hc21 rfl) fun a hf => ?_
  refine q_ hf rfl rfl rfl (e_assign hf rfl) fun a hf => ?_
  refine pl_nil ?_
  obtain rfl := some_inj h20
  refine then_n ?_
  exact ⟨false, rfl, hf.keep ⟨rfl, trivial⟩, hM.pick [0] rfl⟩
 rintro a w36 ⟨t17, rfl, hf, hM⟩
 try dsimp only at h
 refine wp_ret ?_
 obtain rfl := some_inj h
 have hM := hM.outs (own' := []) 0 rfl
 exact leave1 hf rfl rfl ⟨rfl, hM.fin⟩

def Ct_impl_Dawg_words_1 (rc : Int → Dawg → (List Str) → Str → Option ((List Str) × Str)) : Prop := ∀ (C : Cx) (node1 : Int) (hp2 : R64 node1) (p3 : Dawg) (b4 : Nat) (o5 : Nat) (hp6 : (ptrRep DawgRep).R C.w0 C.S0 p3 [vP b4 o5]) (p7 : (List Str)) (b8 : Nat) (A9 : Option Addr) (c10 : Nat) (p11 : Str) (b12 : Nat) (A13 : Option Addr) (c14 : Nat) (b16 : Nat) (o17 : Nat) (hp18 : Shr.good C.w0 C.S0 (.lit b16 (o17) [.func (.func 81) #[] #[vP b4 (o5), vP b8 (0), vP b12 (0), vP b16 (o17)]])) (hO : Mem C C.w0 [.box b8 [vL A9 (p7) c10] 28, .row strRep A9 c10 9 p7 true, .box b12 [vL A13 (p11) c14] 22, .row byteRep A13 c14 5 p11 true] []) (hd : ∀ b, C.S0 b → ¬ ownB [.box b8 [vL A9 (p7) c10] 28, .row strRep A9 c10 9 p7 true, .box b12 [vL A13 (p11) c14] 22, .row byteRep A13 c14 5 p11 true] b) (r : ((List Str) × Str)) (h : rc node1 p3 p7 p11 = some r),
    Calls Tryd.prog 81 #[vI (node1), vP b4 (o5), vP b8 (0), vP b12 (0), vP b16 (o17)] C.w0 fun e w => ∃ (A_1 : Option Addr), ∃ (c_1 : Nat), ∃ (A_2 : Option Addr), ∃ (c_2 : Nat), e = .returned (.tuple #[]) ∧ Mem C w [.box b8 [vL A_1 (r.1) c_1] 28, .row strRep A_1 c_1 9 r.1 true, .box b12 [vL A_2 (r.2) c_2] 22, .row byteRep A_2 c_2 5 r.2 true] []

set_option maxRecDepth 100000 in
set_option maxHeartbeats 4000000 in
theorem r_impl_Dawg_words_1_b (rc : Int → Dawg → (List Str) → Str → Option ((List Str) × Str)) (ih : Ct_impl_Dawg_words_1 rc) : Ct_impl_Dawg_words_1 (m_impl_Dawg_words_1_b rc) := by
 intro C node1 hp2 p3 b4 o5 hp6 p7 b8 A9 c10 p11 b12 A13 c14 b16 o17 hp18 hO hd r h
 have hM := hO
 have hM := hM.addIn hd (y := .dat (ptrRep DawgRep) p3 [vP b4 o5]) hp6
 have hM := hM.addIn hd (y := .lit b16 (o17) [.func (.func 81) #[] #[vP b4 (o5), vP b8 (0), vP b12 (0), vP b16 (o17)]]) hp18
 refine enter Tryd.func81 rfl Tryd.ntmps81 rfl fun a hf => ?_
 unfold m_impl_Dawg_words_1_b at h
 refine wp_seq ?_
 refine region_pl ?_
 obtain ⟨_, hr19, hM⟩ := hM.deref (hM.dat (k := 1) rfl)
 obtain ⟨A20, c21, rfl, hv22⟩ := DawgRep_open hr19
 have hM := hM.add (y := .dat (sliceRep NodeRep) p3.Nodes [vL A20 p3.Nodes c21]) hv22
 refine q_ hf rfl rfl rfl (e_field hf rfl Tryd.underlying26 rfl Tryd.sizeOf24 (o' := o5 + 0) rfl) fun a hf => ?_
 refine q_ hf rfl rfl rfl (e_load1 hf rfl Tryd.isAgg24 (hM.litCell (k := 1) (j := 0) rfl rfl rfl)) fun a hf => ?_
 refine q_ hf rfl rfl rfl (e_move hf rfl) fun a hf => ?_
 obtain ⟨e23, hz24, h⟩ := bind_some h
 obtain ⟨b28, o29, _, hA30, h25, h26, hr27, hM⟩ := hM.elem (hM.dat (k := 0) rfl) (n := 3) rfl hz24
 obtain ⟨A32, c33, rfl, hv31, hv34⟩ := NodeRep_open hr27
 have hM := hM.add (y := .dat (sliceRep intRep) e23.Next [vL A32 e23.Next c33]) hv34
 refine q_ hf rfl rfl rfl (e_indexAddr (A := A20) (b := b28) (o := o29) (xs := p3.Nodes) (i := node1) hf hA30 rfl rfl Tryd.underlying24 Tryd.sizeOf76 h25 h26) fun a hf => ?_
 refine q_ hf rfl rfl rfl (e_loadA hf (us := [.bool (e23.Final), vS (e23.Letters), vL A32 (e23.Next) c33]) rfl ⟨Tryd.isAgg76, Tryd.sizeOf76⟩ rfl (hM.litSub (k := 1) (d := 0) (us := [.bool (e23.Final), vS (e23.Letters), vL A32 (e23.Next) c33]) rfl rfl rfl)) fun a hf => ?_
 refine pl_l hf rfl rfl rfl (w_alloc hM (cs := [.bool (false), vS (([] : Str)), vL none (([] : (List Int))) 0]) Tryd.zeroValue76 rfl fun b35 w36 hx37 hM a hf => ?_)
 refine pl_0 hf rfl rfl (w_store hf hM (us := [.bool (e23.Final), vS (e23.Letters), vL A32 (e23.Next) c33]) (cs' := [.bool (e23.Final), vS (e23.Letters), vL A32 (e23.Next) c33]) rfl rfl (k := 0) rfl rfl Tryd.sizeOf76 rfl rfl rfl fun w39 hM => ?_)
 dsimp only [List.set] at hM
 refine pl_nil ?_
 refine then_n ?_
 obtain ⟨x45, h46, h⟩ := bind_some h
 refine seq_join (fun a w => ∃ (xs42 : (List Str)) (A43 : Option Addr) (c44 : Nat), xs42 = x45 ∧ Has 45 a [(3, vP b12 (0)), (4, vP b16 (o17)), (6, vP b35 (0))] ∧ Mem C w [.box b35 [.bool (e23.Final), vS (e23.Letters), vL A32 (e23.Next) c33] 76, .box b8 [vL A43 (xs42) c44] 28, .row strRep A43 c44 9 xs42 true, .box b12 [vL A13 (p11) c14] 22, .row byteRep A13 c14 5 p11 true] [.dat (sliceRep intRep) e23.Next [vL A32 e23.Next c33], .lit b28 (o29 + (node1 : Int).toNat * 3) [.bool (e23.Final), vS (e23.Letters), vL A32 (e23.Next) c33], .dat (sliceRep NodeRep) p3.Nodes [vL A20 p3.Nodes c21], .lit b4 (o5) [vL A20 (p3.Nodes) c21], .lit b16 (o17) [.func (.func 81) #[] #[vP b4 (o5), vP b8 (0), vP b12 (0), vP b16 (o17)]], .dat (ptrRep DawgRep) p3 [vP b4 o5]]) ?_ ?_
 ·refine wp_seq ?_
  refine region_pl ?_
  refine q_ hf rfl rfl rfl (e_field hf rfl Tryd.underlying76 rfl Tryd.sizeOf4 (o' := 0) rfl) fun a hf => ?_
  refine q_ hf rfl rfl rfl (e_load1 hf rfl Tryd.isAgg4 (hM.boxCell (k := 0) rfl rfl)) fun a hf => ?_
  refine pl_nil ?_
  refine then_n ?_
  rcases cond_some h46 with ⟨hc47, h46⟩ | ⟨hc47, h46⟩
  ·refine cond_t hf rfl hc47 ?_
   refine region_pl ?_
   refine q_ hf rfl rfl rfl (e_load1 hf rfl Tryd.isAgg28 (hM.boxCell (k := 1) rfl rfl)) fun a hf => ?_
   refine q_ hf rfl rfl rfl (e_load1 hf rfl Tryd.isAgg22 (hM.boxCell (k := 3) rfl rfl)) fun a hf => ?_
   have hl48 := row_len (hM.ownAt (k := 4) rfl)
   refine q_ hf rfl rfl rfl (e_bytesStr hf (xs := p11) rfl Tryd.underlying22 Tryd.underlying5 Tryd.underlying9 (hM.lendRow (k := 4) rfl)) fun a hf => ?_
   refine pl_l hf rfl rfl rfl (w_slice hf hM (K := strRep) (xs := ([p11] : (List Str))) (os := [.tmp 18]) Tryd.underlying28 ei_9 rfl rfl rfl rfl rfl ⟨⟨[vS (p11)], rfl, ⟨rfl, hl48⟩⟩, trivial⟩ rfl fun b49 w50 hx51 hM a hf => ?_)
   obtain ⟨xs52, hz53, h46⟩ := bind_some h46
   refine pl_l hf rfl rfl rfl (w_append hf hM Tryd.underlying28 ei_9 rfl rfl rfl (k := 3) rfl (hM.srcRow (k := 0) rfl) hz53 fun A54 c55 w56 hM a hf => ?_)
   dsimp only [List.set] at hM
   refine pl_0 hf rfl rfl (w_store hf hM (us := [vL A54 (xs52) c55]) (cs' := [vL A54 (xs52) c55]) rfl rfl (k := 2) rfl rfl Tryd.sizeOf28 rfl rfl rfl fun w59 hM => ?_)
   dsimp only [List.set] at hM
   refine pl_nil ?_
   obtain rfl := some_inj h46
   refine then_n ?_
   exact ⟨xs52, A54, c55, rfl, hf.keep ⟨rfl, rfl, rfl, trivial⟩, (hM.drop (.cons _ (.cons_cons _ (.cons_cons _ (.cons_cons _ (.cons_cons _ (.cons_cons _ .slnil))))))).pick [0, 1, 2, 3, 4, 5] rfl⟩
  refine cond_f hf rfl hc47 ?_
  refine wp_skip ?_
  obtain rfl := some_inj h46
  refine then_n ?_
  exact ⟨p7, A9, c10, rfl, hf.keep ⟨rfl, rfl, rfl, trivial⟩, hM.pick [0, 1, 2, 3, 4, 5] rfl⟩
 rintro a w64 ⟨xs42, A43, c44, rfl, hf, hM⟩
 try dsimp only at h
 refine wp_seq ?_
 refine region_pl ?_
 refine q_ hf rfl rfl rfl (e_field hf rfl Tryd.underlying76 rfl Tryd.sizeOf31 (o' := 2) rfl) fun a hf => ?_
 refine q_ hf rfl rfl rfl (e_load1 hf rfl Tryd.isAgg31 (hM.boxCell (k := 0) rfl rfl)) fun a hf => ?_
 have hl65 := slice_len (hM.dat (k := 0) rfl)
 refine q_ hf rfl rfl rfl (e_lenL hf (x := e23.Next) rfl Tryd.underlying31) fun a hf => ?_
 refine q_ hf rfl rfl rfl (e_move hf rfl) fun a hf => ?_
 refine pl_nil ?_
 refine then_n ?_
 refine wp_block ?_
 obtain ⟨x81, h82, h⟩ := bind_some h
 refine wp_loopM h82 (fun s a w => ∃ (xs66 : (List Str)) (xs69 : Str) (n72 : Int) (A67 : Option Addr) (c68 : Nat) (A70 : Option Addr) (c71 : Nat), (xs66, xs69, n72) = s ∧ Has 45 a [(3, vP b12 (0)), (4, vP b16 (o17)), (6, vP b35 (0)), (22, vL A32 (e23.Next) c33), (23, vI ((e23.Next.length : Int))), (24, vI (n72))] ∧ Mem C w [.box b35 [.bool (e23.Final), vS (e23.Letters), vL A32 (e23.Next) c33] 76, .box b8 [vL A67 (xs66) c68] 28, .row strRep A67 c68 9 xs66 true, .box b12 [vL A70 (xs69) c71] 22, .row byteRep A70 c71 5 xs69 true] [.dat (sliceRep intRep) e23.Next [vL A32 e23.Next c33], .lit b28 (o29 + (node1 : Int).toNat * 3) [.bool (e23.Final), vS (e23.Letters), vL A32 (e23.Next) c33], .dat (sliceRep NodeRep) p3.Nodes [vL A20 p3.Nodes c21], .lit b4 (o5) [vL A20 (p3.Nodes) c21], .lit b16 (o17) [.func (.func 81) #[] #[vP b4 (o5), vP b8 (0), vP b12 (0), vP b16 (o17)]], .dat (ptrRep DawgRep) p3 [vP b4 o5]] ∧ R64 n72) ?_ ?_
 ·exact ⟨xs42, p11, 0, A43, c44, A13, c14, rfl, hf.keep ⟨rfl, rfl, rfl, rfl, rfl, rfl, trivial⟩, hM.pick [0, 1, 2, 3, 4, 5] rfl, (R64_lit rfl)⟩
 rintro s o83 a w74 ⟨xs66, xs69, n72, A67, c68, A70, c71, rfl, hf, hM, hv73⟩ h84 hd85
 replace h84 : m_impl_Dawg_words_1_l1 e23 rc p3 xs66 xs69 n72 = some o83 := h84
 unfold m_impl_Dawg_words_1_l1 at h84
 refine wp_seq ?_
 refine region_pl ?_
 refine q_ hf rfl rfl rfl (e_lt hf (x := n72) (y := (e23.Next.length : Int)) rfl rfl) fun a hf => ?_
 refine pl_nil ?_
 refine then_n ?_
 refine wp_seq ?_
 rcases cond_some h84 with ⟨hc86, h84⟩ | ⟨hc86, h84⟩
 ·refine cond_t hf rfl hc86 ?_
  refine wp_skip ?_
  refine then_n ?_
  refine wp_seq ?_
  refine wp_block ?_
  refine wp_seq ?_
  refine region_pl ?_
  refine q_ hf rfl rfl rfl (e_move hf rfl) fun a hf => ?_
  obtain ⟨e87, hz88, h84⟩ := bind_some h84
  obtain ⟨b92, o93, _, hA94, h89, h90, hr91, hM⟩ := hM.elem (hM.dat (k := 0) rfl) (n := 1) rfl hz88
  obtain ⟨rfl, hv95⟩ := hr91
  refine q_ hf rfl rfl rfl (e_indexAddr (A := A32) (b := b92) (o := o93) (xs := e23.Next) (i := n72) hf hA94 rfl rfl Tryd.underlying31 Tryd.sizeOf2 h89 h90) fun a hf => ?_
  refine q_ hf rfl rfl rfl (e_load1 hf rfl Tryd.isAgg2 (hM.litCell (k := 0) (j := 0) rfl rfl rfl)) fun a hf => ?_
  iterate 2 refine q_ hf rfl rfl rfl (e_assign hf rfl) fun a hf => ?_
  refine pl_nil ?_
  refine then_n ?_
  refine wp_seq ?_
  obtain ⟨w96, hw⟩ : ∃ x, x = w74.drew := ⟨_, rfl⟩
  refine region_pi (.q 0 (.q 1 (.q 2 (.q 3 (.q 4 (.l 5 (.l 6 (.l 7 (.nil))))))))) (Ext w96) rfl (by kernel_rfl) ?_
  have hM := hM.drew
  rw [← hw] at hM ⊢
  clear hw
  refine pi_q hf rfl rfl rfl rfl (Ext.refl _) (e_load1 hf rfl Tryd.isAgg22 (hM.boxCell (k := 3) rfl rfl)) fun a hf => ?_
  refine pi_q hf rfl rfl rfl rfl (Ext.refl _) (e_field hf rfl Tryd.underlying76 rfl Tryd.sizeOf9 (o' := 1) rfl) fun a hf => ?_
  refine pi_q hf rfl rfl rfl rfl (Ext.refl _) (e_load1 hf rfl Tryd.isAgg9 (hM.boxCell (k := 0) rfl rfl)) fun a hf => ?_
  refine pi_q hf rfl rfl rfl rfl (Ext.refl _) (e_move hf rfl) fun a hf => ?_
  obtain ⟨c97, hz98, h84⟩ := bind_some h84
  refine pi_q hf rfl rfl rfl rfl (Ext.refl _) (e_indexS hf (x := e23.Letters) rfl rfl Tryd.underlying9 hz98) fun a hf => ?_
  refine pi_one ?_
  refine pi_l hf rfl rfl rfl rfl (w_slice hf hM (K := byteRep) (xs := ([c97] : Str)) (os := [.tmp 33]) Tryd.underlying22 ei_5 rfl rfl rfl rfl rfl ⟨⟨[vB (c97)], rfl, rfl⟩, trivial⟩ rfl fun b99 w100 hx101 hM => ⟨Ext w100, fun _ h => Ext.trans hx101 h, Ext.refl _, fun a hf => ?_⟩)
  refine pi_one ?_
  obtain ⟨xs102, hz103, h84⟩ := bind_some h84
  refine pi_z hf rfl rfl rfl rfl (by kernel_rfl) (w_append hf hM Tryd.underlying22 ei_5 rfl rfl rfl (k := 5) rfl (hM.srcRow (k := 0) rfl) hz103 fun A104 c105 w106 hM a hf => ?_)
  dsimp only [List.set] at hM
  refine pi_one ?_
  refine pi_z0 hf rfl rfl rfl (by kernel_rfl) (w_store hf hM (us := [vL A104 (xs102) c105]) (cs' := [vL A104 (xs102) c105]) rfl rfl (k := 4) rfl rfl Tryd.sizeOf22 rfl rfl rfl fun w109 hM => ?_)
  dsimp only [List.set] at hM
  refine pi_nil ?_
  refine then_n ?_
  refine wp_seq ?_
  refine region_pl ?_
  refine q_ hf rfl rfl rfl (e_load1 hf rfl Tryd.isAgg118 (hM.litCell (k := 5) (j := 0) rfl rfl rfl)) fun a hf => ?_
  refine q_ hf rfl rfl rfl (e_move hf rfl) fun a hf => ?_
  have hM := hM.front (k := 5) rfl
  dsimp only [List.eraseIdx] at hM
  have hM := hM.front (k := 5) rfl
  dsimp only [List.eraseIdx] at hM
  have hM := hM.front (k := 5) rfl
  dsimp only [List.eraseIdx] at hM
  have hM := hM.front (k := 5) rfl
  dsimp only [List.eraseIdx] at hM
  have hM : Mem C _ ([.box b8 [vL A67 (xs66) c68] 28, .row strRep A67 c68 9 xs66 true, .box b12 [vL A104 (xs102) c105] 22, .row byteRep A104 c105 5 xs102 true] ++ [.row byteRep (some ⟨b99, 0, none⟩) 1 5 ([c97] : Str) true, .box b35 [.bool (e23.Final), vS (e23.Letters), vL A32 (e23.Next) c33] 76]) _ := hM
  obtain ⟨y112, hz113, h84⟩ := bind_some h84
  refine pl_l hf rfl rfl rfl (w_callV hf (fk := 81) (fc := [vP b4 (o5), vP b8 (0), vP b12 (0), vP b16 (o17)]) rfl Tryd.call81 rfl (ih ⟨_, Sh C _ _, ownB _, hM.sh_lt, sub_dis, C.G, hM.g_lt, hM.g_own, hM.tabs⟩ e87 hv95 p3 _ _ (hM.dat (k := 6) rfl) xs66 _ _ _ xs102 _ _ _ _ _ (hM.at_ (k := 5) rfl) hM.sub sub_dis _ hz113) ?_)
  rintro _ w118 ⟨A114, c115, A116, c117, rfl, hM2⟩
  obtain ⟨hM, hup120⟩ := hM.backG hM2
  dsimp only [List.cons_append, List.nil_append] at hM hup120
  clear hM2
  refine ⟨_, rfl, fun a hf => ?_⟩
  refine pl_nil ?_
  refine then_n ?_
  refine region_pl ?_
  iterate 2 refine q_ hf rfl rfl rfl (e_load1 hf rfl Tryd.isAgg22 (hM.boxCell (k := 2) rfl rfl)) fun a hf => ?_
  have hl121 := row_len (hM.ownAt (k := 3) rfl)
  refine q_ hf rfl rfl rfl (e_lenL hf (x := y112.2) rfl Tryd.underlying22) fun a hf => ?_
  obtain ⟨z122, hz123, h84⟩ := bind_some h84
  refine q_ hf rfl rfl rfl (e_sub hf rfl rfl hz123) fun a hf => ?_
  obtain ⟨l124, hz125, h84⟩ := bind_some h84
  have hr126 := hM.rowForm (k := 3) rfl
  have hM := hM.truncRow (k := 3) rfl hz125
  dsimp only [List.set] at hM
  refine q_ hf rfl rfl rfl (e_trunc hf (xs := y112.2) rfl rfl Tryd.underlying22 Tryd.sizeOf5 hr126 hz125) fun a hf => ?_
  refine pl_0 hf rfl rfl (w_store hf hM (us := [vL A116 (l124) c117]) (cs' := [vL A116 (l124) c117]) rfl rfl (k := 2) rfl rfl Tryd.sizeOf22 rfl rfl rfl fun w127 hM => ?_)
  dsimp only [List.set] at hM
  refine pl_nil ?_
  refine blk_n ?_
  refine then_n ?_
  refine region_pl ?_
  obtain ⟨z130, hz131, h84⟩ := bind_some h84
  refine q_ hf rfl rfl rfl (e_add hf rfl rfl hz131) fun a hf => ?_
  refine q_ hf rfl rfl rfl (e_move hf rfl) fun a hf => ?_
  refine pl_nil ?_
  obtain rfl := some_inj h84
  refine then_n ⟨_, rfl, ?_⟩
  have hM := hM.front (k := 3) rfl
  dsimp only [List.eraseIdx] at hM
  have hM := hM.front (k := 3) rfl
  dsimp only [List.eraseIdx] at hM
  have hM := hM.front (k := 3) rfl
  dsimp only [List.eraseIdx] at hM
  have hM := hM.front (k := 3) rfl
  dsimp only [List.eraseIdx] at hM
  have hM := hM.front (k := 5) rfl
  dsimp only [List.eraseIdx] at hM
  exact ⟨y112.1, l124, z130, A114, c115, A116, c117, rfl, hf.keep ⟨rfl, rfl, rfl, rfl, rfl, rfl, trivial⟩, (hM.drop (.cons_cons _ (.cons_cons _ (.cons_cons _ (.cons_cons _ (.cons_cons _ (.cons _ .slnil))))))).pick [1, 2, 3, 4, 5, 6] rfl, (chk_R hz131)⟩
 refine cond_f hf rfl hc86 ?_
 refine wp_exit ?_
 refine then_x ?_
 obtain rfl := some_inj h84
 obtain rfl := hd85 _ rfl
 try dsimp only at h
 refine then_x ?_
 refine exit_hit ?_
 obtain rfl := some_inj h
 have hM := hM.front (k := 4) rfl
 dsimp only [List.eraseIdx] at hM
 have hM := hM.front (k := 4) rfl
 dsimp only [List.eraseIdx] at hM
 have hM := hM.front (k := 4) rfl
 dsimp only [List.eraseIdx] at hM
 have hM := hM.front (k := 4) rfl
 dsimp only [List.eraseIdx] at hM
 have hM := hM.outs (own' := [.box b8 [vL A67 (xs66) c68] 28, .row strRep A67 c68 9 xs66 true, .box b12 [vL A70 (xs69) c71] 22, .row byteRep A70 c71 5 xs69 true]) 4 rfl
 exact leave0n hf rfl ⟨A67, c68, A70, c71, rfl, hM.fin⟩

theorem r_impl_Dawg_words_1_n : ∀ n, Ct_impl_Dawg_words_1 (m_impl_Dawg_words_1_n n)
  | 0 => fun C node1 hp2 p3 b4 o5 hp6 p7 b8 A9 c10 p11 b12 A13 c14 b16 o17 hp18 hO hd r h => by cases h
  | n + 1 => r_impl_Dawg_words_1_b _ (r_impl_Dawg_words_1_n n)

theorem r_impl_Dawg_words_1 : Ct_impl_Dawg_words_1 (m_impl_Dawg_words_1) := r_impl_Dawg_words_1_n fuelN

set_option maxRecDepth 100000 in
set_option maxHeartbeats 4000000 in
theorem r_impl_Dawg_words (C : Cx) (d1 : Dawg) (A2 : Option Addr) (c3 : Nat) (hp4 : (sliceRep NodeRep).R C.w0 C.S0 d1.Nodes [vL A2 d1.Nodes c3]) (r : (List Str)) (h : m_impl_Dawg_words d1 = some r) :
    Calls Tryd.prog 49 #[.agg #[vL A2 (d1.Nodes) c3]] C.w0 fun e w => ∃ (A_1 : Option Addr), ∃ (c_1 : Nat), e = .returned (vL A_1 (r) c_1) ∧ Mem C w [.row strRep A_1 c_1 9 r true] [] := by
 have hM := Mem.begin C [.dat (sliceRep NodeRep) d1.Nodes [vL A2 d1.Nodes c3]] ⟨hp4, trivial⟩
 refine enter Tryd.func49 rfl Tryd.ntmps49 rfl fun a hf => ?_
 unfold m_impl_Dawg_words at h
 refine wp_seq ?_
 refine region_pl ?_
 refine pl_l hf rfl rfl rfl (w_box hf hM (cs := [vL A2 (d1.Nodes) c3]) rfl rfl fun b5 w6 hx7 hM a hf => ?_)
 refine q_ hf rfl rfl rfl (e_assign hf rfl) fun a hf => ?_
 refine pl_nil ?_
 refine then_n ?_
 refine wp_seq ?_
 refine region_pl ?_
 refine pl_l hf rfl rfl rfl (w_slice0 (K := strRep) hM Tryd.underlying28 ei_9 fun b9 w10 hx11 hM a hf => ?_)
 refine pl_l hf rfl rfl rfl (w_slice0 (K := byteRep) hM Tryd.underlying22 ei_5 fun b12 w13 hx14 hM a hf => ?_)
 refine pl_l hf rfl rfl rfl (w_alloc hM (cs := [vL none (([] : (List Str))) 0]) Tryd.zeroValue28 rfl fun b15 w16 hx17 hM a hf => ?_)
 refine pl_l hf rfl rfl rfl (w_alloc hM (cs := [vL none (([] : Str)) 0]) Tryd.zeroValue22 rfl fun b19 w20 hx21 hM a hf => ?_)
 refine pl_0 hf rfl rfl (w_store hf hM (us := [vL (some ⟨b9, 0, none⟩) (([] : (List Str))) 0]) (cs' := [vL (some ⟨b9, 0, none⟩) (([] : (List Str))) 0]) rfl rfl (k := 1) rfl rfl Tryd.sizeOf28 rfl rfl rfl fun w23 hM => ?_)
 dsimp only [List.set] at hM
 refine pl_0 hf rfl rfl (w_store hf hM (us := [vL (some ⟨b12, 0, none⟩) (([] : Str)) 0]) (cs' := [vL (some ⟨b12, 0, none⟩) (([] : Str)) 0]) rfl rfl (k := 0) rfl rfl Tryd.sizeOf22 rfl rfl rfl fun w26 hM => ?_)
 dsimp only [List.set] at hM
 refine pl_nil ?_
 refine then_n ?_
 refine wp_seq ?_
 refine region_pl ?_
 refine pl_l hf rfl rfl rfl (w_alloc hM (cs := [.nilFunc]) Tryd.zeroValue118 rfl fun b29 w30 hx31 hM a hf => ?_)
 refine pl_nil ?_
 refine then_n ?_
 refine wp_seq ?_
 refine region_pl ?_
 refine q_ hf rfl rfl rfl (w_makeFunc hf rfl) fun a hf => ?_
 refine pl_0 hf rfl rfl (w_store hf hM (us := [.func (.func 81) #[] #[vP b5 (0), vP b15 (0), vP b19 (0), vP b29 (0)]]) (cs' := [.func (.func 81) #[] #[vP b5 (0), vP b15 (0), vP b19 (0), vP b29 (0)]]) rfl rfl (k := 0) rfl rfl Tryd.sizeOf118 rfl rfl rfl fun w33 hM => ?_)
 dsimp only [List.set] at hM
 refine pl_nil ?_
 refine then_n ?_
 refine wp_seq ?_
 refine region_pl ?_
 refine q_ hf rfl rfl rfl (e_load1 hf rfl Tryd.isAgg118 (hM.boxCell (k := 0) rfl rfl)) fun a hf => ?_
 have hM := hM.freezeBox (k := 0) rfl rfl
 dsimp only [List.eraseIdx] at hM
 have hM := hM.freezeBox (k := 4) rfl rfl
 dsimp only [List.eraseIdx] at hM
 have hM := hM.front (k := 2) rfl
 dsimp only [List.eraseIdx] at hM
 have hM := hM.front (k := 1) rfl
 dsimp only [List.eraseIdx] at hM
 have hM := hM.front (k := 3) rfl
 dsimp only [List.eraseIdx] at hM
 have hM := hM.front (k := 3) rfl
 dsimp only [List.eraseIdx] at hM
 have hM : Mem C _ ([.box b15 [vL (some ⟨b9, 0, none⟩) (([] : (List Str))) 0] 28, .row strRep (some ⟨b9, 0, none⟩) 0 9 ([] : (List Str)) true, .box b19 [vL (some ⟨b12, 0, none⟩) (([] : Str)) 0] 22, .row byteRep (some ⟨b12, 0, none⟩) 0 5 ([] : Str) true] ++ []) _ := hM
 obtain ⟨y36, hz37, h⟩ := bind_some h
 refine pl_l hf rfl rfl rfl (w_callV hf (fk := 81) (fc := [vP b5 (0), vP b15 (0), vP b19 (0), vP b29 (0)]) rfl Tryd.call81 rfl (r_impl_Dawg_words_1 ⟨_, Sh C _ _, ownB _, hM.sh_lt, sub_dis, C.G, hM.g_lt, hM.g_own, hM.tabs⟩ 0 (R64_lit rfl) d1 _ _ (hM.litPtr (k := 0) (d := 0) (us := [vL A2 (d1.Nodes) c3]) rfl rfl rfl (DawgRep_mk (x := d1) (hM.dat (k := 2) rfl))) ([] : (List Str)) _ _ _ ([] : Str) _ _ _ _ _ (hM.at_ (k := 1) rfl) hM.sub sub_dis _ hz37) ?_)
 rintro _ w42 ⟨A38, c39, A40, c41, rfl, hM2⟩
 obtain ⟨hM, hup44⟩ := hM.backG hM2
 dsimp only [List.cons_append, List.nil_append] at hM hup44
 clear hM2
 refine ⟨_, rfl, fun a hf => ?_⟩
 refine pl_nil ?_
 refine then_n ?_
 refine wp_seq ?_
 refine region_pl ?_
 refine q_ hf rfl rfl rfl (e_load1 hf rfl Tryd.isAgg28 (hM.boxCell (k := 0) rfl rfl)) fun a hf => ?_
 refine q_ hf rfl rfl rfl (e_assign hf rfl) fun a hf => ?_
 refine pl_nil ?_
 refine then_n ?_
 refine wp_ret ?_
 obtain rfl := some_inj h
 have hM := hM.front (k := 1) rfl
 dsimp only [List.eraseIdx] at hM
 have hM := hM.outs (own' := [.row strRep A38 c39 9 y36.1 true]) 1 rfl
 exact leave1 hf rfl rfl ⟨A38, c39, rfl, hM.fin⟩

set_option maxRecDepth 100000 in
set_option maxHeartbeats 4000000 in
theorem r_cmp_isNaN_string (C : Cx) (x1 : Str) (hp2 : x1.length ≤ maxLen) (r : Bool) (h : m_cmp_isNaN_string x1 = some r) :
    Calls Tryd.prog 107 #[vS (x1)] C.w0 fun e w => e = .returned (.bool (r)) ∧ Mem C w [] [] := by
 have hM := Mem.begin C [] trivial
 refine enter Tryd.func107 rfl Tryd.ntmps107 rfl fun a hf => ?_
 unfold m_cmp_isNaN_string at h
 refine wp_seq ?_
 refine region_pl ?_
 refine q_ hf rfl rfl rfl (e_assign hf rfl) fun a hf => ?_
 refine pl_nil ?_
 refine then_n ?_
 refine wp_seq ?_
 refine region_pl ?_
 iterate 2 refine q_ hf rfl rfl rfl (e_move hf rfl) fun a hf => ?_
 refine q_ hf rfl rfl rfl (e_neS hf (x := x1) (y := x1) rfl rfl) fun a hf => ?_
 refine q_ hf rfl rfl rfl (e_assign hf rfl) fun a hf => ?_
 refine pl_nil ?_
 refine then_n ?_
 refine wp_ret ?_
 obtain rfl := some_inj h
 exact leave1 hf rfl rfl ⟨rfl, hM.fin⟩

set_option maxRecDepth 100000 in
set_option maxHeartbeats 4000000 in
theorem r_cmp_Less_string (C : Cx) (x1 : Str) (hp2 : x1.length ≤ maxLen) (y3 : Str) (hp4 : y3.length ≤ maxLen) (r : Bool) (h : m_cmp_Less_string x1 y3 = some r) :
    Calls Tryd.prog 82 #[vS (x1), vS (y3)] C.w0 fun e w => e = .returned (.bool (r)) ∧ Mem C w [] [] := by
 have hM := Mem.begin C [] trivial
 refine enter Tryd.func82 rfl Tryd.ntmps82 rfl fun a hf => ?_
 unfold m_cmp_Less_string at h
 refine wp_seq ?_
 refine region_pl ?_
 refine q_ hf rfl rfl rfl (e_assign hf rfl) fun a hf => ?_
 refine pl_nil ?_
 refine then_n ?_
 obtain ⟨x7, h8, h⟩ := bind_some h
 refine seq_join (fun a w => ∃ (t5 : Bool), t5 = x7 ∧ Has 17 a [(4, .bool (t5))] ∧ Mem C w [] []) ?_ ?_
 ·refine region_pl ?_
  refine q_ hf rfl rfl rfl (e_move hf rfl) fun a hf => ?_
  obtain ⟨y9, hz10, h8⟩ := bind_some h8
  refine pl_l hf rfl rfl rfl (w_call hf Tryd.call107 rfl (r_cmp_isNaN_string ⟨_, Sh C _ _, none_, hM.sh_lt, none_not, C.G, hM.g_lt, g_none, hM.tabs⟩ x1 hp2 _ hz10) ?_)
  rintro _ w11 ⟨rfl, hM2⟩
  obtain ⟨hM, hx12, hup13⟩ := hM.back hM2
  dsimp only [List.cons_append, List.nil_append] at hM hup13
  clear hM2
  refine ⟨_, rfl, fun a hf => ?_⟩
  refine q_ hf rfl rfl rfl (e_move hf rfl) fun a hf => ?_
  rcases cond_some h8 with ⟨hc14, h8⟩ | ⟨hc14, h8⟩
  ·refine gq (wanted_t hf rfl rfl rfl rfl hc14) hf rfl rfl (e_move hf rfl) fun a hf => ?_
   obtain ⟨y15, hz16, h8⟩ := bind_some h8
   refine pl_gl (wanted_t hf rfl rfl rfl rfl hc14) hf rfl rfl (w_call hf Tryd.call107 rfl (r_cmp_isNaN_string ⟨_, Sh C _ _, none_, hM.sh_lt, none_not, C.G, hM.g_lt, g_none, hM.tabs⟩ y3 hp4 _ hz16) ?_)
   rintro _ w17 ⟨rfl, hM2⟩
   obtain ⟨hM, hx18, hup19⟩ := hM.back hM2
   dsimp only [List.cons_append, List.nil_append] at hM hup19
   clear hM2
   refine ⟨_, rfl, fun a hf => ?_⟩
   refine gq (wanted_t hf rfl rfl rfl rfl hc14) hf rfl rfl (e_not hf rfl) fun a hf => ?_
   refine q_ hf rfl rfl rfl (e_pick_t hf rfl hc14 rfl) fun a hf => ?_
   refine q_ hf rfl rfl rfl (e_move hf rfl) fun a hf => ?_
   rcases cond_some h8 with ⟨hc20, h8⟩ | ⟨hc20, h8⟩
   ·iterate 3 refine pl_gs (wanted_f hf rfl rfl rfl rfl hc20) hf rfl rfl fun a hf => ?_
    refine q_ hf rfl rfl rfl (e_pick_t hf rfl hc20 rfl) fun a hf => ?_
    refine q_ hf rfl rfl rfl (e_assign hf rfl) fun a hf => ?_
    refine pl_nil ?_
    obtain rfl := some_inj h8
    refine then_n ?_
    exact ⟨true, rfl, hf.keep ⟨rfl, trivial⟩, hM.pick [] rfl⟩
   iterate 2 refine gq (wanted_t hf rfl rfl rfl rfl hc20) hf rfl rfl (e_move hf rfl) fun a hf => ?_
   refine gq (wanted_t hf rfl rfl rfl rfl hc20) hf rfl rfl (e_ltS hf (x := x1) (y := y3) rfl rfl) fun a hf => ?_
   refine q_ hf rfl rfl rfl (e_pick_f hf rfl hc20 rfl) fun a hf => ?_
   refine q_ hf rfl rfl rfl (e_assign hf rfl) fun a hf => ?_
   refine pl_nil ?_
   obtain rfl := some_inj h8
   refine then_n ?_
   exact ⟨(ltS x1 y3), rfl, hf.keep ⟨rfl, trivial⟩, hM.pick [] rfl⟩
  iterate 3 refine pl_gs (wanted_f hf rfl rfl rfl rfl hc14) hf rfl rfl fun a hf => ?_
  refine q_ hf rfl rfl rfl (e_pick_f hf rfl hc14 rfl) fun a hf => ?_
  refine q_ hf rfl rfl rfl (e_move hf rfl) fun a hf => ?_
  iterate 2 refine gq (wanted_t hf rfl rfl rfl rfl rfl) hf rfl rfl (e_move hf rfl) fun a hf => ?_
  refine gq (wanted_t hf rfl rfl rfl rfl rfl) hf rfl rfl (e_ltS hf (x := x1) (y := y3) rfl rfl) fun a hf => ?_
  refine q_ hf rfl rfl rfl (e_pick_f hf rfl rfl rfl) fun a hf => ?_
  refine q_ hf rfl rfl rfl (e_assign hf rfl) fun a hf => ?_
  refine pl_nil ?_
  obtain rfl := some_inj h8
  refine then_n ?_
  exact ⟨(ltS x1 y3), rfl, hf.keep ⟨rfl, trivial⟩, hM.pick [] rfl⟩
 rintro a w24 ⟨t5, rfl, hf, hM⟩
 try dsimp only at h
 refine wp_ret ?_
 obtain rfl := some_inj h
 exact leave1 hf rfl rfl ⟨rfl, hM.fin⟩

set_option maxRecDepth 100000 in
set_option maxHeartbeats 4000000 in
theorem r_slices_isNaN_string (C : Cx) (x1 : Str) (hp2 : x1.length ≤ maxLen) (r : Bool) (h : m_slices_isNaN_string x1 = some r) :
    Calls Tryd.prog 83 #[vS (x1)] C.w0 fun e w => e = .returned (.bool (r)) ∧ Mem C w [] [] := by
 have hM := Mem.begin C [] trivial
 refine enter Tryd.func83 rfl Tryd.ntmps83 rfl fun a hf => ?_
 unfold m_slices_isNaN_string at h
 refine wp_seq ?_
 refine region_pl ?_
 refine q_ hf rfl rfl rfl (e_assign hf rfl) fun a hf => ?_
 refine pl_nil ?_
 refine then_n ?_
 refine wp_seq ?_
 refine region_pl ?_
 iterate 2 refine q_ hf rfl rfl rfl (e_move hf rfl) fun a hf => ?_
 refine q_ hf rfl rfl rfl (e_neS hf (x := x1) (y := x1) rfl rfl) fun a hf => ?_
 refine q_ hf rfl rfl rfl (e_assign hf rfl) fun a hf => ?_
 refine pl_nil ?_
 refine then_n ?_
 refine wp_ret ?_
 obtain rfl := some_inj h
 exact leave1 hf rfl rfl ⟨rfl, hM.fin⟩

set_option maxRecDepth 100000 in
set_option maxHeartbeats 4000000 in
theorem r_slices_BinarySearch_string_string (C : Cx) (x1 : (List Str)) (A2 : Option Addr) (c3 : Nat) (hp4 : (sliceRep strRep).R C.w0 C.S0 x1 [vL A2 x1 c3]) (target5 : Str) (hp6 : target5.length ≤ maxLen) (r : (Int × Bool)) (h : m_slices_BinarySearch_string_string x1 target5 = some r) :
    Calls Tryd.prog 51 #[vL A2 (x1) c3, vS (target5)] C.w0 fun e w => e = .returned (.tuple #[vI (r.1), .bool (r.2)]) ∧ Mem C w [] [] ∧ R64 r.1 := by
 have hM := Mem.begin C [.dat (sliceRep strRep) x1 [vL A2 x1 c3]] ⟨hp4, trivial⟩
 refine enter Tryd.func51 rfl Tryd.ntmps51 rfl fun a hf => ?_
 unfold m_slices_BinarySearch_string_string at h
 refine wp_seq ?_
 refine region_pl ?_
 iterate 2 refine q_ hf rfl rfl rfl (e_assign hf rfl) fun a hf => ?_
 refine pl_nil ?_
 refine then_n ?_
 refine wp_seq ?_
 refine region_pl ?_
 refine q_ hf rfl rfl rfl (e_move hf rfl) fun a hf => ?_
 have hl7 := slice_len (hM.dat (k := 0) rfl)
 refine q_ hf rfl rfl rfl (e_lenL hf (x := x1) rfl Tryd.underlying28) fun a hf => ?_
 refine q_ hf rfl rfl rfl (e_assign hf rfl) fun a hf => ?_
 refine pl_nil ?_
 refine then_n ?_
 refine wp_seq ?_
 refine region_pl ?_
 refine q_ hf rfl rfl rfl (e_move hf rfl) fun a hf => ?_
 iterate 2 refine q_ hf rfl rfl rfl (e_assign hf rfl) fun a hf => ?_
 refine pl_nil ?_
 refine then_n ?_
 obtain ⟨x10, h11, h⟩ := bind_some h
 refine seq_join (fun a w => ∃ (h8 : Int), h8 = x10 ∧ Has 54 a [(0, vL A2 (x1) c3), (1, vS (target5)), (6, vI ((x1.length : Int))), (7, vI (h8))] ∧ Mem C w [] [.dat (sliceRep strRep) x1 [vL A2 x1 c3]] ∧ R64 h8) ?_ ?_
 ·refine wp_block ?_
  obtain ⟨x19, h20, h11⟩ := bind_some h11
  refine wp_loopM h20 (fun s a w => ∃ (h12 : Int) (n14 : Int), (h12, n14) = s ∧ Has 54 a [(0, vL A2 (x1) c3), (1, vS (target5)), (6, vI ((x1.length : Int))), (7, vI (h12)), (8, vI (n14))] ∧ Mem C w [] [.dat (sliceRep strRep) x1 [vL A2 x1 c3]] ∧ R64 h12 ∧ R64 n14) ?_ ?_
  ·exact ⟨0, (x1.length : Int), rfl, hf.keep ⟨rfl, rfl, rfl, rfl, rfl, trivial⟩, hM.pick [0] rfl, (R64_lit rfl), (R64_len hl7)⟩
  rintro s o21 a w16 ⟨h12, n14, rfl, hf, hM, hv13, hv15⟩ h22 hd23
  replace h22 : m_slices_BinarySearch_string_string_l1 x1 target5 h12 n14 = some o21 := h22
  unfold m_slices_BinarySearch_string_string_l1 at h22
  iterate 2 refine wp_seq ?_
  refine region_pl ?_
  iterate 2 refine q_ hf rfl rfl rfl (e_move hf rfl) fun a hf => ?_
  refine q_ hf rfl rfl rfl (e_lt hf (x := h12) (y := n14) rfl rfl) fun a hf => ?_
  refine pl_nil ?_
  refine then_n ?_
  rcases cond_some h22 with ⟨hc24, h22⟩ | ⟨hc24, h22⟩
  ·refine cond_t hf rfl hc24 ?_
   refine wp_skip ?_
   refine then_n ?_
   refine wp_block ?_
   refine wp_seq ?_
   refine region_pl ?_
   iterate 2 refine q_ hf rfl rfl rfl (e_move hf rfl) fun a hf => ?_
   obtain ⟨z25, hz26, h22⟩ := bind_some h22
   refine q_ hf rfl rfl rfl (e_add hf rfl rfl hz26) fun a hf => ?_
   refine q_ hf rfl rfl rfl (e_convIW hf rfl Tryd.underlying3 Tryd.underlying119) fun a hf => ?_
   refine q_ hf rfl rfl rfl (e_shrW hf (k := 1) rfl rfl rfl rfl (m := 2) rfl (U64_mod _)) fun a hf => ?_
   obtain ⟨z27, hz28, h22⟩ := bind_some h22
   refine q_ hf rfl rfl rfl (e_convWI hf rfl Tryd.underlying119 Tryd.underlying3 hz28) fun a hf => ?_
   refine q_ hf rfl rfl rfl (e_assign hf rfl) fun a hf => ?_
   refine pl_nil ?_
   refine then_n ?_
   refine wp_seq ?_
   refine region_pl ?_
   iterate 2 refine q_ hf rfl rfl rfl (e_move hf rfl) fun a hf => ?_
   obtain ⟨e29, hz30, h22⟩ := bind_some h22
   obtain ⟨b34, o35, _, hA36, h31, h32, hr33, hM⟩ := hM.elem (hM.dat (k := 0) rfl) (n := 1) rfl hz30
   obtain ⟨rfl, hv37⟩ := hr33
   refine q_ hf rfl rfl rfl (e_indexAddr (A := A2) (b := b34) (o := o35) (xs := x1) (i := z27) hf hA36 rfl rfl Tryd.underlying28 Tryd.sizeOf9 h31 h32) fun a hf => ?_
   refine q_ hf rfl rfl rfl (e_load1 hf rfl Tryd.isAgg9 (hM.litCell (k := 0) (j := 0) rfl rfl rfl)) fun a hf => ?_
   refine q_ hf rfl rfl rfl (e_move hf rfl) fun a hf => ?_
   obtain ⟨y38, hz39, h22⟩ := bind_some h22
   refine pl_l hf rfl rfl rfl (w_call hf Tryd.call82 rfl (r_cmp_Less_string ⟨_, Sh C _ _, none_, hM.sh_lt, none_not, C.G, hM.g_lt, g_none, hM.tabs⟩ e29 hv37 target5 hp6 _ hz39) ?_)
   rintro _ w40 ⟨rfl, hM2⟩
   obtain ⟨hM, hx41, hup42⟩ := hM.back hM2
   dsimp only [List.cons_append, List.nil_append] at hM hup42
   clear hM2
   refine ⟨_, rfl, fun a hf => ?_⟩
   refine pl_nil ?_
   refine then_n ?_
   rcases cond_some h22 with ⟨hc43, h22⟩ | ⟨hc43, h22⟩
   ·refine cond_t hf rfl hc43 ?_
    refine region_pl ?_
    refine q_ hf rfl rfl rfl (e_move hf rfl) fun a hf => ?_
    obtain ⟨z44, hz45, h22⟩ := bind_some h22
    refine q_ hf rfl rfl rfl (e_add hf rfl rfl hz45) fun a hf => ?_
    refine q_ hf rfl rfl rfl (e_assign hf rfl) fun a hf => ?_
    refine pl_nil ?_
    refine blk_n ?_
    obtain rfl := some_inj h22
    refine then_n ⟨_, rfl, ?_⟩
    exact ⟨z44, n14, rfl, hf.keep ⟨rfl, rfl, rfl, rfl, rfl, trivial⟩, hM.pick [1] rfl, (chk_R hz45), hv15⟩
   refine cond_f hf rfl hc43 ?_
   refine region_pl ?_
   refine q_ hf rfl rfl rfl (e_move hf rfl) fun a hf => ?_
   refine q_ hf rfl rfl rfl (e_assign hf rfl) fun a hf => ?_
   refine pl_nil ?_
   refine blk_n ?_
   obtain rfl := some_inj h22
   refine then_n ⟨_, rfl, ?_⟩
   exact ⟨h12, z27, rfl, hf.keep ⟨rfl, rfl, rfl, rfl, rfl, trivial⟩, hM.pick [1] rfl, hv13, (chk_R hz28)⟩
  refine cond_f hf rfl hc24 ?_
  refine wp_exit ?_
  refine then_x ?_
  obtain rfl := some_inj h22
  obtain rfl := hd23 _ rfl
  try dsimp only at h11
  refine then_x ?_
  refine exit_hit ?_
  obtain rfl := some_inj h11
  refine then_n ?_
  exact ⟨h12, rfl, hf.keep ⟨rfl, rfl, rfl, rfl, trivial⟩, hM.pick [0] rfl, hv13⟩
 rintro a w52 ⟨h8, rfl, hf, hM, hv9⟩
 try dsimp only at h
 obtain ⟨x57, h58, h⟩ := bind_some h
 refine seq_join (fun a w => ∃ (n53 : Int) (i55 : Bool), (n53, i55) = x57 ∧ Has 54 a [(4, vI (n53)), (5, .bool (i55))] ∧ Mem C w [] [.dat (sliceRep strRep) x1 [vL A2 x1 c3]] ∧ R64 n53) ?_ ?_
 ·refine region_pl ?_
  iterate 3 refine q_ hf rfl rfl rfl (e_move hf rfl) fun a hf => ?_
  refine q_ hf rfl rfl rfl (e_lt hf (x := h8) (y := (x1.length : Int)) rfl rfl) fun a hf => ?_
  refine q_ hf rfl rfl rfl (e_move hf rfl) fun a hf => ?_
  rcases cond_some h58 with ⟨hc59, h58⟩ | ⟨hc59, h58⟩
  ·iterate 2 refine gq (wanted_t hf rfl rfl rfl rfl hc59) hf rfl rfl (e_move hf rfl) fun a hf => ?_
   obtain ⟨e60, hz61, h58⟩ := bind_some h58
   obtain ⟨b65, o66, _, hA67, h62, h63, hr64, hM⟩ := hM.elem (hM.dat (k := 0) rfl) (n := 1) rfl hz61
   obtain ⟨rfl, hv68⟩ := hr64
   refine gq (wanted_t hf rfl rfl rfl rfl hc59) hf rfl rfl (e_indexAddr (A := A2) (b := b65) (o := o66) (xs := x1) (i := h8) hf hA67 rfl rfl Tryd.underlying28 Tryd.sizeOf9 h62 h63) fun a hf => ?_
   refine gq (wanted_t hf rfl rfl rfl rfl hc59) hf rfl rfl (e_load1 hf rfl Tryd.isAgg9 (hM.litCell (k := 0) (j := 0) rfl rfl rfl)) fun a hf => ?_
   refine gq (wanted_t hf rfl rfl rfl rfl hc59) hf rfl rfl (e_move hf rfl) fun a hf => ?_
   refine gq (wanted_t hf rfl rfl rfl rfl hc59) hf rfl rfl (e_eqS hf (x := e60) (y := target5) rfl rfl) fun a hf => ?_
   refine gq (wanted_t hf rfl rfl rfl rfl hc59) hf rfl rfl (e_move hf rfl) fun a hf => ?_
   rcases cond_some h58 with ⟨hc69, h58⟩ | ⟨hc69, h58⟩
   ·iterate 6 refine pl_gs (wanted_f hf rfl rfl rfl rfl hc69) hf rfl rfl fun a hf => ?_
    iterate 2 refine pl_gs (wanted_u hf rfl rfl rfl rfl) hf rfl rfl fun a hf => ?_
    refine pl_gs (wanted_f hf rfl rfl rfl rfl hc69) hf rfl rfl fun a hf => ?_
    refine gq (wanted_t hf rfl rfl rfl rfl hc59) hf rfl rfl (e_pick_t hf rfl hc69 rfl) fun a hf => ?_
    refine q_ hf rfl rfl rfl (e_pick_t hf rfl hc59 rfl) fun a hf => ?_
    iterate 2 refine q_ hf rfl rfl rfl (e_assign hf rfl) fun a hf => ?_
    refine pl_nil ?_
    obtain rfl := some_inj h58
    refine then_n ?_
    exact ⟨h8, true, rfl, hf.keep ⟨rfl, rfl, trivial⟩, hM.pick [1] rfl, hv9⟩
   iterate 2 refine gq (wanted_t hf rfl rfl rfl rfl hc69) hf rfl rfl (e_move hf rfl) fun a hf => ?_
   obtain ⟨e71, hz72, h58⟩ := bind_some h58
   obtain ⟨b76, o77, _, hA78, h73, h74, hr75, hM⟩ := hM.elem (hM.dat (k := 1) rfl) (n := 1) rfl hz72
   obtain ⟨rfl, hv79⟩ := hr75
   refine gq (wanted_t hf rfl rfl rfl rfl hc69) hf rfl rfl (e_indexAddr (A := A2) (b := b76) (o := o77) (xs := x1) (i := h8) hf hA78 rfl rfl Tryd.underlying28 Tryd.sizeOf9 h73 h74) fun a hf => ?_
   refine gq (wanted_t hf rfl rfl rfl rfl hc69) hf rfl rfl (e_load1 hf rfl Tryd.isAgg9 (hM.litCell (k := 0) (j := 0) rfl rfl rfl)) fun a hf => ?_
   obtain ⟨y80, hz81, h58⟩ := bind_some h58
   refine pl_gl (wanted_t hf rfl rfl rfl rfl hc69) hf rfl rfl (w_call hf Tryd.call83 rfl (r_slices_isNaN_string ⟨_, Sh C _ _, none_, hM.sh_lt, none_not, C.G, hM.g_lt, g_none, hM.tabs⟩ e71 hv79 _ hz81) ?_)
   rintro _ w82 ⟨rfl, hM2⟩
   obtain ⟨hM, hx83, hup84⟩ := hM.back hM2
   dsimp only [List.cons_append, List.nil_append] at hM hup84
   clear hM2
   refine ⟨_, rfl, fun a hf => ?_⟩
   refine gq (wanted_t hf rfl rfl rfl rfl hc69) hf rfl rfl (e_move hf rfl) fun a hf => ?_
   rcases cond_some h58 with ⟨hc85, h58⟩ | ⟨hc85, h58⟩
   ·refine gq (wanted_t hf rfl rfl rfl rfl hc85) hf rfl rfl (e_move hf rfl) fun a hf => ?_
    obtain ⟨y86, hz87, h58⟩ := bind_some h58
    refine pl_gl (wanted_t hf rfl rfl rfl rfl hc85) hf rfl rfl (w_call hf Tryd.call83 rfl (r_slices_isNaN_string ⟨_, Sh C _ _, none_, hM.sh_lt, none_not, C.G, hM.g_lt, g_none, hM.tabs⟩ target5 hp6 _ hz87) ?_)
    rintro _ w88 ⟨rfl, hM2⟩
    obtain ⟨hM, hx89, hup90⟩ := hM.back hM2
    dsimp only [List.cons_append, List.nil_append] at hM hup90
    clear hM2
    refine ⟨_, rfl, fun a hf => ?_⟩
    refine gq (wanted_t hf rfl rfl rfl rfl hc69) hf rfl rfl (e_pick_t hf rfl hc85 rfl) fun a hf => ?_
    refine gq (wanted_t hf rfl rfl rfl rfl hc59) hf rfl rfl (e_pick_f hf rfl hc69 rfl) fun a hf => ?_
    refine q_ hf rfl rfl rfl (e_pick_t hf rfl hc59 rfl) fun a hf => ?_
    iterate 2 refine q_ hf rfl rfl rfl (e_assign hf rfl) fun a hf => ?_
    refine pl_nil ?_
    obtain rfl := some_inj h58
    refine then_n ?_
    exact ⟨h8, y86, rfl, hf.keep ⟨rfl, rfl, trivial⟩, hM.pick [2] rfl, hv9⟩
   iterate 2 refine pl_gs (wanted_f hf rfl rfl rfl rfl hc85) hf rfl rfl fun a hf => ?_
   refine gq (wanted_t hf rfl rfl rfl rfl hc69) hf rfl rfl (e_pick_f hf rfl hc85 rfl) fun a hf => ?_
   refine gq (wanted_t hf rfl rfl rfl rfl hc59) hf rfl rfl (e_pick_f hf rfl hc69 rfl) fun a hf => ?_
   refine q_ hf rfl rfl rfl (e_pick_t hf rfl hc59 rfl) fun a hf => ?_
   iterate 2 refine q_ hf rfl rfl rfl (e_assign hf rfl) fun a hf => ?_
   refine pl_nil ?_
   obtain rfl := some_inj h58
   refine then_n ?_
   exact ⟨h8, false, rfl, hf.keep ⟨rfl, rfl, trivial⟩, hM.pick [2] rfl, hv9⟩
  iterate 7 refine pl_gs (wanted_f hf rfl rfl rfl rfl hc59) hf rfl rfl fun a hf => ?_
  iterate 9 refine pl_gs (wanted_u hf rfl rfl rfl rfl) hf rfl rfl fun a hf => ?_
  refine pl_gs (wanted_f hf rfl rfl rfl rfl hc59) hf rfl rfl fun a hf => ?_
  refine q_ hf rfl rfl rfl (e_pick_f hf rfl hc59 rfl) fun a hf => ?_
  iterate 2 refine q_ hf rfl rfl rfl (e_assign hf rfl) fun a hf => ?_
  refine pl_nil ?_
  obtain rfl := some_inj h58
  refine then_n ?_
  exact ⟨h8, false, rfl, hf.keep ⟨rfl, rfl, trivial⟩, hM.pick [0] rfl, hv9⟩
 rintro a w94 ⟨n53, i55, rfl, hf, hM, hv54⟩
 try dsimp only at h
 refine wp_ret ?_
 obtain rfl := some_inj h
 exact leave2 hf rfl rfl rfl ⟨rfl, hM.fin, hv54⟩

set_option maxRecDepth 100000 in
set_option maxHeartbeats 4000000 in
theorem r_internal_stringslite_HasPrefix (C : Cx) (s1 : Str) (hp2 : s1.length ≤ maxLen) (prefix_3 : Str) (hp4 : prefix_3.length ≤ maxLen) (r : Bool) (h : m_internal_stringslite_HasPrefix s1 prefix_3 = some r) :
    Calls Tryd.prog 106 #[vS (s1), vS (prefix_3)] C.w0 fun e w => e = .returned (.bool (r)) ∧ Mem C w [] [] := by
 have hM := Mem.begin C [] trivial
 refine enter Tryd.func106 rfl Tryd.ntmps106 rfl fun a hf => ?_
 unfold m_internal_stringslite_HasPrefix at h
 refine wp_seq ?_
 refine region_pl ?_
 refine q_ hf rfl rfl rfl (e_assign hf rfl) fun a hf => ?_
 refine pl_nil ?_
 refine then_n ?_
 obtain ⟨x7, h8, h⟩ := bind_some h
 refine seq_join (fun a w => ∃ (t5 : Bool), t5 = x7 ∧ Has 18 a [(4, .bool (t5))] ∧ Mem C w [] []) ?_ ?_
 ·refine region_pl ?_
  refine q_ hf rfl rfl rfl (e_move hf rfl) fun a hf => ?_
  refine q_ hf rfl rfl rfl (e_lenS hf (x := s1) rfl Tryd.underlying9) fun a hf => ?_
  refine q_ hf rfl rfl rfl (e_move hf rfl) fun a hf => ?_
  refine q_ hf rfl rfl rfl (e_lenS hf (x := prefix_3) rfl Tryd.underlying9) fun a hf => ?_
  refine q_ hf rfl rfl rfl (e_ge hf (x := (s1.length : Int)) (y := (prefix_3.length : Int)) rfl rfl) fun a hf => ?_
  refine q_ hf rfl rfl rfl (e_move hf rfl) fun a hf => ?_
  rcases cond_some h8 with ⟨hc9, h8⟩ | ⟨hc9, h8⟩
  ·iterate 2 refine gq (wanted_t hf rfl rfl rfl rfl hc9) hf rfl rfl (e_move hf rfl) fun a hf => ?_
   refine gq (wanted_t hf rfl rfl rfl rfl hc9) hf rfl rfl (e_lenS hf (x := prefix_3) rfl Tryd.underlying9) fun a hf => ?_
   obtain ⟨s10, hz11, h8⟩ := bind_some h8
   refine gq (wanted_t hf rfl rfl rfl rfl hc9) hf rfl rfl (e_subSh hf (x := s1) rfl rfl Tryd.underlying9 hz11) fun a hf => ?_
   refine gq (wanted_t hf rfl rfl rfl rfl hc9) hf rfl rfl (e_move hf rfl) fun a hf => ?_
   refine gq (wanted_t hf rfl rfl rfl rfl hc9) hf rfl rfl (e_eqS hf (x := s10) (y := prefix_3) rfl rfl) fun a hf => ?_
   refine q_ hf rfl rfl rfl (e_pick_t hf rfl hc9 rfl) fun a hf => ?_
   refine q_ hf rfl rfl rfl (e_assign hf rfl) fun a hf => ?_
   refine pl_nil ?_
   obtain rfl := some_inj h8
   refine then_n ?_
   exact ⟨(s10 == prefix_3), rfl, hf.keep ⟨rfl, trivial⟩, hM.pick [] rfl⟩
  iterate 6 refine pl_gs (wanted_f hf rfl rfl rfl rfl hc9) hf rfl rfl fun a hf => ?_
  refine q_ hf rfl rfl rfl (e_pick_f hf rfl hc9 rfl) fun a hf => ?_
  refine q_ hf rfl rfl rfl (e_assign hf rfl) fun a hf => ?_
  refine pl_nil ?_
  obtain rfl := some_inj h8
  refine then_n ?_
  exact ⟨false, rfl, hf.keep ⟨rfl, trivial⟩, hM.pick [] rfl⟩
 rintro a w14 ⟨t5, rfl, hf, hM⟩
 try dsimp only at h
 refine wp_ret ?_
 obtain rfl := some_inj h
 exact leave1 hf rfl rfl ⟨rfl, hM.fin⟩

set_option maxRecDepth 100000 in
set_option maxHeartbeats 4000000 in
theorem r_strings_HasPrefix (C : Cx) (s1 : Str) (hp2 : s1.length ≤ maxLen) (prefix_3 : Str) (hp4 : prefix_3.length ≤ maxLen) (r : Bool) (h : m_strings_HasPrefix s1 prefix_3 = some r) :
    Calls Tryd.prog 80 #[vS (s1), vS (prefix_3)] C.w0 fun e w => e = .returned (.bool (r)) ∧ Mem C w [] [] := by
 have hM := Mem.begin C [] trivial
 refine enter Tryd.func80 rfl Tryd.ntmps80 rfl fun a hf => ?_
 unfold m_strings_HasPrefix at h
 refine wp_seq ?_
 refine region_pl ?_
 refine q_ hf rfl rfl rfl (e_assign hf rfl) fun a hf => ?_
 refine pl_nil ?_
 refine then_n ?_
 refine wp_seq ?_
 refine region_pl ?_
 iterate 2 refine q_ hf rfl rfl rfl (e_move hf rfl) fun a hf => ?_
 obtain ⟨y5, hz6, h⟩ := bind_some h
 refine pl_l hf rfl rfl rfl (w_call hf Tryd.call106 rfl (r_internal_stringslite_HasPrefix ⟨_, Sh C _ _, none_, hM.sh_lt, none_not, C.G, hM.g_lt, g_none, hM.tabs⟩ s1 hp2 prefix_3 hp4 _ hz6) ?_)
 rintro _ w7 ⟨rfl, hM2⟩
 obtain ⟨hM, hx8, hup9⟩ := hM.back hM2
 dsimp only [List.cons_append, List.nil_append] at hM hup9
 clear hM2
 refine ⟨_, rfl, fun a hf => ?_⟩
 refine q_ hf rfl rfl rfl (e_assign hf rfl) fun a hf => ?_
 refine pl_nil ?_
 refine then_n ?_
 refine wp_ret ?_
 obtain rfl := some_inj h
 exact leave1 hf rfl rfl ⟨rfl, hM.fin⟩

set_option maxRecDepth 100000 in
set_option maxHeartbeats 4000000 in
theorem r_impl_prefixRange (C : Cx) (list1 : (List Str)) (A2 : Option Addr) (c3 : Nat) (hp4 : (sliceRep strRep).R C.w0 C.S0 list1 [vL A2 list1 c3]) (prefix_5 : Str) (hp6 : prefix_5.length ≤ maxLen) (r : (Int × Int)) (h : m_impl_prefixRange list1 prefix_5 = some r) :
    Calls Tryd.prog 48 #[vL A2 (list1) c3, vS (prefix_5)] C.w0 fun e w => e = .returned (.tuple #[vI (r.1), vI (r.2)]) ∧ Mem C w [] [] ∧ R64 r.1 ∧ R64 r.2 := by
 have hM := Mem.begin C [.dat (sliceRep strRep) list1 [vL A2 list1 c3]] ⟨hp4, trivial⟩
 refine enter Tryd.func48 rfl Tryd.ntmps48 rfl fun a hf => ?_
 unfold m_impl_prefixRange at h
 refine wp_seq ?_
 refine region_pl ?_
 iterate 2 refine q_ hf rfl rfl rfl (e_assign hf rfl) fun a hf => ?_
 refine pl_nil ?_
 refine then_n ?_
 refine wp_seq ?_
 refine region_pl ?_
 iterate 2 refine q_ hf rfl rfl rfl (e_move hf rfl) fun a hf => ?_
 obtain ⟨y7, hz8, h⟩ := bind_some h
 refine pl_l hf rfl rfl rfl (w_call hf Tryd.call51 rfl (r_slices_BinarySearch_string_string ⟨_, Sh C _ _, none_, hM.sh_lt, none_not, C.G, hM.g_lt, g_none, hM.tabs⟩ list1 _ _ (hM.dat (k := 0) rfl) prefix_5 hp6 _ hz8) ?_)
 rintro _ w10 ⟨rfl, hM2, hv9⟩
 obtain ⟨hM, hx11, hup12⟩ := hM.back hM2
 dsimp only [List.cons_append, List.nil_append] at hM hup12
 clear hM2
 refine ⟨_, rfl, fun a hf => ?_⟩
 refine q_ hf rfl rfl rfl (e_move hf rfl) fun a hf => ?_
 iterate 2 refine q_ hf rfl rfl rfl (e_extract hf rfl rfl) fun a hf => ?_
 iterate 2 refine q_ hf rfl rfl rfl (e_assign hf rfl) fun a hf => ?_
 refine pl_nil ?_
 refine then_n ?_
 refine wp_seq ?_
 refine region_pl ?_
 refine q_ hf rfl rfl rfl (e_move hf rfl) fun a hf => ?_
 refine q_ hf rfl rfl rfl (e_assign hf rfl) fun a hf => ?_
 refine pl_nil ?_
 refine then_n ?_
 obtain ⟨x15, h16, h⟩ := bind_some h
 refine seq_join (fun a w => ∃ (n13 : Int), n13 = x15 ∧ Has 34 a [(6, vI (y7.1)), (8, vI (n13))] ∧ Mem C w [] [.dat (sliceRep strRep) list1 [vL A2 list1 c3]] ∧ R64 n13) ?_ ?_
 ·refine wp_block ?_
  obtain ⟨x22, h23, h16⟩ := bind_some h16
  refine wp_loopM h23 (fun s a w => ∃ (n17 : Int), n17 = s ∧ Has 34 a [(0, vL A2 (list1) c3), (1, vS (prefix_5)), (6, vI (y7.1)), (8, vI (n17))] ∧ Mem C w [] [.dat (sliceRep strRep) list1 [vL A2 list1 c3]] ∧ R64 n17) ?_ ?_
  ·exact ⟨y7.1, rfl, hf.keep ⟨rfl, rfl, rfl, rfl, trivial⟩, hM.pick [0] rfl, hv9⟩
  rintro s o24 a w19 ⟨n17, rfl, hf, hM, hv18⟩ h25 hd26
  replace h25 : m_impl_prefixRange_l1 list1 prefix_5 n17 = some o24 := h25
  unfold m_impl_prefixRange_l1 at h25
  refine wp_seq ?_
  obtain ⟨x29, h30, h25⟩ := bind_some h25
  refine seq_join (fun a w => ∃ (t27 : Bool), t27 = x29 ∧ Has 34 a [(0, vL A2 (list1) c3), (1, vS (prefix_5)), (6, vI (y7.1)), (8, vI (n17)), (27, .bool (t27))] ∧ Mem C w [] [.dat (sliceRep strRep) list1 [vL A2 list1 c3]]) ?_ ?_
  ·refine region_pl ?_
   iterate 2 refine q_ hf rfl rfl rfl (e_move hf rfl) fun a hf => ?_
   have hl31 := slice_len (hM.dat (k := 0) rfl)
   refine q_ hf rfl rfl rfl (e_lenL hf (x := list1) rfl Tryd.underlying28) fun a hf => ?_
   refine q_ hf rfl rfl rfl (e_lt hf (x := n17) (y := (list1.length : Int)) rfl rfl) fun a hf => ?_
   refine q_ hf rfl rfl rfl (e_move hf rfl) fun a hf => ?_
   rcases cond_some h30 with ⟨hc32, h30⟩ | ⟨hc32, h30⟩
   ·iterate 2 refine gq (wanted_t hf rfl rfl rfl rfl hc32) hf rfl rfl (e_move hf rfl) fun a hf => ?_
    obtain ⟨e33, hz34, h30⟩ := bind_some h30
    obtain ⟨b38, o39, _, hA40, h35, h36, hr37, hM⟩ := hM.elem (hM.dat (k := 0) rfl) (n := 1) rfl hz34
    obtain ⟨rfl, hv41⟩ := hr37
    refine gq (wanted_t hf rfl rfl rfl rfl hc32) hf rfl rfl (e_indexAddr (A := A2) (b := b38) (o := o39) (xs := list1) (i := n17) hf hA40 rfl rfl Tryd.underlying28 Tryd.sizeOf9 h35 h36) fun a hf => ?_
    refine gq (wanted_t hf rfl rfl rfl rfl hc32) hf rfl rfl (e_load1 hf rfl Tryd.isAgg9 (hM.litCell (k := 0) (j := 0) rfl rfl rfl)) fun a hf => ?_
    refine gq (wanted_t hf rfl rfl rfl rfl hc32) hf rfl rfl (e_move hf rfl) fun a hf => ?_
    obtain ⟨y42, hz43, h30⟩ := bind_some h30
    refine pl_gl (wanted_t hf rfl rfl rfl rfl hc32) hf rfl rfl (w_call hf Tryd.call80 rfl (r_strings_HasPrefix ⟨_, Sh C _ _, none_, hM.sh_lt, none_not, C.G, hM.g_lt, g_none, hM.tabs⟩ e33 hv41 prefix_5 hp6 _ hz43) ?_)
    rintro _ w44 ⟨rfl, hM2⟩
    obtain ⟨hM, hx45, hup46⟩ := hM.back hM2
    dsimp only [List.cons_append, List.nil_append] at hM hup46
    clear hM2
    refine ⟨_, rfl, fun a hf => ?_⟩
    refine q_ hf rfl rfl rfl (e_pick_t hf rfl hc32 rfl) fun a hf => ?_
    refine pl_nil ?_
    obtain rfl := some_inj h30
    refine then_n ?_
    exact ⟨y42, rfl, hf.keep ⟨rfl, rfl, rfl, rfl, rfl, trivial⟩, hM.pick [1] rfl⟩
   iterate 6 refine pl_gs (wanted_f hf rfl rfl rfl rfl hc32) hf rfl rfl fun a hf => ?_
   refine q_ hf rfl rfl rfl (e_pick_f hf rfl hc32 rfl) fun a hf => ?_
   refine pl_nil ?_
   obtain rfl := some_inj h30
   refine then_n ?_
   exact ⟨false, rfl, hf.keep ⟨rfl, rfl, rfl, rfl, rfl, trivial⟩, hM.pick [0] rfl⟩
  rintro a w49 ⟨t27, rfl, hf, hM⟩
  try dsimp only at h25
  rcases cond_some h25 with ⟨hc50, h25⟩ | ⟨hc50, h25⟩
  ·refine cond_t hf rfl hc50 ?_
   refine wp_skip ?_
   refine then_n ?_
   refine wp_block ?_
   refine region_pl ?_
   refine q_ hf rfl rfl rfl (e_move hf rfl) fun a hf => ?_
   obtain ⟨z51, hz52, h25⟩ := bind_some h25
   refine q_ hf rfl rfl rfl (e_add hf rfl rfl hz52) fun a hf => ?_
   refine q_ hf rfl rfl rfl (e_assign hf rfl) fun a hf => ?_
   refine pl_nil ?_
   refine blk_n ?_
   obtain rfl := some_inj h25
   refine then_n ⟨_, rfl, ?_⟩
   exact ⟨z51, rfl, hf.keep ⟨rfl, rfl, rfl, rfl, trivial⟩, hM.pick [0] rfl, (chk_R hz52)⟩
  refine cond_f hf rfl hc50 ?_
  refine wp_exit ?_
  refine then_x ?_
  obtain rfl := some_inj h25
  obtain rfl := hd26 _ rfl
  try dsimp only at h16
  refine then_x ?_
  refine exit_hit ?_
  obtain rfl := some_inj h16
  refine then_n ?_
  exact ⟨n17, rfl, hf.keep ⟨rfl, rfl, trivial⟩, hM.pick [0] rfl, hv18⟩
 rintro a w58 ⟨n13, rfl, hf, hM, hv14⟩
 try dsimp only at h
 refine wp_seq ?_
 refine region_pl ?_
 iterate 3 refine q_ hf rfl rfl rfl (e_move hf rfl) fun a hf => ?_
 obtain ⟨z59, hz60, h⟩ := bind_some h
 refine q_ hf rfl rfl rfl (e_sub hf rfl rfl hz60) fun a hf => ?_
 iterate 2 refine q_ hf rfl rfl rfl (e_assign hf rfl) fun a hf => ?_
 refine pl_nil ?_
 refine then_n ?_
 refine wp_ret ?_
 obtain rfl := some_inj h
 exact leave2 hf rfl rfl rfl ⟨rfl, hM.fin, hv9, (chk_R hz60)⟩

set_option maxRecDepth 100000 in
set_option maxHeartbeats 4000000 in
theorem r_impl_NumberOf (C : Cx) (d1 : Dawg) (A2 : Option Addr) (c3 : Nat) (hp4 : (sliceRep NodeRep).R C.w0 C.S0 d1.Nodes [vL A2 d1.Nodes c3]) (s5 : Str) (hp6 : s5.length ≤ maxLen) (r : (Int × Int)) (h : m_impl_NumberOf d1 s5 = some r) :
    Calls Tryd.prog 16 #[.agg #[vL A2 (d1.Nodes) c3], vS (s5)] C.w0 fun e w => e = .returned (.tuple #[vI (r.1), vI (r.2)]) ∧ Mem C w [] [] ∧ R64 r.1 ∧ R64 r.2 := by
 have hM := Mem.begin C [.dat (sliceRep NodeRep) d1.Nodes [vL A2 d1.Nodes c3]] ⟨hp4, trivial⟩
 refine enter Tryd.func16 rfl Tryd.ntmps16 rfl fun a hf => ?_
 unfold m_impl_NumberOf at h
 refine wp_seq ?_
 refine region_pl ?_
 refine pl_l hf rfl rfl rfl (w_box hf hM (cs := [vL A2 (d1.Nodes) c3]) rfl rfl fun b7 w8 hx9 hM a hf => ?_)
 iterate 2 refine q_ hf rfl rfl rfl (e_assign hf rfl) fun a hf => ?_
 refine pl_nil ?_
 refine then_n ?_
 iterate 2 refine wp_seq ?_
 refine region_pl ?_
 refine q_ hf rfl rfl rfl (e_loadA hf (us := [vL A2 (d1.Nodes) c3]) rfl ⟨Tryd.isAgg26, Tryd.sizeOf26⟩ rfl (hM.boxSub (k := 0) (us := [vL A2 (d1.Nodes) c3]) (o := 0) rfl rfl)) fun a hf => ?_
 obtain ⟨y11, hz12, h⟩ := bind_some h
 refine pl_l hf rfl rfl rfl (w_call hf Tryd.call45 rfl (r_impl_ValidDawg ⟨_, Sh C _ _, none_, hM.sh_lt, none_not, C.G, hM.g_lt, g_none, hM.tabs⟩ d1 _ _ (hM.dat (k := 0) rfl) _ hz12) ?_)
 rintro _ w13 ⟨rfl, hM2⟩
 obtain ⟨hM, hx14, hup15⟩ := hM.back hM2
 dsimp only [List.cons_append, List.nil_append] at hM hup15
 clear hM2
 refine ⟨_, rfl, fun a hf => ?_⟩
 refine q_ hf rfl rfl rfl (e_not hf rfl) fun a hf => ?_
 refine pl_nil ?_
 refine then_n ?_
 rcases cond_some h with ⟨hc16, h⟩ | ⟨hc16, h⟩
 ·refine cond_t hf rfl hc16 ?_
  refine wp_seq ?_
  refine region_pl ?_
  iterate 2 refine q_ hf rfl rfl rfl (e_assign hf rfl) fun a hf => ?_
  refine pl_nil ?_
  refine then_n ?_
  refine wp_ret ?_
  refine then_r ?_
  obtain rfl := some_inj h
  have hM := hM.outs (own' := []) 0 rfl
  exact leave2 hf rfl rfl rfl ⟨rfl, hM.fin, (R64_lit rfl), (R64_lit rfl)⟩
 refine cond_f hf rfl hc16 ?_
 refine wp_skip ?_
 refine then_n ?_
 iterate 2 refine wp_seq ?_
 refine region_pl ?_
 refine q_ hf rfl rfl rfl (e_loadA hf (us := [vL A2 (d1.Nodes) c3]) rfl ⟨Tryd.isAgg26, Tryd.sizeOf26⟩ rfl (hM.boxSub (k := 0) (us := [vL A2 (d1.Nodes) c3]) (o := 0) rfl rfl)) fun a hf => ?_
 refine q_ hf rfl rfl rfl (e_move hf rfl) fun a hf => ?_
 obtain ⟨y17, hz18, h⟩ := bind_some h
 refine pl_l hf rfl rfl rfl (w_call hf Tryd.call47 rfl (r_impl_Dawg_accepts ⟨_, Sh C _ _, none_, hM.sh_lt, none_not, C.G, hM.g_lt, g_none, hM.tabs⟩ d1 _ _ (hM.dat (k := 0) rfl) s5 hp6 _ hz18) ?_)
 rintro _ w19 ⟨rfl, hM2⟩
 obtain ⟨hM, hx20, hup21⟩ := hM.back hM2
 dsimp only [List.cons_append, List.nil_append] at hM hup21
 clear hM2
 refine ⟨_, rfl, fun a hf => ?_⟩
 refine q_ hf rfl rfl rfl (e_not hf rfl) fun a hf => ?_
 refine pl_nil ?_
 refine then_n ?_
 rcases cond_some h with ⟨hc22, h⟩ | ⟨hc22, h⟩
 ·refine cond_t hf rfl hc22 ?_
  refine wp_seq ?_
  refine region_pl ?_
  iterate 2 refine q_ hf rfl rfl rfl (e_assign hf rfl) fun a hf => ?_
  refine pl_nil ?_
  refine then_n ?_
  refine wp_ret ?_
  refine then_r ?_
  obtain rfl := some_inj h
  have hM := hM.outs (own' := []) 0 rfl
  exact leave2 hf rfl rfl rfl ⟨rfl, hM.fin, (R64_lit rfl), (R64_lit rfl)⟩
 refine cond_f hf rfl hc22 ?_
 refine wp_skip ?_
 refine then_n ?_
 refine wp_seq ?_
 refine region_pl ?_
 refine q_ hf rfl rfl rfl (e_loadA hf (us := [vL A2 (d1.Nodes) c3]) rfl ⟨Tryd.isAgg26, Tryd.sizeOf26⟩ rfl (hM.boxSub (k := 0) (us := [vL A2 (d1.Nodes) c3]) (o := 0) rfl rfl)) fun a hf => ?_
 obtain ⟨y23, hz24, h⟩ := bind_some h
 refine pl_l hf rfl rfl rfl (w_call hf Tryd.call49 rfl (r_impl_Dawg_words ⟨_, Sh C _ _, none_, hM.sh_lt, none_not, C.G, hM.g_lt, g_none, hM.tabs⟩ d1 _ _ (hM.dat (k := 0) rfl) _ hz24) ?_)
 rintro _ w27 ⟨A25, c26, rfl, hM2⟩
 obtain ⟨hM, hx28, hup29⟩ := hM.back hM2
 dsimp only [List.cons_append, List.nil_append] at hM hup29
 clear hM2
 refine ⟨_, rfl, fun a hf => ?_⟩
 refine q_ hf rfl rfl rfl (e_move hf rfl) fun a hf => ?_
 obtain ⟨y30, hz31, h⟩ := bind_some h
 refine pl_l hf rfl rfl rfl (w_call hf Tryd.call48 rfl (r_impl_prefixRange ⟨_, All C _ _, none_, hM.all_lt, none_not, C.G, hM.g_lt, g_none, hM.tabs⟩ y23 _ _ (hM.lendRow (k := 0) rfl) s5 hp6 _ hz31) ?_)
 rintro _ w34 ⟨rfl, hM2, hv32, hv33⟩
 obtain ⟨hM, hx35⟩ := hM.backA hM2
 clear hM2
 refine ⟨_, rfl, fun a hf => ?_⟩
 refine q_ hf rfl rfl rfl (e_move hf rfl) fun a hf => ?_
 iterate 2 refine q_ hf rfl rfl rfl (e_extract hf rfl rfl) fun a hf => ?_
 iterate 2 refine q_ hf rfl rfl rfl (e_assign hf rfl) fun a hf => ?_
 refine pl_nil ?_
 refine then_n ?_
 refine wp_seq ?_
 refine region_pl ?_
 refine q_ hf rfl rfl rfl (e_move hf rfl) fun a hf => ?_
 iterate 2 refine q_ hf rfl rfl rfl (e_assign hf rfl) fun a hf => ?_
 refine pl_nil ?_
 refine then_n ?_
 refine wp_ret ?_
 obtain rfl := some_inj h
 have hM := hM.outs (own' := []) 0 rfl
 exact leave2 hf rfl rfl rfl ⟨rfl, hM.fin, hv32, (R64_lit rfl)⟩

set_option maxRecDepth 100000 in
set_option maxHeartbeats 4000000 in
theorem r_laws_eqInt64S (C : Cx) (a1 : (List Int)) (A2 : Option Addr) (c3 : Nat) (hp4 : (sliceRep intRep).R C.w0 C.S0 a1 [vL A2 a1 c3]) (b5 : (List Int)) (A6 : Option Addr) (c7 : Nat) (hp8 : (sliceRep intRep).R C.w0 C.S0 b5 [vL A6 b5 c7]) (r : Bool) (h : m_laws_eqInt64S a1 b5 = some r) :
    Calls Tryd.prog 31 #[vL A2 (a1) c3, vL A6 (b5) c7] C.w0 fun e w => e = .returned (.bool (r)) ∧ Mem C w [] [] := by
 have hM := Mem.begin C [.dat (sliceRep intRep) b5 [vL A6 b5 c7], .dat (sliceRep intRep) a1 [vL A2 a1 c3]] ⟨hp8, hp4, trivial⟩
 refine enter Tryd.func31 rfl Tryd.ntmps31 rfl fun a hf => ?_
 unfold m_laws_eqInt64S at h
 refine wp_seq ?_
 refine region_pl ?_
 refine q_ hf rfl rfl rfl (e_assign hf rfl) fun a hf => ?_
 refine pl_nil ?_
 refine then_n ?_
 iterate 2 refine wp_seq ?_
 refine region_pl ?_
 refine q_ hf rfl rfl rfl (e_move hf rfl) fun a hf => ?_
 have hl9 := slice_len (hM.dat (k := 1) rfl)
 refine q_ hf rfl rfl rfl (e_lenL hf (x := a1) rfl Tryd.underlying31) fun a hf => ?_
 refine q_ hf rfl rfl rfl (e_move hf rfl) fun a hf => ?_
 have hl10 := slice_len (hM.dat (k := 0) rfl)
 refine q_ hf rfl rfl rfl (e_lenL hf (x := b5) rfl Tryd.underlying31) fun a hf => ?_
 refine q_ hf rfl rfl rfl (e_ne hf (x := (a1.length : Int)) (y := (b5.length : Int)) rfl rfl) fun a hf => ?_
 refine pl_nil ?_
 refine then_n ?_
 rcases cond_some h with ⟨hc11, h⟩ | ⟨hc11, h⟩
 ·refine cond_t hf rfl hc11 ?_
  refine wp_seq ?_
  refine region_pl ?_
  refine q_ hf rfl rfl rfl (e_assign hf rfl) fun a hf => ?_
  refine pl_nil ?_
  refine then_n ?_
  refine wp_ret ?_
  refine then_r ?_
  obtain rfl := some_inj h
  exact leave1 hf rfl rfl ⟨rfl, hM.fin⟩
 refine cond_f hf rfl hc11 ?_
 refine wp_skip ?_
 refine then_n ?_
 obtain ⟨x12, h13, h⟩ := bind_some h
 refine seq_join (fun a w => (.inl ()) = x12 ∧ Has 26 a [] ∧ Mem C w [] [.dat (sliceRep intRep) b5 [vL A6 b5 c7], .dat (sliceRep intRep) a1 [vL A2 a1 c3]]) ?_ ?_
 ·refine wp_seq ?_
  refine region_pl ?_
  refine q_ hf rfl rfl rfl (e_assign hf rfl) fun a hf => ?_
  refine pl_nil ?_
  refine then_n ?_
  refine wp_block ?_
  obtain ⟨x17, h18, h13⟩ := bind_some h13
  refine wp_loopM h18 (fun s a w => ∃ (n14 : Int), n14 = s ∧ Has 26 a [(0, vL A2 (a1) c3), (1, vL A6 (b5) c7), (5, vI (n14))] ∧ Mem C w [] [.dat (sliceRep intRep) b5 [vL A6 b5 c7], .dat (sliceRep intRep) a1 [vL A2 a1 c3]] ∧ R64 n14) ?_ ?_
  ·exact ⟨0, rfl, hf.keep ⟨rfl, rfl, rfl, trivial⟩, hM.pick [0, 1] rfl, (R64_lit rfl)⟩
  rintro s o19 a w16 ⟨n14, rfl, hf, hM, hv15⟩ h20 hd21
  replace h20 : m_laws_eqInt64S_l1 a1 b5 n14 = some o19 := h20
  unfold m_laws_eqInt64S_l1 at h20
  iterate 2 refine wp_seq ?_
  refine region_pl ?_
  iterate 2 refine q_ hf rfl rfl rfl (e_move hf rfl) fun a hf => ?_
  have hl22 := slice_len (hM.dat (k := 1) rfl)
  refine q_ hf rfl rfl rfl (e_lenL hf (x := a1) rfl Tryd.underlying31) fun a hf => ?_
  refine q_ hf rfl rfl rfl (e_lt hf (x := n14) (y := (a1.length : Int)) rfl rfl) fun a hf => ?_
  refine pl_nil ?_
  refine then_n ?_
  rcases cond_some h20 with ⟨hc23, h20⟩ | ⟨hc23, h20⟩
  ·refine cond_t hf rfl hc23 ?_
   refine wp_skip ?_
   refine then_n ?_
   refine wp_seq ?_
   refine wp_block ?_
   refine wp_seq ?_
   obtain ⟨w24, hw⟩ : ∃ x, x = w16.drew := ⟨_, rfl⟩
   refine region_pi (.q 0 (.q 1 (.q 2 (.q 3 (.q 4 (.q 5 (.q 6 (.q 7 (.q 8 (.nil)))))))))) (Ext w24) rfl (by kernel_rfl) ?_
   have hM := hM.drew
   rw [← hw] at hM ⊢
   clear hw
   iterate 2 refine pi_q hf rfl rfl rfl rfl (Ext.refl _) (e_move hf rfl) fun a hf => ?_
   obtain ⟨e25, hz26, h20⟩ := bind_some h20
   obtain ⟨b30, o31, _, hA32, h27, h28, hr29, hM⟩ := hM.elem (hM.dat (k := 1) rfl) (n := 1) rfl hz26
   obtain ⟨rfl, hv33⟩ := hr29
   refine pi_q hf rfl rfl rfl rfl (Ext.refl _) (e_indexAddr (A := A2) (b := b30) (o := o31) (xs := a1) (i := n14) hf hA32 rfl rfl Tryd.underlying31 Tryd.sizeOf2 h27 h28) fun a hf => ?_
   refine pi_q hf rfl rfl rfl rfl (Ext.refl _) (e_load1 hf rfl Tryd.isAgg2 (hM.litCell (k := 0) (j := 0) rfl rfl rfl)) fun a hf => ?_
   iterate 2 refine pi_q hf rfl rfl rfl rfl (Ext.refl _) (e_move hf rfl) fun a hf => ?_
   obtain ⟨e34, hz35, h20⟩ := bind_some h20
   obtain ⟨b39, o40, _, hA41, h36, h37, hr38, hM⟩ := hM.elem (hM.dat (k := 1) rfl) (n := 1) rfl hz35
   obtain ⟨rfl, hv42⟩ := hr38
   refine pi_q hf rfl rfl rfl rfl (Ext.refl _) (e_indexAddr (A := A6) (b := b39) (o := o40) (xs := b5) (i := n14) hf hA41 rfl rfl Tryd.underlying31 Tryd.sizeOf2 h36 h37) fun a hf => ?_
   refine pi_q hf rfl rfl rfl rfl (Ext.refl _) (e_load1 hf rfl Tryd.isAgg2 (hM.litCell (k := 0) (j := 0) rfl rfl rfl)) fun a hf => ?_
   refine pi_q hf rfl rfl rfl rfl (Ext.refl _) (e_ne hf (x := e25) (y := e34) rfl rfl) fun a hf => ?_
   refine pi_nil ?_
   refine then_n ?_
   rcases cond_some h20 with ⟨hc43, h20⟩ | ⟨hc43, h20⟩
   ·refine cond_t hf rfl hc43 ?_
    refine wp_seq ?_
    refine region_pl ?_
    refine q_ hf rfl rfl rfl (e_assign hf rfl) fun a hf => ?_
    refine pl_nil ?_
    refine then_n ?_
    refine wp_ret ?_
    refine blk_r ?_
    refine then_r ?_
    obtain rfl := some_inj h20
    obtain rfl := hd21 _ rfl
    try dsimp only at h13
    refine then_r ?_
    refine blk_r ?_
    obtain rfl := some_inj h13
    try dsimp only at h
    refine then_r ?_
    obtain rfl := some_inj h
    exact leave1 hf rfl rfl ⟨rfl, hM.fin⟩
   refine cond_f hf rfl hc43 ?_
   refine wp_skip ?_
   refine blk_n ?_
   refine then_n ?_
   refine region_pl ?_
   refine q_ hf rfl rfl rfl (e_move hf rfl) fun a hf => ?_
   obtain ⟨z44, hz45, h20⟩ := bind_some h20
   refine q_ hf rfl rfl rfl (e_add hf rfl rfl hz45) fun a hf => ?_
   refine q_ hf rfl rfl rfl (e_assign hf rfl) fun a hf => ?_
   refine pl_nil ?_
   obtain rfl := some_inj h20
   refine then_n ⟨_, rfl, ?_⟩
   exact ⟨z44, rfl, hf.keep ⟨rfl, rfl, rfl, trivial⟩, hM.pick [2, 3] rfl, (chk_R hz45)⟩
  refine cond_f hf rfl hc23 ?_
  refine wp_exit ?_
  refine then_x ?_
  obtain rfl := some_inj h20
  obtain rfl := hd21 _ rfl
  try dsimp only at h13
  refine then_x ?_
  refine exit_hit ?_
  obtain rfl := some_inj h13
  refine then_n ?_
  exact ⟨rfl, hf.keep trivial, hM.pick [0, 1] rfl⟩
 rintro a w52 ⟨rfl, hf, hM⟩
 try dsimp only at h
 refine wp_seq ?_
 refine region_pl ?_
 refine q_ hf rfl rfl rfl (e_assign hf rfl) fun a hf => ?_
 refine pl_nil ?_
 refine then_n ?_
 refine wp_ret ?_
 obtain rfl := some_inj h
 exact leave1 hf rfl rfl ⟨rfl, hM.fin⟩

set_option maxRecDepth 100000 in
set_option maxHeartbeats 4000000 in
theorem r_laws_eqNode (C : Cx) (a1 : Node) (hp2 : a1.Letters.length ≤ maxLen) (A3 : Option Addr) (c4 : Nat) (hp5 : (sliceRep intRep).R C.w0 C.S0 a1.Next [vL A3 a1.Next c4]) (b6 : Node) (hp7 : b6.Letters.length ≤ maxLen) (A8 : Option Addr) (c9 : Nat) (hp10 : (sliceRep intRep).R C.w0 C.S0 b6.Next [vL A8 b6.Next c9]) (r : Bool) (h : m_laws_eqNode a1 b6 = some r) :
    Calls Tryd.prog 88 #[.agg #[.bool (a1.Final), vS (a1.Letters), vL A3 (a1.Next) c4], .agg #[.bool (b6.Final), vS (b6.Letters), vL A8 (b6.Next) c9]] C.w0 fun e w => e = .returned (.bool (r)) ∧ Mem C w [] [] := by
 have hM := Mem.begin C [.dat (sliceRep intRep) b6.Next [vL A8 b6.Next c9], .dat (sliceRep intRep) a1.Next [vL A3 a1.Next c4]] ⟨hp10, hp5, trivial⟩
 refine enter Tryd.func88 rfl Tryd.ntmps88 rfl fun a hf => ?_
 unfold m_laws_eqNode at h
 refine wp_seq ?_
 refine region_pl ?_
 refine pl_l hf rfl rfl rfl (w_box hf hM (cs := [.bool (a1.Final), vS (a1.Letters), vL A3 (a1.Next) c4]) rfl rfl fun b11 w12 hx13 hM a hf => ?_)
 refine pl_l hf rfl rfl rfl (w_box hf hM (cs := [.bool (b6.Final), vS (b6.Letters), vL A8 (b6.Next) c9]) rfl rfl fun b15 w16 hx17 hM a hf => ?_)
 refine q_ hf rfl rfl rfl (e_assign hf rfl) fun a hf => ?_
 refine pl_nil ?_
 refine then_n ?_
 iterate 2 refine wp_seq ?_
 refine region_pl ?_
 refine q_ hf rfl rfl rfl (e_field hf rfl Tryd.underlying76 rfl Tryd.sizeOf4 (o' := 0) rfl) fun a hf => ?_
 refine q_ hf rfl rfl rfl (e_load1 hf rfl Tryd.isAgg4 (hM.boxCell (k := 1) rfl rfl)) fun a hf => ?_
 refine q_ hf rfl rfl rfl (e_field hf rfl Tryd.underlying76 rfl Tryd.sizeOf4 (o' := 0) rfl) fun a hf => ?_
 refine q_ hf rfl rfl rfl (e_load1 hf rfl Tryd.isAgg4 (hM.boxCell (k := 0) rfl rfl)) fun a hf => ?_
 refine q_ hf rfl rfl rfl (e_neT hf rfl rfl Tryd.underlying4) fun a hf => ?_
 refine pl_nil ?_
 refine then_n ?_
 rcases cond_some h with ⟨hc19, h⟩ | ⟨hc19, h⟩
 ·refine cond_t hf rfl hc19 ?_
  refine wp_seq ?_
  refine region_pl ?_
  refine q_ hf rfl rfl rfl (e_assign hf rfl) fun a hf => ?_
  refine pl_nil ?_
  refine then_n ?_
  refine wp_ret ?_
  refine then_r ?_
  obtain rfl := some_inj h
  have hM := hM.outs (own' := []) 0 rfl
  exact leave1 hf rfl rfl ⟨rfl, hM.fin⟩
 refine cond_f hf rfl hc19 ?_
 refine wp_skip ?_
 refine then_n ?_
 iterate 2 refine wp_seq ?_
 refine region_pl ?_
 refine q_ hf rfl rfl rfl (e_field hf rfl Tryd.underlying76 rfl Tryd.sizeOf9 (o' := 1) rfl) fun a hf => ?_
 refine q_ hf rfl rfl rfl (e_load1 hf rfl Tryd.isAgg9 (hM.boxCell (k := 1) rfl rfl)) fun a hf => ?_
 refine q_ hf rfl rfl rfl (e_field hf rfl Tryd.underlying76 rfl Tryd.sizeOf9 (o' := 1) rfl) fun a hf => ?_
 refine q_ hf rfl rfl rfl (e_load1 hf rfl Tryd.isAgg9 (hM.boxCell (k := 0) rfl rfl)) fun a hf => ?_
 refine q_ hf rfl rfl rfl (e_neS hf (x := a1.Letters) (y := b6.Letters) rfl rfl) fun a hf => ?_
 refine pl_nil ?_
 refine then_n ?_
 rcases cond_some h with ⟨hc20, h⟩ | ⟨hc20, h⟩
 ·refine cond_t hf rfl hc20 ?_
  refine wp_seq ?_
  refine region_pl ?_
  refine q_ hf rfl rfl rfl (e_assign hf rfl) fun a hf => ?_
  refine pl_nil ?_
  refine then_n ?_
  refine wp_ret ?_
  refine then_r ?_
  obtain rfl := some_inj h
  have hM := hM.outs (own' := []) 0 rfl
  exact leave1 hf rfl rfl ⟨rfl, hM.fin⟩
 refine cond_f hf rfl hc20 ?_
 refine wp_skip ?_
 refine then_n ?_
 iterate 2 refine wp_seq ?_
 refine region_pl ?_
 refine q_ hf rfl rfl rfl (e_field hf rfl Tryd.underlying76 rfl Tryd.sizeOf31 (o' := 2) rfl) fun a hf => ?_
 refine q_ hf rfl rfl rfl (e_load1 hf rfl Tryd.isAgg31 (hM.boxCell (k := 1) rfl rfl)) fun a hf => ?_
 refine q_ hf rfl rfl rfl (e_field hf rfl Tryd.underlying76 rfl Tryd.sizeOf31 (o' := 2) rfl) fun a hf => ?_
 refine q_ hf rfl rfl rfl (e_load1 hf rfl Tryd.isAgg31 (hM.boxCell (k := 0) rfl rfl)) fun a hf => ?_
 obtain ⟨y21, hz22, h⟩ := bind_some h
 refine pl_l hf rfl rfl rfl (w_call hf Tryd.call31 rfl (r_laws_eqInt64S ⟨_, Sh C _ _, none_, hM.sh_lt, none_not, C.G, hM.g_lt, g_none, hM.tabs⟩ a1.Next _ _ (hM.dat (k := 1) rfl) b6.Next _ _ (hM.dat (k := 0) rfl) _ hz22) ?_)
 rintro _ w23 ⟨rfl, hM2⟩
 obtain ⟨hM, hx24, hup25⟩ := hM.back hM2
 dsimp only [List.cons_append, List.nil_append] at hM hup25
 clear hM2
 refine ⟨_, rfl, fun a hf => ?_⟩
 refine q_ hf rfl rfl rfl (e_not hf rfl) fun a hf => ?_
 refine pl_nil ?_
 refine then_n ?_
 rcases cond_some h with ⟨hc26, h⟩ | ⟨hc26, h⟩
 ·refine cond_t hf rfl hc26 ?_
  refine wp_seq ?_
  refine region_pl ?_
  refine q_ hf rfl rfl rfl (e_assign hf rfl) fun a hf => ?_
  refine pl_nil ?_
  refine then_n ?_
  refine wp_ret ?_
  refine then_r ?_
  obtain rfl := some_inj h
  have hM := hM.outs (own' := []) 0 rfl
  exact leave1 hf rfl rfl ⟨rfl, hM.fin⟩
 refine cond_f hf rfl hc26 ?_
 refine wp_skip ?_
 refine then_n ?_
 refine wp_seq ?_
 refine region_pl ?_
 refine q_ hf rfl rfl rfl (e_assign hf rfl) fun a hf => ?_
 refine pl_nil ?_
 refine then_n ?_
 refine wp_ret ?_
 obtain rfl := some_inj h
 have hM := hM.outs (own' := []) 0 rfl
 exact leave1 hf rfl rfl ⟨rfl, hM.fin⟩

set_option maxRecDepth 100000 in
set_option maxHeartbeats 4000000 in
theorem r_laws_eqNodeS (C : Cx) (a1 : (List Node)) (A2 : Option Addr) (c3 : Nat) (hp4 : (sliceRep NodeRep).R C.w0 C.S0 a1 [vL A2 a1 c3]) (b5 : (List Node)) (A6 : Option Addr) (c7 : Nat) (hp8 : (sliceRep NodeRep).R C.w0 C.S0 b5 [vL A6 b5 c7]) (r : Bool) (h : m_laws_eqNodeS a1 b5 = some r) :
    Calls Tryd.prog 60 #[vL A2 (a1) c3, vL A6 (b5) c7] C.w0 fun e w => e = .returned (.bool (r)) ∧ Mem C w [] [] := by
 have hM := Mem.begin C [.dat (sliceRep NodeRep) b5 [vL A6 b5 c7], .dat (sliceRep NodeRep) a1 [vL A2 a1 c3]] ⟨hp8, hp4, trivial⟩
 refine enter Tryd.func60 rfl Tryd.ntmps60 rfl fun a hf => ?_
 unfold m_laws_eqNodeS at h
 refine wp_seq ?_
 refine region_pl ?_
 refine q_ hf rfl rfl rfl (e_assign hf rfl) fun a hf => ?_
 refine pl_nil ?_
 refine then_n ?_
 iterate 2 refine wp_seq ?_
 refine region_pl ?_
 refine q_ hf rfl rfl rfl (e_move hf rfl) fun a hf => ?_
 have hl9 := slice_len (hM.dat (k := 1) rfl)
 refine q_ hf rfl rfl rfl (e_lenL hf (x := a1) rfl Tryd.underlying24) fun a hf => ?_
 refine q_ hf rfl rfl rfl (e_move hf rfl) fun a hf => ?_
 have hl10 := slice_len (hM.dat (k := 0) rfl)
 refine q_ hf rfl rfl rfl (e_lenL hf (x := b5) rfl Tryd.underlying24) fun a hf => ?_
 refine q_ hf rfl rfl rfl (e_ne hf (x := (a1.length : Int)) (y := (b5.length : Int)) rfl rfl) fun a hf => ?_
 refine pl_nil ?_
 refine then_n ?_
 rcases cond_some h with ⟨hc11, h⟩ | ⟨hc11, h⟩
 ·refine cond_t hf rfl hc11 ?_
  refine wp_seq ?_
  refine region_pl ?_
  refine q_ hf rfl rfl rfl (e_assign hf rfl) fun a hf => ?_
  refine pl_nil ?_
  refine then_n ?_
  refine wp_ret ?_
  refine then_r ?_
  obtain rfl := some_inj h
  exact leave1 hf rfl rfl ⟨rfl, hM.fin⟩
 refine cond_f hf rfl hc11 ?_
 refine wp_skip ?_
 refine then_n ?_
 obtain ⟨x12, h13, h⟩ := bind_some h
 refine seq_join (fun a w => (.inl ()) = x12 ∧ Has 27 a [] ∧ Mem C w [] [.dat (sliceRep NodeRep) b5 [vL A6 b5 c7], .dat (sliceRep NodeRep) a1 [vL A2 a1 c3]]) ?_ ?_
 ·refine wp_seq ?_
  refine region_pl ?_
  refine q_ hf rfl rfl rfl (e_assign hf rfl) fun a hf => ?_
  refine pl_nil ?_
  refine then_n ?_
  refine wp_block ?_
  obtain ⟨x17, h18, h13⟩ := bind_some h13
  refine wp_loopM h18 (fun s a w => ∃ (n14 : Int), n14 = s ∧ Has 27 a [(0, vL A2 (a1) c3), (1, vL A6 (b5) c7), (5, vI (n14))] ∧ Mem C w [] [.dat (sliceRep NodeRep) b5 [vL A6 b5 c7], .dat (sliceRep NodeRep) a1 [vL A2 a1 c3]] ∧ R64 n14) ?_ ?_
  ·exact ⟨0, rfl, hf.keep ⟨rfl, rfl, rfl, trivial⟩, hM.pick [0, 1] rfl, (R64_lit rfl)⟩
  rintro s o19 a w16 ⟨n14, rfl, hf, hM, hv15⟩ h20 hd21
  replace h20 : m_laws_eqNodeS_l1 a1 b5 n14 = some o19 := h20
  unfold m_laws_eqNodeS_l1 at h20
  iterate 2 refine wp_seq ?_
  refine region_pl ?_
  iterate 2 refine q_ hf rfl rfl rfl (e_move hf rfl) fun a hf => ?_
  have hl22 := slice_len (hM.dat (k := 1) rfl)
  refine q_ hf rfl rfl rfl (e_lenL hf (x := a1) rfl Tryd.underlying24) fun a hf => ?_
  refine q_ hf rfl rfl rfl (e_lt hf (x := n14) (y := (a1.length : Int)) rfl rfl) fun a hf => ?_
  refine pl_nil ?_
  refine then_n ?_
  rcases cond_some h20 with ⟨hc23, h20⟩ | ⟨hc23, h20⟩
  ·refine cond_t hf rfl hc23 ?_
   refine wp_skip ?_
   refine then_n ?_
   refine wp_seq ?_
   refine wp_block ?_
   refine wp_seq ?_
   obtain ⟨w24, hw⟩ : ∃ x, x = w16.drew := ⟨_, rfl⟩
   refine region_pi (.q 0 (.q 1 (.q 2 (.q 3 (.q 4 (.q 5 (.q 6 (.q 7 (.l 8 (.q 9 (.nil))))))))))) (Ext w24) rfl (by kernel_rfl) ?_
   have hM := hM.drew
   rw [← hw] at hM ⊢
   clear hw
   iterate 2 refine pi_q hf rfl rfl rfl rfl (Ext.refl _) (e_move hf rfl) fun a hf => ?_
   obtain ⟨e25, hz26, h20⟩ := bind_some h20
   obtain ⟨b30, o31, _, hA32, h27, h28, hr29, hM⟩ := hM.elem (hM.dat (k := 1) rfl) (n := 3) rfl hz26
   obtain ⟨A34, c35, rfl, hv33, hv36⟩ := NodeRep_open hr29
   have hM := hM.add (y := .dat (sliceRep intRep) e25.Next [vL A34 e25.Next c35]) hv36
   refine pi_q hf rfl rfl rfl rfl (Ext.refl _) (e_indexAddr (A := A2) (b := b30) (o := o31) (xs := a1) (i := n14) hf hA32 rfl rfl Tryd.underlying24 Tryd.sizeOf76 h27 h28) fun a hf => ?_
   refine pi_q hf rfl rfl rfl rfl (Ext.refl _) (e_loadA hf (us := [.bool (e25.Final), vS (e25.Letters), vL A34 (e25.Next) c35]) rfl ⟨Tryd.isAgg76, Tryd.sizeOf76⟩ rfl (hM.litSub (k := 1) (d := 0) (us := [.bool (e25.Final), vS (e25.Letters), vL A34 (e25.Next) c35]) rfl rfl rfl)) fun a hf => ?_
   iterate 2 refine pi_q hf rfl rfl rfl rfl (Ext.refl _) (e_move hf rfl) fun a hf => ?_
   obtain ⟨e37, hz38, h20⟩ := bind_some h20
   obtain ⟨b42, o43, _, hA44, h39, h40, hr41, hM⟩ := hM.elem (hM.dat (k := 2) rfl) (n := 3) rfl hz38
   obtain ⟨A46, c47, rfl, hv45, hv48⟩ := NodeRep_open hr41
   have hM := hM.add (y := .dat (sliceRep intRep) e37.Next [vL A46 e37.Next c47]) hv48
   refine pi_q hf rfl rfl rfl rfl (Ext.refl _) (e_indexAddr (A := A6) (b := b42) (o := o43) (xs := b5) (i := n14) hf hA44 rfl rfl Tryd.underlying24 Tryd.sizeOf76 h39 h40) fun a hf => ?_
   refine pi_q hf rfl rfl rfl rfl (Ext.refl _) (e_loadA hf (us := [.bool (e37.Final), vS (e37.Letters), vL A46 (e37.Next) c47]) rfl ⟨Tryd.isAgg76, Tryd.sizeOf76⟩ rfl (hM.litSub (k := 1) (d := 0) (us := [.bool (e37.Final), vS (e37.Letters), vL A46 (e37.Next) c47]) rfl rfl rfl)) fun a hf => ?_
   refine pi_one ?_
   obtain ⟨y49, hz50, h20⟩ := bind_some h20
   refine pi_l hf rfl rfl rfl rfl (w_call hf Tryd.call88 rfl (r_laws_eqNode ⟨_, Sh C _ _, none_, hM.sh_lt, none_not, C.G, hM.g_lt, g_none, hM.tabs⟩ e25 hv33 _ _ (hM.dat (k := 2) rfl) e37 hv45 _ _ (hM.dat (k := 0) rfl) _ hz50) ?_)
   rintro _ w51 ⟨rfl, hM2⟩
   obtain ⟨hM, hx52, hup53⟩ := hM.back hM2
   dsimp only [List.cons_append, List.nil_append] at hM hup53
   clear hM2
   refine ⟨_, rfl, Ext w51, fun _ h => Ext.trans hx52 h, Ext.refl _, fun a hf => ?_⟩
   refine pi_q hf rfl rfl rfl rfl (Ext.refl _) (e_not hf rfl) fun a hf => ?_
   refine pi_nil ?_
   refine then_n ?_
   rcases cond_some h20 with ⟨hc54, h20⟩ | ⟨hc54, h20⟩
   ·refine cond_t hf rfl hc54 ?_
    refine wp_seq ?_
    refine region_pl ?_
    refine q_ hf rfl rfl rfl (e_assign hf rfl) fun a hf => ?_
    refine pl_nil ?_
    refine then_n ?_
    refine wp_ret ?_
    refine blk_r ?_
    refine then_r ?_
    obtain rfl := some_inj h20
    obtain rfl := hd21 _ rfl
    try dsimp only at h13
    refine then_r ?_
    refine blk_r ?_
    obtain rfl := some_inj h13
    try dsimp only at h
    refine then_r ?_
    obtain rfl := some_inj h
    exact leave1 hf rfl rfl ⟨rfl, hM.fin⟩
   refine cond_f hf rfl hc54 ?_
   refine wp_skip ?_
   refine blk_n ?_
   refine then_n ?_
   refine region_pl ?_
   refine q_ hf rfl rfl rfl (e_move hf rfl) fun a hf => ?_
   obtain ⟨z55, hz56, h20⟩ := bind_some h20
   refine q_ hf rfl rfl rfl (e_add hf rfl rfl hz56) fun a hf => ?_
   refine q_ hf rfl rfl rfl (e_assign hf rfl) fun a hf => ?_
   refine pl_nil ?_
   obtain rfl := some_inj h20
   refine then_n ⟨_, rfl, ?_⟩
   exact ⟨z55, rfl, hf.keep ⟨rfl, rfl, rfl, trivial⟩, hM.pick [4, 5] rfl, (chk_R hz56)⟩
  refine cond_f hf rfl hc23 ?_
  refine wp_exit ?_
  refine then_x ?_
  obtain rfl := some_inj h20
  obtain rfl := hd21 _ rfl
  try dsimp only at h13
  refine then_x ?_
  refine exit_hit ?_
  obtain rfl := some_inj h13
  refine then_n ?_
  exact ⟨rfl, hf.keep trivial, hM.pick [0, 1] rfl⟩
 rintro a w63 ⟨rfl, hf, hM⟩
 try dsimp only at h
 refine wp_seq ?_
 refine region_pl ?_
 refine q_ hf rfl rfl rfl (e_assign hf rfl) fun a hf => ?_
 refine pl_nil ?_
 refine then_n ?_
 refine wp_ret ?_
 obtain rfl := some_inj h
 exact leave1 hf rfl rfl ⟨rfl, hM.fin⟩

set_option maxRecDepth 100000 in
set_option maxHeartbeats 4000000 in
theorem r_laws_eqDawg (C : Cx) (a1 : Dawg) (A2 : Option Addr) (c3 : Nat) (hp4 : (sliceRep NodeRep).R C.w0 C.S0 a1.Nodes [vL A2 a1.Nodes c3]) (b5 : Dawg) (A6 : Option Addr) (c7 : Nat) (hp8 : (sliceRep NodeRep).R C.w0 C.S0 b5.Nodes [vL A6 b5.Nodes c7]) (r : Bool) (h : m_laws_eqDawg a1 b5 = some r) :
    Calls Tryd.prog 27 #[.agg #[vL A2 (a1.Nodes) c3], .agg #[vL A6 (b5.Nodes) c7]] C.w0 fun e w => e = .returned (.bool (r)) ∧ Mem C w [] [] := by
 have hM := Mem.begin C [.dat (sliceRep NodeRep) b5.Nodes [vL A6 b5.Nodes c7], .dat (sliceRep NodeRep) a1.Nodes [vL A2 a1.Nodes c3]] ⟨hp8, hp4, trivial⟩
 refine enter Tryd.func27 rfl Tryd.ntmps27 rfl fun a hf => ?_
 unfold m_laws_eqDawg at h
 refine wp_seq ?_
 refine region_pl ?_
 refine pl_l hf rfl rfl rfl (w_box hf hM (cs := [vL A2 (a1.Nodes) c3]) rfl rfl fun b9 w10 hx11 hM a hf => ?_)
 refine pl_l hf rfl rfl rfl (w_box hf hM (cs := [vL A6 (b5.Nodes) c7]) rfl rfl fun b13 w14 hx15 hM a hf => ?_)
 refine q_ hf rfl rfl rfl (e_assign hf rfl) fun a hf => ?_
 refine pl_nil ?_
 refine then_n ?_
 iterate 2 refine wp_seq ?_
 refine region_pl ?_
 refine q_ hf rfl rfl rfl (e_field hf rfl Tryd.underlying26 rfl Tryd.sizeOf24 (o' := 0) rfl) fun a hf => ?_
 refine q_ hf rfl rfl rfl (e_load1 hf rfl Tryd.isAgg24 (hM.boxCell (k := 1) rfl rfl)) fun a hf => ?_
 refine q_ hf rfl rfl rfl (e_field hf rfl Tryd.underlying26 rfl Tryd.sizeOf24 (o' := 0) rfl) fun a hf => ?_
 refine q_ hf rfl rfl rfl (e_load1 hf rfl Tryd.isAgg24 (hM.boxCell (k := 0) rfl rfl)) fun a hf => ?_
 obtain ⟨y17, hz18, h⟩ := bind_some h
 refine pl_l hf rfl rfl rfl (w_call hf Tryd.call60 rfl (r_laws_eqNodeS ⟨_, Sh C _ _, none_, hM.sh_lt, none_not, C.G, hM.g_lt, g_none, hM.tabs⟩ a1.Nodes _ _ (hM.dat (k := 1) rfl) b5.Nodes _ _ (hM.dat (k := 0) rfl) _ hz18) ?_)
 rintro _ w19 ⟨rfl, hM2⟩
 obtain ⟨hM, hx20, hup21⟩ := hM.back hM2
 dsimp only [List.cons_append, List.nil_append] at hM hup21
 clear hM2
 refine ⟨_, rfl, fun a hf => ?_⟩
 refine q_ hf rfl rfl rfl (e_not hf rfl) fun a hf => ?_
 refine pl_nil ?_
 refine then_n ?_
 rcases cond_some h with ⟨hc22, h⟩ | ⟨hc22, h⟩
 ·refine cond_t hf rfl hc22 ?_
  refine wp_seq ?_
  refine region_pl ?_
  refine q_ hf rfl rfl rfl (e_assign hf rfl) fun a hf => ?_
  refine pl_nil ?_
  refine then_n ?_
  refine wp_ret ?_
  refine then_r ?_
  obtain rfl := some_inj h
  have hM := hM.outs (own' := []) 0 rfl
  exact leave1 hf rfl rfl ⟨rfl, hM.fin⟩
 refine cond_f hf rfl hc22 ?_
 refine wp_skip ?_
 refine then_n ?_
 refine wp_seq ?_
 refine region_pl ?_
 refine q_ hf rfl rfl rfl (e_assign hf rfl) fun a hf => ?_
 refine pl_nil ?_
 refine then_n ?_
 refine wp_ret ?_
 obtain rfl := some_inj h
 have hM := hM.outs (own' := []) 0 rfl
 exact leave1 hf rfl rfl ⟨rfl, hM.fin⟩

set_option maxRecDepth 100000 in
set_option maxHeartbeats 4000000 in
theorem r_laws_FnExactNumberOf (C : Cx) (aD1 : Dawg) (A2 : Option Addr) (c3 : Nat) (hp4 : (sliceRep NodeRep).R C.w0 C.S0 aD1.Nodes [vL A2 aD1.Nodes c3]) (aS5 : Str) (hp6 : aS5.length ≤ maxLen) (r : Bool) (h : m_laws_FnExactNumberOf aD1 aS5 = some r) :
    Calls Tryd.prog 11 #[.agg #[vL A2 (aD1.Nodes) c3], vS (aS5)] C.w0 fun e w => e = .returned (.bool (r)) ∧ Mem C w [] [] := by
 have hM := Mem.begin C [.dat (sliceRep NodeRep) aD1.Nodes [vL A2 aD1.Nodes c3]] ⟨hp4, trivial⟩
 refine enter Tryd.func11 rfl Tryd.ntmps11 rfl fun a hf => ?_
 unfold m_laws_FnExactNumberOf at h
 refine wp_seq ?_
 refine region_pl ?_
 refine pl_l hf rfl rfl rfl (w_box hf hM (cs := [vL A2 (aD1.Nodes) c3]) rfl rfl fun b7 w8 hx9 hM a hf => ?_)
 refine q_ hf rfl rfl rfl (e_assign hf rfl) fun a hf => ?_
 refine pl_nil ?_
 refine then_n ?_
 iterate 2 refine wp_seq ?_
 refine region_pl ?_
 refine q_ hf rfl rfl rfl (e_move hf rfl) fun a hf => ?_
 refine q_ hf rfl rfl rfl (e_lenS hf (x := aS5) rfl Tryd.underlying9) fun a hf => ?_
 refine q_ hf rfl rfl rfl (e_gt hf (x := (aS5.length : Int)) (y := 1048576) rfl rfl) fun a hf => ?_
 refine pl_nil ?_
 refine then_n ?_
 rcases cond_some h with ⟨hc11, h⟩ | ⟨hc11, h⟩
 ·refine cond_t hf rfl hc11 ?_
  refine wp_seq ?_
  refine region_pl ?_
  refine q_ hf rfl rfl rfl (e_assign hf rfl) fun a hf => ?_
  refine pl_nil ?_
  refine then_n ?_
  refine wp_ret ?_
  refine then_r ?_
  obtain rfl := some_inj h
  have hM := hM.outs (own' := []) 0 rfl
  exact leave1 hf rfl rfl ⟨rfl, hM.fin⟩
 refine cond_f hf rfl hc11 ?_
 refine wp_skip ?_
 refine then_n ?_
 refine wp_seq ?_
 refine region_pl ?_
 refine q_ hf rfl rfl rfl (e_assign hf rfl) fun a hf => ?_
 refine pl_nil ?_
 refine then_n ?_
 refine wp_seq ?_
 refine region_pl ?_
 refine q_ hf rfl rfl rfl (e_loadA hf (us := [vL A2 (aD1.Nodes) c3]) rfl ⟨Tryd.isAgg48, Tryd.sizeOf48⟩ rfl (hM.boxSub (k := 0) (us := [vL A2 (aD1.Nodes) c3]) (o := 0) rfl rfl)) fun a hf => ?_
 refine q_ hf rfl rfl rfl (e_move hf rfl) fun a hf => ?_
 obtain ⟨y12, hz13, h⟩ := bind_some h
 refine pl_l hf rfl rfl rfl (w_call hf Tryd.call23 rfl (r_laws_szDawg ⟨_, Sh C _ _, none_, hM.sh_lt, none_not, C.G, hM.g_lt, g_none, hM.tabs⟩ aD1 _ _ (hM.dat (k := 0) rfl) 1048576 (R64_lit rfl) _ hz13) ?_)
 rintro _ w15 ⟨rfl, hM2, hv14⟩
 obtain ⟨hM, hx16, hup17⟩ := hM.back hM2
 dsimp only [List.cons_append, List.nil_append] at hM hup17
 clear hM2
 refine ⟨_, rfl, fun a hf => ?_⟩
 refine q_ hf rfl rfl rfl (e_assign hf rfl) fun a hf => ?_
 refine pl_nil ?_
 refine then_n ?_
 iterate 2 refine wp_seq ?_
 refine region_pl ?_
 refine q_ hf rfl rfl rfl (e_move hf rfl) fun a hf => ?_
 refine q_ hf rfl rfl rfl (e_lt hf (x := y12) (y := 0) rfl rfl) fun a hf => ?_
 refine pl_nil ?_
 refine then_n ?_
 rcases cond_some h with ⟨hc18, h⟩ | ⟨hc18, h⟩
 ·refine cond_t hf rfl hc18 ?_
  refine wp_seq ?_
  refine region_pl ?_
  refine q_ hf rfl rfl rfl (e_assign hf rfl) fun a hf => ?_
  refine pl_nil ?_
  refine then_n ?_
  refine wp_ret ?_
  refine then_r ?_
  obtain rfl := some_inj h
  have hM := hM.outs (own' := []) 0 rfl
  exact leave1 hf rfl rfl ⟨rfl, hM.fin⟩
 refine cond_f hf rfl hc18 ?_
 refine wp_skip ?_
 refine then_n ?_
 refine wp_seq ?_
 refine region_pl ?_
 refine q_ hf rfl rfl rfl (e_loadA hf (us := [vL A2 (aD1.Nodes) c3]) rfl ⟨Tryd.isAgg48, Tryd.sizeOf48⟩ rfl (hM.boxSub (k := 0) (us := [vL A2 (aD1.Nodes) c3]) (o := 0) rfl rfl)) fun a hf => ?_
 obtain ⟨y19, hz20, h⟩ := bind_some h
 refine pl_l hf rfl rfl rfl (w_call hf Tryd.call25 rfl (r_laws_toDawg ⟨_, Sh C _ _, none_, hM.sh_lt, none_not, C.G, hM.g_lt, g_none, hM.tabs⟩ aD1 _ _ (hM.dat (k := 0) rfl) _ hz20) ?_)
 rintro _ w23 ⟨A21, c22, rfl, hM2⟩
 obtain ⟨hM, hx24, hup25⟩ := hM.back hM2
 dsimp only [List.cons_append, List.nil_append] at hM hup25
 clear hM2
 refine ⟨_, rfl, fun a hf => ?_⟩
 refine q_ hf rfl rfl rfl (e_move hf rfl) fun a hf => ?_
 obtain ⟨y26, hz27, h⟩ := bind_some h
 refine pl_l hf rfl rfl rfl (w_call hf Tryd.call40 rfl (r_spec_NumberOf ⟨_, All C _ _, none_, hM.all_lt, none_not, C.G, hM.g_lt, g_none, hM.tabs⟩ y19 _ _ (hM.lendRow (k := 0) rfl) aS5 hp6 _ hz27) ?_)
 rintro _ w30 ⟨rfl, hM2, hv28, hv29⟩
 obtain ⟨hM, hx31⟩ := hM.backA hM2
 clear hM2
 refine ⟨_, rfl, fun a hf => ?_⟩
 refine q_ hf rfl rfl rfl (e_move hf rfl) fun a hf => ?_
 iterate 2 refine q_ hf rfl rfl rfl (e_extract hf rfl rfl) fun a hf => ?_
 iterate 2 refine q_ hf rfl rfl rfl (e_assign hf rfl) fun a hf => ?_
 refine pl_nil ?_
 refine then_n ?_
 refine wp_seq ?_
 refine region_pl ?_
 refine q_ hf rfl rfl rfl (e_loadA hf (us := [vL A2 (aD1.Nodes) c3]) rfl ⟨Tryd.isAgg48, Tryd.sizeOf48⟩ rfl (hM.boxSub (k := 1) (us := [vL A2 (aD1.Nodes) c3]) (o := 0) rfl rfl)) fun a hf => ?_
 obtain ⟨y33, hz34, h⟩ := bind_some h
 refine pl_l hf rfl rfl rfl (w_call hf Tryd.call25 rfl (r_laws_toDawg ⟨_, Sh C _ _, none_, hM.sh_lt, none_not, C.G, hM.g_lt, g_none, hM.tabs⟩ aD1 _ _ (hM.dat (k := 0) rfl) _ hz34) ?_)
 rintro _ w37 ⟨A35, c36, rfl, hM2⟩
 obtain ⟨hM, hx38, hup39⟩ := hM.back hM2
 dsimp only [List.cons_append, List.nil_append] at hM hup39
 clear hM2
 refine ⟨_, rfl, fun a hf => ?_⟩
 refine pl_l hf rfl rfl rfl (w_alloc hM (cs := [vL none (([] : (List Node))) 0]) Tryd.zeroValue26 rfl fun b40 w41 hx42 hM a hf => ?_)
 refine pl_0 hf rfl rfl (w_store hf hM (us := [vL A35 (y33.Nodes) c36]) (cs' := [vL A35 (y33.Nodes) c36]) rfl rfl (k := 0) rfl rfl Tryd.sizeOf26 rfl rfl rfl fun w44 hM => ?_)
 dsimp only [List.set] at hM
 refine pl_nil ?_
 refine then_n ?_
 refine wp_seq ?_
 refine region_pl ?_
 refine q_ hf rfl rfl rfl (e_loadA hf (us := [vL A35 (y33.Nodes) c36]) rfl ⟨Tryd.isAgg26, Tryd.sizeOf26⟩ rfl (hM.boxSub (k := 0) (us := [vL A35 (y33.Nodes) c36]) (o := 0) rfl rfl)) fun a hf => ?_
 refine q_ hf rfl rfl rfl (e_move hf rfl) fun a hf => ?_
 obtain ⟨y47, hz48, h⟩ := bind_some h
 refine pl_l hf rfl rfl rfl (w_call hf Tryd.call16 rfl (r_impl_NumberOf ⟨_, All C _ _, none_, hM.all_lt, none_not, C.G, hM.g_lt, g_none, hM.tabs⟩ y33 _ _ (hM.lendRow (k := 1) rfl) aS5 hp6 _ hz48) ?_)
 rintro _ w51 ⟨rfl, hM2, hv49, hv50⟩
 obtain ⟨hM, hx52⟩ := hM.backA hM2
 clear hM2
 refine ⟨_, rfl, fun a hf => ?_⟩
 refine q_ hf rfl rfl rfl (e_move hf rfl) fun a hf => ?_
 iterate 2 refine q_ hf rfl rfl rfl (e_extract hf rfl rfl) fun a hf => ?_
 iterate 2 refine q_ hf rfl rfl rfl (e_assign hf rfl) fun a hf => ?_
 refine pl_nil ?_
 refine then_n ?_
 refine wp_seq ?_
 obtain ⟨x56, h57, h⟩ := bind_some h
 refine seq_join (fun a w => ∃ (t54 : Bool), t54 = x56 ∧ Has 47 a [(2, vP b7 (0)), (8, vP b40 (0)), (41, .bool (t54))] ∧ Mem C w [.box b40 [vL A35 (y33.Nodes) c36] 26, .row NodeRep A35 c36 76 y33.Nodes true, .row NodeRep A21 c22 76 y19.Nodes true, .box b7 [vL A2 (aD1.Nodes) c3] 48] [.dat (sliceRep NodeRep) aD1.Nodes [vL A2 aD1.Nodes c3]]) ?_ ?_
 ·refine region_pl ?_
  iterate 2 refine q_ hf rfl rfl rfl (e_move hf rfl) fun a hf => ?_
  refine q_ hf rfl rfl rfl (e_ne hf (x := y47.1) (y := y26.1) rfl rfl) fun a hf => ?_
  refine q_ hf rfl rfl rfl (e_move hf rfl) fun a hf => ?_
  rcases cond_some h57 with ⟨hc58, h57⟩ | ⟨hc58, h57⟩
  ·iterate 3 refine pl_gs (wanted_f hf rfl rfl rfl rfl hc58) hf rfl rfl fun a hf => ?_
   refine q_ hf rfl rfl rfl (e_pick_t hf rfl hc58 rfl) fun a hf => ?_
   refine pl_nil ?_
   obtain rfl := some_inj h57
   refine then_n ?_
   exact ⟨true, rfl, hf.keep ⟨rfl, rfl, rfl, trivial⟩, hM.pick [0] rfl⟩
  iterate 2 refine gq (wanted_t hf rfl rfl rfl rfl hc58) hf rfl rfl (e_move hf rfl) fun a hf => ?_
  refine gq (wanted_t hf rfl rfl rfl rfl hc58) hf rfl rfl (e_ne hf (x := y47.2) (y := y26.2) rfl rfl) fun a hf => ?_
  refine q_ hf rfl rfl rfl (e_pick_f hf rfl hc58 rfl) fun a hf => ?_
  refine pl_nil ?_
  obtain rfl := some_inj h57
  refine then_n ?_
  exact ⟨(y47.2 != y26.2), rfl, hf.keep ⟨rfl, rfl, rfl, trivial⟩, hM.pick [0] rfl⟩
 rintro a w61 ⟨t54, rfl, hf, hM⟩
 try dsimp only at h
 rcases cond_some h with ⟨hc62, h⟩ | ⟨hc62, h⟩
 ·refine cond_t hf rfl hc62 ?_
  refine wp_seq ?_
  refine region_pl ?_
  refine q_ hf rfl rfl rfl (e_assign hf rfl) fun a hf => ?_
  refine pl_nil ?_
  refine then_n ?_
  refine wp_ret ?_
  refine then_r ?_
  obtain rfl := some_inj h
  have hM := hM.outs (own' := []) 0 rfl
  exact leave1 hf rfl rfl ⟨rfl, hM.fin⟩
 refine cond_f hf rfl hc62 ?_
 refine wp_skip ?_
 refine then_n ?_
 iterate 2 refine wp_seq ?_
 obtain ⟨w63, hw⟩ : ∃ x, x = w61.drew := ⟨_, rfl⟩
 refine region_pi (.q 0 (.q 1 (.l 2 (.l 3 (.q 4 (.nil)))))) (Ext w63) rfl (by kernel_rfl) ?_
 have hM := hM.drew
 rw [← hw] at hM ⊢
 clear hw
 refine pi_q hf rfl rfl rfl rfl (Ext.refl _) (e_loadA hf (us := [vL A35 (y33.Nodes) c36]) rfl ⟨Tryd.isAgg26, Tryd.sizeOf26⟩ rfl (hM.boxSub (k := 0) (us := [vL A35 (y33.Nodes) c36]) (o := 0) rfl rfl)) fun a hf => ?_
 refine pi_q hf rfl rfl rfl rfl (Ext.refl _) (e_loadA hf (us := [vL A2 (aD1.Nodes) c3]) rfl ⟨Tryd.isAgg48, Tryd.sizeOf48⟩ rfl (hM.boxSub (k := 3) (us := [vL A2 (aD1.Nodes) c3]) (o := 0) rfl rfl)) fun a hf => ?_
 refine pi_one ?_
 obtain ⟨y64, hz65, h⟩ := bind_some h
 refine pi_l hf rfl rfl rfl rfl (w_call hf Tryd.call25 rfl (r_laws_toDawg ⟨_, Sh C _ _, none_, hM.sh_lt, none_not, C.G, hM.g_lt, g_none, hM.tabs⟩ aD1 _ _ (hM.dat (k := 0) rfl) _ hz65) ?_)
 rintro _ w68 ⟨A66, c67, rfl, hM2⟩
 obtain ⟨hM, hx69, hup70⟩ := hM.back hM2
 dsimp only [List.cons_append, List.nil_append] at hM hup70
 clear hM2
 refine ⟨_, rfl, Ext w68, fun _ h => Ext.trans hx69 h, Ext.refl _, fun a hf => ?_⟩
 refine pi_one ?_
 obtain ⟨y71, hz72, h⟩ := bind_some h
 refine pi_l hf rfl rfl rfl rfl (w_call hf Tryd.call27 rfl (r_laws_eqDawg ⟨_, All C _ _, none_, hM.all_lt, none_not, C.G, hM.g_lt, g_none, hM.tabs⟩ y33 _ _ (hM.lendRow (k := 2) rfl) y64 _ _ (hM.lendRow (k := 0) rfl) _ hz72) ?_)
 rintro _ w73 ⟨rfl, hM2⟩
 obtain ⟨hM, hx74⟩ := hM.backA hM2
 clear hM2
 refine ⟨_, rfl, Ext w73, fun _ h => Ext.trans hx74 h, Ext.refl _, fun a hf => ?_⟩
 refine pi_q hf rfl rfl rfl rfl (Ext.refl _) (e_not hf rfl) fun a hf => ?_
 refine pi_nil ?_
 refine then_n ?_
 rcases cond_some h with ⟨hc76, h⟩ | ⟨hc76, h⟩
 ·refine cond_t hf rfl hc76 ?_
  refine wp_seq ?_
  refine region_pl ?_
  refine q_ hf rfl rfl rfl (e_assign hf rfl) fun a hf => ?_
  refine pl_nil ?_
  refine then_n ?_
  refine wp_ret ?_
  refine then_r ?_
  obtain rfl := some_inj h
  have hM := hM.outs (own' := []) 0 rfl
  exact leave1 hf rfl rfl ⟨rfl, hM.fin⟩
 refine cond_f hf rfl hc76 ?_
 refine wp_skip ?_
 refine then_n ?_
 refine wp_seq ?_
 refine region_pl ?_
 refine q_ hf rfl rfl rfl (e_assign hf rfl) fun a hf => ?_
 refine pl_nil ?_
 refine then_n ?_
 refine wp_ret ?_
 obtain rfl := some_inj h
 have hM := hM.outs (own' := []) 0 rfl
 exact leave1 hf rfl rfl ⟨rfl, hM.fin⟩

end Go.Proofs.YtdaoecpkgobelaaDoor
