/- The functions that this law reaches do what their models say. Printed by gen.py. -/
import Derived.Test.YtdaoecpkgobelaaGreatDoorMod
import Derived.Test.YtdaoecpkgobelaaGreatDoorLib
import Derived.Test.YtdaoecpkgobelaaGreatDoorErrIs
import Derived.Test.YtdaoecpkgobelaaGreatDoorFnChangesRef
namespace Go.Proofs.YtdaoecpkgobelaaGreatDoor
open Go Go.RowKit
set_option linter.unusedSimpArgs false
set_option linter.unusedVariables false
set_option maxRecDepth 100000
set_option maxHeartbeats 4000000
theorem r_impl_keyOf (C : Cx) (n1 : Node) (hp2 : n1.Letters.length ≤ maxLen) (A3 : Option Addr) (c4 : Nat) (hp5 : (sliceRep intRep).R C.w0 C.S0 n1.Next [vL A3 n1.Next c4]) (r : Str) (h : m_impl_keyOf n1 = some r) :
    Calls Tryz.prog 43 #[.agg #[.bool (n1.Final), vS (n1.Letters), vL A3 (n1.Next) c4]] C.w0 fun e w => e = .returned (vS (r)) ∧ Mem C w [] [] ∧ r.length ≤ maxLen := by
 have hM := Mem.begin C [.dat (sliceRep intRep) n1.Next [vL A3 n1.Next c4]] ⟨hp5, trivial⟩
 refine enter Tryz.func43 rfl Tryz.ntmps43 rfl fun a hf => ?_
 unfold m_impl_keyOf at h
 refine wp_seq ?_
 refine region_pl ?_
 refine pl_l hf rfl rfl rfl (w_box hf hM (cs := [.bool (n1.Final), vS (n1.Letters), vL A3 (n1.Next) c4]) rfl rfl fun b6 w7 hx8 hM a hf => ?_)
 refine q_ hf rfl rfl rfl (e_assign hf rfl) fun a hf => ?_
 refine pl_nil ?_
 refine then_n ?_
 refine wp_seq ?_
 refine region_pl ?_
 refine pl_l hf rfl rfl rfl (w_alloc hM (cs := [.pointer none, vL none (([] : Str)) 0]) Tryz.zeroValue69 rfl fun b10 w11 hx12 hM a hf => ?_)
 have hM := hM.nilRow byteRep 5
 refine pl_nil ?_
 refine then_n ?_
 obtain ⟨x19, h20, h⟩ := bind_some h
 refine seq_join (fun a w => ∃ (xs16 : Str) (p14 : Value) (A17 : Option Addr) (c18 : Nat), xs16 = x19 ∧ Has 30 a [(1, vP b6 (0)), (3, vP b10 (0))] ∧ Mem C w [.row byteRep A17 c18 5 xs16 true, .box b10 [p14, vL A17 (xs16) c18] 69, .box b6 [.bool (n1.Final), vS (n1.Letters), vL A3 (n1.Next) c4] 47] [.dat (sliceRep intRep) n1.Next [vL A3 n1.Next c4]] ∧ AddrOk b10 p14) ?_ ?_
 ·refine wp_seq ?_
  refine region_pl ?_
  refine q_ hf rfl rfl rfl (e_field hf rfl Tryz.underlying47 rfl Tryz.sizeOf4 (o' := 0) rfl) fun a hf => ?_
  refine q_ hf rfl rfl rfl (e_load1 hf rfl Tryz.isAgg4 (hM.boxCell (k := 2) rfl rfl)) fun a hf => ?_
  refine pl_nil ?_
  refine then_n ?_
  rcases cond_some h20 with ⟨hc21, h20⟩ | ⟨hc21, h20⟩
  ·refine cond_t hf rfl hc21 ?_
   refine region_pl ?_
   have hM := hM.front (k := 0) rfl
   dsimp only [List.eraseIdx] at hM
   have hM := hM.front (k := 1) rfl
   dsimp only [List.eraseIdx] at hM
   have hM : Mem C _ ([.box b10 [.pointer none, vL none (([] : Str)) 0] 69, .row byteRep none 0 5 ([] : Str) true] ++ [.box b6 [.bool (n1.Final), vS (n1.Letters), vL A3 (n1.Next) c4] 47]) _ := hM
   obtain ⟨y22, hz23, h20⟩ := bind_some h20
   refine pl_l hf rfl rfl rfl (w_call hf Tryz.call35 rfl (r_strings_Builder_WriteByte ⟨_, Sh C _ _, ownB _, hM.sh_lt, sub_dis, C.G, hM.g_lt, hM.g_own, hM.tabs⟩ ([] : Str) _ _ (AddrOk.nil _) _ _ 43 hM.sub sub_dis _ hz23) ?_)
   rintro _ w28 ⟨p24, A26, c27, rfl, hM2, hv25⟩
   obtain ⟨hM, hup30⟩ := hM.backG hM2
   dsimp only [List.cons_append, List.nil_append] at hM hup30
   clear hM2
   refine ⟨_, rfl, fun a hf => ?_⟩
   refine pl_nil ?_
   obtain rfl := some_inj h20
   refine then_n ?_
   have hM := hM.front (k := 2) rfl
   dsimp only [List.eraseIdx] at hM
   have hM := hM.front (k := 1) rfl
   dsimp only [List.eraseIdx] at hM
   have hM := hM.front (k := 2) rfl
   dsimp only [List.eraseIdx] at hM
   exact ⟨y22.2, p24, A26, c27, rfl, hf.keep ⟨rfl, rfl, trivial⟩, hM.pick [0] rfl, hv25⟩
  refine cond_f hf rfl hc21 ?_
  refine wp_skip ?_
  obtain rfl := some_inj h20
  refine then_n ?_
  exact ⟨([] : Str), (.pointer none), none, 0, rfl, hf.keep ⟨rfl, rfl, trivial⟩, hM.pick [0] rfl, (AddrOk.nil _)⟩
 rintro a w33 ⟨xs16, p14, A17, c18, rfl, hf, hM, hv15⟩
 try dsimp only at h
 obtain ⟨x39, h40, h⟩ := bind_some h
 refine seq_join (fun a w => ∃ (xs36 : Str) (p34 : Value) (A37 : Option Addr) (c38 : Nat), xs36 = x39 ∧ Has 30 a [(3, vP b10 (0))] ∧ Mem C w [.row byteRep A37 c38 5 xs36 true, .box b10 [p34, vL A37 (xs36) c38] 69, .box b6 [.bool (n1.Final), vS (n1.Letters), vL A3 (n1.Next) c4] 47] [.dat (sliceRep intRep) n1.Next [vL A3 n1.Next c4]] ∧ AddrOk b10 p34) ?_ ?_
 ·refine wp_seq ?_
  refine region_pl ?_
  refine q_ hf rfl rfl rfl (e_field hf rfl Tryz.underlying47 rfl Tryz.sizeOf45 (o' := 2) rfl) fun a hf => ?_
  refine q_ hf rfl rfl rfl (e_load1 hf rfl Tryz.isAgg45 (hM.boxCell (k := 2) rfl rfl)) fun a hf => ?_
  have hl41 := slice_len (hM.dat (k := 0) rfl)
  refine q_ hf rfl rfl rfl (e_lenL hf (x := n1.Next) rfl Tryz.underlying45) fun a hf => ?_
  refine q_ hf rfl rfl rfl (e_move hf rfl) fun a hf => ?_
  refine pl_nil ?_
  refine then_n ?_
  refine wp_block ?_
  obtain ⟨x55, h56, h40⟩ := bind_some h40
  refine wp_loopM h56 (fun s a w => ∃ (xs44 : Str) (n47 : Int) (p42 : Value) (A45 : Option Addr) (c46 : Nat), (xs44, n47) = s ∧ Has 30 a [(1, vP b6 (0)), (3, vP b10 (0)), (10, vL A3 (n1.Next) c4), (11, vI ((n1.Next.length : Int))), (12, vI (n47))] ∧ Mem C w [.row byteRep A45 c46 5 xs44 true, .box b10 [p42, vL A45 (xs44) c46] 69, .box b6 [.bool (n1.Final), vS (n1.Letters), vL A3 (n1.Next) c4] 47] [.dat (sliceRep intRep) n1.Next [vL A3 n1.Next c4]] ∧ AddrOk b10 p42 ∧ R64 n47) ?_ ?_
  ·exact ⟨xs16, 0, p14, A17, c18, rfl, hf.keep ⟨rfl, rfl, rfl, rfl, rfl, trivial⟩, hM.pick [0] rfl, hv15, (R64_lit rfl)⟩
  rintro s o57 a w49 ⟨xs44, n47, p42, A45, c46, rfl, hf, hM, hv43, hv48⟩ h58 hd59
  replace h58 : m_impl_keyOf_l1 n1 xs44 n47 = some o57 := h58
  unfold m_impl_keyOf_l1 at h58
  refine wp_seq ?_
  refine region_pl ?_
  refine q_ hf rfl rfl rfl (e_lt hf (x := n47) (y := (n1.Next.length : Int)) rfl rfl) fun a hf => ?_
  refine pl_nil ?_
  refine then_n ?_
  refine wp_seq ?_
  rcases cond_some h58 with ⟨hc60, h58⟩ | ⟨hc60, h58⟩
  ·refine cond_t hf rfl hc60 ?_
   refine wp_skip ?_
   refine then_n ?_
   refine wp_seq ?_
   refine wp_block ?_
   refine wp_seq ?_
   refine region_pl ?_
   refine q_ hf rfl rfl rfl (e_move hf rfl) fun a hf => ?_
   obtain ⟨e61, hz62, h58⟩ := bind_some h58
   obtain ⟨b66, o67, _, hA68, h63, h64, hr65, hM⟩ := hM.elem (hM.dat (k := 0) rfl) (n := 1) rfl hz62
   obtain ⟨rfl, hv69⟩ := hr65
   refine q_ hf rfl rfl rfl (e_indexAddr (A := A3) (b := b66) (o := o67) (xs := n1.Next) (i := n47) hf hA68 rfl rfl Tryz.underlying45 Tryz.sizeOf2 h63 h64) fun a hf => ?_
   refine q_ hf rfl rfl rfl (e_load1 hf rfl Tryz.isAgg2 (hM.litCell (k := 0) (j := 0) rfl rfl rfl)) fun a hf => ?_
   iterate 2 refine q_ hf rfl rfl rfl (e_assign hf rfl) fun a hf => ?_
   refine pl_nil ?_
   refine then_n ?_
   obtain ⟨w70, hw⟩ : ∃ x, x = w49.drew := ⟨_, rfl⟩
   refine region_pi (.q 0 (.q 1 (.q 2 (.q 3 (.q 4 (.q 5 (.q 6 (.l 7 (.q 8 (.q 9 (.l 10 (.nil)))))))))))) (Ext w70) rfl (by kernel_rfl) ?_
   have hM := hM.drew
   rw [← hw] at hM ⊢
   clear hw
   refine pi_q hf rfl rfl rfl rfl (Ext.refl _) (e_field hf rfl Tryz.underlying47 rfl Tryz.sizeOf9 (o' := 1) rfl) fun a hf => ?_
   refine pi_q hf rfl rfl rfl rfl (Ext.refl _) (e_load1 hf rfl Tryz.isAgg9 (hM.boxCell (k := 2) rfl rfl)) fun a hf => ?_
   iterate 2 refine pi_q hf rfl rfl rfl rfl (Ext.refl _) (e_move hf rfl) fun a hf => ?_
   obtain ⟨z71, hz72, h58⟩ := bind_some h58
   refine pi_q hf rfl rfl rfl rfl (Ext.refl _) (e_add hf rfl rfl hz72) fun a hf => ?_
   obtain ⟨s73, hz74, h58⟩ := bind_some h58
   refine pi_q hf rfl rfl rfl rfl (Ext.refl _) (e_subS hf (x := n1.Letters) rfl rfl rfl Tryz.underlying9 hz74) fun a hf => ?_
   refine pi_q hf rfl rfl rfl rfl (Ext.refl _) (e_move hf rfl) fun a hf => ?_
   refine pi_one ?_
   obtain ⟨y75, hz76, h58⟩ := bind_some h58
   refine pi_l hf rfl rfl rfl rfl (w_call hf Tryz.call37 rfl (r_impl_Decimal ⟨_, Sh C _ _, none_, hM.sh_lt, none_not, C.G, hM.g_lt, g_none, hM.tabs⟩ e61 hv69 _ hz76) ?_)
   rintro _ w78 ⟨rfl, hM2, hv77⟩
   obtain ⟨hM, hx79, hup80⟩ := hM.back hM2
   dsimp only [List.cons_append, List.nil_append] at hM hup80
   clear hM2
   refine ⟨_, rfl, Ext w78, fun _ h => Ext.trans hx79 h, Ext.refl _, fun a hf => ?_⟩
   obtain ⟨s81, hz82, h58⟩ := bind_some h58
   refine pi_q hf rfl rfl rfl rfl (Ext.refl _) (e_cat hf (x := s73) (y := y75) rfl rfl hz82) fun a hf => ?_
   obtain ⟨s83, hz84, h58⟩ := bind_some h58
   refine pi_q hf rfl rfl rfl rfl (Ext.refl _) (e_cat hf (x := s81) (y := ([32] : Str)) rfl rfl hz84) fun a hf => ?_
   refine pi_one ?_
   have hM := hM.front (k := 0) rfl
   dsimp only [List.eraseIdx] at hM
   have hM := hM.front (k := 1) rfl
   dsimp only [List.eraseIdx] at hM
   have hM : Mem C _ ([.box b10 [p42, vL A45 (xs44) c46] 69, .row byteRep A45 c46 5 xs44 true] ++ [.box b6 [.bool (n1.Final), vS (n1.Letters), vL A3 (n1.Next) c4] 47]) _ := hM
   obtain ⟨y85, hz86, h58⟩ := bind_some h58
   refine pi_z hf rfl rfl rfl rfl (by kernel_rfl) (w_call hf Tryz.call36 rfl (r_strings_Builder_WriteString ⟨_, Sh C _ _, ownB _, hM.sh_lt, sub_dis, C.G, hM.g_lt, hM.g_own, hM.tabs⟩ xs44 _ _ hv43 _ _ s83 (cat_len hz84) hM.sub sub_dis _ hz86) ?_)
   rintro _ w92 ⟨p87, A89, c90, rfl, hM2, hv88, hv91⟩
   obtain ⟨hM, hup94⟩ := hM.backG hM2
   dsimp only [List.cons_append, List.nil_append] at hM hup94
   clear hM2
   refine ⟨_, rfl, fun a hf => ?_⟩
   refine pi_nil ?_
   refine blk_n ?_
   refine then_n ?_
   refine region_pl ?_
   obtain ⟨z95, hz96, h58⟩ := bind_some h58
   refine q_ hf rfl rfl rfl (e_add hf rfl rfl hz96) fun a hf => ?_
   refine q_ hf rfl rfl rfl (e_move hf rfl) fun a hf => ?_
   refine pl_nil ?_
   obtain rfl := some_inj h58
   refine then_n ⟨_, rfl, ?_⟩
   have hM := hM.front (k := 2) rfl
   dsimp only [List.eraseIdx] at hM
   have hM := hM.front (k := 1) rfl
   dsimp only [List.eraseIdx] at hM
   have hM := hM.front (k := 2) rfl
   dsimp only [List.eraseIdx] at hM
   exact ⟨y85.2.2, z95, p87, A89, c90, rfl, hf.keep ⟨rfl, rfl, rfl, rfl, rfl, trivial⟩, hM.pick [1] rfl, hv88, (chk_R hz96)⟩
  refine cond_f hf rfl hc60 ?_
  refine wp_exit ?_
  refine then_x ?_
  obtain rfl := some_inj h58
  obtain rfl := hd59 _ rfl
  try dsimp only at h40
  refine then_x ?_
  refine exit_hit ?_
  obtain rfl := some_inj h40
  refine then_n ?_
  exact ⟨xs44, p42, A45, c46, rfl, hf.keep ⟨rfl, trivial⟩, hM.pick [0] rfl, hv43⟩
 rintro a w102 ⟨xs36, p34, A37, c38, rfl, hf, hM, hv35⟩
 try dsimp only at h
 refine wp_seq ?_
 refine region_pl ?_
 have hM := hM.front (k := 0) rfl
 dsimp only [List.eraseIdx] at hM
 have hM := hM.front (k := 1) rfl
 dsimp only [List.eraseIdx] at hM
 have hM : Mem C _ ([.box b10 [p34, vL A37 (xs36) c38] 69, .row byteRep A37 c38 5 xs36 true] ++ [.box b6 [.bool (n1.Final), vS (n1.Letters), vL A3 (n1.Next) c4] 47]) _ := hM
 obtain ⟨y103, hz104, h⟩ := bind_some h
 refine pl_l hf rfl rfl rfl (w_call hf Tryz.call38 rfl (r_strings_Builder_String ⟨_, Sh C _ _, ownB _, hM.sh_lt, sub_dis, C.G, hM.g_lt, hM.g_own, hM.tabs⟩ xs36 _ _ hv35 _ _ hM.sub sub_dis _ hz104) ?_)
 rintro _ w106 ⟨rfl, hM2, hv105⟩
 obtain ⟨hM, hup108⟩ := hM.backG hM2
 dsimp only [List.cons_append, List.nil_append] at hM hup108
 clear hM2
 refine ⟨_, rfl, fun a hf => ?_⟩
 refine q_ hf rfl rfl rfl (e_assign hf rfl) fun a hf => ?_
 refine pl_nil ?_
 refine then_n ?_
 refine wp_ret ?_
 obtain rfl := some_inj h
 have hM := hM.outs (own' := []) 0 rfl
 exact leave1 hf rfl rfl ⟨rfl, hM.fin, hv105⟩
theorem r_impl_ValidDawg (C : Cx) (d1 : Dawg) (A2 : Option Addr) (c3 : Nat) (hp4 : (sliceRep NodeRep).R C.w0 C.S0 d1.Nodes [vL A2 d1.Nodes c3]) (r : Bool) (h : m_impl_ValidDawg d1 = some r) :
    Calls Tryz.prog 16 #[.agg #[vL A2 (d1.Nodes) c3]] C.w0 fun e w => e = .returned (.bool (r)) ∧ Mem C w [] [] := by
 have hM := Mem.begin C [.dat (sliceRep NodeRep) d1.Nodes [vL A2 d1.Nodes c3]] ⟨hp4, trivial⟩
 refine enter Tryz.func16 rfl Tryz.ntmps16 rfl fun a hf => ?_
 unfold m_impl_ValidDawg at h
 refine wp_seq ?_
 refine region_pl ?_
 refine pl_l hf rfl rfl rfl (w_box hf hM (cs := [vL A2 (d1.Nodes) c3]) rfl rfl fun b5 w6 hx7 hM a hf => ?_)
 refine q_ hf rfl rfl rfl (e_assign hf rfl) fun a hf => ?_
 refine pl_nil ?_
 refine then_n ?_
 refine wp_seq ?_
 obtain ⟨x11, h12, h⟩ := bind_some h
 refine seq_join (fun a w => ∃ (t9 : Bool), t9 = x11 ∧ Has 76 a [(1, vP b5 (0)), (18, .bool (t9))] ∧ Mem C w [.box b5 [vL A2 (d1.Nodes) c3] 31] [.dat (sliceRep NodeRep) d1.Nodes [vL A2 d1.Nodes c3]]) ?_ ?_
 ·refine region_pl ?_
  refine q_ hf rfl rfl rfl (e_loadA hf (us := [vL A2 (d1.Nodes) c3]) rfl ⟨Tryz.isAgg31, Tryz.sizeOf31⟩ rfl (hM.boxSub (k := 0) (us := [vL A2 (d1.Nodes) c3]) (o := 0) rfl rfl)) fun a hf => ?_
  obtain ⟨y13, hz14, h12⟩ := bind_some h12
  refine pl_l hf rfl rfl rfl (w_call hf Tryz.call41 rfl (r_impl_nodesOk ⟨_, Sh C _ _, none_, hM.sh_lt, none_not, C.G, hM.g_lt, g_none, hM.tabs⟩ d1 _ _ (hM.dat (k := 0) rfl) _ hz14) ?_)
  rintro _ w15 ⟨rfl, hM2⟩
  obtain ⟨hM, hx16, hup17⟩ := hM.back hM2
  dsimp only [List.cons_append, List.nil_append] at hM hup17
  clear hM2
  refine ⟨_, rfl, fun a hf => ?_⟩
  refine q_ hf rfl rfl rfl (e_not hf rfl) fun a hf => ?_
  refine q_ hf rfl rfl rfl (e_move hf rfl) fun a hf => ?_
  rcases cond_some h12 with ⟨hc18, h12⟩ | ⟨hc18, h12⟩
  ·iterate 5 refine pl_gs (wanted_f hf rfl rfl rfl rfl hc18) hf rfl rfl fun a hf => ?_
   refine q_ hf rfl rfl rfl (e_pick_t hf rfl hc18 rfl) fun a hf => ?_
   refine pl_nil ?_
   obtain rfl := some_inj h12
   refine then_n ?_
   exact ⟨true, rfl, hf.keep ⟨rfl, rfl, trivial⟩, hM.pick [0] rfl⟩
  refine gq (wanted_t hf rfl rfl rfl rfl hc18) hf rfl rfl (e_field hf rfl Tryz.underlying31 rfl Tryz.sizeOf29 (o' := 0) rfl) fun a hf => ?_
  refine gq (wanted_t hf rfl rfl rfl rfl hc18) hf rfl rfl (e_load1 hf rfl Tryz.isAgg29 (hM.boxCell (k := 0) rfl rfl)) fun a hf => ?_
  obtain ⟨e20, hz21, h12⟩ := bind_some h12
  obtain ⟨b25, o26, _, hA27, h22, h23, hr24, hM⟩ := hM.elem (hM.dat (k := 0) rfl) (n := 3) rfl hz21
  obtain ⟨A29, c30, rfl, hv28, hv31⟩ := NodeRep_open hr24
  have hM := hM.add (y := .dat (sliceRep intRep) e20.Next [vL A29 e20.Next c30]) hv31
  refine gq (wanted_t hf rfl rfl rfl rfl hc18) hf rfl rfl (e_indexAddr (A := A2) (b := b25) (o := o26) (xs := d1.Nodes) (i := 0) hf hA27 rfl rfl Tryz.underlying29 Tryz.sizeOf47 h22 h23) fun a hf => ?_
  refine gq (wanted_t hf rfl rfl rfl rfl hc18) hf rfl rfl (e_field hf rfl Tryz.underlying47 rfl Tryz.sizeOf4 (o' := (o26 + (0 : Int).toNat * 3) + 0) rfl) fun a hf => ?_
  refine gq (wanted_t hf rfl rfl rfl rfl hc18) hf rfl rfl (e_load1 hf rfl Tryz.isAgg4 (hM.litCell (k := 1) (j := 0) rfl rfl rfl)) fun a hf => ?_
  refine q_ hf rfl rfl rfl (e_pick_f hf rfl hc18 rfl) fun a hf => ?_
  refine pl_nil ?_
  obtain rfl := some_inj h12
  refine then_n ?_
  exact ⟨e20.Final, rfl, hf.keep ⟨rfl, rfl, trivial⟩, hM.pick [2] rfl⟩
 rintro a w33 ⟨t9, rfl, hf, hM⟩
 try dsimp only at h
 rcases cond_some h with ⟨hc34, h⟩ | ⟨hc34, h⟩
 ·refine cond_t hf rfl hc34 ?_
  refine wp_seq ?_
  refine region_pl ?_
  refine q_ hf rfl rfl rfl (e_assign hf rfl) fun a hf => ?_
  refine pl_nil ?_
  refine then_n ?_
  refine wp_ret ?_
  refine then_r ?_
  obtain rfl := some_inj h
  have hM := hM.outs (own' := []) 0 rfl
  exact leave1 hf rfl rfl ⟨rfl, hM.fin⟩
 refine cond_f hf rfl hc34 ?_
 refine wp_skip ?_
 refine then_n ?_
 refine wp_seq ?_
 refine region_pl ?_
 refine q_ hf rfl rfl rfl (e_field hf rfl Tryz.underlying31 rfl Tryz.sizeOf29 (o' := 0) rfl) fun a hf => ?_
 refine q_ hf rfl rfl rfl (e_load1 hf rfl Tryz.isAgg29 (hM.boxCell (k := 0) rfl rfl)) fun a hf => ?_
 have hl35 := slice_len (hM.dat (k := 0) rfl)
 refine q_ hf rfl rfl rfl (e_lenL hf (x := d1.Nodes) rfl Tryz.underlying29) fun a hf => ?_
 refine q_ hf rfl rfl rfl (e_assign hf rfl) fun a hf => ?_
 refine pl_nil ?_
 refine then_n ?_
 refine wp_seq ?_
 obtain ⟨w36, hw⟩ : ∃ x, x = w33.drew := ⟨_, rfl⟩
 refine region_pi (.q 0 (.q 1 (.q 3 (.q 5 (.c 2 4 6 (.b 4 6 (.l 6 (.q 7 (.l 8 (.q 9 (.nil))))) (.l 4 (.q 7 (.l 8 (.q 9 (.nil)))))) (.b 2 6 (.l 6 (.q 7 (.l 8 (.q 9 (.nil))))) (.l 2 (.q 7 (.l 8 (.q 9 (.nil)))))) (.b 2 4 (.l 4 (.q 7 (.l 8 (.q 9 (.nil))))) (.l 2 (.q 7 (.l 8 (.q 9 (.nil))))))))))) (Ext w36) rfl (by kernel_rfl) ?_
 have hM := hM.drew
 rw [← hw] at hM ⊢
 clear hw
 refine pi_q hf rfl rfl rfl rfl (Ext.refl _) (e_loadA hf (us := [vL A2 (d1.Nodes) c3]) rfl ⟨Tryz.isAgg31, Tryz.sizeOf31⟩ rfl (hM.boxSub (k := 0) (us := [vL A2 (d1.Nodes) c3]) (o := 0) rfl rfl)) fun a hf => ?_
 iterate 3 refine pi_q hf rfl rfl rfl rfl (Ext.refl _) (e_move hf rfl) fun a hf => ?_
 obtain ⟨xs37, hz38, h⟩ := bind_some h
 obtain ⟨xs42, hz43, h⟩ := bind_some h
 obtain ⟨xs47, hz48, h⟩ := bind_some h
 refine pi_three ?_ ?_ ?_
 ·refine pi_l hf rfl rfl rfl rfl (w_make hf hM (K := boolRep) Tryz.underlying80 ei_4 Tryz.zeroValue4 rfl rfl rfl rfl hz38 fun b52 w53 hx54 hM => ⟨Ext w53, fun _ h => Ext.trans hx54 h, Ext.refl _, fun a hf => ?_⟩)
  refine pi_two ?_ ?_
  ·refine pi_l hf rfl rfl rfl rfl (w_make hf hM (K := intRep) Tryz.underlying45 ei_2 Tryz.zeroValue2 rfl rfl rfl ⟨rfl, (R64_lit rfl)⟩ hz43 fun b55 w56 hx57 hM => ⟨Ext w56, fun _ h => Ext.trans hx57 h, Ext.refl _, fun a hf => ?_⟩)
   refine pi_one ?_
   refine pi_l hf rfl rfl rfl rfl (w_make hf hM (K := intRep) Tryz.underlying81 ei_3 Tryz.zeroValue3 rfl rfl rfl ⟨rfl, (R64_lit rfl)⟩ hz48 fun b58 w59 hx60 hM => ⟨Ext w59, fun _ h => Ext.trans hx60 h, Ext.refl _, fun a hf => ?_⟩)
   refine pi_q hf rfl rfl rfl rfl (Ext.refl _) (e_build hf Tryz.zeroValue83 Tryz.underlying83 (bp_83 _ Tryz.underlying83.symm) rfl (cs := #[vL A2 (d1.Nodes) c3, vI (0), vL (some ⟨b52, 0, none⟩) (xs37) (((d1.Nodes.length : Int) : Int).toNat), vL (some ⟨b55, 0, none⟩) (xs42) (((d1.Nodes.length : Int) : Int).toNat), vL (some ⟨b58, 0, none⟩) (xs47) (((d1.Nodes.length : Int) : Int).toNat)]) (by kernel_rfl)) fun a hf => ?_
   refine pi_one ?_
   refine pi_l hf rfl rfl rfl rfl (w_box hf hM (cs := [vL A2 (d1.Nodes) c3, vI (0), vL (some ⟨b52, 0, none⟩) (xs37) (((d1.Nodes.length : Int) : Int).toNat), vL (some ⟨b55, 0, none⟩) (xs42) (((d1.Nodes.length : Int) : Int).toNat), vL (some ⟨b58, 0, none⟩) (xs47) (((d1.Nodes.length : Int) : Int).toNat)]) rfl rfl fun b61 w62 hx63 hM => ⟨Ext w62, fun _ h => Ext.trans hx63 h, Ext.refl _, fun a hf => ?_⟩)
   refine pi_q hf rfl rfl rfl rfl (Ext.refl _) (e_assign hf rfl) fun a hf => ?_
   refine pi_nil ?_
   refine then_n ?_
   refine wp_seq ?_
   obtain ⟨x78, h79, h⟩ := bind_some h
   refine seq_join (fun a w => ∃ (n65 : Int) (xs67 : (List Bool)) (xs70 : (List Int)) (xs73 : (List Int)) (t76 : Bool) (A68 : Option Addr) (c69 : Nat) (A71 : Option Addr) (c72 : Nat) (A74 : Option Addr) (c75 : Nat), (n65, xs67, xs70, xs73, t76) = x78 ∧ Has 76 a [(1, vP b5 (0)), (59, .bool (t76))] ∧ Mem C w [.box b61 [vL A2 (d1.Nodes) c3, vI (n65), vL A68 (xs67) c69, vL A71 (xs70) c72, vL A74 (xs73) c75] 83, .row intRep A74 c75 3 xs73 true, .row intRep A71 c72 2 xs70 true, .row boolRep A68 c69 4 xs67 true, .box b5 [vL A2 (d1.Nodes) c3] 31] [.dat (sliceRep NodeRep) d1.Nodes [vL A2 d1.Nodes c3]] ∧ R64 n65) ?_ ?_
   ·refine region_pl ?_
    refine q_ hf rfl rfl rfl (e_move hf rfl) fun a hf => ?_
    have hM := hM.front (k := 1) rfl
    dsimp only [List.eraseIdx] at hM
    have hM := hM.front (k := 2) rfl
    dsimp only [List.eraseIdx] at hM
    have hM := hM.front (k := 3) rfl
    dsimp only [List.eraseIdx] at hM
    have hM := hM.front (k := 3) rfl
    dsimp only [List.eraseIdx] at hM
    have hM : Mem C _ ([.box b61 [vL A2 (d1.Nodes) c3, vI (0), vL (some ⟨b52, 0, none⟩) (xs37) (((d1.Nodes.length : Int) : Int).toNat), vL (some ⟨b55, 0, none⟩) (xs42) (((d1.Nodes.length : Int) : Int).toNat), vL (some ⟨b58, 0, none⟩) (xs47) (((d1.Nodes.length : Int) : Int).toNat)] 83, .row boolRep (some ⟨b52, 0, none⟩) (((d1.Nodes.length : Int) : Int).toNat) 4 xs37 true, .row intRep (some ⟨b55, 0, none⟩) (((d1.Nodes.length : Int) : Int).toNat) 2 xs42 true, .row intRep (some ⟨b58, 0, none⟩) (((d1.Nodes.length : Int) : Int).toNat) 3 xs47 true] ++ [.box b5 [vL A2 (d1.Nodes) c3] 31]) _ := hM
    obtain ⟨y80, hz81, h79⟩ := bind_some h79
    refine pl_l hf rfl rfl rfl (w_call hf Tryz.call42 rfl (r_impl_inspector_visit ⟨_, Sh C _ _, ownB _, hM.sh_lt, sub_dis, C.G, hM.g_lt, hM.g_own, hM.tabs⟩ (⟨⟨d1.Nodes⟩, 0, xs37, xs42, xs47⟩ : inspector) _ _ _ (hM.dat (k := 0) rfl) (R64_lit rfl) _ _ _ _ _ _ 0 (R64_lit rfl) hM.sub sub_dis _ hz81) ?_)
    rintro _ w89 ⟨A83, c84, A85, c86, A87, c88, rfl, hM2, hv82⟩
    obtain ⟨hM, hup91⟩ := hM.backG hM2
    dsimp only [List.cons_append, List.nil_append] at hM hup91
    clear hM2
    refine ⟨_, rfl, fun a hf => ?_⟩
    refine q_ hf rfl rfl rfl (e_not hf rfl) fun a hf => ?_
    refine q_ hf rfl rfl rfl (e_move hf rfl) fun a hf => ?_
    rcases cond_some h79 with ⟨hc92, h79⟩ | ⟨hc92, h79⟩
    ·iterate 6 refine pl_gs (wanted_f hf rfl rfl rfl rfl hc92) hf rfl rfl fun a hf => ?_
     refine q_ hf rfl rfl rfl (e_pick_t hf rfl hc92 rfl) fun a hf => ?_
     refine q_ hf rfl rfl rfl (e_move hf rfl) fun a hf => ?_
     iterate 7 refine pl_gs (wanted_f hf rfl rfl rfl rfl rfl) hf rfl rfl fun a hf => ?_
     refine q_ hf rfl rfl rfl (e_pick_t hf rfl rfl rfl) fun a hf => ?_
     refine q_ hf rfl rfl rfl (e_move hf rfl) fun a hf => ?_
     iterate 7 refine pl_gs (wanted_f hf rfl rfl rfl rfl rfl) hf rfl rfl fun a hf => ?_
     refine q_ hf rfl rfl rfl (e_pick_t hf rfl rfl rfl) fun a hf => ?_
     refine pl_nil ?_
     obtain rfl := some_inj h79
     refine then_n ?_
     have hM := hM.front (k := 4) rfl
     dsimp only [List.eraseIdx] at hM
     have hM := hM.front (k := 2) rfl
     dsimp only [List.eraseIdx] at hM
     have hM := hM.front (k := 3) rfl
     dsimp only [List.eraseIdx] at hM
     have hM := hM.front (k := 4) rfl
     dsimp only [List.eraseIdx] at hM
     have hM := hM.front (k := 4) rfl
     dsimp only [List.eraseIdx] at hM
     exact ⟨y80.2.met, y80.2.open_, y80.2.strings, y80.2.longest, true, A83, c84, A85, c86, A87, c88, rfl, hf.keep ⟨rfl, rfl, trivial⟩, hM.pick [0] rfl, hv82⟩
    refine gq (wanted_t hf rfl rfl rfl rfl hc92) hf rfl rfl (e_move hf rfl) fun a hf => ?_
    refine gq (wanted_t hf rfl rfl rfl rfl hc92) hf rfl rfl (e_nil hf rfl) fun a hf => ?_
    refine gq (wanted_t hf rfl rfl rfl rfl hc92) hf rfl rfl (e_field hf rfl Tryz.underlying83 rfl Tryz.sizeOf2 (o' := 1) rfl) fun a hf => ?_
    refine gq (wanted_t hf rfl rfl rfl rfl hc92) hf rfl rfl (e_load1 hf rfl Tryz.isAgg2 (hM.boxCell (k := 0) rfl rfl)) fun a hf => ?_
    refine gq (wanted_t hf rfl rfl rfl rfl hc92) hf rfl rfl (e_move hf rfl) fun a hf => ?_
    refine gq (wanted_t hf rfl rfl rfl rfl hc92) hf rfl rfl (e_ne hf (x := y80.2.met) (y := (d1.Nodes.length : Int)) rfl rfl) fun a hf => ?_
    refine q_ hf rfl rfl rfl (e_pick_f hf rfl hc92 rfl) fun a hf => ?_
    refine q_ hf rfl rfl rfl (e_move hf rfl) fun a hf => ?_
    rcases cond_some h79 with ⟨hc94, h79⟩ | ⟨hc94, h79⟩
    ·iterate 7 refine pl_gs (wanted_f hf rfl rfl rfl rfl hc94) hf rfl rfl fun a hf => ?_
     refine q_ hf rfl rfl rfl (e_pick_t hf rfl hc94 rfl) fun a hf => ?_
     refine q_ hf rfl rfl rfl (e_move hf rfl) fun a hf => ?_
     iterate 7 refine pl_gs (wanted_f hf rfl rfl rfl rfl rfl) hf rfl rfl fun a hf => ?_
     refine q_ hf rfl rfl rfl (e_pick_t hf rfl rfl rfl) fun a hf => ?_
     refine pl_nil ?_
     obtain rfl := some_inj h79
     refine then_n ?_
     have hM := hM.front (k := 4) rfl
     dsimp only [List.eraseIdx] at hM
     have hM := hM.front (k := 2) rfl
     dsimp only [List.eraseIdx] at hM
     have hM := hM.front (k := 3) rfl
     dsimp only [List.eraseIdx] at hM
     have hM := hM.front (k := 4) rfl
     dsimp only [List.eraseIdx] at hM
     have hM := hM.front (k := 4) rfl
     dsimp only [List.eraseIdx] at hM
     exact ⟨y80.2.met, y80.2.open_, y80.2.strings, y80.2.longest, true, A83, c84, A85, c86, A87, c88, rfl, hf.keep ⟨rfl, rfl, trivial⟩, hM.pick [0] rfl, hv82⟩
    refine gq (wanted_t hf rfl rfl rfl rfl hc94) hf rfl rfl (e_move hf rfl) fun a hf => ?_
    refine gq (wanted_t hf rfl rfl rfl rfl hc94) hf rfl rfl (e_nil hf rfl) fun a hf => ?_
    refine gq (wanted_t hf rfl rfl rfl rfl hc94) hf rfl rfl (e_field hf rfl Tryz.underlying83 rfl Tryz.sizeOf45 (o' := 3) rfl) fun a hf => ?_
    refine gq (wanted_t hf rfl rfl rfl rfl hc94) hf rfl rfl (e_load1 hf rfl Tryz.isAgg45 (hM.boxCell (k := 0) rfl rfl)) fun a hf => ?_
    obtain ⟨e96, hz97, h79⟩ := bind_some h79
    obtain ⟨b102, _, hA103, h98, h99, hr100, hcell101⟩ := hM.rowElemN (k := 2) rfl (n := 1) rfl hz97
    obtain ⟨rfl, hv104⟩ := hr100
    refine gq (wanted_t hf rfl rfl rfl rfl hc94) hf rfl rfl (e_indexAddr (A := A85) (b := b102) (o := 0) (xs := y80.2.strings) (i := 0) hf hA103 rfl rfl Tryz.underlying45 Tryz.sizeOf2 h98 h99) fun a hf => ?_
    refine gq (wanted_t hf rfl rfl rfl rfl hc94) hf rfl rfl (e_load1 hf rfl Tryz.isAgg2 (hcell101 0 _ rfl)) fun a hf => ?_
    refine gq (wanted_t hf rfl rfl rfl rfl hc94) hf rfl rfl (e_gt hf (x := e96) (y := 3000) rfl rfl) fun a hf => ?_
    refine q_ hf rfl rfl rfl (e_pick_f hf rfl hc94 rfl) fun a hf => ?_
    refine q_ hf rfl rfl rfl (e_move hf rfl) fun a hf => ?_
    rcases cond_some h79 with ⟨hc105, h79⟩ | ⟨hc105, h79⟩
    ·iterate 7 refine pl_gs (wanted_f hf rfl rfl rfl rfl hc105) hf rfl rfl fun a hf => ?_
     refine q_ hf rfl rfl rfl (e_pick_t hf rfl hc105 rfl) fun a hf => ?_
     refine pl_nil ?_
     obtain rfl := some_inj h79
     refine then_n ?_
     have hM := hM.front (k := 4) rfl
     dsimp only [List.eraseIdx] at hM
     have hM := hM.front (k := 2) rfl
     dsimp only [List.eraseIdx] at hM
     have hM := hM.front (k := 3) rfl
     dsimp only [List.eraseIdx] at hM
     have hM := hM.front (k := 4) rfl
     dsimp only [List.eraseIdx] at hM
     have hM := hM.front (k := 4) rfl
     dsimp only [List.eraseIdx] at hM
     exact ⟨y80.2.met, y80.2.open_, y80.2.strings, y80.2.longest, true, A83, c84, A85, c86, A87, c88, rfl, hf.keep ⟨rfl, rfl, trivial⟩, hM.pick [0] rfl, hv82⟩
    refine gq (wanted_t hf rfl rfl rfl rfl hc105) hf rfl rfl (e_move hf rfl) fun a hf => ?_
    refine gq (wanted_t hf rfl rfl rfl rfl hc105) hf rfl rfl (e_nil hf rfl) fun a hf => ?_
    refine gq (wanted_t hf rfl rfl rfl rfl hc105) hf rfl rfl (e_field hf rfl Tryz.underlying83 rfl Tryz.sizeOf81 (o' := 4) rfl) fun a hf => ?_
    refine gq (wanted_t hf rfl rfl rfl rfl hc105) hf rfl rfl (e_load1 hf rfl Tryz.isAgg81 (hM.boxCell (k := 0) rfl rfl)) fun a hf => ?_
    obtain ⟨e107, hz108, h79⟩ := bind_some h79
    obtain ⟨b113, _, hA114, h109, h110, hr111, hcell112⟩ := hM.rowElemN (k := 3) rfl (n := 1) rfl hz108
    obtain ⟨rfl, hv115⟩ := hr111
    refine gq (wanted_t hf rfl rfl rfl rfl hc105) hf rfl rfl (e_indexAddr (A := A87) (b := b113) (o := 0) (xs := y80.2.longest) (i := 0) hf hA114 rfl rfl Tryz.underlying81 Tryz.sizeOf3 h109 h110) fun a hf => ?_
    refine gq (wanted_t hf rfl rfl rfl rfl hc105) hf rfl rfl (e_load1 hf rfl Tryz.isAgg3 (hcell112 0 _ rfl)) fun a hf => ?_
    refine gq (wanted_t hf rfl rfl rfl rfl hc105) hf rfl rfl (e_gt hf (x := e107) (y := 13) rfl rfl) fun a hf => ?_
    refine q_ hf rfl rfl rfl (e_pick_f hf rfl hc105 rfl) fun a hf => ?_
    refine pl_nil ?_
    obtain rfl := some_inj h79
    refine then_n ?_
    have hM := hM.front (k := 4) rfl
    dsimp only [List.eraseIdx] at hM
    have hM := hM.front (k := 2) rfl
    dsimp only [List.eraseIdx] at hM
    have hM := hM.front (k := 3) rfl
    dsimp only [List.eraseIdx] at hM
    have hM := hM.front (k := 4) rfl
    dsimp only [List.eraseIdx] at hM
    have hM := hM.front (k := 4) rfl
    dsimp only [List.eraseIdx] at hM
    exact ⟨y80.2.met, y80.2.open_, y80.2.strings, y80.2.longest, (decide (13 < e107)), A83, c84, A85, c86, A87, c88, rfl, hf.keep ⟨rfl, rfl, trivial⟩, hM.pick [0] rfl, hv82⟩
   rintro a w117 ⟨n65, xs67, xs70, xs73, t76, A68, c69, A71, c72, A74, c75, rfl, hf, hM, hv66⟩
   try dsimp only at h
   rcases cond_some h with ⟨hc118, h⟩ | ⟨hc118, h⟩
   ·refine cond_t hf rfl hc118 ?_
    refine wp_seq ?_
    refine region_pl ?_
    refine q_ hf rfl rfl rfl (e_assign hf rfl) fun a hf => ?_
    refine pl_nil ?_
    refine then_n ?_
    refine wp_ret ?_
    refine then_r ?_
    obtain rfl := some_inj h
    have hM := hM.outs (own' := []) 0 rfl
    exact leave1 hf rfl rfl ⟨rfl, hM.fin⟩
   refine cond_f hf rfl hc118 ?_
   refine wp_skip ?_
   refine then_n ?_
   refine wp_seq ?_
   refine region_pl ?_
   refine pl_l hf rfl rfl rfl (w_makeMap fS fT hM fun b119 w120 hx121 hM a hf => ?_)
   refine q_ hf rfl rfl rfl (e_assign hf rfl) fun a hf => ?_
   refine pl_nil ?_
   refine then_n ?_
   obtain ⟨x124, h125, h⟩ := bind_some h
   refine seq_join (fun a w => ∃ (mp122 : (List (Str × Bool))) (b123 : Nat), (.inl mp122) = x124 ∧ Has 76 a [] ∧ Mem C w [.obj b123 (mapO fS fT mp122), .box b61 [vL A2 (d1.Nodes) c3, vI (n65), vL A68 (xs67) c69, vL A71 (xs70) c72, vL A74 (xs73) c75] 83, .row intRep A74 c75 3 xs73 true, .row intRep A71 c72 2 xs70 true, .row boolRep A68 c69 4 xs67 true, .box b5 [vL A2 (d1.Nodes) c3] 31] [.dat (sliceRep NodeRep) d1.Nodes [vL A2 d1.Nodes c3]]) ?_ ?_
   ·refine wp_seq ?_
    refine region_pl ?_
    refine q_ hf rfl rfl rfl (e_field hf rfl Tryz.underlying31 rfl Tryz.sizeOf29 (o' := 0) rfl) fun a hf => ?_
    refine q_ hf rfl rfl rfl (e_load1 hf rfl Tryz.isAgg29 (hM.boxCell (k := 5) rfl rfl)) fun a hf => ?_
    have hl126 := slice_len (hM.dat (k := 0) rfl)
    refine q_ hf rfl rfl rfl (e_lenL hf (x := d1.Nodes) rfl Tryz.underlying29) fun a hf => ?_
    refine q_ hf rfl rfl rfl (e_move hf rfl) fun a hf => ?_
    refine pl_nil ?_
    refine then_n ?_
    refine wp_block ?_
    obtain ⟨x134, h135, h125⟩ := bind_some h125
    refine wp_loopM h135 (fun s a w => ∃ (mp127 : (List (Str × Bool))) (n129 : Int) (b128 : Nat), (mp127, n129) = s ∧ Has 76 a [(5, vM b128), (62, vL A2 (d1.Nodes) c3), (63, vI ((d1.Nodes.length : Int))), (64, vI (n129))] ∧ Mem C w [.obj b128 (mapO fS fT mp127), .box b61 [vL A2 (d1.Nodes) c3, vI (n65), vL A68 (xs67) c69, vL A71 (xs70) c72, vL A74 (xs73) c75] 83, .row intRep A74 c75 3 xs73 true, .row intRep A71 c72 2 xs70 true, .row boolRep A68 c69 4 xs67 true, .box b5 [vL A2 (d1.Nodes) c3] 31] [.dat (sliceRep NodeRep) d1.Nodes [vL A2 d1.Nodes c3]] ∧ R64 n129) ?_ ?_
    ·exact ⟨([] : (List (Str × Bool))), 0, b119, rfl, hf.keep ⟨rfl, rfl, rfl, rfl, trivial⟩, hM.pick [0] rfl, (R64_lit rfl)⟩
    rintro s o136 a w131 ⟨mp127, n129, b128, rfl, hf, hM, hv130⟩ h137 hd138
    replace h137 : m_impl_ValidDawg_l1 d1 mp127 n129 = some o136 := h137
    unfold m_impl_ValidDawg_l1 at h137
    refine wp_seq ?_
    refine region_pl ?_
    refine q_ hf rfl rfl rfl (e_lt hf (x := n129) (y := (d1.Nodes.length : Int)) rfl rfl) fun a hf => ?_
    refine pl_nil ?_
    refine then_n ?_
    refine wp_seq ?_
    rcases cond_some h137 with ⟨hc139, h137⟩ | ⟨hc139, h137⟩
    ·refine cond_t hf rfl hc139 ?_
     refine wp_skip ?_
     refine then_n ?_
     refine wp_seq ?_
     refine wp_block ?_
     refine wp_seq ?_
     refine region_pl ?_
     obtain ⟨e140, hz141, h137⟩ := bind_some h137
     obtain ⟨b145, o146, _, hA147, h142, h143, hr144, hM⟩ := hM.elem (hM.dat (k := 0) rfl) (n := 3) rfl hz141
     obtain ⟨A149, c150, rfl, hv148, hv151⟩ := NodeRep_open hr144
     have hM := hM.add (y := .dat (sliceRep intRep) e140.Next [vL A149 e140.Next c150]) hv151
     refine q_ hf rfl rfl rfl (e_indexAddr (A := A2) (b := b145) (o := o146) (xs := d1.Nodes) (i := n129) hf hA147 rfl rfl Tryz.underlying29 Tryz.sizeOf47 h142 h143) fun a hf => ?_
     refine q_ hf rfl rfl rfl (e_loadA hf (us := [.bool (e140.Final), vS (e140.Letters), vL A149 (e140.Next) c150]) rfl ⟨Tryz.isAgg47, Tryz.sizeOf47⟩ rfl (hM.litSub (k := 1) (d := 0) (us := [.bool (e140.Final), vS (e140.Letters), vL A149 (e140.Next) c150]) rfl rfl rfl)) fun a hf => ?_
     refine pl_l hf rfl rfl rfl (w_alloc hM (cs := [.bool (false), vS (([] : Str)), vL none (([] : (List Int))) 0]) Tryz.zeroValue47 rfl fun b152 w153 hx154 hM a hf => ?_)
     refine pl_0 hf rfl rfl (w_store hf hM (us := [.bool (e140.Final), vS (e140.Letters), vL A149 (e140.Next) c150]) (cs' := [.bool (e140.Final), vS (e140.Letters), vL A149 (e140.Next) c150]) rfl rfl (k := 0) rfl rfl Tryz.sizeOf47 rfl rfl rfl fun w156 hM => ?_)
     dsimp only [List.set] at hM
     refine pl_nil ?_
     refine then_n ?_
     refine wp_seq ?_
     refine region_pl ?_
     refine q_ hf rfl rfl rfl (e_loadA hf (us := [.bool (e140.Final), vS (e140.Letters), vL A149 (e140.Next) c150]) rfl ⟨Tryz.isAgg47, Tryz.sizeOf47⟩ rfl (hM.boxSub (k := 0) (us := [.bool (e140.Final), vS (e140.Letters), vL A149 (e140.Next) c150]) (o := 0) rfl rfl)) fun a hf => ?_
     obtain ⟨y159, hz160, h137⟩ := bind_some h137
     refine pl_l hf rfl rfl rfl (w_call hf Tryz.call43 rfl (r_impl_keyOf ⟨_, Sh C _ _, none_, hM.sh_lt, none_not, C.G, hM.g_lt, g_none, hM.tabs⟩ e140 hv148 _ _ (hM.dat (k := 0) rfl) _ hz160) ?_)
     rintro _ w162 ⟨rfl, hM2, hv161⟩
     obtain ⟨hM, hx163, hup164⟩ := hM.back hM2
     dsimp only [List.cons_append, List.nil_append] at hM hup164
     clear hM2
     refine ⟨_, rfl, fun a hf => ?_⟩
     refine q_ hf rfl rfl rfl (e_assign hf rfl) fun a hf => ?_
     refine pl_nil ?_
     refine then_n ?_
     iterate 2 refine wp_seq ?_
     refine region_pl ?_
     iterate 2 refine q_ hf rfl rfl rfl (e_move hf rfl) fun a hf => ?_
     refine q_ hf rfl rfl rfl (e_lookup (fk := fS) (fv := fT) hf (keyS Tryz.underlying9) Tryz.underlying85 (k := y159) (z := false) rfl rfl Tryz.zeroValue4 (hM.ownAt (k := 1) rfl)) fun a hf => ?_
     refine pl_nil ?_
     refine then_n ?_
     rcases cond_some h137 with ⟨hc165, h137⟩ | ⟨hc165, h137⟩
     ·refine cond_t hf rfl hc165 ?_
      refine wp_seq ?_
      refine region_pl ?_
      refine q_ hf rfl rfl rfl (e_assign hf rfl) fun a hf => ?_
      refine pl_nil ?_
      refine then_n ?_
      refine wp_ret ?_
      refine then_r ?_
      refine blk_r ?_
      refine then_r ?_
      obtain rfl := some_inj h137
      obtain rfl := hd138 _ rfl
      try dsimp only at h125
      refine then_r ?_
      refine blk_r ?_
      obtain rfl := some_inj h125
      try dsimp only at h
      refine then_r ?_
      obtain rfl := some_inj h
      have hM := hM.outs (own' := []) 0 rfl
      exact leave1 hf rfl rfl ⟨rfl, hM.fin⟩
     refine cond_f hf rfl hc165 ?_
     refine wp_skip ?_
     refine then_n ?_
     refine region_pl ?_
     iterate 2 refine q_ hf rfl rfl rfl (e_move hf rfl) fun a hf => ?_
     refine pl_0 hf rfl rfl (w_mapUpdate (fk := fS) (fv := fT) hf hM (keyS Tryz.underlying9) Tryz.underlying85 (k := y159) (v := true) rfl rfl rfl (n := 1) rfl fun w166 hM => ?_)
     dsimp only [List.set] at hM
     refine pl_nil ?_
     refine blk_n ?_
     refine then_n ?_
     refine region_pl ?_
     obtain ⟨z167, hz168, h137⟩ := bind_some h137
     refine q_ hf rfl rfl rfl (e_add hf rfl rfl hz168) fun a hf => ?_
     refine q_ hf rfl rfl rfl (e_move hf rfl) fun a hf => ?_
     refine pl_nil ?_
     obtain rfl := some_inj h137
     refine then_n ⟨_, rfl, ?_⟩
     exact ⟨(putM mp127 y159 true), z167, b128, rfl, hf.keep ⟨rfl, rfl, rfl, rfl, trivial⟩, (hM.drop (.cons _ (.cons_cons _ (.cons_cons _ (.cons_cons _ (.cons_cons _ (.cons_cons _ (.cons_cons _ .slnil)))))))).pick [2] rfl, (chk_R hz168)⟩
    refine cond_f hf rfl hc139 ?_
    refine wp_exit ?_
    refine then_x ?_
    obtain rfl := some_inj h137
    obtain rfl := hd138 _ rfl
    try dsimp only at h125
    refine then_x ?_
    refine exit_hit ?_
    obtain rfl := some_inj h125
    refine then_n ?_
    exact ⟨mp127, b128, rfl, hf.keep trivial, hM.pick [0] rfl⟩
   rintro a w175 ⟨mp122, b123, rfl, hf, hM⟩
   try dsimp only at h
   refine wp_seq ?_
   refine region_pl ?_
   refine q_ hf rfl rfl rfl (e_assign hf rfl) fun a hf => ?_
   refine pl_nil ?_
   refine then_n ?_
   refine wp_ret ?_
   obtain rfl := some_inj h
   have hM := hM.outs (own' := []) 0 rfl
   exact leave1 hf rfl rfl ⟨rfl, hM.fin⟩
  refine pi_l hf rfl rfl rfl rfl (w_make hf hM (K := intRep) Tryz.underlying81 ei_3 Tryz.zeroValue3 rfl rfl rfl ⟨rfl, (R64_lit rfl)⟩ hz48 fun b177 w178 hx179 hM => ⟨Ext w178, fun _ h => Ext.trans hx179 h, Ext.refl _, fun a hf => ?_⟩)
  refine pi_one ?_
  refine pi_l hf rfl rfl rfl rfl (w_make hf hM (K := intRep) Tryz.underlying45 ei_2 Tryz.zeroValue2 rfl rfl rfl ⟨rfl, (R64_lit rfl)⟩ hz43 fun b180 w181 hx182 hM => ⟨Ext w181, fun _ h => Ext.trans hx182 h, Ext.refl _, fun a hf => ?_⟩)
  refine pi_q hf rfl rfl rfl rfl (Ext.refl _) (e_build hf Tryz.zeroValue83 Tryz.underlying83 (bp_83 _ Tryz.underlying83.symm) rfl (cs := #[vL A2 (d1.Nodes) c3, vI (0), vL (some ⟨b52, 0, none⟩) (xs37) (((d1.Nodes.length : Int) : Int).toNat), vL (some ⟨b180, 0, none⟩) (xs42) (((d1.Nodes.length : Int) : Int).toNat), vL (some ⟨b177, 0, none⟩) (xs47) (((d1.Nodes.length : Int) : Int).toNat)]) (by kernel_rfl)) fun a hf => ?_
  refine pi_one ?_
  refine pi_l hf rfl rfl rfl rfl (w_box hf hM (cs := [vL A2 (d1.Nodes) c3, vI (0), vL (some ⟨b52, 0, none⟩) (xs37) (((d1.Nodes.length : Int) : Int).toNat), vL (some ⟨b180, 0, none⟩) (xs42) (((d1.Nodes.length : Int) : Int).toNat), vL (some ⟨b177, 0, none⟩) (xs47) (((d1.Nodes.length : Int) : Int).toNat)]) rfl rfl fun b183 w184 hx185 hM => ⟨Ext w184, fun _ h => Ext.trans hx185 h, Ext.refl _, fun a hf => ?_⟩)
  refine pi_q hf rfl rfl rfl rfl (Ext.refl _) (e_assign hf rfl) fun a hf => ?_
  refine pi_nil ?_
  refine then_n ?_
  refine wp_seq ?_
  obtain ⟨x200, h201, h⟩ := bind_some h
  refine seq_join (fun a w => ∃ (n187 : Int) (xs189 : (List Bool)) (xs192 : (List Int)) (xs195 : (List Int)) (t198 : Bool) (A190 : Option Addr) (c191 : Nat) (A193 : Option Addr) (c194 : Nat) (A196 : Option Addr) (c197 : Nat), (n187, xs189, xs192, xs195, t198) = x200 ∧ Has 76 a [(1, vP b5 (0)), (59, .bool (t198))] ∧ Mem C w [.box b183 [vL A2 (d1.Nodes) c3, vI (n187), vL A190 (xs189) c191, vL A193 (xs192) c194, vL A196 (xs195) c197] 83, .row intRep A193 c194 2 xs192 true, .row intRep A196 c197 3 xs195 true, .row boolRep A190 c191 4 xs189 true, .box b5 [vL A2 (d1.Nodes) c3] 31] [.dat (sliceRep NodeRep) d1.Nodes [vL A2 d1.Nodes c3]] ∧ R64 n187) ?_ ?_
  ·refine region_pl ?_
   refine q_ hf rfl rfl rfl (e_move hf rfl) fun a hf => ?_
   have hM := hM.front (k := 2) rfl
   dsimp only [List.eraseIdx] at hM
   have hM := hM.front (k := 2) rfl
   dsimp only [List.eraseIdx] at hM
   have hM := hM.front (k := 3) rfl
   dsimp only [List.eraseIdx] at hM
   have hM := hM.front (k := 3) rfl
   dsimp only [List.eraseIdx] at hM
   have hM : Mem C _ ([.box b183 [vL A2 (d1.Nodes) c3, vI (0), vL (some ⟨b52, 0, none⟩) (xs37) (((d1.Nodes.length : Int) : Int).toNat), vL (some ⟨b180, 0, none⟩) (xs42) (((d1.Nodes.length : Int) : Int).toNat), vL (some ⟨b177, 0, none⟩) (xs47) (((d1.Nodes.length : Int) : Int).toNat)] 83, .row boolRep (some ⟨b52, 0, none⟩) (((d1.Nodes.length : Int) : Int).toNat) 4 xs37 true, .row intRep (some ⟨b180, 0, none⟩) (((d1.Nodes.length : Int) : Int).toNat) 2 xs42 true, .row intRep (some ⟨b177, 0, none⟩) (((d1.Nodes.length : Int) : Int).toNat) 3 xs47 true] ++ [.box b5 [vL A2 (d1.Nodes) c3] 31]) _ := hM
   obtain ⟨y202, hz203, h201⟩ := bind_some h201
   refine pl_l hf rfl rfl rfl (w_call hf Tryz.call42 rfl (r_impl_inspector_visit ⟨_, Sh C _ _, ownB _, hM.sh_lt, sub_dis, C.G, hM.g_lt, hM.g_own, hM.tabs⟩ (⟨⟨d1.Nodes⟩, 0, xs37, xs42, xs47⟩ : inspector) _ _ _ (hM.dat (k := 0) rfl) (R64_lit rfl) _ _ _ _ _ _ 0 (R64_lit rfl) hM.sub sub_dis _ hz203) ?_)
   rintro _ w211 ⟨A205, c206, A207, c208, A209, c210, rfl, hM2, hv204⟩
   obtain ⟨hM, hup213⟩ := hM.backG hM2
   dsimp only [List.cons_append, List.nil_append] at hM hup213
   clear hM2
   refine ⟨_, rfl, fun a hf => ?_⟩
   refine q_ hf rfl rfl rfl (e_not hf rfl) fun a hf => ?_
   refine q_ hf rfl rfl rfl (e_move hf rfl) fun a hf => ?_
   rcases cond_some h201 with ⟨hc214, h201⟩ | ⟨hc214, h201⟩
   ·iterate 6 refine pl_gs (wanted_f hf rfl rfl rfl rfl hc214) hf rfl rfl fun a hf => ?_
    refine q_ hf rfl rfl rfl (e_pick_t hf rfl hc214 rfl) fun a hf => ?_
    refine q_ hf rfl rfl rfl (e_move hf rfl) fun a hf => ?_
    iterate 7 refine pl_gs (wanted_f hf rfl rfl rfl rfl rfl) hf rfl rfl fun a hf => ?_
    refine q_ hf rfl rfl rfl (e_pick_t hf rfl rfl rfl) fun a hf => ?_
    refine q_ hf rfl rfl rfl (e_move hf rfl) fun a hf => ?_
    iterate 7 refine pl_gs (wanted_f hf rfl rfl rfl rfl rfl) hf rfl rfl fun a hf => ?_
    refine q_ hf rfl rfl rfl (e_pick_t hf rfl rfl rfl) fun a hf => ?_
    refine pl_nil ?_
    obtain rfl := some_inj h201
    refine then_n ?_
    have hM := hM.front (k := 4) rfl
    dsimp only [List.eraseIdx] at hM
    have hM := hM.front (k := 2) rfl
    dsimp only [List.eraseIdx] at hM
    have hM := hM.front (k := 4) rfl
    dsimp only [List.eraseIdx] at hM
    have hM := hM.front (k := 4) rfl
    dsimp only [List.eraseIdx] at hM
    have hM := hM.front (k := 4) rfl
    dsimp only [List.eraseIdx] at hM
    exact ⟨y202.2.met, y202.2.open_, y202.2.strings, y202.2.longest, true, A205, c206, A207, c208, A209, c210, rfl, hf.keep ⟨rfl, rfl, trivial⟩, hM.pick [0] rfl, hv204⟩
   refine gq (wanted_t hf rfl rfl rfl rfl hc214) hf rfl rfl (e_move hf rfl) fun a hf => ?_
   refine gq (wanted_t hf rfl rfl rfl rfl hc214) hf rfl rfl (e_nil hf rfl) fun a hf => ?_
   refine gq (wanted_t hf rfl rfl rfl rfl hc214) hf rfl rfl (e_field hf rfl Tryz.underlying83 rfl Tryz.sizeOf2 (o' := 1) rfl) fun a hf => ?_
   refine gq (wanted_t hf rfl rfl rfl rfl hc214) hf rfl rfl (e_load1 hf rfl Tryz.isAgg2 (hM.boxCell (k := 0) rfl rfl)) fun a hf => ?_
   refine gq (wanted_t hf rfl rfl rfl rfl hc214) hf rfl rfl (e_move hf rfl) fun a hf => ?_
   refine gq (wanted_t hf rfl rfl rfl rfl hc214) hf rfl rfl (e_ne hf (x := y202.2.met) (y := (d1.Nodes.length : Int)) rfl rfl) fun a hf => ?_
   refine q_ hf rfl rfl rfl (e_pick_f hf rfl hc214 rfl) fun a hf => ?_
   refine q_ hf rfl rfl rfl (e_move hf rfl) fun a hf => ?_
   rcases cond_some h201 with ⟨hc216, h201⟩ | ⟨hc216, h201⟩
   ·iterate 7 refine pl_gs (wanted_f hf rfl rfl rfl rfl hc216) hf rfl rfl fun a hf => ?_
    refine q_ hf rfl rfl rfl (e_pick_t hf rfl hc216 rfl) fun a hf => ?_
    refine q_ hf rfl rfl rfl (e_move hf rfl) fun a hf => ?_
    iterate 7 refine pl_gs (wanted_f hf rfl rfl rfl rfl rfl) hf rfl rfl fun a hf => ?_
    refine q_ hf rfl rfl rfl (e_pick_t hf rfl rfl rfl) fun a hf => ?_
    refine pl_nil ?_
    obtain rfl := some_inj h201
    refine then_n ?_
    have hM := hM.front (k := 4) rfl
    dsimp only [List.eraseIdx] at hM
    have hM := hM.front (k := 2) rfl
    dsimp only [List.eraseIdx] at hM
    have hM := hM.front (k := 4) rfl
    dsimp only [List.eraseIdx] at hM
    have hM := hM.front (k := 4) rfl
    dsimp only [List.eraseIdx] at hM
    have hM := hM.front (k := 4) rfl
    dsimp only [List.eraseIdx] at hM
    exact ⟨y202.2.met, y202.2.open_, y202.2.strings, y202.2.longest, true, A205, c206, A207, c208, A209, c210, rfl, hf.keep ⟨rfl, rfl, trivial⟩, hM.pick [0] rfl, hv204⟩
   refine gq (wanted_t hf rfl rfl rfl rfl hc216) hf rfl rfl (e_move hf rfl) fun a hf => ?_
   refine gq (wanted_t hf rfl rfl rfl rfl hc216) hf rfl rfl (e_nil hf rfl) fun a hf => ?_
   refine gq (wanted_t hf rfl rfl rfl rfl hc216) hf rfl rfl (e_field hf rfl Tryz.underlying83 rfl Tryz.sizeOf45 (o' := 3) rfl) fun a hf => ?_
   refine gq (wanted_t hf rfl rfl rfl rfl hc216) hf rfl rfl (e_load1 hf rfl Tryz.isAgg45 (hM.boxCell (k := 0) rfl rfl)) fun a hf => ?_
   obtain ⟨e218, hz219, h201⟩ := bind_some h201
   obtain ⟨b224, _, hA225, h220, h221, hr222, hcell223⟩ := hM.rowElemN (k := 2) rfl (n := 1) rfl hz219
   obtain ⟨rfl, hv226⟩ := hr222
   refine gq (wanted_t hf rfl rfl rfl rfl hc216) hf rfl rfl (e_indexAddr (A := A207) (b := b224) (o := 0) (xs := y202.2.strings) (i := 0) hf hA225 rfl rfl Tryz.underlying45 Tryz.sizeOf2 h220 h221) fun a hf => ?_
   refine gq (wanted_t hf rfl rfl rfl rfl hc216) hf rfl rfl (e_load1 hf rfl Tryz.isAgg2 (hcell223 0 _ rfl)) fun a hf => ?_
   refine gq (wanted_t hf rfl rfl rfl rfl hc216) hf rfl rfl (e_gt hf (x := e218) (y := 3000) rfl rfl) fun a hf => ?_
   refine q_ hf rfl rfl rfl (e_pick_f hf rfl hc216 rfl) fun a hf => ?_
   refine q_ hf rfl rfl rfl (e_move hf rfl) fun a hf => ?_
   rcases cond_some h201 with ⟨hc227, h201⟩ | ⟨hc227, h201⟩
   ·iterate 7 refine pl_gs (wanted_f hf rfl rfl rfl rfl hc227) hf rfl rfl fun a hf => ?_
    refine q_ hf rfl rfl rfl (e_pick_t hf rfl hc227 rfl) fun a hf => ?_
    refine pl_nil ?_
    obtain rfl := some_inj h201
    refine then_n ?_
    have hM := hM.front (k := 4) rfl
    dsimp only [List.eraseIdx] at hM
    have hM := hM.front (k := 2) rfl
    dsimp only [List.eraseIdx] at hM
    have hM := hM.front (k := 4) rfl
    dsimp only [List.eraseIdx] at hM
    have hM := hM.front (k := 4) rfl
    dsimp only [List.eraseIdx] at hM
    have hM := hM.front (k := 4) rfl
    dsimp only [List.eraseIdx] at hM
    exact ⟨y202.2.met, y202.2.open_, y202.2.strings, y202.2.longest, true, A205, c206, A207, c208, A209, c210, rfl, hf.keep ⟨rfl, rfl, trivial⟩, hM.pick [0] rfl, hv204⟩
   refine gq (wanted_t hf rfl rfl rfl rfl hc227) hf rfl rfl (e_move hf rfl) fun a hf => ?_
   refine gq (wanted_t hf rfl rfl rfl rfl hc227) hf rfl rfl (e_nil hf rfl) fun a hf => ?_
   refine gq (wanted_t hf rfl rfl rfl rfl hc227) hf rfl rfl (e_field hf rfl Tryz.underlying83 rfl Tryz.sizeOf81 (o' := 4) rfl) fun a hf => ?_
   refine gq (wanted_t hf rfl rfl rfl rfl hc227) hf rfl rfl (e_load1 hf rfl Tryz.isAgg81 (hM.boxCell (k := 0) rfl rfl)) fun a hf => ?_
   obtain ⟨e229, hz230, h201⟩ := bind_some h201
   obtain ⟨b235, _, hA236, h231, h232, hr233, hcell234⟩ := hM.rowElemN (k := 3) rfl (n := 1) rfl hz230
   obtain ⟨rfl, hv237⟩ := hr233
   refine gq (wanted_t hf rfl rfl rfl rfl hc227) hf rfl rfl (e_indexAddr (A := A209) (b := b235) (o := 0) (xs := y202.2.longest) (i := 0) hf hA236 rfl rfl Tryz.underlying81 Tryz.sizeOf3 h231 h232) fun a hf => ?_
   refine gq (wanted_t hf rfl rfl rfl rfl hc227) hf rfl rfl (e_load1 hf rfl Tryz.isAgg3 (hcell234 0 _ rfl)) fun a hf => ?_
   refine gq (wanted_t hf rfl rfl rfl rfl hc227) hf rfl rfl (e_gt hf (x := e229) (y := 13) rfl rfl) fun a hf => ?_
   refine q_ hf rfl rfl rfl (e_pick_f hf rfl hc227 rfl) fun a hf => ?_
   refine pl_nil ?_
   obtain rfl := some_inj h201
   refine then_n ?_
   have hM := hM.front (k := 4) rfl
   dsimp only [List.eraseIdx] at hM
   have hM := hM.front (k := 2) rfl
   dsimp only [List.eraseIdx] at hM
   have hM := hM.front (k := 4) rfl
   dsimp only [List.eraseIdx] at hM
   have hM := hM.front (k := 4) rfl
   dsimp only [List.eraseIdx] at hM
   have hM := hM.front (k := 4) rfl
   dsimp only [List.eraseIdx] at hM
   exact ⟨y202.2.met, y202.2.open_, y202.2.strings, y202.2.longest, (decide (13 < e229)), A205, c206, A207, c208, A209, c210, rfl, hf.keep ⟨rfl, rfl, trivial⟩, hM.pick [0] rfl, hv204⟩
  rintro a w239 ⟨n187, xs189, xs192, xs195, t198, A190, c191, A193, c194, A196, c197, rfl, hf, hM, hv188⟩
  try dsimp only at h
  rcases cond_some h with ⟨hc240, h⟩ | ⟨hc240, h⟩
  ·refine cond_t hf rfl hc240 ?_
   refine wp_seq ?_
   refine region_pl ?_
   refine q_ hf rfl rfl rfl (e_assign hf rfl) fun a hf => ?_
   refine pl_nil ?_
   refine then_n ?_
   refine wp_ret ?_
   refine then_r ?_
   obtain rfl := some_inj h
   have hM := hM.outs (own' := []) 0 rfl
   exact leave1 hf rfl rfl ⟨rfl, hM.fin⟩
  refine cond_f hf rfl hc240 ?_
  refine wp_skip ?_
  refine then_n ?_
  refine wp_seq ?_
  refine region_pl ?_
  refine pl_l hf rfl rfl rfl (w_makeMap fS fT hM fun b241 w242 hx243 hM a hf => ?_)
  refine q_ hf rfl rfl rfl (e_assign hf rfl) fun a hf => ?_
  refine pl_nil ?_
  refine then_n ?_
  obtain ⟨x246, h247, h⟩ := bind_some h
  refine seq_join (fun a w => ∃ (mp244 : (List (Str × Bool))) (b245 : Nat), (.inl mp244) = x246 ∧ Has 76 a [] ∧ Mem C w [.obj b245 (mapO fS fT mp244), .box b183 [vL A2 (d1.Nodes) c3, vI (n187), vL A190 (xs189) c191, vL A193 (xs192) c194, vL A196 (xs195) c197] 83, .row intRep A193 c194 2 xs192 true, .row intRep A196 c197 3 xs195 true, .row boolRep A190 c191 4 xs189 true, .box b5 [vL A2 (d1.Nodes) c3] 31] [.dat (sliceRep NodeRep) d1.Nodes [vL A2 d1.Nodes c3]]) ?_ ?_
  ·refine wp_seq ?_
   refine region_pl ?_
   refine q_ hf rfl rfl rfl (e_field hf rfl Tryz.underlying31 rfl Tryz.sizeOf29 (o' := 0) rfl) fun a hf => ?_
   refine q_ hf rfl rfl rfl (e_load1 hf rfl Tryz.isAgg29 (hM.boxCell (k := 5) rfl rfl)) fun a hf => ?_
   have hl248 := slice_len (hM.dat (k := 0) rfl)
   refine q_ hf rfl rfl rfl (e_lenL hf (x := d1.Nodes) rfl Tryz.underlying29) fun a hf => ?_
   refine q_ hf rfl rfl rfl (e_move hf rfl) fun a hf => ?_
   refine pl_nil ?_
   refine then_n ?_
   refine wp_block ?_
   obtain ⟨x256, h257, h247⟩ := bind_some h247
   refine wp_loopM h257 (fun s a w => ∃ (mp249 : (List (Str × Bool))) (n251 : Int) (b250 : Nat), (mp249, n251) = s ∧ Has 76 a [(5, vM b250), (62, vL A2 (d1.Nodes) c3), (63, vI ((d1.Nodes.length : Int))), (64, vI (n251))] ∧ Mem C w [.obj b250 (mapO fS fT mp249), .box b183 [vL A2 (d1.Nodes) c3, vI (n187), vL A190 (xs189) c191, vL A193 (xs192) c194, vL A196 (xs195) c197] 83, .row intRep A193 c194 2 xs192 true, .row intRep A196 c197 3 xs195 true, .row boolRep A190 c191 4 xs189 true, .box b5 [vL A2 (d1.Nodes) c3] 31] [.dat (sliceRep NodeRep) d1.Nodes [vL A2 d1.Nodes c3]] ∧ R64 n251) ?_ ?_
   ·exact ⟨([] : (List (Str × Bool))), 0, b241, rfl, hf.keep ⟨rfl, rfl, rfl, rfl, trivial⟩, hM.pick [0] rfl, (R64_lit rfl)⟩
   rintro s o258 a w253 ⟨mp249, n251, b250, rfl, hf, hM, hv252⟩ h259 hd260
   replace h259 : m_impl_ValidDawg_l1 d1 mp249 n251 = some o258 := h259
   unfold m_impl_ValidDawg_l1 at h259
   refine wp_seq ?_
   refine region_pl ?_
   refine q_ hf rfl rfl rfl (e_lt hf (x := n251) (y := (d1.Nodes.length : Int)) rfl rfl) fun a hf => ?_
   refine pl_nil ?_
   refine then_n ?_
   refine wp_seq ?_
   rcases cond_some h259 with ⟨hc261, h259⟩ | ⟨hc261, h259⟩
   ·refine cond_t hf rfl hc261 ?_
    refine wp_skip ?_
    refine then_n ?_
    refine wp_seq ?_
    refine wp_block ?_
    refine wp_seq ?_
    refine region_pl ?_
    obtain ⟨e262, hz263, h259⟩ := bind_some h259
    obtain ⟨b267, o268, _, hA269, h264, h265, hr266, hM⟩ := hM.elem (hM.dat (k := 0) rfl) (n := 3) rfl hz263
    obtain ⟨A271, c272, rfl, hv270, hv273⟩ := NodeRep_open hr266
    have hM := hM.add (y := .dat (sliceRep intRep) e262.Next [vL A271 e262.Next c272]) hv273
    refine q_ hf rfl rfl rfl (e_indexAddr (A := A2) (b := b267) (o := o268) (xs := d1.Nodes) (i := n251) hf hA269 rfl rfl Tryz.underlying29 Tryz.sizeOf47 h264 h265) fun a hf => ?_
    refine q_ hf rfl rfl rfl (e_loadA hf (us := [.bool (e262.Final), vS (e262.Letters), vL A271 (e262.Next) c272]) rfl ⟨Tryz.isAgg47, Tryz.sizeOf47⟩ rfl (hM.litSub (k := 1) (d := 0) (us := [.bool (e262.Final), vS (e262.Letters), vL A271 (e262.Next) c272]) rfl rfl rfl)) fun a hf => ?_
    refine pl_l hf rfl rfl rfl (w_alloc hM (cs := [.bool (false), vS (([] : Str)), vL none (([] : (List Int))) 0]) Tryz.zeroValue47 rfl fun b274 w275 hx276 hM a hf => ?_)
    refine pl_0 hf rfl rfl (w_store hf hM (us := [.bool (e262.Final), vS (e262.Letters), vL A271 (e262.Next) c272]) (cs' := [.bool (e262.Final), vS (e262.Letters), vL A271 (e262.Next) c272]) rfl rfl (k := 0) rfl rfl Tryz.sizeOf47 rfl rfl rfl fun w278 hM => ?_)
    dsimp only [List.set] at hM
    refine pl_nil ?_
    refine then_n ?_
    refine wp_seq ?_
    refine region_pl ?_
    refine q_ hf rfl rfl rfl (e_loadA hf (us := [.bool (e262.Final), vS (e262.Letters), vL A271 (e262.Next) c272]) rfl ⟨Tryz.isAgg47, Tryz.sizeOf47⟩ rfl (hM.boxSub (k := 0) (us := [.bool (e262.Final), vS (e262.Letters), vL A271 (e262.Next) c272]) (o := 0) rfl rfl)) fun a hf => ?_
    obtain ⟨y281, hz282, h259⟩ := bind_some h259
    refine pl_l hf rfl rfl rfl (w_call hf Tryz.call43 rfl (r_impl_keyOf ⟨_, Sh C _ _, none_, hM.sh_lt, none_not, C.G, hM.g_lt, g_none, hM.tabs⟩ e262 hv270 _ _ (hM.dat (k := 0) rfl) _ hz282) ?_)
    rintro _ w284 ⟨rfl, hM2, hv283⟩
    obtain ⟨hM, hx285, hup286⟩ := hM.back hM2
    dsimp only [List.cons_append, List.nil_append] at hM hup286
    clear hM2
    refine ⟨_, rfl, fun a hf => ?_⟩
    refine q_ hf rfl rfl rfl (e_assign hf rfl) fun a hf => ?_
    refine pl_nil ?_
    refine then_n ?_
    iterate 2 refine wp_seq ?_
    refine region_pl ?_
    iterate 2 refine q_ hf rfl rfl rfl (e_move hf rfl) fun a hf => ?_
    refine q_ hf rfl rfl rfl (e_lookup (fk := fS) (fv := fT) hf (keyS Tryz.underlying9) Tryz.underlying85 (k := y281) (z := false) rfl rfl Tryz.zeroValue4 (hM.ownAt (k := 1) rfl)) fun a hf => ?_
    refine pl_nil ?_
    refine then_n ?_
    rcases cond_some h259 with ⟨hc287, h259⟩ | ⟨hc287, h259⟩
    ·refine cond_t hf rfl hc287 ?_
     refine wp_seq ?_
     refine region_pl ?_
     refine q_ hf rfl rfl rfl (e_assign hf rfl) fun a hf => ?_
     refine pl_nil ?_
     refine then_n ?_
     refine wp_ret ?_
     refine then_r ?_
     refine blk_r ?_
     refine then_r ?_
     obtain rfl := some_inj h259
     obtain rfl := hd260 _ rfl
     try dsimp only at h247
     refine then_r ?_
     refine blk_r ?_
     obtain rfl := some_inj h247
     try dsimp only at h
     refine then_r ?_
     obtain rfl := some_inj h
     have hM := hM.outs (own' := []) 0 rfl
     exact leave1 hf rfl rfl ⟨rfl, hM.fin⟩
    refine cond_f hf rfl hc287 ?_
    refine wp_skip ?_
    refine then_n ?_
    refine region_pl ?_
    iterate 2 refine q_ hf rfl rfl rfl (e_move hf rfl) fun a hf => ?_
    refine pl_0 hf rfl rfl (w_mapUpdate (fk := fS) (fv := fT) hf hM (keyS Tryz.underlying9) Tryz.underlying85 (k := y281) (v := true) rfl rfl rfl (n := 1) rfl fun w288 hM => ?_)
    dsimp only [List.set] at hM
    refine pl_nil ?_
    refine blk_n ?_
    refine then_n ?_
    refine region_pl ?_
    obtain ⟨z289, hz290, h259⟩ := bind_some h259
    refine q_ hf rfl rfl rfl (e_add hf rfl rfl hz290) fun a hf => ?_
    refine q_ hf rfl rfl rfl (e_move hf rfl) fun a hf => ?_
    refine pl_nil ?_
    obtain rfl := some_inj h259
    refine then_n ⟨_, rfl, ?_⟩
    exact ⟨(putM mp249 y281 true), z289, b250, rfl, hf.keep ⟨rfl, rfl, rfl, rfl, trivial⟩, (hM.drop (.cons _ (.cons_cons _ (.cons_cons _ (.cons_cons _ (.cons_cons _ (.cons_cons _ (.cons_cons _ .slnil)))))))).pick [2] rfl, (chk_R hz290)⟩
   refine cond_f hf rfl hc261 ?_
   refine wp_exit ?_
   refine then_x ?_
   obtain rfl := some_inj h259
   obtain rfl := hd260 _ rfl
   try dsimp only at h247
   refine then_x ?_
   refine exit_hit ?_
   obtain rfl := some_inj h247
   refine then_n ?_
   exact ⟨mp249, b250, rfl, hf.keep trivial, hM.pick [0] rfl⟩
  rintro a w297 ⟨mp244, b245, rfl, hf, hM⟩
  try dsimp only at h
  refine wp_seq ?_
  refine region_pl ?_
  refine q_ hf rfl rfl rfl (e_assign hf rfl) fun a hf => ?_
  refine pl_nil ?_
  refine then_n ?_
  refine wp_ret ?_
  obtain rfl := some_inj h
  have hM := hM.outs (own' := []) 0 rfl
  exact leave1 hf rfl rfl ⟨rfl, hM.fin⟩
 ·refine pi_l hf rfl rfl rfl rfl (w_make hf hM (K := intRep) Tryz.underlying45 ei_2 Tryz.zeroValue2 rfl rfl rfl ⟨rfl, (R64_lit rfl)⟩ hz43 fun b299 w300 hx301 hM => ⟨Ext w300, fun _ h => Ext.trans hx301 h, Ext.refl _, fun a hf => ?_⟩)
  refine pi_two ?_ ?_
  ·refine pi_l hf rfl rfl rfl rfl (w_make hf hM (K := boolRep) Tryz.underlying80 ei_4 Tryz.zeroValue4 rfl rfl rfl rfl hz38 fun b302 w303 hx304 hM => ⟨Ext w303, fun _ h => Ext.trans hx304 h, Ext.refl _, fun a hf => ?_⟩)
   refine pi_one ?_
   refine pi_l hf rfl rfl rfl rfl (w_make hf hM (K := intRep) Tryz.underlying81 ei_3 Tryz.zeroValue3 rfl rfl rfl ⟨rfl, (R64_lit rfl)⟩ hz48 fun b305 w306 hx307 hM => ⟨Ext w306, fun _ h => Ext.trans hx307 h, Ext.refl _, fun a hf => ?_⟩)
   refine pi_q hf rfl rfl rfl rfl (Ext.refl _) (e_build hf Tryz.zeroValue83 Tryz.underlying83 (bp_83 _ Tryz.underlying83.symm) rfl (cs := #[vL A2 (d1.Nodes) c3, vI (0), vL (some ⟨b302, 0, none⟩) (xs37) (((d1.Nodes.length : Int) : Int).toNat), vL (some ⟨b299, 0, none⟩) (xs42) (((d1.Nodes.length : Int) : Int).toNat), vL (some ⟨b305, 0, none⟩) (xs47) (((d1.Nodes.length : Int) : Int).toNat)]) (by kernel_rfl)) fun a hf => ?_
   refine pi_one ?_
   refine pi_l hf rfl rfl rfl rfl (w_box hf hM (cs := [vL A2 (d1.Nodes) c3, vI (0), vL (some ⟨b302, 0, none⟩) (xs37) (((d1.Nodes.length : Int) : Int).toNat), vL (some ⟨b299, 0, none⟩) (xs42) (((d1.Nodes.length : Int) : Int).toNat), vL (some ⟨b305, 0, none⟩) (xs47) (((d1.Nodes.length : Int) : Int).toNat)]) rfl rfl fun b308 w309 hx310 hM => ⟨Ext w309, fun _ h => Ext.trans hx310 h, Ext.refl _, fun a hf => ?_⟩)
   refine pi_q hf rfl rfl rfl rfl (Ext.refl _) (e_assign hf rfl) fun a hf => ?_
   refine pi_nil ?_
   refine then_n ?_
   refine wp_seq ?_
   obtain ⟨x325, h326, h⟩ := bind_some h
   refine seq_join (fun a w => ∃ (n312 : Int) (xs314 : (List Bool)) (xs317 : (List Int)) (xs320 : (List Int)) (t323 : Bool) (A315 : Option Addr) (c316 : Nat) (A318 : Option Addr) (c319 : Nat) (A321 : Option Addr) (c322 : Nat), (n312, xs314, xs317, xs320, t323) = x325 ∧ Has 76 a [(1, vP b5 (0)), (59, .bool (t323))] ∧ Mem C w [.box b308 [vL A2 (d1.Nodes) c3, vI (n312), vL A315 (xs314) c316, vL A318 (xs317) c319, vL A321 (xs320) c322] 83, .row intRep A321 c322 3 xs320 true, .row boolRep A315 c316 4 xs314 true, .row intRep A318 c319 2 xs317 true, .box b5 [vL A2 (d1.Nodes) c3] 31] [.dat (sliceRep NodeRep) d1.Nodes [vL A2 d1.Nodes c3]] ∧ R64 n312) ?_ ?_
   ·refine region_pl ?_
    refine q_ hf rfl rfl rfl (e_move hf rfl) fun a hf => ?_
    have hM := hM.front (k := 1) rfl
    dsimp only [List.eraseIdx] at hM
    have hM := hM.front (k := 3) rfl
    dsimp only [List.eraseIdx] at hM
    have hM := hM.front (k := 3) rfl
    dsimp only [List.eraseIdx] at hM
    have hM := hM.front (k := 3) rfl
    dsimp only [List.eraseIdx] at hM
    have hM : Mem C _ ([.box b308 [vL A2 (d1.Nodes) c3, vI (0), vL (some ⟨b302, 0, none⟩) (xs37) (((d1.Nodes.length : Int) : Int).toNat), vL (some ⟨b299, 0, none⟩) (xs42) (((d1.Nodes.length : Int) : Int).toNat), vL (some ⟨b305, 0, none⟩) (xs47) (((d1.Nodes.length : Int) : Int).toNat)] 83, .row boolRep (some ⟨b302, 0, none⟩) (((d1.Nodes.length : Int) : Int).toNat) 4 xs37 true, .row intRep (some ⟨b299, 0, none⟩) (((d1.Nodes.length : Int) : Int).toNat) 2 xs42 true, .row intRep (some ⟨b305, 0, none⟩) (((d1.Nodes.length : Int) : Int).toNat) 3 xs47 true] ++ [.box b5 [vL A2 (d1.Nodes) c3] 31]) _ := hM
    obtain ⟨y327, hz328, h326⟩ := bind_some h326
    refine pl_l hf rfl rfl rfl (w_call hf Tryz.call42 rfl (r_impl_inspector_visit ⟨_, Sh C _ _, ownB _, hM.sh_lt, sub_dis, C.G, hM.g_lt, hM.g_own, hM.tabs⟩ (⟨⟨d1.Nodes⟩, 0, xs37, xs42, xs47⟩ : inspector) _ _ _ (hM.dat (k := 0) rfl) (R64_lit rfl) _ _ _ _ _ _ 0 (R64_lit rfl) hM.sub sub_dis _ hz328) ?_)
    rintro _ w336 ⟨A330, c331, A332, c333, A334, c335, rfl, hM2, hv329⟩
    obtain ⟨hM, hup338⟩ := hM.backG hM2
    dsimp only [List.cons_append, List.nil_append] at hM hup338
    clear hM2
    refine ⟨_, rfl, fun a hf => ?_⟩
    refine q_ hf rfl rfl rfl (e_not hf rfl) fun a hf => ?_
    refine q_ hf rfl rfl rfl (e_move hf rfl) fun a hf => ?_
    rcases cond_some h326 with ⟨hc339, h326⟩ | ⟨hc339, h326⟩
    ·iterate 6 refine pl_gs (wanted_f hf rfl rfl rfl rfl hc339) hf rfl rfl fun a hf => ?_
     refine q_ hf rfl rfl rfl (e_pick_t hf rfl hc339 rfl) fun a hf => ?_
     refine q_ hf rfl rfl rfl (e_move hf rfl) fun a hf => ?_
     iterate 7 refine pl_gs (wanted_f hf rfl rfl rfl rfl rfl) hf rfl rfl fun a hf => ?_
     refine q_ hf rfl rfl rfl (e_pick_t hf rfl rfl rfl) fun a hf => ?_
     refine q_ hf rfl rfl rfl (e_move hf rfl) fun a hf => ?_
     iterate 7 refine pl_gs (wanted_f hf rfl rfl rfl rfl rfl) hf rfl rfl fun a hf => ?_
     refine q_ hf rfl rfl rfl (e_pick_t hf rfl rfl rfl) fun a hf => ?_
     refine pl_nil ?_
     obtain rfl := some_inj h326
     refine then_n ?_
     have hM := hM.front (k := 4) rfl
     dsimp only [List.eraseIdx] at hM
     have hM := hM.front (k := 3) rfl
     dsimp only [List.eraseIdx] at hM
     have hM := hM.front (k := 3) rfl
     dsimp only [List.eraseIdx] at hM
     have hM := hM.front (k := 4) rfl
     dsimp only [List.eraseIdx] at hM
     have hM := hM.front (k := 4) rfl
     dsimp only [List.eraseIdx] at hM
     exact ⟨y327.2.met, y327.2.open_, y327.2.strings, y327.2.longest, true, A330, c331, A332, c333, A334, c335, rfl, hf.keep ⟨rfl, rfl, trivial⟩, hM.pick [0] rfl, hv329⟩
    refine gq (wanted_t hf rfl rfl rfl rfl hc339) hf rfl rfl (e_move hf rfl) fun a hf => ?_
    refine gq (wanted_t hf rfl rfl rfl rfl hc339) hf rfl rfl (e_nil hf rfl) fun a hf => ?_
    refine gq (wanted_t hf rfl rfl rfl rfl hc339) hf rfl rfl (e_field hf rfl Tryz.underlying83 rfl Tryz.sizeOf2 (o' := 1) rfl) fun a hf => ?_
    refine gq (wanted_t hf rfl rfl rfl rfl hc339) hf rfl rfl (e_load1 hf rfl Tryz.isAgg2 (hM.boxCell (k := 0) rfl rfl)) fun a hf => ?_
    refine gq (wanted_t hf rfl rfl rfl rfl hc339) hf rfl rfl (e_move hf rfl) fun a hf => ?_
    refine gq (wanted_t hf rfl rfl rfl rfl hc339) hf rfl rfl (e_ne hf (x := y327.2.met) (y := (d1.Nodes.length : Int)) rfl rfl) fun a hf => ?_
    refine q_ hf rfl rfl rfl (e_pick_f hf rfl hc339 rfl) fun a hf => ?_
    refine q_ hf rfl rfl rfl (e_move hf rfl) fun a hf => ?_
    rcases cond_some h326 with ⟨hc341, h326⟩ | ⟨hc341, h326⟩
    ·iterate 7 refine pl_gs (wanted_f hf rfl rfl rfl rfl hc341) hf rfl rfl fun a hf => ?_
     refine q_ hf rfl rfl rfl (e_pick_t hf rfl hc341 rfl) fun a hf => ?_
     refine q_ hf rfl rfl rfl (e_move hf rfl) fun a hf => ?_
     iterate 7 refine pl_gs (wanted_f hf rfl rfl rfl rfl rfl) hf rfl rfl fun a hf => ?_
     refine q_ hf rfl rfl rfl (e_pick_t hf rfl rfl rfl) fun a hf => ?_
     refine pl_nil ?_
     obtain rfl := some_inj h326
     refine then_n ?_
     have hM := hM.front (k := 4) rfl
     dsimp only [List.eraseIdx] at hM
     have hM := hM.front (k := 3) rfl
     dsimp only [List.eraseIdx] at hM
     have hM := hM.front (k := 3) rfl
     dsimp only [List.eraseIdx] at hM
     have hM := hM.front (k := 4) rfl
     dsimp only [List.eraseIdx] at hM
     have hM := hM.front (k := 4) rfl
     dsimp only [List.eraseIdx] at hM
     exact ⟨y327.2.met, y327.2.open_, y327.2.strings, y327.2.longest, true, A330, c331, A332, c333, A334, c335, rfl, hf.keep ⟨rfl, rfl, trivial⟩, hM.pick [0] rfl, hv329⟩
    refine gq (wanted_t hf rfl rfl rfl rfl hc341) hf rfl rfl (e_move hf rfl) fun a hf => ?_
    refine gq (wanted_t hf rfl rfl rfl rfl hc341) hf rfl rfl (e_nil hf rfl) fun a hf => ?_
    refine gq (wanted_t hf rfl rfl rfl rfl hc341) hf rfl rfl (e_field hf rfl Tryz.underlying83 rfl Tryz.sizeOf45 (o' := 3) rfl) fun a hf => ?_
    refine gq (wanted_t hf rfl rfl rfl rfl hc341) hf rfl rfl (e_load1 hf rfl Tryz.isAgg45 (hM.boxCell (k := 0) rfl rfl)) fun a hf => ?_
    obtain ⟨e343, hz344, h326⟩ := bind_some h326
    obtain ⟨b349, _, hA350, h345, h346, hr347, hcell348⟩ := hM.rowElemN (k := 2) rfl (n := 1) rfl hz344
    obtain ⟨rfl, hv351⟩ := hr347
    refine gq (wanted_t hf rfl rfl rfl rfl hc341) hf rfl rfl (e_indexAddr (A := A332) (b := b349) (o := 0) (xs := y327.2.strings) (i := 0) hf hA350 rfl rfl Tryz.underlying45 Tryz.sizeOf2 h345 h346) fun a hf => ?_
    refine gq (wanted_t hf rfl rfl rfl rfl hc341) hf rfl rfl (e_load1 hf rfl Tryz.isAgg2 (hcell348 0 _ rfl)) fun a hf => ?_
    refine gq (wanted_t hf rfl rfl rfl rfl hc341) hf rfl rfl (e_gt hf (x := e343) (y := 3000) rfl rfl) fun a hf => ?_
    refine q_ hf rfl rfl rfl (e_pick_f hf rfl hc341 rfl) fun a hf => ?_
    refine q_ hf rfl rfl rfl (e_move hf rfl) fun a hf => ?_
    rcases cond_some h326 with ⟨hc352, h326⟩ | ⟨hc352, h326⟩
    ·iterate 7 refine pl_gs (wanted_f hf rfl rfl rfl rfl hc352) hf rfl rfl fun a hf => ?_
     refine q_ hf rfl rfl rfl (e_pick_t hf rfl hc352 rfl) fun a hf => ?_
     refine pl_nil ?_
     obtain rfl := some_inj h326
     refine then_n ?_
     have hM := hM.front (k := 4) rfl
     dsimp only [List.eraseIdx] at hM
     have hM := hM.front (k := 3) rfl
     dsimp only [List.eraseIdx] at hM
     have hM := hM.front (k := 3) rfl
     dsimp only [List.eraseIdx] at hM
     have hM := hM.front (k := 4) rfl
     dsimp only [List.eraseIdx] at hM
     have hM := hM.front (k := 4) rfl
     dsimp only [List.eraseIdx] at hM
     exact ⟨y327.2.met, y327.2.open_, y327.2.strings, y327.2.longest, true, A330, c331, A332, c333, A334, c335, rfl, hf.keep ⟨rfl, rfl, trivial⟩, hM.pick [0] rfl, hv329⟩
    refine gq (wanted_t hf rfl rfl rfl rfl hc352) hf rfl rfl (e_move hf rfl) fun a hf => ?_
    refine gq (wanted_t hf rfl rfl rfl rfl hc352) hf rfl rfl (e_nil hf rfl) fun a hf => ?_
    refine gq (wanted_t hf rfl rfl rfl rfl hc352) hf rfl rfl (e_field hf rfl Tryz.underlying83 rfl Tryz.sizeOf81 (o' := 4) rfl) fun a hf => ?_
    refine gq (wanted_t hf rfl rfl rfl rfl hc352) hf rfl rfl (e_load1 hf rfl Tryz.isAgg81 (hM.boxCell (k := 0) rfl rfl)) fun a hf => ?_
    obtain ⟨e354, hz355, h326⟩ := bind_some h326
    obtain ⟨b360, _, hA361, h356, h357, hr358, hcell359⟩ := hM.rowElemN (k := 3) rfl (n := 1) rfl hz355
    obtain ⟨rfl, hv362⟩ := hr358
    refine gq (wanted_t hf rfl rfl rfl rfl hc352) hf rfl rfl (e_indexAddr (A := A334) (b := b360) (o := 0) (xs := y327.2.longest) (i := 0) hf hA361 rfl rfl Tryz.underlying81 Tryz.sizeOf3 h356 h357) fun a hf => ?_
    refine gq (wanted_t hf rfl rfl rfl rfl hc352) hf rfl rfl (e_load1 hf rfl Tryz.isAgg3 (hcell359 0 _ rfl)) fun a hf => ?_
    refine gq (wanted_t hf rfl rfl rfl rfl hc352) hf rfl rfl (e_gt hf (x := e354) (y := 13) rfl rfl) fun a hf => ?_
    refine q_ hf rfl rfl rfl (e_pick_f hf rfl hc352 rfl) fun a hf => ?_
    refine pl_nil ?_
    obtain rfl := some_inj h326
    refine then_n ?_
    have hM := hM.front (k := 4) rfl
    dsimp only [List.eraseIdx] at hM
    have hM := hM.front (k := 3) rfl
    dsimp only [List.eraseIdx] at hM
    have hM := hM.front (k := 3) rfl
    dsimp only [List.eraseIdx] at hM
    have hM := hM.front (k := 4) rfl
    dsimp only [List.eraseIdx] at hM
    have hM := hM.front (k := 4) rfl
    dsimp only [List.eraseIdx] at hM
    exact ⟨y327.2.met, y327.2.open_, y327.2.strings, y327.2.longest, (decide (13 < e354)), A330, c331, A332, c333, A334, c335, rfl, hf.keep ⟨rfl, rfl, trivial⟩, hM.pick [0] rfl, hv329⟩
   rintro a w364 ⟨n312, xs314, xs317, xs320, t323, A315, c316, A318, c319, A321, c322, rfl, hf, hM, hv313⟩
   try dsimp only at h
   rcases cond_some h with ⟨hc365, h⟩ | ⟨hc365, h⟩
   ·refine cond_t hf rfl hc365 ?_
    refine wp_seq ?_
    refine region_pl ?_
    refine q_ hf rfl rfl rfl (e_assign hf rfl) fun a hf => ?_
    refine pl_nil ?_
    refine then_n ?_
    refine wp_ret ?_
    refine then_r ?_
    obtain rfl := some_inj h
    have hM := hM.outs (own' := []) 0 rfl
    exact leave1 hf rfl rfl ⟨rfl, hM.fin⟩
   refine cond_f hf rfl hc365 ?_
   refine wp_skip ?_
   refine then_n ?_
   refine wp_seq ?_
   refine region_pl ?_
   refine pl_l hf rfl rfl rfl (w_makeMap fS fT hM fun b366 w367 hx368 hM a hf => ?_)
   refine q_ hf rfl rfl rfl (e_assign hf rfl) fun a hf => ?_
   refine pl_nil ?_
   refine then_n ?_
   obtain ⟨x371, h372, h⟩ := bind_some h
   refine seq_join (fun a w => ∃ (mp369 : (List (Str × Bool))) (b370 : Nat), (.inl mp369) = x371 ∧ Has 76 a [] ∧ Mem C w [.obj b370 (mapO fS fT mp369), .box b308 [vL A2 (d1.Nodes) c3, vI (n312), vL A315 (xs314) c316, vL A318 (xs317) c319, vL A321 (xs320) c322] 83, .row intRep A321 c322 3 xs320 true, .row boolRep A315 c316 4 xs314 true, .row intRep A318 c319 2 xs317 true, .box b5 [vL A2 (d1.Nodes) c3] 31] [.dat (sliceRep NodeRep) d1.Nodes [vL A2 d1.Nodes c3]]) ?_ ?_
   ·refine wp_seq ?_
    refine region_pl ?_
    refine q_ hf rfl rfl rfl (e_field hf rfl Tryz.underlying31 rfl Tryz.sizeOf29 (o' := 0) rfl) fun a hf => ?_
    refine q_ hf rfl rfl rfl (e_load1 hf rfl Tryz.isAgg29 (hM.boxCell (k := 5) rfl rfl)) fun a hf => ?_
    have hl373 := slice_len (hM.dat (k := 0) rfl)
    refine q_ hf rfl rfl rfl (e_lenL hf (x := d1.Nodes) rfl Tryz.underlying29) fun a hf => ?_
    refine q_ hf rfl rfl rfl (e_move hf rfl) fun a hf => ?_
    refine pl_nil ?_
    refine then_n ?_
    refine wp_block ?_
    obtain ⟨x381, h382, h372⟩ := bind_some h372
    refine wp_loopM h382 (fun s a w => ∃ (mp374 : (List (Str × Bool))) (n376 : Int) (b375 : Nat), (mp374, n376) = s ∧ Has 76 a [(5, vM b375), (62, vL A2 (d1.Nodes) c3), (63, vI ((d1.Nodes.length : Int))), (64, vI (n376))] ∧ Mem C w [.obj b375 (mapO fS fT mp374), .box b308 [vL A2 (d1.Nodes) c3, vI (n312), vL A315 (xs314) c316, vL A318 (xs317) c319, vL A321 (xs320) c322] 83, .row intRep A321 c322 3 xs320 true, .row boolRep A315 c316 4 xs314 true, .row intRep A318 c319 2 xs317 true, .box b5 [vL A2 (d1.Nodes) c3] 31] [.dat (sliceRep NodeRep) d1.Nodes [vL A2 d1.Nodes c3]] ∧ R64 n376) ?_ ?_
    ·exact ⟨([] : (List (Str × Bool))), 0, b366, rfl, hf.keep ⟨rfl, rfl, rfl, rfl, trivial⟩, hM.pick [0] rfl, (R64_lit rfl)⟩
    rintro s o383 a w378 ⟨mp374, n376, b375, rfl, hf, hM, hv377⟩ h384 hd385
    replace h384 : m_impl_ValidDawg_l1 d1 mp374 n376 = some o383 := h384
    unfold m_impl_ValidDawg_l1 at h384
    refine wp_seq ?_
    refine region_pl ?_
    refine q_ hf rfl rfl rfl (e_lt hf (x := n376) (y := (d1.Nodes.length : Int)) rfl rfl) fun a hf => ?_
    refine pl_nil ?_
    refine then_n ?_
    refine wp_seq ?_
    rcases cond_some h384 with ⟨hc386, h384⟩ | ⟨hc386, h384⟩
    ·refine cond_t hf rfl hc386 ?_
     refine wp_skip ?_
     refine then_n ?_
     refine wp_seq ?_
     refine wp_block ?_
     refine wp_seq ?_
     refine region_pl ?_
     obtain ⟨e387, hz388, h384⟩ := bind_some h384
     obtain ⟨b392, o393, _, hA394, h389, h390, hr391, hM⟩ := hM.elem (hM.dat (k := 0) rfl) (n := 3) rfl hz388
     obtain ⟨A396, c397, rfl, hv395, hv398⟩ := NodeRep_open hr391
     have hM := hM.add (y := .dat (sliceRep intRep) e387.Next [vL A396 e387.Next c397]) hv398
     refine q_ hf rfl rfl rfl (e_indexAddr (A := A2) (b := b392) (o := o393) (xs := d1.Nodes) (i := n376) hf hA394 rfl rfl Tryz.underlying29 Tryz.sizeOf47 h389 h390) fun a hf => ?_
     refine q_ hf rfl rfl rfl (e_loadA hf (us := [.bool (e387.Final), vS (e387.Letters), vL A396 (e387.Next) c397]) rfl ⟨Tryz.isAgg47, Tryz.sizeOf47⟩ rfl (hM.litSub (k := 1) (d := 0) (us := [.bool (e387.Final), vS (e387.Letters), vL A396 (e387.Next) c397]) rfl rfl rfl)) fun a hf => ?_
     refine pl_l hf rfl rfl rfl (w_alloc hM (cs := [.bool (false), vS (([] : Str)), vL none (([] : (List Int))) 0]) Tryz.zeroValue47 rfl fun b399 w400 hx401 hM a hf => ?_)
     refine pl_0 hf rfl rfl (w_store hf hM (us := [.bool (e387.Final), vS (e387.Letters), vL A396 (e387.Next) c397]) (cs' := [.bool (e387.Final), vS (e387.Letters), vL A396 (e387.Next) c397]) rfl rfl (k := 0) rfl rfl Tryz.sizeOf47 rfl rfl rfl fun w403 hM => ?_)
     dsimp only [List.set] at hM
     refine pl_nil ?_
     refine then_n ?_
     refine wp_seq ?_
     refine region_pl ?_
     refine q_ hf rfl rfl rfl (e_loadA hf (us := [.bool (e387.Final), vS (e387.Letters), vL A396 (e387.Next) c397]) rfl ⟨Tryz.isAgg47, Tryz.sizeOf47⟩ rfl (hM.boxSub (k := 0) (us := [.bool (e387.Final), vS (e387.Letters), vL A396 (e387.Next) c397]) (o := 0) rfl rfl)) fun a hf => ?_
     obtain ⟨y406, hz407, h384⟩ := bind_some h384
     refine pl_l hf rfl rfl rfl (w_call hf Tryz.call43 rfl (r_impl_keyOf ⟨_, Sh C _ _, none_, hM.sh_lt, none_not, C.G, hM.g_lt, g_none, hM.tabs⟩ e387 hv395 _ _ (hM.dat (k := 0) rfl) _ hz407) ?_)
     rintro _ w409 ⟨rfl, hM2, hv408⟩
     obtain ⟨hM, hx410, hup411⟩ := hM.back hM2
     dsimp only [List.cons_append, List.nil_append] at hM hup411
     clear hM2
     refine ⟨_, rfl, fun a hf => ?_⟩
     refine q_ hf rfl rfl rfl (e_assign hf rfl) fun a hf => ?_
     refine pl_nil ?_
     refine then_n ?_
     iterate 2 refine wp_seq ?_
     refine region_pl ?_
     iterate 2 refine q_ hf rfl rfl rfl (e_move hf rfl) fun a hf => ?_
     refine q_ hf rfl rfl rfl (e_lookup (fk := fS) (fv := fT) hf (keyS Tryz.underlying9) Tryz.underlying85 (k := y406) (z := false) rfl rfl Tryz.zeroValue4 (hM.ownAt (k := 1) rfl)) fun a hf => ?_
     refine pl_nil ?_
     refine then_n ?_
     rcases cond_some h384 with ⟨hc412, h384⟩ | ⟨hc412, h384⟩
     ·refine cond_t hf rfl hc412 ?_
      refine wp_seq ?_
      refine region_pl ?_
      refine q_ hf rfl rfl rfl (e_assign hf rfl) fun a hf => ?_
      refine pl_nil ?_
      refine then_n ?_
      refine wp_ret ?_
      refine then_r ?_
      refine blk_r ?_
      refine then_r ?_
      obtain rfl := some_inj h384
      obtain rfl := hd385 _ rfl
      try dsimp only at h372
      refine then_r ?_
      refine blk_r ?_
      obtain rfl := some_inj h372
      try dsimp only at h
      refine then_r ?_
      obtain rfl := some_inj h
      have hM := hM.outs (own' := []) 0 rfl
      exact leave1 hf rfl rfl ⟨rfl, hM.fin⟩
     refine cond_f hf rfl hc412 ?_
     refine wp_skip ?_
     refine then_n ?_
     refine region_pl ?_
     iterate 2 refine q_ hf rfl rfl rfl (e_move hf rfl) fun a hf => ?_
     refine pl_0 hf rfl rfl (w_mapUpdate (fk := fS) (fv := fT) hf hM (keyS Tryz.underlying9) Tryz.underlying85 (k := y406) (v := true) rfl rfl rfl (n := 1) rfl fun w413 hM => ?_)
     dsimp only [List.set] at hM
     refine pl_nil ?_
     refine blk_n ?_
     refine then_n ?_
     refine region_pl ?_
     obtain ⟨z414, hz415, h384⟩ := bind_some h384
     refine q_ hf rfl rfl rfl (e_add hf rfl rfl hz415) fun a hf => ?_
     refine q_ hf rfl rfl rfl (e_move hf rfl) fun a hf => ?_
     refine pl_nil ?_
     obtain rfl := some_inj h384
     refine then_n ⟨_, rfl, ?_⟩
     exact ⟨(putM mp374 y406 true), z414, b375, rfl, hf.keep ⟨rfl, rfl, rfl, rfl, trivial⟩, (hM.drop (.cons _ (.cons_cons _ (.cons_cons _ (.cons_cons _ (.cons_cons _ (.cons_cons _ (.cons_cons _ .slnil)))))))).pick [2] rfl, (chk_R hz415)⟩
    refine cond_f hf rfl hc386 ?_
    refine wp_exit ?_
    refine then_x ?_
    obtain rfl := some_inj h384
    obtain rfl := hd385 _ rfl
    try dsimp only at h372
    refine then_x ?_
    refine exit_hit ?_
    obtain rfl := some_inj h372
    refine then_n ?_
    exact ⟨mp374, b375, rfl, hf.keep trivial, hM.pick [0] rfl⟩
   rintro a w422 ⟨mp369, b370, rfl, hf, hM⟩
   try dsimp only at h
   refine wp_seq ?_
   refine region_pl ?_
   refine q_ hf rfl rfl rfl (e_assign hf rfl) fun a hf => ?_
   refine pl_nil ?_
   refine then_n ?_
   refine wp_ret ?_
   obtain rfl := some_inj h
   have hM := hM.outs (own' := []) 0 rfl
   exact leave1 hf rfl rfl ⟨rfl, hM.fin⟩
  refine pi_l hf rfl rfl rfl rfl (w_make hf hM (K := intRep) Tryz.underlying81 ei_3 Tryz.zeroValue3 rfl rfl rfl ⟨rfl, (R64_lit rfl)⟩ hz48 fun b424 w425 hx426 hM => ⟨Ext w425, fun _ h => Ext.trans hx426 h, Ext.refl _, fun a hf => ?_⟩)
  refine pi_one ?_
  refine pi_l hf rfl rfl rfl rfl (w_make hf hM (K := boolRep) Tryz.underlying80 ei_4 Tryz.zeroValue4 rfl rfl rfl rfl hz38 fun b427 w428 hx429 hM => ⟨Ext w428, fun _ h => Ext.trans hx429 h, Ext.refl _, fun a hf => ?_⟩)
  refine pi_q hf rfl rfl rfl rfl (Ext.refl _) (e_build hf Tryz.zeroValue83 Tryz.underlying83 (bp_83 _ Tryz.underlying83.symm) rfl (cs := #[vL A2 (d1.Nodes) c3, vI (0), vL (some ⟨b427, 0, none⟩) (xs37) (((d1.Nodes.length : Int) : Int).toNat), vL (some ⟨b299, 0, none⟩) (xs42) (((d1.Nodes.length : Int) : Int).toNat), vL (some ⟨b424, 0, none⟩) (xs47) (((d1.Nodes.length : Int) : Int).toNat)]) (by kernel_rfl)) fun a hf => ?_
  refine pi_one ?_
  refine pi_l hf rfl rfl rfl rfl (w_box hf hM (cs := [vL A2 (d1.Nodes) c3, vI (0), vL (some ⟨b427, 0, none⟩) (xs37) (((d1.Nodes.length : Int) : Int).toNat), vL (some ⟨b299, 0, none⟩) (xs42) (((d1.Nodes.length : Int) : Int).toNat), vL (some ⟨b424, 0, none⟩) (xs47) (((d1.Nodes.length : Int) : Int).toNat)]) rfl rfl fun b430 w431 hx432 hM => ⟨Ext w431, fun _ h => Ext.trans hx432 h, Ext.refl _, fun a hf => ?_⟩)
  refine pi_q hf rfl rfl rfl rfl (Ext.refl _) (e_assign hf rfl) fun a hf => ?_
  refine pi_nil ?_
  refine then_n ?_
  refine wp_seq ?_
  obtain ⟨x447, h448, h⟩ := bind_some h
  refine seq_join (fun a w => ∃ (n434 : Int) (xs436 : (List Bool)) (xs439 : (List Int)) (xs442 : (List Int)) (t445 : Bool) (A437 : Option Addr) (c438 : Nat) (A440 : Option Addr) (c441 : Nat) (A443 : Option Addr) (c444 : Nat), (n434, xs436, xs439, xs442, t445) = x447 ∧ Has 76 a [(1, vP b5 (0)), (59, .bool (t445))] ∧ Mem C w [.box b430 [vL A2 (d1.Nodes) c3, vI (n434), vL A437 (xs436) c438, vL A440 (xs439) c441, vL A443 (xs442) c444] 83, .row boolRep A437 c438 4 xs436 true, .row intRep A443 c444 3 xs442 true, .row intRep A440 c441 2 xs439 true, .box b5 [vL A2 (d1.Nodes) c3] 31] [.dat (sliceRep NodeRep) d1.Nodes [vL A2 d1.Nodes c3]] ∧ R64 n434) ?_ ?_
  ·refine region_pl ?_
   refine q_ hf rfl rfl rfl (e_move hf rfl) fun a hf => ?_
   have hM := hM.front (k := 2) rfl
   dsimp only [List.eraseIdx] at hM
   have hM := hM.front (k := 3) rfl
   dsimp only [List.eraseIdx] at hM
   have hM := hM.front (k := 3) rfl
   dsimp only [List.eraseIdx] at hM
   have hM := hM.front (k := 3) rfl
   dsimp only [List.eraseIdx] at hM
   have hM : Mem C _ ([.box b430 [vL A2 (d1.Nodes) c3, vI (0), vL (some ⟨b427, 0, none⟩) (xs37) (((d1.Nodes.length : Int) : Int).toNat), vL (some ⟨b299, 0, none⟩) (xs42) (((d1.Nodes.length : Int) : Int).toNat), vL (some ⟨b424, 0, none⟩) (xs47) (((d1.Nodes.length : Int) : Int).toNat)] 83, .row boolRep (some ⟨b427, 0, none⟩) (((d1.Nodes.length : Int) : Int).toNat) 4 xs37 true, .row intRep (some ⟨b299, 0, none⟩) (((d1.Nodes.length : Int) : Int).toNat) 2 xs42 true, .row intRep (some ⟨b424, 0, none⟩) (((d1.Nodes.length : Int) : Int).toNat) 3 xs47 true] ++ [.box b5 [vL A2 (d1.Nodes) c3] 31]) _ := hM
   obtain ⟨y449, hz450, h448⟩ := bind_some h448
   refine pl_l hf rfl rfl rfl (w_call hf Tryz.call42 rfl (r_impl_inspector_visit ⟨_, Sh C _ _, ownB _, hM.sh_lt, sub_dis, C.G, hM.g_lt, hM.g_own, hM.tabs⟩ (⟨⟨d1.Nodes⟩, 0, xs37, xs42, xs47⟩ : inspector) _ _ _ (hM.dat (k := 0) rfl) (R64_lit rfl) _ _ _ _ _ _ 0 (R64_lit rfl) hM.sub sub_dis _ hz450) ?_)
   rintro _ w458 ⟨A452, c453, A454, c455, A456, c457, rfl, hM2, hv451⟩
   obtain ⟨hM, hup460⟩ := hM.backG hM2
   dsimp only [List.cons_append, List.nil_append] at hM hup460
   clear hM2
   refine ⟨_, rfl, fun a hf => ?_⟩
   refine q_ hf rfl rfl rfl (e_not hf rfl) fun a hf => ?_
   refine q_ hf rfl rfl rfl (e_move hf rfl) fun a hf => ?_
   rcases cond_some h448 with ⟨hc461, h448⟩ | ⟨hc461, h448⟩
   ·iterate 6 refine pl_gs (wanted_f hf rfl rfl rfl rfl hc461) hf rfl rfl fun a hf => ?_
    refine q_ hf rfl rfl rfl (e_pick_t hf rfl hc461 rfl) fun a hf => ?_
    refine q_ hf rfl rfl rfl (e_move hf rfl) fun a hf => ?_
    iterate 7 refine pl_gs (wanted_f hf rfl rfl rfl rfl rfl) hf rfl rfl fun a hf => ?_
    refine q_ hf rfl rfl rfl (e_pick_t hf rfl rfl rfl) fun a hf => ?_
    refine q_ hf rfl rfl rfl (e_move hf rfl) fun a hf => ?_
    iterate 7 refine pl_gs (wanted_f hf rfl rfl rfl rfl rfl) hf rfl rfl fun a hf => ?_
    refine q_ hf rfl rfl rfl (e_pick_t hf rfl rfl rfl) fun a hf => ?_
    refine pl_nil ?_
    obtain rfl := some_inj h448
    refine then_n ?_
    have hM := hM.front (k := 4) rfl
    dsimp only [List.eraseIdx] at hM
    have hM := hM.front (k := 3) rfl
    dsimp only [List.eraseIdx] at hM
    have hM := hM.front (k := 4) rfl
    dsimp only [List.eraseIdx] at hM
    have hM := hM.front (k := 4) rfl
    dsimp only [List.eraseIdx] at hM
    have hM := hM.front (k := 4) rfl
    dsimp only [List.eraseIdx] at hM
    exact ⟨y449.2.met, y449.2.open_, y449.2.strings, y449.2.longest, true, A452, c453, A454, c455, A456, c457, rfl, hf.keep ⟨rfl, rfl, trivial⟩, hM.pick [0] rfl, hv451⟩
   refine gq (wanted_t hf rfl rfl rfl rfl hc461) hf rfl rfl (e_move hf rfl) fun a hf => ?_
   refine gq (wanted_t hf rfl rfl rfl rfl hc461) hf rfl rfl (e_nil hf rfl) fun a hf => ?_
   refine gq (wanted_t hf rfl rfl rfl rfl hc461) hf rfl rfl (e_field hf rfl Tryz.underlying83 rfl Tryz.sizeOf2 (o' := 1) rfl) fun a hf => ?_
   refine gq (wanted_t hf rfl rfl rfl rfl hc461) hf rfl rfl (e_load1 hf rfl Tryz.isAgg2 (hM.boxCell (k := 0) rfl rfl)) fun a hf => ?_
   refine gq (wanted_t hf rfl rfl rfl rfl hc461) hf rfl rfl (e_move hf rfl) fun a hf => ?_
   refine gq (wanted_t hf rfl rfl rfl rfl hc461) hf rfl rfl (e_ne hf (x := y449.2.met) (y := (d1.Nodes.length : Int)) rfl rfl) fun a hf => ?_
   refine q_ hf rfl rfl rfl (e_pick_f hf rfl hc461 rfl) fun a hf => ?_
   refine q_ hf rfl rfl rfl (e_move hf rfl) fun a hf => ?_
   rcases cond_some h448 with ⟨hc463, h448⟩ | ⟨hc463, h448⟩
   ·iterate 7 refine pl_gs (wanted_f hf rfl rfl rfl rfl hc463) hf rfl rfl fun a hf => ?_
    refine q_ hf rfl rfl rfl (e_pick_t hf rfl hc463 rfl) fun a hf => ?_
    refine q_ hf rfl rfl rfl (e_move hf rfl) fun a hf => ?_
    iterate 7 refine pl_gs (wanted_f hf rfl rfl rfl rfl rfl) hf rfl rfl fun a hf => ?_
    refine q_ hf rfl rfl rfl (e_pick_t hf rfl rfl rfl) fun a hf => ?_
    refine pl_nil ?_
    obtain rfl := some_inj h448
    refine then_n ?_
    have hM := hM.front (k := 4) rfl
    dsimp only [List.eraseIdx] at hM
    have hM := hM.front (k := 3) rfl
    dsimp only [List.eraseIdx] at hM
    have hM := hM.front (k := 4) rfl
    dsimp only [List.eraseIdx] at hM
    have hM := hM.front (k := 4) rfl
    dsimp only [List.eraseIdx] at hM
    have hM := hM.front (k := 4) rfl
    dsimp only [List.eraseIdx] at hM
    exact ⟨y449.2.met, y449.2.open_, y449.2.strings, y449.2.longest, true, A452, c453, A454, c455, A456, c457, rfl, hf.keep ⟨rfl, rfl, trivial⟩, hM.pick [0] rfl, hv451⟩
   refine gq (wanted_t hf rfl rfl rfl rfl hc463) hf rfl rfl (e_move hf rfl) fun a hf => ?_
   refine gq (wanted_t hf rfl rfl rfl rfl hc463) hf rfl rfl (e_nil hf rfl) fun a hf => ?_
   refine gq (wanted_t hf rfl rfl rfl rfl hc463) hf rfl rfl (e_field hf rfl Tryz.underlying83 rfl Tryz.sizeOf45 (o' := 3) rfl) fun a hf => ?_
   refine gq (wanted_t hf rfl rfl rfl rfl hc463) hf rfl rfl (e_load1 hf rfl Tryz.isAgg45 (hM.boxCell (k := 0) rfl rfl)) fun a hf => ?_
   obtain ⟨e465, hz466, h448⟩ := bind_some h448
   obtain ⟨b471, _, hA472, h467, h468, hr469, hcell470⟩ := hM.rowElemN (k := 2) rfl (n := 1) rfl hz466
   obtain ⟨rfl, hv473⟩ := hr469
   refine gq (wanted_t hf rfl rfl rfl rfl hc463) hf rfl rfl (e_indexAddr (A := A454) (b := b471) (o := 0) (xs := y449.2.strings) (i := 0) hf hA472 rfl rfl Tryz.underlying45 Tryz.sizeOf2 h467 h468) fun a hf => ?_
   refine gq (wanted_t hf rfl rfl rfl rfl hc463) hf rfl rfl (e_load1 hf rfl Tryz.isAgg2 (hcell470 0 _ rfl)) fun a hf => ?_
   refine gq (wanted_t hf rfl rfl rfl rfl hc463) hf rfl rfl (e_gt hf (x := e465) (y := 3000) rfl rfl) fun a hf => ?_
   refine q_ hf rfl rfl rfl (e_pick_f hf rfl hc463 rfl) fun a hf => ?_
   refine q_ hf rfl rfl rfl (e_move hf rfl) fun a hf => ?_
   rcases cond_some h448 with ⟨hc474, h448⟩ | ⟨hc474, h448⟩
   ·iterate 7 refine pl_gs (wanted_f hf rfl rfl rfl rfl hc474) hf rfl rfl fun a hf => ?_
    refine q_ hf rfl rfl rfl (e_pick_t hf rfl hc474 rfl) fun a hf => ?_
    refine pl_nil ?_
    obtain rfl := some_inj h448
    refine then_n ?_
    have hM := hM.front (k := 4) rfl
    dsimp only [List.eraseIdx] at hM
    have hM := hM.front (k := 3) rfl
    dsimp only [List.eraseIdx] at hM
    have hM := hM.front (k := 4) rfl
    dsimp only [List.eraseIdx] at hM
    have hM := hM.front (k := 4) rfl
    dsimp only [List.eraseIdx] at hM
    have hM := hM.front (k := 4) rfl
    dsimp only [List.eraseIdx] at hM
    exact ⟨y449.2.met, y449.2.open_, y449.2.strings, y449.2.longest, true, A452, c453, A454, c455, A456, c457, rfl, hf.keep ⟨rfl, rfl, trivial⟩, hM.pick [0] rfl, hv451⟩
   refine gq (wanted_t hf rfl rfl rfl rfl hc474) hf rfl rfl (e_move hf rfl) fun a hf => ?_
   refine gq (wanted_t hf rfl rfl rfl rfl hc474) hf rfl rfl (e_nil hf rfl) fun a hf => ?_
   refine gq (wanted_t hf rfl rfl rfl rfl hc474) hf rfl rfl (e_field hf rfl Tryz.underlying83 rfl Tryz.sizeOf81 (o' := 4) rfl) fun a hf => ?_
   refine gq (wanted_t hf rfl rfl rfl rfl hc474) hf rfl rfl (e_load1 hf rfl Tryz.isAgg81 (hM.boxCell (k := 0) rfl rfl)) fun a hf => ?_
   obtain ⟨e476, hz477, h448⟩ := bind_some h448
   obtain ⟨b482, _, hA483, h478, h479, hr480, hcell481⟩ := hM.rowElemN (k := 3) rfl (n := 1) rfl hz477
   obtain ⟨rfl, hv484⟩ := hr480
   refine gq (wanted_t hf rfl rfl rfl rfl hc474) hf rfl rfl (e_indexAddr (A := A456) (b := b482) (o := 0) (xs := y449.2.longest) (i := 0) hf hA483 rfl rfl Tryz.underlying81 Tryz.sizeOf3 h478 h479) fun a hf => ?_
   refine gq (wanted_t hf rfl rfl rfl rfl hc474) hf rfl rfl (e_load1 hf rfl Tryz.isAgg3 (hcell481 0 _ rfl)) fun a hf => ?_
   refine gq (wanted_t hf rfl rfl rfl rfl hc474) hf rfl rfl (e_gt hf (x := e476) (y := 13) rfl rfl) fun a hf => ?_
   refine q_ hf rfl rfl rfl (e_pick_f hf rfl hc474 rfl) fun a hf => ?_
   refine pl_nil ?_
   obtain rfl := some_inj h448
   refine then_n ?_
   have hM := hM.front (k := 4) rfl
   dsimp only [List.eraseIdx] at hM
   have hM := hM.front (k := 3) rfl
   dsimp only [List.eraseIdx] at hM
   have hM := hM.front (k := 4) rfl
   dsimp only [List.eraseIdx] at hM
   have hM := hM.front (k := 4) rfl
   dsimp only [List.eraseIdx] at hM
   have hM := hM.front (k := 4) rfl
   dsimp only [List.eraseIdx] at hM
   exact ⟨y449.2.met, y449.2.open_, y449.2.strings, y449.2.longest, (decide (13 < e476)), A452, c453, A454, c455, A456, c457, rfl, hf.keep ⟨rfl, rfl, trivial⟩, hM.pick [0] rfl, hv451⟩
  rintro a w486 ⟨n434, xs436, xs439, xs442, t445, A437, c438, A440, c441, A443, c444, rfl, hf, hM, hv435⟩
  try dsimp only at h
  rcases cond_some h with ⟨hc487, h⟩ | ⟨hc487, h⟩
  ·refine cond_t hf rfl hc487 ?_
   refine wp_seq ?_
   refine region_pl ?_
   refine q_ hf rfl rfl rfl (e_assign hf rfl) fun a hf => ?_
   refine pl_nil ?_
   refine then_n ?_
   refine wp_ret ?_
   refine then_r ?_
   obtain rfl := some_inj h
   have hM := hM.outs (own' := []) 0 rfl
   exact leave1 hf rfl rfl ⟨rfl, hM.fin⟩
  refine cond_f hf rfl hc487 ?_
  refine wp_skip ?_
  refine then_n ?_
  refine wp_seq ?_
  refine region_pl ?_
  refine pl_l hf rfl rfl rfl (w_makeMap fS fT hM fun b488 w489 hx490 hM a hf => ?_)
  refine q_ hf rfl rfl rfl (e_assign hf rfl) fun a hf => ?_
  refine pl_nil ?_
  refine then_n ?_
  obtain ⟨x493, h494, h⟩ := bind_some h
  refine seq_join (fun a w => ∃ (mp491 : (List (Str × Bool))) (b492 : Nat), (.inl mp491) = x493 ∧ Has 76 a [] ∧ Mem C w [.obj b492 (mapO fS fT mp491), .box b430 [vL A2 (d1.Nodes) c3, vI (n434), vL A437 (xs436) c438, vL A440 (xs439) c441, vL A443 (xs442) c444] 83, .row boolRep A437 c438 4 xs436 true, .row intRep A443 c444 3 xs442 true, .row intRep A440 c441 2 xs439 true, .box b5 [vL A2 (d1.Nodes) c3] 31] [.dat (sliceRep NodeRep) d1.Nodes [vL A2 d1.Nodes c3]]) ?_ ?_
  ·refine wp_seq ?_
   refine region_pl ?_
   refine q_ hf rfl rfl rfl (e_field hf rfl Tryz.underlying31 rfl Tryz.sizeOf29 (o' := 0) rfl) fun a hf => ?_
   refine q_ hf rfl rfl rfl (e_load1 hf rfl Tryz.isAgg29 (hM.boxCell (k := 5) rfl rfl)) fun a hf => ?_
   have hl495 := slice_len (hM.dat (k := 0) rfl)
   refine q_ hf rfl rfl rfl (e_lenL hf (x := d1.Nodes) rfl Tryz.underlying29) fun a hf => ?_
   refine q_ hf rfl rfl rfl (e_move hf rfl) fun a hf => ?_
   refine pl_nil ?_
   refine then_n ?_
   refine wp_block ?_
   obtain ⟨x503, h504, h494⟩ := bind_some h494
   refine wp_loopM h504 (fun s a w => ∃ (mp496 : (List (Str × Bool))) (n498 : Int) (b497 : Nat), (mp496, n498) = s ∧ Has 76 a [(5, vM b497), (62, vL A2 (d1.Nodes) c3), (63, vI ((d1.Nodes.length : Int))), (64, vI (n498))] ∧ Mem C w [.obj b497 (mapO fS fT mp496), .box b430 [vL A2 (d1.Nodes) c3, vI (n434), vL A437 (xs436) c438, vL A440 (xs439) c441, vL A443 (xs442) c444] 83, .row boolRep A437 c438 4 xs436 true, .row intRep A443 c444 3 xs442 true, .row intRep A440 c441 2 xs439 true, .box b5 [vL A2 (d1.Nodes) c3] 31] [.dat (sliceRep NodeRep) d1.Nodes [vL A2 d1.Nodes c3]] ∧ R64 n498) ?_ ?_
   ·exact ⟨([] : (List (Str × Bool))), 0, b488, rfl, hf.keep ⟨rfl, rfl, rfl, rfl, trivial⟩, hM.pick [0] rfl, (R64_lit rfl)⟩
   rintro s o505 a w500 ⟨mp496, n498, b497, rfl, hf, hM, hv499⟩ h506 hd507
   replace h506 : m_impl_ValidDawg_l1 d1 mp496 n498 = some o505 := h506
   unfold m_impl_ValidDawg_l1 at h506
   refine wp_seq ?_
   refine region_pl ?_
   refine q_ hf rfl rfl rfl (e_lt hf (x := n498) (y := (d1.Nodes.length : Int)) rfl rfl) fun a hf => ?_
   refine pl_nil ?_
   refine then_n ?_
   refine wp_seq ?_
   rcases cond_some h506 with ⟨hc508, h506⟩ | ⟨hc508, h506⟩
   ·refine cond_t hf rfl hc508 ?_
    refine wp_skip ?_
    refine then_n ?_
    refine wp_seq ?_
    refine wp_block ?_
    refine wp_seq ?_
    refine region_pl ?_
    obtain ⟨e509, hz510, h506⟩ := bind_some h506
    obtain ⟨b514, o515, _, hA516, h511, h512, hr513, hM⟩ := hM.elem (hM.dat (k := 0) rfl) (n := 3) rfl hz510
    obtain ⟨A518, c519, rfl, hv517, hv520⟩ := NodeRep_open hr513
    have hM := hM.add (y := .dat (sliceRep intRep) e509.Next [vL A518 e509.Next c519]) hv520
    refine q_ hf rfl rfl rfl (e_indexAddr (A := A2) (b := b514) (o := o515) (xs := d1.Nodes) (i := n498) hf hA516 rfl rfl Tryz.underlying29 Tryz.sizeOf47 h511 h512) fun a hf => ?_
    refine q_ hf rfl rfl rfl (e_loadA hf (us := [.bool (e509.Final), vS (e509.Letters), vL A518 (e509.Next) c519]) rfl ⟨Tryz.isAgg47, Tryz.sizeOf47⟩ rfl (hM.litSub (k := 1) (d := 0) (us := [.bool (e509.Final), vS (e509.Letters), vL A518 (e509.Next) c519]) rfl rfl rfl)) fun a hf => ?_
    refine pl_l hf rfl rfl rfl (w_alloc hM (cs := [.bool (false), vS (([] : Str)), vL none (([] : (List Int))) 0]) Tryz.zeroValue47 rfl fun b521 w522 hx523 hM a hf => ?_)
    refine pl_0 hf rfl rfl (w_store hf hM (us := [.bool (e509.Final), vS (e509.Letters), vL A518 (e509.Next) c519]) (cs' := [.bool (e509.Final), vS (e509.Letters), vL A518 (e509.Next) c519]) rfl rfl (k := 0) rfl rfl Tryz.sizeOf47 rfl rfl rfl fun w525 hM => ?_)
    dsimp only [List.set] at hM
    refine pl_nil ?_
    refine then_n ?_
    refine wp_seq ?_
    refine region_pl ?_
    refine q_ hf rfl rfl rfl (e_loadA hf (us := [.bool (e509.Final), vS (e509.Letters), vL A518 (e509.Next) c519]) rfl ⟨Tryz.isAgg47, Tryz.sizeOf47⟩ rfl (hM.boxSub (k := 0) (us := [.bool (e509.Final), vS (e509.Letters), vL A518 (e509.Next) c519]) (o := 0) rfl rfl)) fun a hf => ?_
    obtain ⟨y528, hz529, h506⟩ := bind_some h506
    refine pl_l hf rfl rfl rfl (w_call hf Tryz.call43 rfl (r_impl_keyOf ⟨_, Sh C _ _, none_, hM.sh_lt, none_not, C.G, hM.g_lt, g_none, hM.tabs⟩ e509 hv517 _ _ (hM.dat (k := 0) rfl) _ hz529) ?_)
    rintro _ w531 ⟨rfl, hM2, hv530⟩
    obtain ⟨hM, hx532, hup533⟩ := hM.back hM2
    dsimp only [List.cons_append, List.nil_append] at hM hup533
    clear hM2
    refine ⟨_, rfl, fun a hf => ?_⟩
    refine q_ hf rfl rfl rfl (e_assign hf rfl) fun a hf => ?_
    refine pl_nil ?_
    refine then_n ?_
    iterate 2 refine wp_seq ?_
    refine region_pl ?_
    iterate 2 refine q_ hf rfl rfl rfl (e_move hf rfl) fun a hf => ?_
    refine q_ hf rfl rfl rfl (e_lookup (fk := fS) (fv := fT) hf (keyS Tryz.underlying9) Tryz.underlying85 (k := y528) (z := false) rfl rfl Tryz.zeroValue4 (hM.ownAt (k := 1) rfl)) fun a hf => ?_
    refine pl_nil ?_
    refine then_n ?_
    rcases cond_some h506 with ⟨hc534, h506⟩ | ⟨hc534, h506⟩
    ·refine cond_t hf rfl hc534 ?_
     refine wp_seq ?_
     refine region_pl ?_
     refine q_ hf rfl rfl rfl (e_assign hf rfl) fun a hf => ?_
     refine pl_nil ?_
     refine then_n ?_
     refine wp_ret ?_
     refine then_r ?_
     refine blk_r ?_
     refine then_r ?_
     obtain rfl := some_inj h506
     obtain rfl := hd507 _ rfl
     try dsimp only at h494
     refine then_r ?_
     refine blk_r ?_
     obtain rfl := some_inj h494
     try dsimp only at h
     refine then_r ?_
     obtain rfl := some_inj h
     have hM := hM.outs (own' := []) 0 rfl
     exact leave1 hf rfl rfl ⟨rfl, hM.fin⟩
    refine cond_f hf rfl hc534 ?_
    refine wp_skip ?_
    refine then_n ?_
    refine region_pl ?_
    iterate 2 refine q_ hf rfl rfl rfl (e_move hf rfl) fun a hf => ?_
    refine pl_0 hf rfl rfl (w_mapUpdate (fk := fS) (fv := fT) hf hM (keyS Tryz.underlying9) Tryz.underlying85 (k := y528) (v := true) rfl rfl rfl (n := 1) rfl fun w535 hM => ?_)
    dsimp only [List.set] at hM
    refine pl_nil ?_
    refine blk_n ?_
    refine then_n ?_
    refine region_pl ?_
    obtain ⟨z536, hz537, h506⟩ := bind_some h506
    refine q_ hf rfl rfl rfl (e_add hf rfl rfl hz537) fun a hf => ?_
    refine q_ hf rfl rfl rfl (e_move hf rfl) fun a hf => ?_
    refine pl_nil ?_
    obtain rfl := some_inj h506
    refine then_n ⟨_, rfl, ?_⟩
    exact ⟨(putM mp496 y528 true), z536, b497, rfl, hf.keep ⟨rfl, rfl, rfl, rfl, trivial⟩, (hM.drop (.cons _ (.cons_cons _ (.cons_cons _ (.cons_cons _ (.cons_cons _ (.cons_cons _ (.cons_cons _ .slnil)))))))).pick [2] rfl, (chk_R hz537)⟩
   refine cond_f hf rfl hc508 ?_
   refine wp_exit ?_
   refine then_x ?_
   obtain rfl := some_inj h506
   obtain rfl := hd507 _ rfl
   try dsimp only at h494
   refine then_x ?_
   refine exit_hit ?_
   obtain rfl := some_inj h494
   refine then_n ?_
   exact ⟨mp496, b497, rfl, hf.keep trivial, hM.pick [0] rfl⟩
  rintro a w544 ⟨mp491, b492, rfl, hf, hM⟩
  try dsimp only at h
  refine wp_seq ?_
  refine region_pl ?_
  refine q_ hf rfl rfl rfl (e_assign hf rfl) fun a hf => ?_
  refine pl_nil ?_
  refine then_n ?_
  refine wp_ret ?_
  obtain rfl := some_inj h
  have hM := hM.outs (own' := []) 0 rfl
  exact leave1 hf rfl rfl ⟨rfl, hM.fin⟩
 refine pi_l hf rfl rfl rfl rfl (w_make hf hM (K := intRep) Tryz.underlying81 ei_3 Tryz.zeroValue3 rfl rfl rfl ⟨rfl, (R64_lit rfl)⟩ hz48 fun b546 w547 hx548 hM => ⟨Ext w547, fun _ h => Ext.trans hx548 h, Ext.refl _, fun a hf => ?_⟩)
 refine pi_two ?_ ?_
 ·refine pi_l hf rfl rfl rfl rfl (w_make hf hM (K := boolRep) Tryz.underlying80 ei_4 Tryz.zeroValue4 rfl rfl rfl rfl hz38 fun b549 w550 hx551 hM => ⟨Ext w550, fun _ h => Ext.trans hx551 h, Ext.refl _, fun a hf => ?_⟩)
  refine pi_one ?_
  refine pi_l hf rfl rfl rfl rfl (w_make hf hM (K := intRep) Tryz.underlying45 ei_2 Tryz.zeroValue2 rfl rfl rfl ⟨rfl, (R64_lit rfl)⟩ hz43 fun b552 w553 hx554 hM => ⟨Ext w553, fun _ h => Ext.trans hx554 h, Ext.refl _, fun a hf => ?_⟩)
  refine pi_q hf rfl rfl rfl rfl (Ext.refl _) (e_build hf Tryz.zeroValue83 Tryz.underlying83 (bp_83 _ Tryz.underlying83.symm) rfl (cs := #[vL A2 (d1.Nodes) c3, vI (0), vL (some ⟨b549, 0, none⟩) (xs37) (((d1.Nodes.length : Int) : Int).toNat), vL (some ⟨b552, 0, none⟩) (xs42) (((d1.Nodes.length : Int) : Int).toNat), vL (some ⟨b546, 0, none⟩) (xs47) (((d1.Nodes.length : Int) : Int).toNat)]) (by kernel_rfl)) fun a hf => ?_
  refine pi_one ?_
  refine pi_l hf rfl rfl rfl rfl (w_box hf hM (cs := [vL A2 (d1.Nodes) c3, vI (0), vL (some ⟨b549, 0, none⟩) (xs37) (((d1.Nodes.length : Int) : Int).toNat), vL (some ⟨b552, 0, none⟩) (xs42) (((d1.Nodes.length : Int) : Int).toNat), vL (some ⟨b546, 0, none⟩) (xs47) (((d1.Nodes.length : Int) : Int).toNat)]) rfl rfl fun b555 w556 hx557 hM => ⟨Ext w556, fun _ h => Ext.trans hx557 h, Ext.refl _, fun a hf => ?_⟩)
  refine pi_q hf rfl rfl rfl rfl (Ext.refl _) (e_assign hf rfl) fun a hf => ?_
  refine pi_nil ?_
  refine then_n ?_
  refine wp_seq ?_
  obtain ⟨x572, h573, h⟩ := bind_some h
  refine seq_join (fun a w => ∃ (n559 : Int) (xs561 : (List Bool)) (xs564 : (List Int)) (xs567 : (List Int)) (t570 : Bool) (A562 : Option Addr) (c563 : Nat) (A565 : Option Addr) (c566 : Nat) (A568 : Option Addr) (c569 : Nat), (n559, xs561, xs564, xs567, t570) = x572 ∧ Has 76 a [(1, vP b5 (0)), (59, .bool (t570))] ∧ Mem C w [.box b555 [vL A2 (d1.Nodes) c3, vI (n559), vL A562 (xs561) c563, vL A565 (xs564) c566, vL A568 (xs567) c569] 83, .row intRep A565 c566 2 xs564 true, .row boolRep A562 c563 4 xs561 true, .row intRep A568 c569 3 xs567 true, .box b5 [vL A2 (d1.Nodes) c3] 31] [.dat (sliceRep NodeRep) d1.Nodes [vL A2 d1.Nodes c3]] ∧ R64 n559) ?_ ?_
  ·refine region_pl ?_
   refine q_ hf rfl rfl rfl (e_move hf rfl) fun a hf => ?_
   have hM := hM.front (k := 3) rfl
   dsimp only [List.eraseIdx] at hM
   have hM := hM.front (k := 2) rfl
   dsimp only [List.eraseIdx] at hM
   have hM := hM.front (k := 3) rfl
   dsimp only [List.eraseIdx] at hM
   have hM := hM.front (k := 3) rfl
   dsimp only [List.eraseIdx] at hM
   have hM : Mem C _ ([.box b555 [vL A2 (d1.Nodes) c3, vI (0), vL (some ⟨b549, 0, none⟩) (xs37) (((d1.Nodes.length : Int) : Int).toNat), vL (some ⟨b552, 0, none⟩) (xs42) (((d1.Nodes.length : Int) : Int).toNat), vL (some ⟨b546, 0, none⟩) (xs47) (((d1.Nodes.length : Int) : Int).toNat)] 83, .row boolRep (some ⟨b549, 0, none⟩) (((d1.Nodes.length : Int) : Int).toNat) 4 xs37 true, .row intRep (some ⟨b552, 0, none⟩) (((d1.Nodes.length : Int) : Int).toNat) 2 xs42 true, .row intRep (some ⟨b546, 0, none⟩) (((d1.Nodes.length : Int) : Int).toNat) 3 xs47 true] ++ [.box b5 [vL A2 (d1.Nodes) c3] 31]) _ := hM
   obtain ⟨y574, hz575, h573⟩ := bind_some h573
   refine pl_l hf rfl rfl rfl (w_call hf Tryz.call42 rfl (r_impl_inspector_visit ⟨_, Sh C _ _, ownB _, hM.sh_lt, sub_dis, C.G, hM.g_lt, hM.g_own, hM.tabs⟩ (⟨⟨d1.Nodes⟩, 0, xs37, xs42, xs47⟩ : inspector) _ _ _ (hM.dat (k := 0) rfl) (R64_lit rfl) _ _ _ _ _ _ 0 (R64_lit rfl) hM.sub sub_dis _ hz575) ?_)
   rintro _ w583 ⟨A577, c578, A579, c580, A581, c582, rfl, hM2, hv576⟩
   obtain ⟨hM, hup585⟩ := hM.backG hM2
   dsimp only [List.cons_append, List.nil_append] at hM hup585
   clear hM2
   refine ⟨_, rfl, fun a hf => ?_⟩
   refine q_ hf rfl rfl rfl (e_not hf rfl) fun a hf => ?_
   refine q_ hf rfl rfl rfl (e_move hf rfl) fun a hf => ?_
   rcases cond_some h573 with ⟨hc586, h573⟩ | ⟨hc586, h573⟩
   ·iterate 6 refine pl_gs (wanted_f hf rfl rfl rfl rfl hc586) hf rfl rfl fun a hf => ?_
    refine q_ hf rfl rfl rfl (e_pick_t hf rfl hc586 rfl) fun a hf => ?_
    refine q_ hf rfl rfl rfl (e_move hf rfl) fun a hf => ?_
    iterate 7 refine pl_gs (wanted_f hf rfl rfl rfl rfl rfl) hf rfl rfl fun a hf => ?_
    refine q_ hf rfl rfl rfl (e_pick_t hf rfl rfl rfl) fun a hf => ?_
    refine q_ hf rfl rfl rfl (e_move hf rfl) fun a hf => ?_
    iterate 7 refine pl_gs (wanted_f hf rfl rfl rfl rfl rfl) hf rfl rfl fun a hf => ?_
    refine q_ hf rfl rfl rfl (e_pick_t hf rfl rfl rfl) fun a hf => ?_
    refine pl_nil ?_
    obtain rfl := some_inj h573
    refine then_n ?_
    have hM := hM.front (k := 4) rfl
    dsimp only [List.eraseIdx] at hM
    have hM := hM.front (k := 4) rfl
    dsimp only [List.eraseIdx] at hM
    have hM := hM.front (k := 3) rfl
    dsimp only [List.eraseIdx] at hM
    have hM := hM.front (k := 4) rfl
    dsimp only [List.eraseIdx] at hM
    have hM := hM.front (k := 4) rfl
    dsimp only [List.eraseIdx] at hM
    exact ⟨y574.2.met, y574.2.open_, y574.2.strings, y574.2.longest, true, A577, c578, A579, c580, A581, c582, rfl, hf.keep ⟨rfl, rfl, trivial⟩, hM.pick [0] rfl, hv576⟩
   refine gq (wanted_t hf rfl rfl rfl rfl hc586) hf rfl rfl (e_move hf rfl) fun a hf => ?_
   refine gq (wanted_t hf rfl rfl rfl rfl hc586) hf rfl rfl (e_nil hf rfl) fun a hf => ?_
   refine gq (wanted_t hf rfl rfl rfl rfl hc586) hf rfl rfl (e_field hf rfl Tryz.underlying83 rfl Tryz.sizeOf2 (o' := 1) rfl) fun a hf => ?_
   refine gq (wanted_t hf rfl rfl rfl rfl hc586) hf rfl rfl (e_load1 hf rfl Tryz.isAgg2 (hM.boxCell (k := 0) rfl rfl)) fun a hf => ?_
   refine gq (wanted_t hf rfl rfl rfl rfl hc586) hf rfl rfl (e_move hf rfl) fun a hf => ?_
   refine gq (wanted_t hf rfl rfl rfl rfl hc586) hf rfl rfl (e_ne hf (x := y574.2.met) (y := (d1.Nodes.length : Int)) rfl rfl) fun a hf => ?_
   refine q_ hf rfl rfl rfl (e_pick_f hf rfl hc586 rfl) fun a hf => ?_
   refine q_ hf rfl rfl rfl (e_move hf rfl) fun a hf => ?_
   rcases cond_some h573 with ⟨hc588, h573⟩ | ⟨hc588, h573⟩
   ·iterate 7 refine pl_gs (wanted_f hf rfl rfl rfl rfl hc588) hf rfl rfl fun a hf => ?_
    refine q_ hf rfl rfl rfl (e_pick_t hf rfl hc588 rfl) fun a hf => ?_
    refine q_ hf rfl rfl rfl (e_move hf rfl) fun a hf => ?_
    iterate 7 refine pl_gs (wanted_f hf rfl rfl rfl rfl rfl) hf rfl rfl fun a hf => ?_
    refine q_ hf rfl rfl rfl (e_pick_t hf rfl rfl rfl) fun a hf => ?_
    refine pl_nil ?_
    obtain rfl := some_inj h573
    refine then_n ?_
    have hM := hM.front (k := 4) rfl
    dsimp only [List.eraseIdx] at hM
    have hM := hM.front (k := 4) rfl
    dsimp only [List.eraseIdx] at hM
    have hM := hM.front (k := 3) rfl
    dsimp only [List.eraseIdx] at hM
    have hM := hM.front (k := 4) rfl
    dsimp only [List.eraseIdx] at hM
    have hM := hM.front (k := 4) rfl
    dsimp only [List.eraseIdx] at hM
    exact ⟨y574.2.met, y574.2.open_, y574.2.strings, y574.2.longest, true, A577, c578, A579, c580, A581, c582, rfl, hf.keep ⟨rfl, rfl, trivial⟩, hM.pick [0] rfl, hv576⟩
   refine gq (wanted_t hf rfl rfl rfl rfl hc588) hf rfl rfl (e_move hf rfl) fun a hf => ?_
   refine gq (wanted_t hf rfl rfl rfl rfl hc588) hf rfl rfl (e_nil hf rfl) fun a hf => ?_
   refine gq (wanted_t hf rfl rfl rfl rfl hc588) hf rfl rfl (e_field hf rfl Tryz.underlying83 rfl Tryz.sizeOf45 (o' := 3) rfl) fun a hf => ?_
   refine gq (wanted_t hf rfl rfl rfl rfl hc588) hf rfl rfl (e_load1 hf rfl Tryz.isAgg45 (hM.boxCell (k := 0) rfl rfl)) fun a hf => ?_
   obtain ⟨e590, hz591, h573⟩ := bind_some h573
   obtain ⟨b596, _, hA597, h592, h593, hr594, hcell595⟩ := hM.rowElemN (k := 2) rfl (n := 1) rfl hz591
   obtain ⟨rfl, hv598⟩ := hr594
   refine gq (wanted_t hf rfl rfl rfl rfl hc588) hf rfl rfl (e_indexAddr (A := A579) (b := b596) (o := 0) (xs := y574.2.strings) (i := 0) hf hA597 rfl rfl Tryz.underlying45 Tryz.sizeOf2 h592 h593) fun a hf => ?_
   refine gq (wanted_t hf rfl rfl rfl rfl hc588) hf rfl rfl (e_load1 hf rfl Tryz.isAgg2 (hcell595 0 _ rfl)) fun a hf => ?_
   refine gq (wanted_t hf rfl rfl rfl rfl hc588) hf rfl rfl (e_gt hf (x := e590) (y := 3000) rfl rfl) fun a hf => ?_
   refine q_ hf rfl rfl rfl (e_pick_f hf rfl hc588 rfl) fun a hf => ?_
   refine q_ hf rfl rfl rfl (e_move hf rfl) fun a hf => ?_
   rcases cond_some h573 with ⟨hc599, h573⟩ | ⟨hc599, h573⟩
   ·iterate 7 refine pl_gs (wanted_f hf rfl rfl rfl rfl hc599) hf rfl rfl fun a hf => ?_
    refine q_ hf rfl rfl rfl (e_pick_t hf rfl hc599 rfl) fun a hf => ?_
    refine pl_nil ?_
    obtain rfl := some_inj h573
    refine then_n ?_
    have hM := hM.front (k := 4) rfl
    dsimp only [List.eraseIdx] at hM
    have hM := hM.front (k := 4) rfl
    dsimp only [List.eraseIdx] at hM
    have hM := hM.front (k := 3) rfl
    dsimp only [List.eraseIdx] at hM
    have hM := hM.front (k := 4) rfl
    dsimp only [List.eraseIdx] at hM
    have hM := hM.front (k := 4) rfl
    dsimp only [List.eraseIdx] at hM
    exact ⟨y574.2.met, y574.2.open_, y574.2.strings, y574.2.longest, true, A577, c578, A579, c580, A581, c582, rfl, hf.keep ⟨rfl, rfl, trivial⟩, hM.pick [0] rfl, hv576⟩
   refine gq (wanted_t hf rfl rfl rfl rfl hc599) hf rfl rfl (e_move hf rfl) fun a hf => ?_
   refine gq (wanted_t hf rfl rfl rfl rfl hc599) hf rfl rfl (e_nil hf rfl) fun a hf => ?_
   refine gq (wanted_t hf rfl rfl rfl rfl hc599) hf rfl rfl (e_field hf rfl Tryz.underlying83 rfl Tryz.sizeOf81 (o' := 4) rfl) fun a hf => ?_
   refine gq (wanted_t hf rfl rfl rfl rfl hc599) hf rfl rfl (e_load1 hf rfl Tryz.isAgg81 (hM.boxCell (k := 0) rfl rfl)) fun a hf => ?_
   obtain ⟨e601, hz602, h573⟩ := bind_some h573
   obtain ⟨b607, _, hA608, h603, h604, hr605, hcell606⟩ := hM.rowElemN (k := 3) rfl (n := 1) rfl hz602
   obtain ⟨rfl, hv609⟩ := hr605
   refine gq (wanted_t hf rfl rfl rfl rfl hc599) hf rfl rfl (e_indexAddr (A := A581) (b := b607) (o := 0) (xs := y574.2.longest) (i := 0) hf hA608 rfl rfl Tryz.underlying81 Tryz.sizeOf3 h603 h604) fun a hf => ?_
   refine gq (wanted_t hf rfl rfl rfl rfl hc599) hf rfl rfl (e_load1 hf rfl Tryz.isAgg3 (hcell606 0 _ rfl)) fun a hf => ?_
   refine gq (wanted_t hf rfl rfl rfl rfl hc599) hf rfl rfl (e_gt hf (x := e601) (y := 13) rfl rfl) fun a hf => ?_
   refine q_ hf rfl rfl rfl (e_pick_f hf rfl hc599 rfl) fun a hf => ?_
   refine pl_nil ?_
   obtain rfl := some_inj h573
   refine then_n ?_
   have hM := hM.front (k := 4) rfl
   dsimp only [List.eraseIdx] at hM
   have hM := hM.front (k := 4) rfl
   dsimp only [List.eraseIdx] at hM
   have hM := hM.front (k := 3) rfl
   dsimp only [List.eraseIdx] at hM
   have hM := hM.front (k := 4) rfl
   dsimp only [List.eraseIdx] at hM
   have hM := hM.front (k := 4) rfl
   dsimp only [List.eraseIdx] at hM
   exact ⟨y574.2.met, y574.2.open_, y574.2.strings, y574.2.longest, (decide (13 < e601)), A577, c578, A579, c580, A581, c582, rfl, hf.keep ⟨rfl, rfl, trivial⟩, hM.pick [0] rfl, hv576⟩
  rintro a w611 ⟨n559, xs561, xs564, xs567, t570, A562, c563, A565, c566, A568, c569, rfl, hf, hM, hv560⟩
  try dsimp only at h
  rcases cond_some h with ⟨hc612, h⟩ | ⟨hc612, h⟩
  ·refine cond_t hf rfl hc612 ?_
   refine wp_seq ?_
   refine region_pl ?_
   refine q_ hf rfl rfl rfl (e_assign hf rfl) fun a hf => ?_
   refine pl_nil ?_
   refine then_n ?_
   refine wp_ret ?_
   refine then_r ?_
   obtain rfl := some_inj h
   have hM := hM.outs (own' := []) 0 rfl
   exact leave1 hf rfl rfl ⟨rfl, hM.fin⟩
  refine cond_f hf rfl hc612 ?_
  refine wp_skip ?_
  refine then_n ?_
  refine wp_seq ?_
  refine region_pl ?_
  refine pl_l hf rfl rfl rfl (w_makeMap fS fT hM fun b613 w614 hx615 hM a hf => ?_)
  refine q_ hf rfl rfl rfl (e_assign hf rfl) fun a hf => ?_
  refine pl_nil ?_
  refine then_n ?_
  obtain ⟨x618, h619, h⟩ := bind_some h
  refine seq_join (fun a w => ∃ (mp616 : (List (Str × Bool))) (b617 : Nat), (.inl mp616) = x618 ∧ Has 76 a [] ∧ Mem C w [.obj b617 (mapO fS fT mp616), .box b555 [vL A2 (d1.Nodes) c3, vI (n559), vL A562 (xs561) c563, vL A565 (xs564) c566, vL A568 (xs567) c569] 83, .row intRep A565 c566 2 xs564 true, .row boolRep A562 c563 4 xs561 true, .row intRep A568 c569 3 xs567 true, .box b5 [vL A2 (d1.Nodes) c3] 31] [.dat (sliceRep NodeRep) d1.Nodes [vL A2 d1.Nodes c3]]) ?_ ?_
  ·refine wp_seq ?_
   refine region_pl ?_
   refine q_ hf rfl rfl rfl (e_field hf rfl Tryz.underlying31 rfl Tryz.sizeOf29 (o' := 0) rfl) fun a hf => ?_
   refine q_ hf rfl rfl rfl (e_load1 hf rfl Tryz.isAgg29 (hM.boxCell (k := 5) rfl rfl)) fun a hf => ?_
   have hl620 := slice_len (hM.dat (k := 0) rfl)
   refine q_ hf rfl rfl rfl (e_lenL hf (x := d1.Nodes) rfl Tryz.underlying29) fun a hf => ?_
   refine q_ hf rfl rfl rfl (e_move hf rfl) fun a hf => ?_
   refine pl_nil ?_
   refine then_n ?_
   refine wp_block ?_
   obtain ⟨x628, h629, h619⟩ := bind_some h619
   refine wp_loopM h629 (fun s a w => ∃ (mp621 : (List (Str × Bool))) (n623 : Int) (b622 : Nat), (mp621, n623) = s ∧ Has 76 a [(5, vM b622), (62, vL A2 (d1.Nodes) c3), (63, vI ((d1.Nodes.length : Int))), (64, vI (n623))] ∧ Mem C w [.obj b622 (mapO fS fT mp621), .box b555 [vL A2 (d1.Nodes) c3, vI (n559), vL A562 (xs561) c563, vL A565 (xs564) c566, vL A568 (xs567) c569] 83, .row intRep A565 c566 2 xs564 true, .row boolRep A562 c563 4 xs561 true, .row intRep A568 c569 3 xs567 true, .box b5 [vL A2 (d1.Nodes) c3] 31] [.dat (sliceRep NodeRep) d1.Nodes [vL A2 d1.Nodes c3]] ∧ R64 n623) ?_ ?_
   ·exact ⟨([] : (List (Str × Bool))), 0, b613, rfl, hf.keep ⟨rfl, rfl, rfl, rfl, trivial⟩, hM.pick [0] rfl, (R64_lit rfl)⟩
   rintro s o630 a w625 ⟨mp621, n623, b622, rfl, hf, hM, hv624⟩ h631 hd632
   replace h631 : m_impl_ValidDawg_l1 d1 mp621 n623 = some o630 := h631
   unfold m_impl_ValidDawg_l1 at h631
   refine wp_seq ?_
   refine region_pl ?_
   refine q_ hf rfl rfl rfl (e_lt hf (x := n623) (y := (d1.Nodes.length : Int)) rfl rfl) fun a hf => ?_
   refine pl_nil ?_
   refine then_n ?_
   refine wp_seq ?_
   rcases cond_some h631 with ⟨hc633, h631⟩ | ⟨hc633, h631⟩
   ·refine cond_t hf rfl hc633 ?_
    refine wp_skip ?_
    refine then_n ?_
    refine wp_seq ?_
    refine wp_block ?_
    refine wp_seq ?_
    refine region_pl ?_
    obtain ⟨e634, hz635, h631⟩ := bind_some h631
    obtain ⟨b639, o640, _, hA641, h636, h637, hr638, hM⟩ := hM.elem (hM.dat (k := 0) rfl) (n := 3) rfl hz635
    obtain ⟨A643, c644, rfl, hv642, hv645⟩ := NodeRep_open hr638
    have hM := hM.add (y := .dat (sliceRep intRep) e634.Next [vL A643 e634.Next c644]) hv645
    refine q_ hf rfl rfl rfl (e_indexAddr (A := A2) (b := b639) (o := o640) (xs := d1.Nodes) (i := n623) hf hA641 rfl rfl Tryz.underlying29 Tryz.sizeOf47 h636 h637) fun a hf => ?_
    refine q_ hf rfl rfl rfl (e_loadA hf (us := [.bool (e634.Final), vS (e634.Letters), vL A643 (e634.Next) c644]) rfl ⟨Tryz.isAgg47, Tryz.sizeOf47⟩ rfl (hM.litSub (k := 1) (d := 0) (us := [.bool (e634.Final), vS (e634.Letters), vL A643 (e634.Next) c644]) rfl rfl rfl)) fun a hf => ?_
    refine pl_l hf rfl rfl rfl (w_alloc hM (cs := [.bool (false), vS (([] : Str)), vL none (([] : (List Int))) 0]) Tryz.zeroValue47 rfl fun b646 w647 hx648 hM a hf => ?_)
    refine pl_0 hf rfl rfl (w_store hf hM (us := [.bool (e634.Final), vS (e634.Letters), vL A643 (e634.Next) c644]) (cs' := [.bool (e634.Final), vS (e634.Letters), vL A643 (e634.Next) c644]) rfl rfl (k := 0) rfl rfl Tryz.sizeOf47 rfl rfl rfl fun w650 hM => ?_)
    dsimp only [List.set] at hM
    refine pl_nil ?_
    refine then_n ?_
    refine wp_seq ?_
    refine region_pl ?_
    refine q_ hf rfl rfl rfl (e_loadA hf (us := [.bool (e634.Final), vS (e634.Letters), vL A643 (e634.Next) c644]) rfl ⟨Tryz.isAgg47, Tryz.sizeOf47⟩ rfl (hM.boxSub (k := 0) (us := [.bool (e634.Final), vS (e634.Letters), vL A643 (e634.Next) c644]) (o := 0) rfl rfl)) fun a hf => ?_
    obtain ⟨y653, hz654, h631⟩ := bind_some h631
    refine pl_l hf rfl rfl rfl (w_call hf Tryz.call43 rfl (r_impl_keyOf ⟨_, Sh C _ _, none_, hM.sh_lt, none_not, C.G, hM.g_lt, g_none, hM.tabs⟩ e634 hv642 _ _ (hM.dat (k := 0) rfl) _ hz654) ?_)
    rintro _ w656 ⟨rfl, hM2, hv655⟩
    obtain ⟨hM, hx657, hup658⟩ := hM.back hM2
    dsimp only [List.cons_append, List.nil_append] at hM hup658
    clear hM2
    refine ⟨_, rfl, fun a hf => ?_⟩
    refine q_ hf rfl rfl rfl (e_assign hf rfl) fun a hf => ?_
    refine pl_nil ?_
    refine then_n ?_
    iterate 2 refine wp_seq ?_
    refine region_pl ?_
    iterate 2 refine q_ hf rfl rfl rfl (e_move hf rfl) fun a hf => ?_
    refine q_ hf rfl rfl rfl (e_lookup (fk := fS) (fv := fT) hf (keyS Tryz.underlying9) Tryz.underlying85 (k := y653) (z := false) rfl rfl Tryz.zeroValue4 (hM.ownAt (k := 1) rfl)) fun a hf => ?_
    refine pl_nil ?_
    refine then_n ?_
    rcases cond_some h631 with ⟨hc659, h631⟩ | ⟨hc659, h631⟩
    ·refine cond_t hf rfl hc659 ?_
     refine wp_seq ?_
     refine region_pl ?_
     refine q_ hf rfl rfl rfl (e_assign hf rfl) fun a hf => ?_
     refine pl_nil ?_
     refine then_n ?_
     refine wp_ret ?_
     refine then_r ?_
     refine blk_r ?_
     refine then_r ?_
     obtain rfl := some_inj h631
     obtain rfl := hd632 _ rfl
     try dsimp only at h619
     refine then_r ?_
     refine blk_r ?_
     obtain rfl := some_inj h619
     try dsimp only at h
     refine then_r ?_
     obtain rfl := some_inj h
     have hM := hM.outs (own' := []) 0 rfl
     exact leave1 hf rfl rfl ⟨rfl, hM.fin⟩
    refine cond_f hf rfl hc659 ?_
    refine wp_skip ?_
    refine then_n ?_
    refine region_pl ?_
    iterate 2 refine q_ hf rfl rfl rfl (e_move hf rfl) fun a hf => ?_
    refine pl_0 hf rfl rfl (w_mapUpdate (fk := fS) (fv := fT) hf hM (keyS Tryz.underlying9) Tryz.underlying85 (k := y653) (v := true) rfl rfl rfl (n := 1) rfl fun w660 hM => ?_)
    dsimp only [List.set] at hM
    refine pl_nil ?_
    refine blk_n ?_
    refine then_n ?_
    refine region_pl ?_
    obtain ⟨z661, hz662, h631⟩ := bind_some h631
    refine q_ hf rfl rfl rfl (e_add hf rfl rfl hz662) fun a hf => ?_
    refine q_ hf rfl rfl rfl (e_move hf rfl) fun a hf => ?_
    refine pl_nil ?_
    obtain rfl := some_inj h631
    refine then_n ⟨_, rfl, ?_⟩
    exact ⟨(putM mp621 y653 true), z661, b622, rfl, hf.keep ⟨rfl, rfl, rfl, rfl, trivial⟩, (hM.drop (.cons _ (.cons_cons _ (.cons_cons _ (.cons_cons _ (.cons_cons _ (.cons_cons _ (.cons_cons _ .slnil)))))))).pick [2] rfl, (chk_R hz662)⟩
   refine cond_f hf rfl hc633 ?_
   refine wp_exit ?_
   refine then_x ?_
   obtain rfl := some_inj h631
   obtain rfl := hd632 _ rfl
   try dsimp only at h619
   refine then_x ?_
   refine exit_hit ?_
   obtain rfl := some_inj h619
   refine then_n ?_
   exact ⟨mp621, b622, rfl, hf.keep trivial, hM.pick [0] rfl⟩
  rintro a w669 ⟨mp616, b617, rfl, hf, hM⟩
  try dsimp only at h
  refine wp_seq ?_
  refine region_pl ?_
  refine q_ hf rfl rfl rfl (e_assign hf rfl) fun a hf => ?_
  refine pl_nil ?_
  refine then_n ?_
  refine wp_ret ?_
  obtain rfl := some_inj h
  have hM := hM.outs (own' := []) 0 rfl
  exact leave1 hf rfl rfl ⟨rfl, hM.fin⟩
 refine pi_l hf rfl rfl rfl rfl (w_make hf hM (K := intRep) Tryz.underlying45 ei_2 Tryz.zeroValue2 rfl rfl rfl ⟨rfl, (R64_lit rfl)⟩ hz43 fun b671 w672 hx673 hM => ⟨Ext w672, fun _ h => Ext.trans hx673 h, Ext.refl _, fun a hf => ?_⟩)
 refine pi_one ?_
 refine pi_l hf rfl rfl rfl rfl (w_make hf hM (K := boolRep) Tryz.underlying80 ei_4 Tryz.zeroValue4 rfl rfl rfl rfl hz38 fun b674 w675 hx676 hM => ⟨Ext w675, fun _ h => Ext.trans hx676 h, Ext.refl _, fun a hf => ?_⟩)
 refine pi_q hf rfl rfl rfl rfl (Ext.refl _) (e_build hf Tryz.zeroValue83 Tryz.underlying83 (bp_83 _ Tryz.underlying83.symm) rfl (cs := #[vL A2 (d1.Nodes) c3, vI (0), vL (some ⟨b674, 0, none⟩) (xs37) (((d1.Nodes.length : Int) : Int).toNat), vL (some ⟨b671, 0, none⟩) (xs42) (((d1.Nodes.length : Int) : Int).toNat), vL (some ⟨b546, 0, none⟩) (xs47) (((d1.Nodes.length : Int) : Int).toNat)]) (by kernel_rfl)) fun a hf => ?_
 refine pi_one ?_
 refine pi_l hf rfl rfl rfl rfl (w_box hf hM (cs := [vL A2 (d1.Nodes) c3, vI (0), vL (some ⟨b674, 0, none⟩) (xs37) (((d1.Nodes.length : Int) : Int).toNat), vL (some ⟨b671, 0, none⟩) (xs42) (((d1.Nodes.length : Int) : Int).toNat), vL (some ⟨b546, 0, none⟩) (xs47) (((d1.Nodes.length : Int) : Int).toNat)]) rfl rfl fun b677 w678 hx679 hM => ⟨Ext w678, fun _ h => Ext.trans hx679 h, Ext.refl _, fun a hf => ?_⟩)
 refine pi_q hf rfl rfl rfl rfl (Ext.refl _) (e_assign hf rfl) fun a hf => ?_
 refine pi_nil ?_
 refine then_n ?_
 refine wp_seq ?_
 obtain ⟨x694, h695, h⟩ := bind_some h
 refine seq_join (fun a w => ∃ (n681 : Int) (xs683 : (List Bool)) (xs686 : (List Int)) (xs689 : (List Int)) (t692 : Bool) (A684 : Option Addr) (c685 : Nat) (A687 : Option Addr) (c688 : Nat) (A690 : Option Addr) (c691 : Nat), (n681, xs683, xs686, xs689, t692) = x694 ∧ Has 76 a [(1, vP b5 (0)), (59, .bool (t692))] ∧ Mem C w [.box b677 [vL A2 (d1.Nodes) c3, vI (n681), vL A684 (xs683) c685, vL A687 (xs686) c688, vL A690 (xs689) c691] 83, .row boolRep A684 c685 4 xs683 true, .row intRep A687 c688 2 xs686 true, .row intRep A690 c691 3 xs689 true, .box b5 [vL A2 (d1.Nodes) c3] 31] [.dat (sliceRep NodeRep) d1.Nodes [vL A2 d1.Nodes c3]] ∧ R64 n681) ?_ ?_
 ·refine region_pl ?_
  refine q_ hf rfl rfl rfl (e_move hf rfl) fun a hf => ?_
  have hM : Mem C _ ([.box b677 [vL A2 (d1.Nodes) c3, vI (0), vL (some ⟨b674, 0, none⟩) (xs37) (((d1.Nodes.length : Int) : Int).toNat), vL (some ⟨b671, 0, none⟩) (xs42) (((d1.Nodes.length : Int) : Int).toNat), vL (some ⟨b546, 0, none⟩) (xs47) (((d1.Nodes.length : Int) : Int).toNat)] 83, .row boolRep (some ⟨b674, 0, none⟩) (((d1.Nodes.length : Int) : Int).toNat) 4 xs37 true, .row intRep (some ⟨b671, 0, none⟩) (((d1.Nodes.length : Int) : Int).toNat) 2 xs42 true, .row intRep (some ⟨b546, 0, none⟩) (((d1.Nodes.length : Int) : Int).toNat) 3 xs47 true] ++ [.box b5 [vL A2 (d1.Nodes) c3] 31]) _ := hM
  obtain ⟨y696, hz697, h695⟩ := bind_some h695
  refine pl_l hf rfl rfl rfl (w_call hf Tryz.call42 rfl (r_impl_inspector_visit ⟨_, Sh C _ _, ownB _, hM.sh_lt, sub_dis, C.G, hM.g_lt, hM.g_own, hM.tabs⟩ (⟨⟨d1.Nodes⟩, 0, xs37, xs42, xs47⟩ : inspector) _ _ _ (hM.dat (k := 0) rfl) (R64_lit rfl) _ _ _ _ _ _ 0 (R64_lit rfl) hM.sub sub_dis _ hz697) ?_)
  rintro _ w705 ⟨A699, c700, A701, c702, A703, c704, rfl, hM2, hv698⟩
  obtain ⟨hM, hup707⟩ := hM.backG hM2
  dsimp only [List.cons_append, List.nil_append] at hM hup707
  clear hM2
  refine ⟨_, rfl, fun a hf => ?_⟩
  refine q_ hf rfl rfl rfl (e_not hf rfl) fun a hf => ?_
  refine q_ hf rfl rfl rfl (e_move hf rfl) fun a hf => ?_
  rcases cond_some h695 with ⟨hc708, h695⟩ | ⟨hc708, h695⟩
  ·iterate 6 refine pl_gs (wanted_f hf rfl rfl rfl rfl hc708) hf rfl rfl fun a hf => ?_
   refine q_ hf rfl rfl rfl (e_pick_t hf rfl hc708 rfl) fun a hf => ?_
   refine q_ hf rfl rfl rfl (e_move hf rfl) fun a hf => ?_
   iterate 7 refine pl_gs (wanted_f hf rfl rfl rfl rfl rfl) hf rfl rfl fun a hf => ?_
   refine q_ hf rfl rfl rfl (e_pick_t hf rfl rfl rfl) fun a hf => ?_
   refine q_ hf rfl rfl rfl (e_move hf rfl) fun a hf => ?_
   iterate 7 refine pl_gs (wanted_f hf rfl rfl rfl rfl rfl) hf rfl rfl fun a hf => ?_
   refine q_ hf rfl rfl rfl (e_pick_t hf rfl rfl rfl) fun a hf => ?_
   refine pl_nil ?_
   obtain rfl := some_inj h695
   refine then_n ?_
   exact ⟨y696.2.met, y696.2.open_, y696.2.strings, y696.2.longest, true, A699, c700, A701, c702, A703, c704, rfl, hf.keep ⟨rfl, rfl, trivial⟩, hM.pick [0] rfl, hv698⟩
  refine gq (wanted_t hf rfl rfl rfl rfl hc708) hf rfl rfl (e_move hf rfl) fun a hf => ?_
  refine gq (wanted_t hf rfl rfl rfl rfl hc708) hf rfl rfl (e_nil hf rfl) fun a hf => ?_
  refine gq (wanted_t hf rfl rfl rfl rfl hc708) hf rfl rfl (e_field hf rfl Tryz.underlying83 rfl Tryz.sizeOf2 (o' := 1) rfl) fun a hf => ?_
  refine gq (wanted_t hf rfl rfl rfl rfl hc708) hf rfl rfl (e_load1 hf rfl Tryz.isAgg2 (hM.boxCell (k := 0) rfl rfl)) fun a hf => ?_
  refine gq (wanted_t hf rfl rfl rfl rfl hc708) hf rfl rfl (e_move hf rfl) fun a hf => ?_
  refine gq (wanted_t hf rfl rfl rfl rfl hc708) hf rfl rfl (e_ne hf (x := y696.2.met) (y := (d1.Nodes.length : Int)) rfl rfl) fun a hf => ?_
  refine q_ hf rfl rfl rfl (e_pick_f hf rfl hc708 rfl) fun a hf => ?_
  refine q_ hf rfl rfl rfl (e_move hf rfl) fun a hf => ?_
  rcases cond_some h695 with ⟨hc710, h695⟩ | ⟨hc710, h695⟩
  ·iterate 7 refine pl_gs (wanted_f hf rfl rfl rfl rfl hc710) hf rfl rfl fun a hf => ?_
   refine q_ hf rfl rfl rfl (e_pick_t hf rfl hc710 rfl) fun a hf => ?_
   refine q_ hf rfl rfl rfl (e_move hf rfl) fun a hf => ?_
   iterate 7 refine pl_gs (wanted_f hf rfl rfl rfl rfl rfl) hf rfl rfl fun a hf => ?_
   refine q_ hf rfl rfl rfl (e_pick_t hf rfl rfl rfl) fun a hf => ?_
   refine pl_nil ?_
   obtain rfl := some_inj h695
   refine then_n ?_
   exact ⟨y696.2.met, y696.2.open_, y696.2.strings, y696.2.longest, true, A699, c700, A701, c702, A703, c704, rfl, hf.keep ⟨rfl, rfl, trivial⟩, hM.pick [0] rfl, hv698⟩
  refine gq (wanted_t hf rfl rfl rfl rfl hc710) hf rfl rfl (e_move hf rfl) fun a hf => ?_
  refine gq (wanted_t hf rfl rfl rfl rfl hc710) hf rfl rfl (e_nil hf rfl) fun a hf => ?_
  refine gq (wanted_t hf rfl rfl rfl rfl hc710) hf rfl rfl (e_field hf rfl Tryz.underlying83 rfl Tryz.sizeOf45 (o' := 3) rfl) fun a hf => ?_
  refine gq (wanted_t hf rfl rfl rfl rfl hc710) hf rfl rfl (e_load1 hf rfl Tryz.isAgg45 (hM.boxCell (k := 0) rfl rfl)) fun a hf => ?_
  obtain ⟨e712, hz713, h695⟩ := bind_some h695
  obtain ⟨b718, _, hA719, h714, h715, hr716, hcell717⟩ := hM.rowElemN (k := 2) rfl (n := 1) rfl hz713
  obtain ⟨rfl, hv720⟩ := hr716
  refine gq (wanted_t hf rfl rfl rfl rfl hc710) hf rfl rfl (e_indexAddr (A := A701) (b := b718) (o := 0) (xs := y696.2.strings) (i := 0) hf hA719 rfl rfl Tryz.underlying45 Tryz.sizeOf2 h714 h715) fun a hf => ?_
  refine gq (wanted_t hf rfl rfl rfl rfl hc710) hf rfl rfl (e_load1 hf rfl Tryz.isAgg2 (hcell717 0 _ rfl)) fun a hf => ?_
  refine gq (wanted_t hf rfl rfl rfl rfl hc710) hf rfl rfl (e_gt hf (x := e712) (y := 3000) rfl rfl) fun a hf => ?_
  refine q_ hf rfl rfl rfl (e_pick_f hf rfl hc710 rfl) fun a hf => ?_
  refine q_ hf rfl rfl rfl (e_move hf rfl) fun a hf => ?_
  rcases cond_some h695 with ⟨hc721, h695⟩ | ⟨hc721, h695⟩
  ·iterate 7 refine pl_gs (wanted_f hf rfl rfl rfl rfl hc721) hf rfl rfl fun a hf => ?_
   refine q_ hf rfl rfl rfl (e_pick_t hf rfl hc721 rfl) fun a hf => ?_
   refine pl_nil ?_
   obtain rfl := some_inj h695
   refine then_n ?_
   exact ⟨y696.2.met, y696.2.open_, y696.2.strings, y696.2.longest, true, A699, c700, A701, c702, A703, c704, rfl, hf.keep ⟨rfl, rfl, trivial⟩, hM.pick [0] rfl, hv698⟩
  refine gq (wanted_t hf rfl rfl rfl rfl hc721) hf rfl rfl (e_move hf rfl) fun a hf => ?_
  refine gq (wanted_t hf rfl rfl rfl rfl hc721) hf rfl rfl (e_nil hf rfl) fun a hf => ?_
  refine gq (wanted_t hf rfl rfl rfl rfl hc721) hf rfl rfl (e_field hf rfl Tryz.underlying83 rfl Tryz.sizeOf81 (o' := 4) rfl) fun a hf => ?_
  refine gq (wanted_t hf rfl rfl rfl rfl hc721) hf rfl rfl (e_load1 hf rfl Tryz.isAgg81 (hM.boxCell (k := 0) rfl rfl)) fun a hf => ?_
  obtain ⟨e723, hz724, h695⟩ := bind_some h695
  obtain ⟨b729, _, hA730, h725, h726, hr727, hcell728⟩ := hM.rowElemN (k := 3) rfl (n := 1) rfl hz724
  obtain ⟨rfl, hv731⟩ := hr727
  refine gq (wanted_t hf rfl rfl rfl rfl hc721) hf rfl rfl (e_indexAddr (A := A703) (b := b729) (o := 0) (xs := y696.2.longest) (i := 0) hf hA730 rfl rfl Tryz.underlying81 Tryz.sizeOf3 h725 h726) fun a hf => ?_
  refine gq (wanted_t hf rfl rfl rfl rfl hc721) hf rfl rfl (e_load1 hf rfl Tryz.isAgg3 (hcell728 0 _ rfl)) fun a hf => ?_
  refine gq (wanted_t hf rfl rfl rfl rfl hc721) hf rfl rfl (e_gt hf (x := e723) (y := 13) rfl rfl) fun a hf => ?_
  refine q_ hf rfl rfl rfl (e_pick_f hf rfl hc721 rfl) fun a hf => ?_
  refine pl_nil ?_
  obtain rfl := some_inj h695
  refine then_n ?_
  exact ⟨y696.2.met, y696.2.open_, y696.2.strings, y696.2.longest, (decide (13 < e723)), A699, c700, A701, c702, A703, c704, rfl, hf.keep ⟨rfl, rfl, trivial⟩, hM.pick [0] rfl, hv698⟩
 rintro a w733 ⟨n681, xs683, xs686, xs689, t692, A684, c685, A687, c688, A690, c691, rfl, hf, hM, hv682⟩
 try dsimp only at h
 rcases cond_some h with ⟨hc734, h⟩ | ⟨hc734, h⟩
 ·refine cond_t hf rfl hc734 ?_
  refine wp_seq ?_
  refine region_pl ?_
  refine q_ hf rfl rfl rfl (e_assign hf rfl) fun a hf => ?_
  refine pl_nil ?_
  refine then_n ?_
  refine wp_ret ?_
  refine then_r ?_
  obtain rfl := some_inj h
  have hM := hM.outs (own' := []) 0 rfl
  exact leave1 hf rfl rfl ⟨rfl, hM.fin⟩
 refine cond_f hf rfl hc734 ?_
 refine wp_skip ?_
 refine then_n ?_
 refine wp_seq ?_
 refine region_pl ?_
 refine pl_l hf rfl rfl rfl (w_makeMap fS fT hM fun b735 w736 hx737 hM a hf => ?_)
 refine q_ hf rfl rfl rfl (e_assign hf rfl) fun a hf => ?_
 refine pl_nil ?_
 refine then_n ?_
 obtain ⟨x740, h741, h⟩ := bind_some h
 refine seq_join (fun a w => ∃ (mp738 : (List (Str × Bool))) (b739 : Nat), (.inl mp738) = x740 ∧ Has 76 a [] ∧ Mem C w [.obj b739 (mapO fS fT mp738), .box b677 [vL A2 (d1.Nodes) c3, vI (n681), vL A684 (xs683) c685, vL A687 (xs686) c688, vL A690 (xs689) c691] 83, .row boolRep A684 c685 4 xs683 true, .row intRep A687 c688 2 xs686 true, .row intRep A690 c691 3 xs689 true, .box b5 [vL A2 (d1.Nodes) c3] 31] [.dat (sliceRep NodeRep) d1.Nodes [vL A2 d1.Nodes c3]]) ?_ ?_
 ·refine wp_seq ?_
  refine region_pl ?_
  refine q_ hf rfl rfl rfl (e_field hf rfl Tryz.underlying31 rfl Tryz.sizeOf29 (o' := 0) rfl) fun a hf => ?_
  refine q_ hf rfl rfl rfl (e_load1 hf rfl Tryz.isAgg29 (hM.boxCell (k := 5) rfl rfl)) fun a hf => ?_
  have hl742 := slice_len (hM.dat (k := 0) rfl)
  refine q_ hf rfl rfl rfl (e_lenL hf (x := d1.Nodes) rfl Tryz.underlying29) fun a hf => ?_
  refine q_ hf rfl rfl rfl (e_move hf rfl) fun a hf => ?_
  refine pl_nil ?_
  refine then_n ?_
  refine wp_block ?_
  obtain ⟨x750, h751, h741⟩ := bind_some h741
  refine wp_loopM h751 (fun s a w => ∃ (mp743 : (List (Str × Bool))) (n745 : Int) (b744 : Nat), (mp743, n745) = s ∧ Has 76 a [(5, vM b744), (62, vL A2 (d1.Nodes) c3), (63, vI ((d1.Nodes.length : Int))), (64, vI (n745))] ∧ Mem C w [.obj b744 (mapO fS fT mp743), .box b677 [vL A2 (d1.Nodes) c3, vI (n681), vL A684 (xs683) c685, vL A687 (xs686) c688, vL A690 (xs689) c691] 83, .row boolRep A684 c685 4 xs683 true, .row intRep A687 c688 2 xs686 true, .row intRep A690 c691 3 xs689 true, .box b5 [vL A2 (d1.Nodes) c3] 31] [.dat (sliceRep NodeRep) d1.Nodes [vL A2 d1.Nodes c3]] ∧ R64 n745) ?_ ?_
  ·exact ⟨([] : (List (Str × Bool))), 0, b735, rfl, hf.keep ⟨rfl, rfl, rfl, rfl, trivial⟩, hM.pick [0] rfl, (R64_lit rfl)⟩
  rintro s o752 a w747 ⟨mp743, n745, b744, rfl, hf, hM, hv746⟩ h753 hd754
  replace h753 : m_impl_ValidDawg_l1 d1 mp743 n745 = some o752 := h753
  unfold m_impl_ValidDawg_l1 at h753
  refine wp_seq ?_
  refine region_pl ?_
  refine q_ hf rfl rfl rfl (e_lt hf (x := n745) (y := (d1.Nodes.length : Int)) rfl rfl) fun a hf => ?_
  refine pl_nil ?_
  refine then_n ?_
  refine wp_seq ?_
  rcases cond_some h753 with ⟨hc755, h753⟩ | ⟨hc755, h753⟩
  ·refine cond_t hf rfl hc755 ?_
   refine wp_skip ?_
   refine then_n ?_
   refine wp_seq ?_
   refine wp_block ?_
   refine wp_seq ?_
   refine region_pl ?_
   obtain ⟨e756, hz757, h753⟩ := bind_some h753
   obtain ⟨b761, o762, _, hA763, h758, h759, hr760, hM⟩ := hM.elem (hM.dat (k := 0) rfl) (n := 3) rfl hz757
   obtain ⟨A765, c766, rfl, hv764, hv767⟩ := NodeRep_open hr760
   have hM := hM.add (y := .dat (sliceRep intRep) e756.Next [vL A765 e756.Next c766]) hv767
   refine q_ hf rfl rfl rfl (e_indexAddr (A := A2) (b := b761) (o := o762) (xs := d1.Nodes) (i := n745) hf hA763 rfl rfl Tryz.underlying29 Tryz.sizeOf47 h758 h759) fun a hf => ?_
   refine q_ hf rfl rfl rfl (e_loadA hf (us := [.bool (e756.Final), vS (e756.Letters), vL A765 (e756.Next) c766]) rfl ⟨Tryz.isAgg47, Tryz.sizeOf47⟩ rfl (hM.litSub (k := 1) (d := 0) (us := [.bool (e756.Final), vS (e756.Letters), vL A765 (e756.Next) c766]) rfl rfl rfl)) fun a hf => ?_
   refine pl_l hf rfl rfl rfl (w_alloc hM (cs := [.bool (false), vS (([] : Str)), vL none (([] : (List Int))) 0]) Tryz.zeroValue47 rfl fun b768 w769 hx770 hM a hf => ?_)
   refine pl_0 hf rfl rfl (w_store hf hM (us := [.bool (e756.Final), vS (e756.Letters), vL A765 (e756.Next) c766]) (cs' := [.bool (e756.Final), vS (e756.Letters), vL A765 (e756.Next) c766]) rfl rfl (k := 0) rfl rfl Tryz.sizeOf47 rfl rfl rfl fun w772 hM => ?_)
   dsimp only [List.set] at hM
   refine pl_nil ?_
   refine then_n ?_
   refine wp_seq ?_
   refine region_pl ?_
   refine q_ hf rfl rfl rfl (e_loadA hf (us := [.bool (e756.Final), vS (e756.Letters), vL A765 (e756.Next) c766]) rfl ⟨Tryz.isAgg47, Tryz.sizeOf47⟩ rfl (hM.boxSub (k := 0) (us := [.bool (e756.Final), vS (e756.Letters), vL A765 (e756.Next) c766]) (o := 0) rfl rfl)) fun a hf => ?_
   obtain ⟨y775, hz776, h753⟩ := bind_some h753
   refine pl_l hf rfl rfl rfl (w_call hf Tryz.call43 rfl (r_impl_keyOf ⟨_, Sh C _ _, none_, hM.sh_lt, none_not, C.G, hM.g_lt, g_none, hM.tabs⟩ e756 hv764 _ _ (hM.dat (k := 0) rfl) _ hz776) ?_)
   rintro _ w778 ⟨rfl, hM2, hv777⟩
   obtain ⟨hM, hx779, hup780⟩ := hM.back hM2
   dsimp only [List.cons_append, List.nil_append] at hM hup780
   clear hM2
   refine ⟨_, rfl, fun a hf => ?_⟩
   refine q_ hf rfl rfl rfl (e_assign hf rfl) fun a hf => ?_
   refine pl_nil ?_
   refine then_n ?_
   iterate 2 refine wp_seq ?_
   refine region_pl ?_
   iterate 2 refine q_ hf rfl rfl rfl (e_move hf rfl) fun a hf => ?_
   refine q_ hf rfl rfl rfl (e_lookup (fk := fS) (fv := fT) hf (keyS Tryz.underlying9) Tryz.underlying85 (k := y775) (z := false) rfl rfl Tryz.zeroValue4 (hM.ownAt (k := 1) rfl)) fun a hf => ?_
   refine pl_nil ?_
   refine then_n ?_
   rcases cond_some h753 with ⟨hc781, h753⟩ | ⟨hc781, h753⟩
   ·refine cond_t hf rfl hc781 ?_
    refine wp_seq ?_
    refine region_pl ?_
    refine q_ hf rfl rfl rfl (e_assign hf rfl) fun a hf => ?_
    refine pl_nil ?_
    refine then_n ?_
    refine wp_ret ?_
    refine then_r ?_
    refine blk_r ?_
    refine then_r ?_
    obtain rfl := some_inj h753
    obtain rfl := hd754 _ rfl
    try dsimp only at h741
    refine then_r ?_
    refine blk_r ?_
    obtain rfl := some_inj h741
    try dsimp only at h
    refine then_r ?_
    obtain rfl := some_inj h
    have hM := hM.outs (own' := []) 0 rfl
    exact leave1 hf rfl rfl ⟨rfl, hM.fin⟩
   refine cond_f hf rfl hc781 ?_
   refine wp_skip ?_
   refine then_n ?_
   refine region_pl ?_
   iterate 2 refine q_ hf rfl rfl rfl (e_move hf rfl) fun a hf => ?_
   refine pl_0 hf rfl rfl (w_mapUpdate (fk := fS) (fv := fT) hf hM (keyS Tryz.underlying9) Tryz.underlying85 (k := y775) (v := true) rfl rfl rfl (n := 1) rfl fun w782 hM => ?_)
   dsimp only [List.set] at hM
   refine pl_nil ?_
   refine blk_n ?_
   refine then_n ?_
   refine region_pl ?_
   obtain ⟨z783, hz784, h753⟩ := bind_some h753
   refine q_ hf rfl rfl rfl (e_add hf rfl rfl hz784) fun a hf => ?_
   refine q_ hf rfl rfl rfl (e_move hf rfl) fun a hf => ?_
   refine pl_nil ?_
   obtain rfl := some_inj h753
   refine then_n ⟨_, rfl, ?_⟩
   exact ⟨(putM mp743 y775 true), z783, b744, rfl, hf.keep ⟨rfl, rfl, rfl, rfl, trivial⟩, (hM.drop (.cons _ (.cons_cons _ (.cons_cons _ (.cons_cons _ (.cons_cons _ (.cons_cons _ (.cons_cons _ .slnil)))))))).pick [2] rfl, (chk_R hz784)⟩
  refine cond_f hf rfl hc755 ?_
  refine wp_exit ?_
  refine then_x ?_
  obtain rfl := some_inj h753
  obtain rfl := hd754 _ rfl
  try dsimp only at h741
  refine then_x ?_
  refine exit_hit ?_
  obtain rfl := some_inj h741
  refine then_n ?_
  exact ⟨mp743, b744, rfl, hf.keep trivial, hM.pick [0] rfl⟩
 rintro a w791 ⟨mp738, b739, rfl, hf, hM⟩
 try dsimp only at h
 refine wp_seq ?_
 refine region_pl ?_
 refine q_ hf rfl rfl rfl (e_assign hf rfl) fun a hf => ?_
 refine pl_nil ?_
 refine then_n ?_
 refine wp_ret ?_
 obtain rfl := some_inj h
 have hM := hM.outs (own' := []) 0 rfl
 exact leave1 hf rfl rfl ⟨rfl, hM.fin⟩
def Ct_impl_Dawg_words_1 (rc : Int → Dawg → (List Str) → Str → Option ((List Str) × Str)) : Prop := ∀ (C : Cx) (node1 : Int) (hp2 : R64 node1) (p3 : Dawg) (b4 : Nat) (o5 : Nat) (hp6 : (ptrRep DawgRep).R C.w0 C.S0 p3 [vP b4 o5]) (p7 : (List Str)) (b8 : Nat) (A9 : Option Addr) (c10 : Nat) (p11 : Str) (b12 : Nat) (A13 : Option Addr) (c14 : Nat) (b16 : Nat) (o17 : Nat) (hp18 : Shr.good C.w0 C.S0 (.lit b16 (o17) [.func (.func 61) #[] #[vP b4 (o5), vP b8 (0), vP b12 (0), vP b16 (o17)]])) (hO : Mem C C.w0 [.box b8 [vL A9 (p7) c10] 24, .row strRep A9 c10 9 p7 true, .box b12 [vL A13 (p11) c14] 22, .row byteRep A13 c14 5 p11 true] []) (hd : ∀ b, C.S0 b → ¬ ownB [.box b8 [vL A9 (p7) c10] 24, .row strRep A9 c10 9 p7 true, .box b12 [vL A13 (p11) c14] 22, .row byteRep A13 c14 5 p11 true] b) (r : ((List Str) × Str)) (h : rc node1 p3 p7 p11 = some r),
    Calls Tryz.prog 61 #[vI (node1), vP b4 (o5), vP b8 (0), vP b12 (0), vP b16 (o17)] C.w0 fun e w => ∃ (A_1 : Option Addr), ∃ (c_1 : Nat), ∃ (A_2 : Option Addr), ∃ (c_2 : Nat), e = .returned (.tuple #[]) ∧ Mem C w [.box b8 [vL A_1 (r.1) c_1] 24, .row strRep A_1 c_1 9 r.1 true, .box b12 [vL A_2 (r.2) c_2] 22, .row byteRep A_2 c_2 5 r.2 true] []
theorem r_impl_Dawg_words_1_b (rc : Int → Dawg → (List Str) → Str → Option ((List Str) × Str)) (ih : Ct_impl_Dawg_words_1 rc) : Ct_impl_Dawg_words_1 (m_impl_Dawg_words_1_b rc) := by
 intro C node1 hp2 p3 b4 o5 hp6 p7 b8 A9 c10 p11 b12 A13 c14 b16 o17 hp18 hO hd r h
 have hM := hO
 have hM := hM.addIn hd (y := .dat (ptrRep DawgRep) p3 [vP b4 o5]) hp6
 have hM := hM.addIn hd (y := .lit b16 (o17) [.func (.func 61) #[] #[vP b4 (o5), vP b8 (0), vP b12 (0), vP b16 (o17)]]) hp18
 refine enter Tryz.func61 rfl Tryz.ntmps61 rfl fun a hf => ?_
 unfold m_impl_Dawg_words_1_b at h
 refine wp_seq ?_
 refine region_pl ?_
 obtain ⟨_, hr19, hM⟩ := hM.deref (hM.dat (k := 1) rfl)
 obtain ⟨A20, c21, rfl, hv22⟩ := DawgRep_open hr19
 have hM := hM.add (y := .dat (sliceRep NodeRep) p3.Nodes [vL A20 p3.Nodes c21]) hv22
 refine q_ hf rfl rfl rfl (e_field hf rfl Tryz.underlying31 rfl Tryz.sizeOf29 (o' := o5 + 0) rfl) fun a hf => ?_
 refine q_ hf rfl rfl rfl (e_load1 hf rfl Tryz.isAgg29 (hM.litCell (k := 1) (j := 0) rfl rfl rfl)) fun a hf => ?_
 refine q_ hf rfl rfl rfl (e_move hf rfl) fun a hf => ?_
 obtain ⟨e23, hz24, h⟩ := bind_some h
 obtain ⟨b28, o29, _, hA30, h25, h26, hr27, hM⟩ := hM.elem (hM.dat (k := 0) rfl) (n := 3) rfl hz24
 obtain ⟨A32, c33, rfl, hv31, hv34⟩ := NodeRep_open hr27
 have hM := hM.add (y := .dat (sliceRep intRep) e23.Next [vL A32 e23.Next c33]) hv34
 refine q_ hf rfl rfl rfl (e_indexAddr (A := A20) (b := b28) (o := o29) (xs := p3.Nodes) (i := node1) hf hA30 rfl rfl Tryz.underlying29 Tryz.sizeOf47 h25 h26) fun a hf => ?_
 refine q_ hf rfl rfl rfl (e_loadA hf (us := [.bool (e23.Final), vS (e23.Letters), vL A32 (e23.Next) c33]) rfl ⟨Tryz.isAgg47, Tryz.sizeOf47⟩ rfl (hM.litSub (k := 1) (d := 0) (us := [.bool (e23.Final), vS (e23.Letters), vL A32 (e23.Next) c33]) rfl rfl rfl)) fun a hf => ?_
 refine pl_l hf rfl rfl rfl (w_alloc hM (cs := [.bool (false), vS (([] : Str)), vL none (([] : (List Int))) 0]) Tryz.zeroValue47 rfl fun b35 w36 hx37 hM a hf => ?_)
 refine pl_0 hf rfl rfl (w_store hf hM (us := [.bool (e23.Final), vS (e23.Letters), vL A32 (e23.Next) c33]) (cs' := [.bool (e23.Final), vS (e23.Letters), vL A32 (e23.Next) c33]) rfl rfl (k := 0) rfl rfl Tryz.sizeOf47 rfl rfl rfl fun w39 hM => ?_)
 dsimp only [List.set] at hM
 refine pl_nil ?_
 refine then_n ?_
 obtain ⟨x45, h46, h⟩ := bind_some h
 refine seq_join (fun a w => ∃ (xs42 : (List Str)) (A43 : Option Addr) (c44 : Nat), xs42 = x45 ∧ Has 45 a [(3, vP b12 (0)), (4, vP b16 (o17)), (6, vP b35 (0))] ∧ Mem C w [.box b35 [.bool (e23.Final), vS (e23.Letters), vL A32 (e23.Next) c33] 47, .box b8 [vL A43 (xs42) c44] 24, .row strRep A43 c44 9 xs42 true, .box b12 [vL A13 (p11) c14] 22, .row byteRep A13 c14 5 p11 true] [.dat (sliceRep intRep) e23.Next [vL A32 e23.Next c33], .lit b28 (o29 + (node1 : Int).toNat * 3) [.bool (e23.Final), vS (e23.Letters), vL A32 (e23.Next) c33], .dat (sliceRep NodeRep) p3.Nodes [vL A20 p3.Nodes c21], .lit b4 (o5) [vL A20 (p3.Nodes) c21], .lit b16 (o17) [.func (.func 61) #[] #[vP b4 (o5), vP b8 (0), vP b12 (0), vP b16 (o17)]], .dat (ptrRep DawgRep) p3 [vP b4 o5]]) ?_ ?_
 ·refine wp_seq ?_
  refine region_pl ?_
  refine q_ hf rfl rfl rfl (e_field hf rfl Tryz.underlying47 rfl Tryz.sizeOf4 (o' := 0) rfl) fun a hf => ?_
  refine q_ hf rfl rfl rfl (e_load1 hf rfl Tryz.isAgg4 (hM.boxCell (k := 0) rfl rfl)) fun a hf => ?_
  refine pl_nil ?_
  refine then_n ?_
  rcases cond_some h46 with ⟨hc47, h46⟩ | ⟨hc47, h46⟩
  ·refine cond_t hf rfl hc47 ?_
   refine region_pl ?_
   refine q_ hf rfl rfl rfl (e_load1 hf rfl Tryz.isAgg24 (hM.boxCell (k := 1) rfl rfl)) fun a hf => ?_
   refine q_ hf rfl rfl rfl (e_load1 hf rfl Tryz.isAgg22 (hM.boxCell (k := 3) rfl rfl)) fun a hf => ?_
   have hl48 := row_len (hM.ownAt (k := 4) rfl)
   refine q_ hf rfl rfl rfl (e_bytesStr hf (xs := p11) rfl Tryz.underlying22 Tryz.underlying5 Tryz.underlying9 (hM.lendRow (k := 4) rfl)) fun a hf => ?_
   refine pl_l hf rfl rfl rfl (w_slice hf hM (K := strRep) (xs := ([p11] : (List Str))) (os := [.tmp 18]) Tryz.underlying24 ei_9 rfl rfl rfl rfl rfl ⟨⟨[vS (p11)], rfl, ⟨rfl, hl48⟩⟩, trivial⟩ rfl fun b49 w50 hx51 hM a hf => ?_)
   obtain ⟨xs52, hz53, h46⟩ := bind_some h46
   refine pl_l hf rfl rfl rfl (w_append hf hM Tryz.underlying24 ei_9 rfl rfl rfl (k := 3) rfl (hM.srcRow (k := 0) rfl) hz53 fun A54 c55 w56 hM a hf => ?_)
   dsimp only [List.set] at hM
   refine pl_0 hf rfl rfl (w_store hf hM (us := [vL A54 (xs52) c55]) (cs' := [vL A54 (xs52) c55]) rfl rfl (k := 2) rfl rfl Tryz.sizeOf24 rfl rfl rfl fun w59 hM => ?_)
   dsimp only [List.set] at hM
   refine pl_nil ?_
   obtain rfl := some_inj h46
   refine then_n ?_
   exact ⟨xs52, A54, c55, rfl, hf.keep ⟨rfl, rfl, rfl, trivial⟩, (hM.drop (.cons _ (.cons_cons _ (.cons_cons _ (.cons_cons _ (.cons_cons _ (.cons_cons _ .slnil))))))).pick [0, 1, 2, 3, 4, 5] rfl⟩
  refine cond_f hf rfl hc47 ?_
  refine wp_skip ?_
  obtain rfl := some_inj h46
  refine then_n ?_
  exact ⟨p7, A9, c10, rfl, hf.keep ⟨rfl, rfl, rfl, trivial⟩, hM.pick [0, 1, 2, 3, 4, 5] rfl⟩
 rintro a w64 ⟨xs42, A43, c44, rfl, hf, hM⟩
 try dsimp only at h
 refine wp_seq ?_
 refine region_pl ?_
 refine q_ hf rfl rfl rfl (e_field hf rfl Tryz.underlying47 rfl Tryz.sizeOf45 (o' := 2) rfl) fun a hf => ?_
 refine q_ hf rfl rfl rfl (e_load1 hf rfl Tryz.isAgg45 (hM.boxCell (k := 0) rfl rfl)) fun a hf => ?_
 have hl65 := slice_len (hM.dat (k := 0) rfl)
 refine q_ hf rfl rfl rfl (e_lenL hf (x := e23.Next) rfl Tryz.underlying45) fun a hf => ?_
 refine q_ hf rfl rfl rfl (e_move hf rfl) fun a hf => ?_
 refine pl_nil ?_
 refine then_n ?_
 refine wp_block ?_
 obtain ⟨x81, h82, h⟩ := bind_some h
 refine wp_loopM h82 (fun s a w => ∃ (xs66 : (List Str)) (xs69 : Str) (n72 : Int) (A67 : Option Addr) (c68 : Nat) (A70 : Option Addr) (c71 : Nat), (xs66, xs69, n72) = s ∧ Has 45 a [(3, vP b12 (0)), (4, vP b16 (o17)), (6, vP b35 (0)), (22, vL A32 (e23.Next) c33), (23, vI ((e23.Next.length : Int))), (24, vI (n72))] ∧ Mem C w [.box b35 [.bool (e23.Final), vS (e23.Letters), vL A32 (e23.Next) c33] 47, .box b8 [vL A67 (xs66) c68] 24, .row strRep A67 c68 9 xs66 true, .box b12 [vL A70 (xs69) c71] 22, .row byteRep A70 c71 5 xs69 true] [.dat (sliceRep intRep) e23.Next [vL A32 e23.Next c33], .lit b28 (o29 + (node1 : Int).toNat * 3) [.bool (e23.Final), vS (e23.Letters), vL A32 (e23.Next) c33], .dat (sliceRep NodeRep) p3.Nodes [vL A20 p3.Nodes c21], .lit b4 (o5) [vL A20 (p3.Nodes) c21], .lit b16 (o17) [.func (.func 61) #[] #[vP b4 (o5), vP b8 (0), vP b12 (0), vP b16 (o17)]], .dat (ptrRep DawgRep) p3 [vP b4 o5]] ∧ R64 n72) ?_ ?_
 ·exact ⟨xs42, p11, 0, A43, c44, A13, c14, rfl, hf.keep ⟨rfl, rfl, rfl, rfl, rfl, rfl, trivial⟩, hM.pick [0, 1, 2, 3, 4, 5] rfl, (R64_lit rfl)⟩
 rintro s o83 a w74 ⟨xs66, xs69, n72, A67, c68, A70, c71, rfl, hf, hM, hv73⟩ h84 hd85
 replace h84 : m_impl_Dawg_words_1_l1 e23 rc p3 xs66 xs69 n72 = some o83 := h84
 unfold m_impl_Dawg_words_1_l1 at h84
 refine wp_seq ?_
 refine region_pl ?_
 refine q_ hf rfl rfl rfl (e_lt hf (x := n72) (y := (e23.Next.length : Int)) rfl rfl) fun a hf => ?_
 refine pl_nil ?_
 refine then_n ?_
 refine wp_seq ?_
 rcases cond_some h84 with ⟨hc86, h84⟩ | ⟨hc86, h84⟩
 ·refine cond_t hf rfl hc86 ?_
  refine wp_skip ?_
  refine then_n ?_
  refine wp_seq ?_
  refine wp_block ?_
  refine wp_seq ?_
  refine region_pl ?_
  refine q_ hf rfl rfl rfl (e_move hf rfl) fun a hf => ?_
  obtain ⟨e87, hz88, h84⟩ := bind_some h84
  obtain ⟨b92, o93, _, hA94, h89, h90, hr91, hM⟩ := hM.elem (hM.dat (k := 0) rfl) (n := 1) rfl hz88
  obtain ⟨rfl, hv95⟩ := hr91
  refine q_ hf rfl rfl rfl (e_indexAddr (A := A32) (b := b92) (o := o93) (xs := e23.Next) (i := n72) hf hA94 rfl rfl Tryz.underlying45 Tryz.sizeOf2 h89 h90) fun a hf => ?_
  refine q_ hf rfl rfl rfl (e_load1 hf rfl Tryz.isAgg2 (hM.litCell (k := 0) (j := 0) rfl rfl rfl)) fun a hf => ?_
  iterate 2 refine q_ hf rfl rfl rfl (e_assign hf rfl) fun a hf => ?_
  refine pl_nil ?_
  refine then_n ?_
  refine wp_seq ?_
  obtain ⟨w96, hw⟩ : ∃ x, x = w74.drew := ⟨_, rfl⟩
  refine region_pi (.q 0 (.q 1 (.q 2 (.q 3 (.q 4 (.l 5 (.l 6 (.l 7 (.nil))))))))) (Ext w96) rfl (by kernel_rfl) ?_
  have hM := hM.drew
  rw [← hw] at hM ⊢
  clear hw
  refine pi_q hf rfl rfl rfl rfl (Ext.refl _) (e_load1 hf rfl Tryz.isAgg22 (hM.boxCell (k := 3) rfl rfl)) fun a hf => ?_
  refine pi_q hf rfl rfl rfl rfl (Ext.refl _) (e_field hf rfl Tryz.underlying47 rfl Tryz.sizeOf9 (o' := 1) rfl) fun a hf => ?_
  refine pi_q hf rfl rfl rfl rfl (Ext.refl _) (e_load1 hf rfl Tryz.isAgg9 (hM.boxCell (k := 0) rfl rfl)) fun a hf => ?_
  refine pi_q hf rfl rfl rfl rfl (Ext.refl _) (e_move hf rfl) fun a hf => ?_
  obtain ⟨c97, hz98, h84⟩ := bind_some h84
  refine pi_q hf rfl rfl rfl rfl (Ext.refl _) (e_indexS hf (x := e23.Letters) rfl rfl Tryz.underlying9 hz98) fun a hf => ?_
  refine pi_one ?_
  refine pi_l hf rfl rfl rfl rfl (w_slice hf hM (K := byteRep) (xs := ([c97] : Str)) (os := [.tmp 33]) Tryz.underlying22 ei_5 rfl rfl rfl rfl rfl ⟨⟨[vB (c97)], rfl, rfl⟩, trivial⟩ rfl fun b99 w100 hx101 hM => ⟨Ext w100, fun _ h => Ext.trans hx101 h, Ext.refl _, fun a hf => ?_⟩)
  refine pi_one ?_
  obtain ⟨xs102, hz103, h84⟩ := bind_some h84
  refine pi_z hf rfl rfl rfl rfl (by kernel_rfl) (w_append hf hM Tryz.underlying22 ei_5 rfl rfl rfl (k := 5) rfl (hM.srcRow (k := 0) rfl) hz103 fun A104 c105 w106 hM a hf => ?_)
  dsimp only [List.set] at hM
  refine pi_one ?_
  refine pi_z0 hf rfl rfl rfl (by kernel_rfl) (w_store hf hM (us := [vL A104 (xs102) c105]) (cs' := [vL A104 (xs102) c105]) rfl rfl (k := 4) rfl rfl Tryz.sizeOf22 rfl rfl rfl fun w109 hM => ?_)
  dsimp only [List.set] at hM
  refine pi_nil ?_
  refine then_n ?_
  refine wp_seq ?_
  refine region_pl ?_
  refine q_ hf rfl rfl rfl (e_load1 hf rfl Tryz.isAgg112 (hM.litCell (k := 5) (j := 0) rfl rfl rfl)) fun a hf => ?_
  refine q_ hf rfl rfl rfl (e_move hf rfl) fun a hf => ?_
  have hM := hM.front (k := 5) rfl
  dsimp only [List.eraseIdx] at hM
  have hM := hM.front (k := 5) rfl
  dsimp only [List.eraseIdx] at hM
  have hM := hM.front (k := 5) rfl
  dsimp only [List.eraseIdx] at hM
  have hM := hM.front (k := 5) rfl
  dsimp only [List.eraseIdx] at hM
  have hM : Mem C _ ([.box b8 [vL A67 (xs66) c68] 24, .row strRep A67 c68 9 xs66 true, .box b12 [vL A104 (xs102) c105] 22, .row byteRep A104 c105 5 xs102 true] ++ [.row byteRep (some ⟨b99, 0, none⟩) 1 5 ([c97] : Str) true, .box b35 [.bool (e23.Final), vS (e23.Letters), vL A32 (e23.Next) c33] 47]) _ := hM
  obtain ⟨y112, hz113, h84⟩ := bind_some h84
  refine pl_l hf rfl rfl rfl (w_callV hf (fk := 61) (fc := [vP b4 (o5), vP b8 (0), vP b12 (0), vP b16 (o17)]) rfl Tryz.call61 rfl (ih ⟨_, Sh C _ _, ownB _, hM.sh_lt, sub_dis, C.G, hM.g_lt, hM.g_own, hM.tabs⟩ e87 hv95 p3 _ _ (hM.dat (k := 6) rfl) xs66 _ _ _ xs102 _ _ _ _ _ (hM.at_ (k := 5) rfl) hM.sub sub_dis _ hz113) ?_)
  rintro _ w118 ⟨A114, c115, A116, c117, rfl, hM2⟩
  obtain ⟨hM, hup120⟩ := hM.backG hM2
  dsimp only [List.cons_append, List.nil_append] at hM hup120
  clear hM2
  refine ⟨_, rfl, fun a hf => ?_⟩
  refine pl_nil ?_
  refine then_n ?_
  refine region_pl ?_
  iterate 2 refine q_ hf rfl rfl rfl (e_load1 hf rfl Tryz.isAgg22 (hM.boxCell (k := 2) rfl rfl)) fun a hf => ?_
  have hl121 := row_len (hM.ownAt (k := 3) rfl)
  refine q_ hf rfl rfl rfl (e_lenL hf (x := y112.2) rfl Tryz.underlying22) fun a hf => ?_
  obtain ⟨z122, hz123, h84⟩ := bind_some h84
  refine q_ hf rfl rfl rfl (e_sub hf rfl rfl hz123) fun a hf => ?_
  obtain ⟨l124, hz125, h84⟩ := bind_some h84
  have hr126 := hM.rowForm (k := 3) rfl
  have hM := hM.truncRow (k := 3) rfl hz125
  dsimp only [List.set] at hM
  refine q_ hf rfl rfl rfl (e_trunc hf (xs := y112.2) rfl rfl Tryz.underlying22 Tryz.sizeOf5 hr126 hz125) fun a hf => ?_
  refine pl_0 hf rfl rfl (w_store hf hM (us := [vL A116 (l124) c117]) (cs' := [vL A116 (l124) c117]) rfl rfl (k := 2) rfl rfl Tryz.sizeOf22 rfl rfl rfl fun w127 hM => ?_)
  dsimp only [List.set] at hM
  refine pl_nil ?_
  refine blk_n ?_
  refine then_n ?_
  refine region_pl ?_
  obtain ⟨z130, hz131, h84⟩ := bind_some h84
  refine q_ hf rfl rfl rfl (e_add hf rfl rfl hz131) fun a hf => ?_
  refine q_ hf rfl rfl rfl (e_move hf rfl) fun a hf => ?_
  refine pl_nil ?_
  obtain rfl := some_inj h84
  refine then_n ⟨_, rfl, ?_⟩
  have hM := hM.front (k := 3) rfl
  dsimp only [List.eraseIdx] at hM
  have hM := hM.front (k := 3) rfl
  dsimp only [List.eraseIdx] at hM
  have hM := hM.front (k := 3) rfl
  dsimp only [List.eraseIdx] at hM
  have hM := hM.front (k := 3) rfl
  dsimp only [List.eraseIdx] at hM
  have hM := hM.front (k := 5) rfl
  dsimp only [List.eraseIdx] at hM
  exact ⟨y112.1, l124, z130, A114, c115, A116, c117, rfl, hf.keep ⟨rfl, rfl, rfl, rfl, rfl, rfl, trivial⟩, (hM.drop (.cons_cons _ (.cons_cons _ (.cons_cons _ (.cons_cons _ (.cons_cons _ (.cons _ .slnil))))))).pick [1, 2, 3, 4, 5, 6] rfl, (chk_R hz131)⟩
 refine cond_f hf rfl hc86 ?_
 refine wp_exit ?_
 refine then_x ?_
 obtain rfl := some_inj h84
 obtain rfl := hd85 _ rfl
 try dsimp only at h
 refine then_x ?_
 refine exit_hit ?_
 obtain rfl := some_inj h
 have hM := hM.front (k := 4) rfl
 dsimp only [List.eraseIdx] at hM
 have hM := hM.front (k := 4) rfl
 dsimp only [List.eraseIdx] at hM
 have hM := hM.front (k := 4) rfl
 dsimp only [List.eraseIdx] at hM
 have hM := hM.front (k := 4) rfl
 dsimp only [List.eraseIdx] at hM
 have hM := hM.outs (own' := [.box b8 [vL A67 (xs66) c68] 24, .row strRep A67 c68 9 xs66 true, .box b12 [vL A70 (xs69) c71] 22, .row byteRep A70 c71 5 xs69 true]) 4 rfl
 exact leave0n hf rfl ⟨A67, c68, A70, c71, rfl, hM.fin⟩
theorem r_impl_Dawg_words_1_n : ∀ n, Ct_impl_Dawg_words_1 (m_impl_Dawg_words_1_n n)
  | 0 => fun C node1 hp2 p3 b4 o5 hp6 p7 b8 A9 c10 p11 b12 A13 c14 b16 o17 hp18 hO hd r h => by cases h
  | n + 1 => r_impl_Dawg_words_1_b _ (r_impl_Dawg_words_1_n n)
theorem r_impl_Dawg_words_1 : Ct_impl_Dawg_words_1 (m_impl_Dawg_words_1) := r_impl_Dawg_words_1_n fuelN
theorem r_impl_Dawg_words (C : Cx) (d1 : Dawg) (A2 : Option Addr) (c3 : Nat) (hp4 : (sliceRep NodeRep).R C.w0 C.S0 d1.Nodes [vL A2 d1.Nodes c3]) (r : (List Str)) (h : m_impl_Dawg_words d1 = some r) :
    Calls Tryz.prog 31 #[.agg #[vL A2 (d1.Nodes) c3]] C.w0 fun e w => ∃ (A_1 : Option Addr), ∃ (c_1 : Nat), e = .returned (vL A_1 (r) c_1) ∧ Mem C w [.row strRep A_1 c_1 9 r true] [] := by
 have hM := Mem.begin C [.dat (sliceRep NodeRep) d1.Nodes [vL A2 d1.Nodes c3]] ⟨hp4, trivial⟩
 refine enter Tryz.func31 rfl Tryz.ntmps31 rfl fun a hf => ?_
 unfold m_impl_Dawg_words at h
 refine wp_seq ?_
 refine region_pl ?_
 refine pl_l hf rfl rfl rfl (w_box hf hM (cs := [vL A2 (d1.Nodes) c3]) rfl rfl fun b5 w6 hx7 hM a hf => ?_)
 refine q_ hf rfl rfl rfl (e_assign hf rfl) fun a hf => ?_
 refine pl_nil ?_
 refine then_n ?_
 refine wp_seq ?_
 refine region_pl ?_
 refine pl_l hf rfl rfl rfl (w_slice0 (K := strRep) hM Tryz.underlying24 ei_9 fun b9 w10 hx11 hM a hf => ?_)
 refine pl_l hf rfl rfl rfl (w_slice0 (K := byteRep) hM Tryz.underlying22 ei_5 fun b12 w13 hx14 hM a hf => ?_)
 refine pl_l hf rfl rfl rfl (w_alloc hM (cs := [vL none (([] : (List Str))) 0]) Tryz.zeroValue24 rfl fun b15 w16 hx17 hM a hf => ?_)
 refine pl_l hf rfl rfl rfl (w_alloc hM (cs := [vL none (([] : Str)) 0]) Tryz.zeroValue22 rfl fun b19 w20 hx21 hM a hf => ?_)
 refine pl_0 hf rfl rfl (w_store hf hM (us := [vL (some ⟨b9, 0, none⟩) (([] : (List Str))) 0]) (cs' := [vL (some ⟨b9, 0, none⟩) (([] : (List Str))) 0]) rfl rfl (k := 1) rfl rfl Tryz.sizeOf24 rfl rfl rfl fun w23 hM => ?_)
 dsimp only [List.set] at hM
 refine pl_0 hf rfl rfl (w_store hf hM (us := [vL (some ⟨b12, 0, none⟩) (([] : Str)) 0]) (cs' := [vL (some ⟨b12, 0, none⟩) (([] : Str)) 0]) rfl rfl (k := 0) rfl rfl Tryz.sizeOf22 rfl rfl rfl fun w26 hM => ?_)
 dsimp only [List.set] at hM
 refine pl_nil ?_
 refine then_n ?_
 refine wp_seq ?_
 refine region_pl ?_
 refine pl_l hf rfl rfl rfl (w_alloc hM (cs := [.nilFunc]) Tryz.zeroValue112 rfl fun b29 w30 hx31 hM a hf => ?_)
 refine pl_nil ?_
 refine then_n ?_
 refine wp_seq ?_
 refine region_pl ?_
 refine q_ hf rfl rfl rfl (w_makeFunc hf rfl) fun a hf => ?_
 refine pl_0 hf rfl rfl (w_store hf hM (us := [.func (.func 61) #[] #[vP b5 (0), vP b15 (0), vP b19 (0), vP b29 (0)]]) (cs' := [.func (.func 61) #[] #[vP b5 (0), vP b15 (0), vP b19 (0), vP b29 (0)]]) rfl rfl (k := 0) rfl rfl Tryz.sizeOf112 rfl rfl rfl fun w33 hM => ?_)
 dsimp only [List.set] at hM
 refine pl_nil ?_
 refine then_n ?_
 refine wp_seq ?_
 refine region_pl ?_
 refine q_ hf rfl rfl rfl (e_load1 hf rfl Tryz.isAgg112 (hM.boxCell (k := 0) rfl rfl)) fun a hf => ?_
 have hM := hM.freezeBox (k := 0) rfl rfl
 dsimp only [List.eraseIdx] at hM
 have hM := hM.freezeBox (k := 4) rfl rfl
 dsimp only [List.eraseIdx] at hM
 have hM := hM.front (k := 2) rfl
 dsimp only [List.eraseIdx] at hM
 have hM := hM.front (k := 1) rfl
 dsimp only [List.eraseIdx] at hM
 have hM := hM.front (k := 3) rfl
 dsimp only [List.eraseIdx] at hM
 have hM := hM.front (k := 3) rfl
 dsimp only [List.eraseIdx] at hM
 have hM : Mem C _ ([.box b15 [vL (some ⟨b9, 0, none⟩) (([] : (List Str))) 0] 24, .row strRep (some ⟨b9, 0, none⟩) 0 9 ([] : (List Str)) true, .box b19 [vL (some ⟨b12, 0, none⟩) (([] : Str)) 0] 22, .row byteRep (some ⟨b12, 0, none⟩) 0 5 ([] : Str) true] ++ []) _ := hM
 obtain ⟨y36, hz37, h⟩ := bind_some h
 refine pl_l hf rfl rfl rfl (w_callV hf (fk := 61) (fc := [vP b5 (0), vP b15 (0), vP b19 (0), vP b29 (0)]) rfl Tryz.call61 rfl (r_impl_Dawg_words_1 ⟨_, Sh C _ _, ownB _, hM.sh_lt, sub_dis, C.G, hM.g_lt, hM.g_own, hM.tabs⟩ 0 (R64_lit rfl) d1 _ _ (hM.litPtr (k := 0) (d := 0) (us := [vL A2 (d1.Nodes) c3]) rfl rfl rfl (DawgRep_mk (x := d1) (hM.dat (k := 2) rfl))) ([] : (List Str)) _ _ _ ([] : Str) _ _ _ _ _ (hM.at_ (k := 1) rfl) hM.sub sub_dis _ hz37) ?_)
 rintro _ w42 ⟨A38, c39, A40, c41, rfl, hM2⟩
 obtain ⟨hM, hup44⟩ := hM.backG hM2
 dsimp only [List.cons_append, List.nil_append] at hM hup44
 clear hM2
 refine ⟨_, rfl, fun a hf => ?_⟩
 refine pl_nil ?_
 refine then_n ?_
 refine wp_seq ?_
 refine region_pl ?_
 refine q_ hf rfl rfl rfl (e_load1 hf rfl Tryz.isAgg24 (hM.boxCell (k := 0) rfl rfl)) fun a hf => ?_
 refine q_ hf rfl rfl rfl (e_assign hf rfl) fun a hf => ?_
 refine pl_nil ?_
 refine then_n ?_
 refine wp_ret ?_
 obtain rfl := some_inj h
 have hM := hM.front (k := 1) rfl
 dsimp only [List.eraseIdx] at hM
 have hM := hM.outs (own' := [.row strRep A38 c39 9 y36.1 true]) 1 rfl
 exact leave1 hf rfl rfl ⟨A38, c39, rfl, hM.fin⟩
theorem r_cmp_isNaN_string (C : Cx) (x1 : Str) (hp2 : x1.length ≤ maxLen) (r : Bool) (h : m_cmp_isNaN_string x1 = some r) :
    Calls Tryz.prog 143 #[vS (x1)] C.w0 fun e w => e = .returned (.bool (r)) ∧ Mem C w [] [] := by
 have hM := Mem.begin C [] trivial
 refine enter Tryz.func143 rfl Tryz.ntmps143 rfl fun a hf => ?_
 unfold m_cmp_isNaN_string at h
 refine wp_seq ?_
 refine region_pl ?_
 refine q_ hf rfl rfl rfl (e_assign hf rfl) fun a hf => ?_
 refine pl_nil ?_
 refine then_n ?_
 refine wp_seq ?_
 refine region_pl ?_
 iterate 2 refine q_ hf rfl rfl rfl (e_move hf rfl) fun a hf => ?_
 refine q_ hf rfl rfl rfl (e_neS hf (x := x1) (y := x1) rfl rfl) fun a hf => ?_
 refine q_ hf rfl rfl rfl (e_assign hf rfl) fun a hf => ?_
 refine pl_nil ?_
 refine then_n ?_
 refine wp_ret ?_
 obtain rfl := some_inj h
 exact leave1 hf rfl rfl ⟨rfl, hM.fin⟩
theorem r_cmp_Less_string (C : Cx) (x1 : Str) (hp2 : x1.length ≤ maxLen) (y3 : Str) (hp4 : y3.length ≤ maxLen) (r : Bool) (h : m_cmp_Less_string x1 y3 = some r) :
    Calls Tryz.prog 111 #[vS (x1), vS (y3)] C.w0 fun e w => e = .returned (.bool (r)) ∧ Mem C w [] [] := by
 have hM := Mem.begin C [] trivial
 refine enter Tryz.func111 rfl Tryz.ntmps111 rfl fun a hf => ?_
 unfold m_cmp_Less_string at h
 refine wp_seq ?_
 refine region_pl ?_
 refine q_ hf rfl rfl rfl (e_assign hf rfl) fun a hf => ?_
 refine pl_nil ?_
 refine then_n ?_
 obtain ⟨x7, h8, h⟩ := bind_some h
 refine seq_join (fun a w => ∃ (t5 : Bool), t5 = x7 ∧ Has 17 a [(4, .bool (t5))] ∧ Mem C w [] []) ?_ ?_
 ·refine region_pl ?_
  refine q_ hf rfl rfl rfl (e_move hf rfl) fun a hf => ?_
  obtain ⟨y9, hz10, h8⟩ := bind_some h8
  refine pl_l hf rfl rfl rfl (w_call hf Tryz.call143 rfl (r_cmp_isNaN_string ⟨_, Sh C _ _, none_, hM.sh_lt, none_not, C.G, hM.g_lt, g_none, hM.tabs⟩ x1 hp2 _ hz10) ?_)
  rintro _ w11 ⟨rfl, hM2⟩
  obtain ⟨hM, hx12, hup13⟩ := hM.back hM2
  dsimp only [List.cons_append, List.nil_append] at hM hup13
  clear hM2
  refine ⟨_, rfl, fun a hf => ?_⟩
  refine q_ hf rfl rfl rfl (e_move hf rfl) fun a hf => ?_
  rcases cond_some h8 with ⟨hc14, h8⟩ | ⟨hc14, h8⟩
  ·refine gq (wanted_t hf rfl rfl rfl rfl hc14) hf rfl rfl (e_move hf rfl) fun a hf => ?_
   obtain ⟨y15, hz16, h8⟩ := bind_some h8
   refine pl_gl (wanted_t hf rfl rfl rfl rfl hc14) hf rfl rfl (w_call hf Tryz.call143 rfl (r_cmp_isNaN_string ⟨_, Sh C _ _, none_, hM.sh_lt, none_not, C.G, hM.g_lt, g_none, hM.tabs⟩ y3 hp4 _ hz16) ?_)
   rintro _ w17 ⟨rfl, hM2⟩
   obtain ⟨hM, hx18, hup19⟩ := hM.back hM2
   dsimp only [List.cons_append, List.nil_append] at hM hup19
   clear hM2
   refine ⟨_, rfl, fun a hf => ?_⟩
   refine gq (wanted_t hf rfl rfl rfl rfl hc14) hf rfl rfl (e_not hf rfl) fun a hf => ?_
   refine q_ hf rfl rfl rfl (e_pick_t hf rfl hc14 rfl) fun a hf => ?_
   refine q_ hf rfl rfl rfl (e_move hf rfl) fun a hf => ?_
   rcases cond_some h8 with ⟨hc20, h8⟩ | ⟨hc20, h8⟩
   ·iterate 3 refine pl_gs (wanted_f hf rfl rfl rfl rfl hc20) hf rfl rfl fun a hf => ?_
    refine q_ hf rfl rfl rfl (e_pick_t hf rfl hc20 rfl) fun a hf => ?_
    refine q_ hf rfl rfl rfl (e_assign hf rfl) fun a hf => ?_
    refine pl_nil ?_
    obtain rfl := some_inj h8
    refine then_n ?_
    exact ⟨true, rfl, hf.keep ⟨rfl, trivial⟩, hM.pick [] rfl⟩
   iterate 2 refine gq (wanted_t hf rfl rfl rfl rfl hc20) hf rfl rfl (e_move hf rfl) fun a hf => ?_
   refine gq (wanted_t hf rfl rfl rfl rfl hc20) hf rfl rfl (e_ltS hf (x := x1) (y := y3) rfl rfl) fun a hf => ?_
   refine q_ hf rfl rfl rfl (e_pick_f hf rfl hc20 rfl) fun a hf => ?_
   refine q_ hf rfl rfl rfl (e_assign hf rfl) fun a hf => ?_
   refine pl_nil ?_
   obtain rfl := some_inj h8
   refine then_n ?_
   exact ⟨(ltS x1 y3), rfl, hf.keep ⟨rfl, trivial⟩, hM.pick [] rfl⟩
  iterate 3 refine pl_gs (wanted_f hf rfl rfl rfl rfl hc14) hf rfl rfl fun a hf => ?_
  refine q_ hf rfl rfl rfl (e_pick_f hf rfl hc14 rfl) fun a hf => ?_
  refine q_ hf rfl rfl rfl (e_move hf rfl) fun a hf => ?_
  iterate 2 refine gq (wanted_t hf rfl rfl rfl rfl rfl) hf rfl rfl (e_move hf rfl) fun a hf => ?_
  refine gq (wanted_t hf rfl rfl rfl rfl rfl) hf rfl rfl (e_ltS hf (x := x1) (y := y3) rfl rfl) fun a hf => ?_
  refine q_ hf rfl rfl rfl (e_pick_f hf rfl rfl rfl) fun a hf => ?_
  refine q_ hf rfl rfl rfl (e_assign hf rfl) fun a hf => ?_
  refine pl_nil ?_
  obtain rfl := some_inj h8
  refine then_n ?_
  exact ⟨(ltS x1 y3), rfl, hf.keep ⟨rfl, trivial⟩, hM.pick [] rfl⟩
 rintro a w24 ⟨t5, rfl, hf, hM⟩
 try dsimp only at h
 refine wp_ret ?_
 obtain rfl := some_inj h
 exact leave1 hf rfl rfl ⟨rfl, hM.fin⟩
theorem r_slices_isNaN_string (C : Cx) (x1 : Str) (hp2 : x1.length ≤ maxLen) (r : Bool) (h : m_slices_isNaN_string x1 = some r) :
    Calls Tryz.prog 112 #[vS (x1)] C.w0 fun e w => e = .returned (.bool (r)) ∧ Mem C w [] [] := by
 have hM := Mem.begin C [] trivial
 refine enter Tryz.func112 rfl Tryz.ntmps112 rfl fun a hf => ?_
 unfold m_slices_isNaN_string at h
 refine wp_seq ?_
 refine region_pl ?_
 refine q_ hf rfl rfl rfl (e_assign hf rfl) fun a hf => ?_
 refine pl_nil ?_
 refine then_n ?_
 refine wp_seq ?_
 refine region_pl ?_
 iterate 2 refine q_ hf rfl rfl rfl (e_move hf rfl) fun a hf => ?_
 refine q_ hf rfl rfl rfl (e_neS hf (x := x1) (y := x1) rfl rfl) fun a hf => ?_
 refine q_ hf rfl rfl rfl (e_assign hf rfl) fun a hf => ?_
 refine pl_nil ?_
 refine then_n ?_
 refine wp_ret ?_
 obtain rfl := some_inj h
 exact leave1 hf rfl rfl ⟨rfl, hM.fin⟩
theorem r_slices_BinarySearch_string_string (C : Cx) (x1 : (List Str)) (A2 : Option Addr) (c3 : Nat) (hp4 : (sliceRep strRep).R C.w0 C.S0 x1 [vL A2 x1 c3]) (target5 : Str) (hp6 : target5.length ≤ maxLen) (r : (Int × Bool)) (h : m_slices_BinarySearch_string_string x1 target5 = some r) :
    Calls Tryz.prog 82 #[vL A2 (x1) c3, vS (target5)] C.w0 fun e w => e = .returned (.tuple #[vI (r.1), .bool (r.2)]) ∧ Mem C w [] [] ∧ R64 r.1 := by
 have hM := Mem.begin C [.dat (sliceRep strRep) x1 [vL A2 x1 c3]] ⟨hp4, trivial⟩
 refine enter Tryz.func82 rfl Tryz.ntmps82 rfl fun a hf => ?_
 unfold m_slices_BinarySearch_string_string at h
 refine wp_seq ?_
 refine region_pl ?_
 iterate 2 refine q_ hf rfl rfl rfl (e_assign hf rfl) fun a hf => ?_
 refine pl_nil ?_
 refine then_n ?_
 refine wp_seq ?_
 refine region_pl ?_
 refine q_ hf rfl rfl rfl (e_move hf rfl) fun a hf => ?_
 have hl7 := slice_len (hM.dat (k := 0) rfl)
 refine q_ hf rfl rfl rfl (e_lenL hf (x := x1) rfl Tryz.underlying24) fun a hf => ?_
 refine q_ hf rfl rfl rfl (e_assign hf rfl) fun a hf => ?_
 refine pl_nil ?_
 refine then_n ?_
 refine wp_seq ?_
 refine region_pl ?_
 refine q_ hf rfl rfl rfl (e_move hf rfl) fun a hf => ?_
 iterate 2 refine q_ hf rfl rfl rfl (e_assign hf rfl) fun a hf => ?_
 refine pl_nil ?_
 refine then_n ?_
 obtain ⟨x10, h11, h⟩ := bind_some h
 refine seq_join (fun a w => ∃ (h8 : Int), h8 = x10 ∧ Has 54 a [(0, vL A2 (x1) c3), (1, vS (target5)), (6, vI ((x1.length : Int))), (7, vI (h8))] ∧ Mem C w [] [.dat (sliceRep strRep) x1 [vL A2 x1 c3]] ∧ R64 h8) ?_ ?_
 ·refine wp_block ?_
  obtain ⟨x19, h20, h11⟩ := bind_some h11
  refine wp_loopM h20 (fun s a w => ∃ (h12 : Int) (n14 : Int), (h12, n14) = s ∧ Has 54 a [(0, vL A2 (x1) c3), (1, vS (target5)), (6, vI ((x1.length : Int))), (7, vI (h12)), (8, vI (n14))] ∧ Mem C w [] [.dat (sliceRep strRep) x1 [vL A2 x1 c3]] ∧ R64 h12 ∧ R64 n14) ?_ ?_
  ·exact ⟨0, (x1.length : Int), rfl, hf.keep ⟨rfl, rfl, rfl, rfl, rfl, trivial⟩, hM.pick [0] rfl, (R64_lit rfl), (R64_len hl7)⟩
  rintro s o21 a w16 ⟨h12, n14, rfl, hf, hM, hv13, hv15⟩ h22 hd23
  replace h22 : m_slices_BinarySearch_string_string_l1 x1 target5 h12 n14 = some o21 := h22
  unfold m_slices_BinarySearch_string_string_l1 at h22
  iterate 2 refine wp_seq ?_
  refine region_pl ?_
  iterate 2 refine q_ hf rfl rfl rfl (e_move hf rfl) fun a hf => ?_
  refine q_ hf rfl rfl rfl (e_lt hf (x := h12) (y := n14) rfl rfl) fun a hf => ?_
  refine pl_nil ?_
  refine then_n ?_
  rcases cond_some h22 with ⟨hc24, h22⟩ | ⟨hc24, h22⟩
  ·refine cond_t hf rfl hc24 ?_
   refine wp_skip ?_
   refine then_n ?_
   refine wp_block ?_
   refine wp_seq ?_
   refine region_pl ?_
   iterate 2 refine q_ hf rfl rfl rfl (e_move hf rfl) fun a hf => ?_
   obtain ⟨z25, hz26, h22⟩ := bind_some h22
   refine q_ hf rfl rfl rfl (e_add hf rfl rfl hz26) fun a hf => ?_
   refine q_ hf rfl rfl rfl (e_convIW hf rfl Tryz.underlying3 Tryz.underlying161) fun a hf => ?_
   refine q_ hf rfl rfl rfl (e_shrW hf (k := 1) rfl rfl rfl rfl (m := 2) rfl (U64_mod _)) fun a hf => ?_
   obtain ⟨z27, hz28, h22⟩ := bind_some h22
   refine q_ hf rfl rfl rfl (e_convWI hf rfl Tryz.underlying161 Tryz.underlying3 hz28) fun a hf => ?_
   refine q_ hf rfl rfl rfl (e_assign hf rfl) fun a hf => ?_
   refine pl_nil ?_
   refine then_n ?_
   refine wp_seq ?_
   refine region_pl ?_
   iterate 2 refine q_ hf rfl rfl rfl (e_move hf rfl) fun a hf => ?_
   obtain ⟨e29, hz30, h22⟩ := bind_some h22
   obtain ⟨b34, o35, _, hA36, h31, h32, hr33, hM⟩ := hM.elem (hM.dat (k := 0) rfl) (n := 1) rfl hz30
   obtain ⟨rfl, hv37⟩ := hr33
   refine q_ hf rfl rfl rfl (e_indexAddr (A := A2) (b := b34) (o := o35) (xs := x1) (i := z27) hf hA36 rfl rfl Tryz.underlying24 Tryz.sizeOf9 h31 h32) fun a hf => ?_
   refine q_ hf rfl rfl rfl (e_load1 hf rfl Tryz.isAgg9 (hM.litCell (k := 0) (j := 0) rfl rfl rfl)) fun a hf => ?_
   refine q_ hf rfl rfl rfl (e_move hf rfl) fun a hf => ?_
   obtain ⟨y38, hz39, h22⟩ := bind_some h22
   refine pl_l hf rfl rfl rfl (w_call hf Tryz.call111 rfl (r_cmp_Less_string ⟨_, Sh C _ _, none_, hM.sh_lt, none_not, C.G, hM.g_lt, g_none, hM.tabs⟩ e29 hv37 target5 hp6 _ hz39) ?_)
   rintro _ w40 ⟨rfl, hM2⟩
   obtain ⟨hM, hx41, hup42⟩ := hM.back hM2
   dsimp only [List.cons_append, List.nil_append] at hM hup42
   clear hM2
   refine ⟨_, rfl, fun a hf => ?_⟩
   refine pl_nil ?_
   refine then_n ?_
   rcases cond_some h22 with ⟨hc43, h22⟩ | ⟨hc43, h22⟩
   ·refine cond_t hf rfl hc43 ?_
    refine region_pl ?_
    refine q_ hf rfl rfl rfl (e_move hf rfl) fun a hf => ?_
    obtain ⟨z44, hz45, h22⟩ := bind_some h22
    refine q_ hf rfl rfl rfl (e_add hf rfl rfl hz45) fun a hf => ?_
    refine q_ hf rfl rfl rfl (e_assign hf rfl) fun a hf => ?_
    refine pl_nil ?_
    refine blk_n ?_
    obtain rfl := some_inj h22
    refine then_n ⟨_, rfl, ?_⟩
    exact ⟨z44, n14, rfl, hf.keep ⟨rfl, rfl, rfl, rfl, rfl, trivial⟩, hM.pick [1] rfl, (chk_R hz45), hv15⟩
   refine cond_f hf rfl hc43 ?_
   refine region_pl ?_
   refine q_ hf rfl rfl rfl (e_move hf rfl) fun a hf => ?_
   refine q_ hf rfl rfl rfl (e_assign hf rfl) fun a hf => ?_
   refine pl_nil ?_
   refine blk_n ?_
   obtain rfl := some_inj h22
   refine then_n ⟨_, rfl, ?_⟩
   exact ⟨h12, z27, rfl, hf.keep ⟨rfl, rfl, rfl, rfl, rfl, trivial⟩, hM.pick [1] rfl, hv13, (chk_R hz28)⟩
  refine cond_f hf rfl hc24 ?_
  refine wp_exit ?_
  refine then_x ?_
  obtain rfl := some_inj h22
  obtain rfl := hd23 _ rfl
  try dsimp only at h11
  refine then_x ?_
  refine exit_hit ?_
  obtain rfl := some_inj h11
  refine then_n ?_
  exact ⟨h12, rfl, hf.keep ⟨rfl, rfl, rfl, rfl, trivial⟩, hM.pick [0] rfl, hv13⟩
 rintro a w52 ⟨h8, rfl, hf, hM, hv9⟩
 try dsimp only at h
 obtain ⟨x57, h58, h⟩ := bind_some h
 refine seq_join (fun a w => ∃ (n53 : Int) (i55 : Bool), (n53, i55) = x57 ∧ Has 54 a [(4, vI (n53)), (5, .bool (i55))] ∧ Mem C w [] [.dat (sliceRep strRep) x1 [vL A2 x1 c3]] ∧ R64 n53) ?_ ?_
 ·refine region_pl ?_
  iterate 3 refine q_ hf rfl rfl rfl (e_move hf rfl) fun a hf => ?_
  refine q_ hf rfl rfl rfl (e_lt hf (x := h8) (y := (x1.length : Int)) rfl rfl) fun a hf => ?_
  refine q_ hf rfl rfl rfl (e_move hf rfl) fun a hf => ?_
  rcases cond_some h58 with ⟨hc59, h58⟩ | ⟨hc59, h58⟩
  ·iterate 2 refine gq (wanted_t hf rfl rfl rfl rfl hc59) hf rfl rfl (e_move hf rfl) fun a hf => ?_
   obtain ⟨e60, hz61, h58⟩ := bind_some h58
   obtain ⟨b65, o66, _, hA67, h62, h63, hr64, hM⟩ := hM.elem (hM.dat (k := 0) rfl) (n := 1) rfl hz61
   obtain ⟨rfl, hv68⟩ := hr64
   refine gq (wanted_t hf rfl rfl rfl rfl hc59) hf rfl rfl (e_indexAddr (A := A2) (b := b65) (o := o66) (xs := x1) (i := h8) hf hA67 rfl rfl Tryz.underlying24 Tryz.sizeOf9 h62 h63) fun a hf => ?_
   refine gq (wanted_t hf rfl rfl rfl rfl hc59) hf rfl rfl (e_load1 hf rfl Tryz.isAgg9 (hM.litCell (k := 0) (j := 0) rfl rfl rfl)) fun a hf => ?_
   refine gq (wanted_t hf rfl rfl rfl rfl hc59) hf rfl rfl (e_move hf rfl) fun a hf => ?_
   refine gq (wanted_t hf rfl rfl rfl rfl hc59) hf rfl rfl (e_eqS hf (x := e60) (y := target5) rfl rfl) fun a hf => ?_
   refine gq (wanted_t hf rfl rfl rfl rfl hc59) hf rfl rfl (e_move hf rfl) fun a hf => ?_
   rcases cond_some h58 with ⟨hc69, h58⟩ | ⟨hc69, h58⟩
   ·iterate 6 refine pl_gs (wanted_f hf rfl rfl rfl rfl hc69) hf rfl rfl fun a hf => ?_
    iterate 2 refine pl_gs (wanted_u hf rfl rfl rfl rfl) hf rfl rfl fun a hf => ?_
    refine pl_gs (wanted_f hf rfl rfl rfl rfl hc69) hf rfl rfl fun a hf => ?_
    refine gq (wanted_t hf rfl rfl rfl rfl hc59) hf rfl rfl (e_pick_t hf rfl hc69 rfl) fun a hf => ?_
    refine q_ hf rfl rfl rfl (e_pick_t hf rfl hc59 rfl) fun a hf => ?_
    iterate 2 refine q_ hf rfl rfl rfl (e_assign hf rfl) fun a hf => ?_
    refine pl_nil ?_
    obtain rfl := some_inj h58
    refine then_n ?_
    exact ⟨h8, true, rfl, hf.keep ⟨rfl, rfl, trivial⟩, hM.pick [1] rfl, hv9⟩
   iterate 2 refine gq (wanted_t hf rfl rfl rfl rfl hc69) hf rfl rfl (e_move hf rfl) fun a hf => ?_
   obtain ⟨e71, hz72, h58⟩ := bind_some h58
   obtain ⟨b76, o77, _, hA78, h73, h74, hr75, hM⟩ := hM.elem (hM.dat (k := 1) rfl) (n := 1) rfl hz72
   obtain ⟨rfl, hv79⟩ := hr75
   refine gq (wanted_t hf rfl rfl rfl rfl hc69) hf rfl rfl (e_indexAddr (A := A2) (b := b76) (o := o77) (xs := x1) (i := h8) hf hA78 rfl rfl Tryz.underlying24 Tryz.sizeOf9 h73 h74) fun a hf => ?_
   refine gq (wanted_t hf rfl rfl rfl rfl hc69) hf rfl rfl (e_load1 hf rfl Tryz.isAgg9 (hM.litCell (k := 0) (j := 0) rfl rfl rfl)) fun a hf => ?_
   obtain ⟨y80, hz81, h58⟩ := bind_some h58
   refine pl_gl (wanted_t hf rfl rfl rfl rfl hc69) hf rfl rfl (w_call hf Tryz.call112 rfl (r_slices_isNaN_string ⟨_, Sh C _ _, none_, hM.sh_lt, none_not, C.G, hM.g_lt, g_none, hM.tabs⟩ e71 hv79 _ hz81) ?_)
   rintro _ w82 ⟨rfl, hM2⟩
   obtain ⟨hM, hx83, hup84⟩ := hM.back hM2
   dsimp only [List.cons_append, List.nil_append] at hM hup84
   clear hM2
   refine ⟨_, rfl, fun a hf => ?_⟩
   refine gq (wanted_t hf rfl rfl rfl rfl hc69) hf rfl rfl (e_move hf rfl) fun a hf => ?_
   rcases cond_some h58 with ⟨hc85, h58⟩ | ⟨hc85, h58⟩
   ·refine gq (wanted_t hf rfl rfl rfl rfl hc85) hf rfl rfl (e_move hf rfl) fun a hf => ?_
    obtain ⟨y86, hz87, h58⟩ := bind_some h58
    refine pl_gl (wanted_t hf rfl rfl rfl rfl hc85) hf rfl rfl (w_call hf Tryz.call112 rfl (r_slices_isNaN_string ⟨_, Sh C _ _, none_, hM.sh_lt, none_not, C.G, hM.g_lt, g_none, hM.tabs⟩ target5 hp6 _ hz87) ?_)
    rintro _ w88 ⟨rfl, hM2⟩
    obtain ⟨hM, hx89, hup90⟩ := hM.back hM2
    dsimp only [List.cons_append, List.nil_append] at hM hup90
    clear hM2
    refine ⟨_, rfl, fun a hf => ?_⟩
    refine gq (wanted_t hf rfl rfl rfl rfl hc69) hf rfl rfl (e_pick_t hf rfl hc85 rfl) fun a hf => ?_
    refine gq (wanted_t hf rfl rfl rfl rfl hc59) hf rfl rfl (e_pick_f hf rfl hc69 rfl) fun a hf => ?_
    refine q_ hf rfl rfl rfl (e_pick_t hf rfl hc59 rfl) fun a hf => ?_
    iterate 2 refine q_ hf rfl rfl rfl (e_assign hf rfl) fun a hf => ?_
    refine pl_nil ?_
    obtain rfl := some_inj h58
    refine then_n ?_
    exact ⟨h8, y86, rfl, hf.keep ⟨rfl, rfl, trivial⟩, hM.pick [2] rfl, hv9⟩
   iterate 2 refine pl_gs (wanted_f hf rfl rfl rfl rfl hc85) hf rfl rfl fun a hf => ?_
   refine gq (wanted_t hf rfl rfl rfl rfl hc69) hf rfl rfl (e_pick_f hf rfl hc85 rfl) fun a hf => ?_
   refine gq (wanted_t hf rfl rfl rfl rfl hc59) hf rfl rfl (e_pick_f hf rfl hc69 rfl) fun a hf => ?_
   refine q_ hf rfl rfl rfl (e_pick_t hf rfl hc59 rfl) fun a hf => ?_
   iterate 2 refine q_ hf rfl rfl rfl (e_assign hf rfl) fun a hf => ?_
   refine pl_nil ?_
   obtain rfl := some_inj h58
   refine then_n ?_
   exact ⟨h8, false, rfl, hf.keep ⟨rfl, rfl, trivial⟩, hM.pick [2] rfl, hv9⟩
  iterate 7 refine pl_gs (wanted_f hf rfl rfl rfl rfl hc59) hf rfl rfl fun a hf => ?_
  iterate 9 refine pl_gs (wanted_u hf rfl rfl rfl rfl) hf rfl rfl fun a hf => ?_
  refine pl_gs (wanted_f hf rfl rfl rfl rfl hc59) hf rfl rfl fun a hf => ?_
  refine q_ hf rfl rfl rfl (e_pick_f hf rfl hc59 rfl) fun a hf => ?_
  iterate 2 refine q_ hf rfl rfl rfl (e_assign hf rfl) fun a hf => ?_
  refine pl_nil ?_
  obtain rfl := some_inj h58
  refine then_n ?_
  exact ⟨h8, false, rfl, hf.keep ⟨rfl, rfl, trivial⟩, hM.pick [0] rfl, hv9⟩
 rintro a w94 ⟨n53, i55, rfl, hf, hM, hv54⟩
 try dsimp only at h
 refine wp_ret ?_
 obtain rfl := some_inj h
 exact leave2 hf rfl rfl rfl ⟨rfl, hM.fin, hv54⟩
theorem r_impl_removed (C : Cx) (list1 : (List Str)) (A2 : Option Addr) (c3 : Nat) (word4 : Str) (hp5 : word4.length ≤ maxLen) (hO : Mem C C.w0 [.row strRep A2 c3 9 list1 true] []) (hd : ∀ b, C.S0 b → ¬ ownB [.row strRep A2 c3 9 list1 true] b) (r : ((List Str) × Int)) (h : m_impl_removed list1 word4 = some r) :
    Calls Tryz.prog 51 #[vL A2 (list1) c3, vS (word4)] C.w0 fun e w => ∃ (A_1 : Option Addr), ∃ (c_1 : Nat), ∃ (p_1 : Value), e = .returned (.tuple #[vL A_1 (r.1) c_1, p_1]) ∧ Mem C w [.row strRep A_1 c_1 9 r.1 true] [] ∧ ErrC C.w0 p_1 r.2 := by
 have hM := hO
 refine enter Tryz.func51 rfl Tryz.ntmps51 rfl fun a hf => ?_
 unfold m_impl_removed at h
 refine wp_seq ?_
 refine region_pl ?_
 iterate 2 refine q_ hf rfl rfl rfl (e_assign hf rfl) fun a hf => ?_
 refine pl_nil ?_
 refine then_n ?_
 refine wp_seq ?_
 refine region_pl ?_
 iterate 2 refine q_ hf rfl rfl rfl (e_move hf rfl) fun a hf => ?_
 obtain ⟨y6, hz7, h⟩ := bind_some h
 refine pl_l hf rfl rfl rfl (w_call hf Tryz.call82 rfl (r_slices_BinarySearch_string_string ⟨_, All C _ _, none_, hM.all_lt, none_not, C.G, hM.g_lt, g_none, hM.tabs⟩ list1 _ _ (hM.lendRow (k := 0) rfl) word4 hp5 _ hz7) ?_)
 rintro _ w9 ⟨rfl, hM2, hv8⟩
 obtain ⟨hM, hx10⟩ := hM.backA hM2
 clear hM2
 refine ⟨_, rfl, fun a hf => ?_⟩
 refine q_ hf rfl rfl rfl (e_move hf rfl) fun a hf => ?_
 iterate 2 refine q_ hf rfl rfl rfl (e_extract hf rfl rfl) fun a hf => ?_
 iterate 2 refine q_ hf rfl rfl rfl (e_assign hf rfl) fun a hf => ?_
 refine pl_nil ?_
 refine then_n ?_
 iterate 2 refine wp_seq ?_
 refine region_pl ?_
 refine q_ hf rfl rfl rfl (e_move hf rfl) fun a hf => ?_
 refine q_ hf rfl rfl rfl (e_not hf rfl) fun a hf => ?_
 refine pl_nil ?_
 refine then_n ?_
 rcases cond_some h with ⟨hc12, h⟩ | ⟨hc12, h⟩
 ·refine cond_t hf rfl hc12 ?_
  refine wp_seq ?_
  obtain ⟨w13, hw⟩ : ∃ x, x = w9.drew := ⟨_, rfl⟩
  refine region_pi (.q 0 (.q 1 (.q 2 (.nil)))) (Ext w13) rfl (by kernel_rfl) ?_
  have hM := hM.drew
  rw [← hw] at hM ⊢
  clear hw
  obtain ⟨p14, hv15, hc16⟩ := hM.err3
  refine pi_q hf rfl rfl rfl rfl (Ext.refl _) (e_load1 hf rfl Tryz.isAgg71 hc16) fun a hf => ?_
  iterate 2 refine pi_q hf rfl rfl rfl rfl (Ext.refl _) (e_assign hf rfl) fun a hf => ?_
  refine pi_nil ?_
  refine then_n ?_
  refine wp_ret ?_
  refine then_r ?_
  obtain rfl := some_inj h
  have hM := hM.nilRow strRep 9
  have hM := hM.outs (own' := [.row strRep none 0 9 ([] : (List Str)) true]) 1 rfl
  exact leave2 hf rfl rfl rfl ⟨none, 0, p14, rfl, hM.fin, hv15⟩
 refine cond_f hf rfl hc12 ?_
 refine wp_skip ?_
 refine then_n ?_
 refine wp_seq ?_
 refine region_pl ?_
 iterate 3 refine q_ hf rfl rfl rfl (e_move hf rfl) fun a hf => ?_
 obtain ⟨z17, hz18, h⟩ := bind_some h
 refine q_ hf rfl rfl rfl (e_add hf rfl rfl hz18) fun a hf => ?_
 have hM : Mem C _ ([.row strRep A2 c3 9 list1 true] ++ []) _ := hM
 obtain ⟨y19, hz20, h⟩ := bind_some h
 refine pl_l hf rfl rfl rfl (w_call hf Tryz.call83 rfl (r_slices_Delete_string_string ⟨_, Sh C _ _, ownB _, hM.sh_lt, sub_dis, C.G, hM.g_lt, hM.g_own, hM.tabs⟩ list1 _ _ y6.1 hv8 z17 (chk_R hz18) hM.sub sub_dis _ hz20) ?_)
 rintro _ w23 ⟨A21, c22, rfl, hM2⟩
 obtain ⟨hM, hup25⟩ := hM.backG hM2
 dsimp only [List.cons_append, List.nil_append] at hM hup25
 clear hM2
 refine ⟨_, rfl, fun a hf => ?_⟩
 iterate 2 refine q_ hf rfl rfl rfl (e_assign hf rfl) fun a hf => ?_
 refine pl_nil ?_
 refine then_n ?_
 refine wp_ret ?_
 obtain rfl := some_inj h
 exact leave2 hf rfl rfl rfl ⟨A21, c22, .nilIface, rfl, hM.fin, ErrC.nil_⟩
theorem r_impl_isForm (C : Cx) (s1 : Str) (hp2 : s1.length ≤ maxLen) (r : Bool) (h : m_impl_isForm s1 = some r) :
    Calls Tryz.prog 84 #[vS (s1)] C.w0 fun e w => e = .returned (.bool (r)) ∧ Mem C w [] [] := by
 have hM := Mem.begin C [] trivial
 refine enter Tryz.func84 rfl Tryz.ntmps84 rfl fun a hf => ?_
 unfold m_impl_isForm at h
 refine wp_seq ?_
 refine region_pl ?_
 refine q_ hf rfl rfl rfl (e_assign hf rfl) fun a hf => ?_
 refine pl_nil ?_
 refine then_n ?_
 obtain ⟨x3, h4, h⟩ := bind_some h
 refine seq_join (fun a w => (.inl ()) = x3 ∧ Has 23 a [(0, vS (s1))] ∧ Mem C w [] []) ?_ ?_
 ·refine wp_seq ?_
  refine region_pl ?_
  refine q_ hf rfl rfl rfl (e_assign hf rfl) fun a hf => ?_
  refine pl_nil ?_
  refine then_n ?_
  refine wp_block ?_
  obtain ⟨x8, h9, h4⟩ := bind_some h4
  refine wp_loopM h9 (fun s a w => ∃ (n5 : Int), n5 = s ∧ Has 23 a [(0, vS (s1)), (3, vI (n5))] ∧ Mem C w [] [] ∧ R64 n5) ?_ ?_
  ·exact ⟨0, rfl, hf.keep ⟨rfl, rfl, trivial⟩, hM.pick [] rfl, (R64_lit rfl)⟩
  rintro s o10 a w7 ⟨n5, rfl, hf, hM, hv6⟩ h11 hd12
  replace h11 : m_impl_isForm_l1 s1 n5 = some o10 := h11
  unfold m_impl_isForm_l1 at h11
  iterate 2 refine wp_seq ?_
  refine region_pl ?_
  iterate 2 refine q_ hf rfl rfl rfl (e_move hf rfl) fun a hf => ?_
  refine q_ hf rfl rfl rfl (e_lenS hf (x := s1) rfl Tryz.underlying9) fun a hf => ?_
  refine q_ hf rfl rfl rfl (e_lt hf (x := n5) (y := (s1.length : Int)) rfl rfl) fun a hf => ?_
  refine pl_nil ?_
  refine then_n ?_
  rcases cond_some h11 with ⟨hc13, h11⟩ | ⟨hc13, h11⟩
  ·refine cond_t hf rfl hc13 ?_
   refine wp_skip ?_
   refine then_n ?_
   refine wp_seq ?_
   refine wp_block ?_
   refine wp_seq ?_
   refine region_pl ?_
   iterate 2 refine q_ hf rfl rfl rfl (e_move hf rfl) fun a hf => ?_
   obtain ⟨c14, hz15, h11⟩ := bind_some h11
   refine q_ hf rfl rfl rfl (e_indexS hf (x := s1) rfl rfl Tryz.underlying9 hz15) fun a hf => ?_
   obtain ⟨y16, hz17, h11⟩ := bind_some h11
   refine pl_l hf rfl rfl rfl (w_call hf Tryz.call69 rfl (r_impl_formByte ⟨_, Sh C _ _, none_, hM.sh_lt, none_not, C.G, hM.g_lt, g_none, hM.tabs⟩ c14 _ hz17) ?_)
   rintro _ w18 ⟨rfl, hM2⟩
   obtain ⟨hM, hx19, hup20⟩ := hM.back hM2
   dsimp only [List.cons_append, List.nil_append] at hM hup20
   clear hM2
   refine ⟨_, rfl, fun a hf => ?_⟩
   refine q_ hf rfl rfl rfl (e_not hf rfl) fun a hf => ?_
   refine pl_nil ?_
   refine then_n ?_
   rcases cond_some h11 with ⟨hc21, h11⟩ | ⟨hc21, h11⟩
   ·refine cond_t hf rfl hc21 ?_
    refine wp_seq ?_
    refine region_pl ?_
    refine q_ hf rfl rfl rfl (e_assign hf rfl) fun a hf => ?_
    refine pl_nil ?_
    refine then_n ?_
    refine wp_ret ?_
    refine blk_r ?_
    refine then_r ?_
    obtain rfl := some_inj h11
    obtain rfl := hd12 _ rfl
    try dsimp only at h4
    refine then_r ?_
    refine blk_r ?_
    obtain rfl := some_inj h4
    try dsimp only at h
    refine then_r ?_
    obtain rfl := some_inj h
    exact leave1 hf rfl rfl ⟨rfl, hM.fin⟩
   refine cond_f hf rfl hc21 ?_
   refine wp_skip ?_
   refine blk_n ?_
   refine then_n ?_
   refine region_pl ?_
   refine q_ hf rfl rfl rfl (e_move hf rfl) fun a hf => ?_
   obtain ⟨z22, hz23, h11⟩ := bind_some h11
   refine q_ hf rfl rfl rfl (e_add hf rfl rfl hz23) fun a hf => ?_
   refine q_ hf rfl rfl rfl (e_assign hf rfl) fun a hf => ?_
   refine pl_nil ?_
   obtain rfl := some_inj h11
   refine then_n ⟨_, rfl, ?_⟩
   exact ⟨z22, rfl, hf.keep ⟨rfl, rfl, trivial⟩, hM.pick [] rfl, (chk_R hz23)⟩
  refine cond_f hf rfl hc13 ?_
  refine wp_exit ?_
  refine then_x ?_
  obtain rfl := some_inj h11
  obtain rfl := hd12 _ rfl
  try dsimp only at h4
  refine then_x ?_
  refine exit_hit ?_
  obtain rfl := some_inj h4
  refine then_n ?_
  exact ⟨rfl, hf.keep ⟨rfl, trivial⟩, hM.pick [] rfl⟩
 rintro a w30 ⟨rfl, hf, hM⟩
 try dsimp only at h
 obtain ⟨x33, h34, h⟩ := bind_some h
 refine seq_join (fun a w => ∃ (i31 : Bool), i31 = x33 ∧ Has 23 a [(2, .bool (i31))] ∧ Mem C w [] []) ?_ ?_
 ·refine region_pl ?_
  refine q_ hf rfl rfl rfl (e_move hf rfl) fun a hf => ?_
  refine q_ hf rfl rfl rfl (e_lenS hf (x := s1) rfl Tryz.underlying9) fun a hf => ?_
  refine q_ hf rfl rfl rfl (e_ge hf (x := (s1.length : Int)) (y := 1) rfl rfl) fun a hf => ?_
  refine q_ hf rfl rfl rfl (e_move hf rfl) fun a hf => ?_
  rcases cond_some h34 with ⟨hc35, h34⟩ | ⟨hc35, h34⟩
  ·refine gq (wanted_t hf rfl rfl rfl rfl hc35) hf rfl rfl (e_move hf rfl) fun a hf => ?_
   refine gq (wanted_t hf rfl rfl rfl rfl hc35) hf rfl rfl (e_lenS hf (x := s1) rfl Tryz.underlying9) fun a hf => ?_
   refine gq (wanted_t hf rfl rfl rfl rfl hc35) hf rfl rfl (e_le hf (x := (s1.length : Int)) (y := 13) rfl rfl) fun a hf => ?_
   refine q_ hf rfl rfl rfl (e_pick_t hf rfl hc35 rfl) fun a hf => ?_
   refine q_ hf rfl rfl rfl (e_assign hf rfl) fun a hf => ?_
   refine pl_nil ?_
   obtain rfl := some_inj h34
   refine then_n ?_
   exact ⟨(decide ((s1.length : Int) ≤ 13)), rfl, hf.keep ⟨rfl, trivial⟩, hM.pick [] rfl⟩
  iterate 3 refine pl_gs (wanted_f hf rfl rfl rfl rfl hc35) hf rfl rfl fun a hf => ?_
  refine q_ hf rfl rfl rfl (e_pick_f hf rfl hc35 rfl) fun a hf => ?_
  refine q_ hf rfl rfl rfl (e_assign hf rfl) fun a hf => ?_
  refine pl_nil ?_
  obtain rfl := some_inj h34
  refine then_n ?_
  exact ⟨false, rfl, hf.keep ⟨rfl, trivial⟩, hM.pick [] rfl⟩
 rintro a w38 ⟨i31, rfl, hf, hM⟩
 try dsimp only at h
 refine wp_ret ?_
 obtain rfl := some_inj h
 exact leave1 hf rfl rfl ⟨rfl, hM.fin⟩
theorem r_impl_added (C : Cx) (list1 : (List Str)) (A2 : Option Addr) (c3 : Nat) (word4 : Str) (hp5 : word4.length ≤ maxLen) (hO : Mem C C.w0 [.row strRep A2 c3 9 list1 true] []) (hd : ∀ b, C.S0 b → ¬ ownB [.row strRep A2 c3 9 list1 true] b) (r : ((List Str) × Int)) (h : m_impl_added list1 word4 = some r) :
    Calls Tryz.prog 52 #[vL A2 (list1) c3, vS (word4)] C.w0 fun e w => ∃ (A_1 : Option Addr), ∃ (c_1 : Nat), ∃ (p_1 : Value), e = .returned (.tuple #[vL A_1 (r.1) c_1, p_1]) ∧ Mem C w [.row strRep A_1 c_1 9 r.1 true] [] ∧ ErrC C.w0 p_1 r.2 := by
 have hM := hO
 refine enter Tryz.func52 rfl Tryz.ntmps52 rfl fun a hf => ?_
 unfold m_impl_added at h
 refine wp_seq ?_
 refine region_pl ?_
 iterate 2 refine q_ hf rfl rfl rfl (e_assign hf rfl) fun a hf => ?_
 refine pl_nil ?_
 refine then_n ?_
 iterate 2 refine wp_seq ?_
 refine region_pl ?_
 refine q_ hf rfl rfl rfl (e_move hf rfl) fun a hf => ?_
 obtain ⟨y6, hz7, h⟩ := bind_some h
 refine pl_l hf rfl rfl rfl (w_call hf Tryz.call84 rfl (r_impl_isForm ⟨_, Sh C _ _, none_, hM.sh_lt, none_not, C.G, hM.g_lt, g_none, hM.tabs⟩ word4 hp5 _ hz7) ?_)
 rintro _ w8 ⟨rfl, hM2⟩
 obtain ⟨hM, hx9, hup10⟩ := hM.back hM2
 dsimp only [List.cons_append, List.nil_append] at hM hup10
 clear hM2
 refine ⟨_, rfl, fun a hf => ?_⟩
 refine q_ hf rfl rfl rfl (e_not hf rfl) fun a hf => ?_
 refine pl_nil ?_
 refine then_n ?_
 rcases cond_some h with ⟨hc11, h⟩ | ⟨hc11, h⟩
 ·refine cond_t hf rfl hc11 ?_
  refine wp_seq ?_
  obtain ⟨w12, hw⟩ : ∃ x, x = w8.drew := ⟨_, rfl⟩
  refine region_pi (.q 0 (.q 1 (.q 2 (.nil)))) (Ext w12) rfl (by kernel_rfl) ?_
  have hM := hM.drew
  rw [← hw] at hM ⊢
  clear hw
  obtain ⟨p13, hv14, hc15⟩ := hM.err7
  refine pi_q hf rfl rfl rfl rfl (Ext.refl _) (e_load1 hf rfl Tryz.isAgg71 hc15) fun a hf => ?_
  iterate 2 refine pi_q hf rfl rfl rfl rfl (Ext.refl _) (e_assign hf rfl) fun a hf => ?_
  refine pi_nil ?_
  refine then_n ?_
  refine wp_ret ?_
  refine then_r ?_
  obtain rfl := some_inj h
  have hM := hM.nilRow strRep 9
  have hM := hM.outs (own' := [.row strRep none 0 9 ([] : (List Str)) true]) 1 rfl
  exact leave2 hf rfl rfl rfl ⟨none, 0, p13, rfl, hM.fin, hv14⟩
 refine cond_f hf rfl hc11 ?_
 refine wp_skip ?_
 refine then_n ?_
 refine wp_seq ?_
 refine region_pl ?_
 iterate 2 refine q_ hf rfl rfl rfl (e_move hf rfl) fun a hf => ?_
 obtain ⟨y16, hz17, h⟩ := bind_some h
 refine pl_l hf rfl rfl rfl (w_call hf Tryz.call82 rfl (r_slices_BinarySearch_string_string ⟨_, All C _ _, none_, hM.all_lt, none_not, C.G, hM.g_lt, g_none, hM.tabs⟩ list1 _ _ (hM.lendRow (k := 0) rfl) word4 hp5 _ hz17) ?_)
 rintro _ w19 ⟨rfl, hM2, hv18⟩
 obtain ⟨hM, hx20⟩ := hM.backA hM2
 clear hM2
 refine ⟨_, rfl, fun a hf => ?_⟩
 refine q_ hf rfl rfl rfl (e_move hf rfl) fun a hf => ?_
 iterate 2 refine q_ hf rfl rfl rfl (e_extract hf rfl rfl) fun a hf => ?_
 iterate 2 refine q_ hf rfl rfl rfl (e_assign hf rfl) fun a hf => ?_
 refine pl_nil ?_
 refine then_n ?_
 iterate 2 refine wp_seq ?_
 refine region_pl ?_
 refine q_ hf rfl rfl rfl (e_move hf rfl) fun a hf => ?_
 refine pl_nil ?_
 refine then_n ?_
 rcases cond_some h with ⟨hc22, h⟩ | ⟨hc22, h⟩
 ·refine cond_t hf rfl hc22 ?_
  refine wp_seq ?_
  obtain ⟨w23, hw⟩ : ∃ x, x = w19.drew := ⟨_, rfl⟩
  refine region_pi (.q 0 (.q 1 (.q 2 (.nil)))) (Ext w23) rfl (by kernel_rfl) ?_
  have hM := hM.drew
  rw [← hw] at hM ⊢
  clear hw
  obtain ⟨p24, hv25, hc26⟩ := hM.err4
  refine pi_q hf rfl rfl rfl rfl (Ext.refl _) (e_load1 hf rfl Tryz.isAgg71 hc26) fun a hf => ?_
  iterate 2 refine pi_q hf rfl rfl rfl rfl (Ext.refl _) (e_assign hf rfl) fun a hf => ?_
  refine pi_nil ?_
  refine then_n ?_
  refine wp_ret ?_
  refine then_r ?_
  obtain rfl := some_inj h
  have hM := hM.nilRow strRep 9
  have hM := hM.outs (own' := [.row strRep none 0 9 ([] : (List Str)) true]) 1 rfl
  exact leave2 hf rfl rfl rfl ⟨none, 0, p24, rfl, hM.fin, hv25⟩
 refine cond_f hf rfl hc22 ?_
 refine wp_skip ?_
 refine then_n ?_
 refine wp_seq ?_
 refine region_pl ?_
 iterate 3 refine q_ hf rfl rfl rfl (e_move hf rfl) fun a hf => ?_
 refine pl_l hf rfl rfl rfl (w_slice hf hM (K := strRep) (xs := ([word4] : (List Str))) (os := [.tmp 22]) Tryz.underlying24 ei_9 rfl rfl rfl rfl rfl ⟨⟨[vS (word4)], rfl, ⟨rfl, hp5⟩⟩, trivial⟩ rfl fun b27 w28 hx29 hM a hf => ?_)
 have hM := hM.front (k := 0) rfl
 dsimp only [List.eraseIdx] at hM
 have hM := hM.front (k := 1) rfl
 dsimp only [List.eraseIdx] at hM
 have hM : Mem C _ ([.row strRep A2 c3 9 list1 true, .row strRep (some ⟨b27, 0, none⟩) 1 9 ([word4] : (List Str)) true] ++ []) _ := hM
 obtain ⟨y30, hz31, h⟩ := bind_some h
 refine pl_l hf rfl rfl rfl (w_call hf Tryz.call85 rfl (r_slices_Insert_string_string ⟨_, Sh C _ _, ownB _, hM.sh_lt, sub_dis, C.G, hM.g_lt, hM.g_own, hM.tabs⟩ list1 _ _ y16.1 hv18 ([word4] : (List Str)) _ _ hM.sub sub_dis _ hz31) ?_)
 rintro _ w34 ⟨A32, c33, rfl, hM2⟩
 obtain ⟨hM, hup36⟩ := hM.backG hM2
 dsimp only [List.cons_append, List.nil_append] at hM hup36
 clear hM2
 refine ⟨_, rfl, fun a hf => ?_⟩
 iterate 2 refine q_ hf rfl rfl rfl (e_assign hf rfl) fun a hf => ?_
 refine pl_nil ?_
 refine then_n ?_
 refine wp_ret ?_
 obtain rfl := some_inj h
 exact leave2 hf rfl rfl rfl ⟨A32, c33, .nilIface, rfl, hM.fin, ErrC.nil_⟩
theorem r_impl_codeOf (C : Cx) (err1 : Int) (p2 : Value) (hp3 : ErrC C.w0 p2 err1) (r : Int) (h : m_impl_codeOf err1 = some r) :
    Calls Tryz.prog 53 #[p2] C.w0 fun e w => e = .returned (vI (r)) ∧ Mem C w [] [] ∧ R64 r := by
 have hM := Mem.begin C [] trivial
 refine enter Tryz.func53 rfl Tryz.ntmps53 rfl fun a hf => ?_
 unfold m_impl_codeOf at h
 refine wp_seq ?_
 refine region_pl ?_
 refine q_ hf rfl rfl rfl (e_assign hf rfl) fun a hf => ?_
 refine pl_nil ?_
 refine then_n ?_
 refine wp_seq ?_
 refine wp_block ?_
 refine wp_seq ?_
 refine region_pl ?_
 refine q_ hf rfl rfl rfl (e_move hf rfl) fun a hf => ?_
 refine q_ hf rfl rfl rfl (e_eqErr hf rfl rfl Tryz.underlying71 (ErrC.ok C.gT hp3)) fun a hf => ?_
 refine q_ hf rfl rfl rfl (e_assign hf rfl) fun a hf => ?_
 refine pl_nil ?_
 refine then_n ?_
 rcases cond_some h with ⟨hc4, h⟩ | ⟨hc4, h⟩
 ·refine cond_t hf rfl hc4 ?_
  refine wp_seq ?_
  refine region_pl ?_
  refine q_ hf rfl rfl rfl (e_assign hf rfl) fun a hf => ?_
  refine pl_nil ?_
  refine then_n ?_
  refine wp_ret ?_
  refine blk_r ?_
  refine then_r ?_
  obtain rfl := some_inj h
  exact leave1 hf rfl rfl ⟨rfl, hM.fin, (R64_lit rfl)⟩
 refine cond_f hf rfl hc4 ?_
 refine wp_seq ?_
 refine region_pl ?_
 refine q_ hf rfl rfl rfl (e_move hf rfl) fun a hf => ?_
 obtain ⟨p5, hv6, hc7⟩ := hM.err7
 refine q_ hf rfl rfl rfl (e_load1 hf rfl Tryz.isAgg71 hc7) fun a hf => ?_
 obtain ⟨y8, hz9, h⟩ := bind_some h
 refine pl_l hf rfl rfl rfl (w_call hf Tryz.call86 rfl (r_errors_Is ⟨_, Sh C _ _, none_, hM.sh_lt, none_not, C.G, hM.g_lt, g_none, hM.tabs⟩ err1 _ (hM.errIn hp3) 7 _ (hM.errIn hv6) _ hz9) ?_)
 rintro _ w10 ⟨rfl, hM2⟩
 obtain ⟨hM, hx11, hup12⟩ := hM.back hM2
 dsimp only [List.cons_append, List.nil_append] at hM hup12
 clear hM2
 refine ⟨_, rfl, fun a hf => ?_⟩
 refine q_ hf rfl rfl rfl (e_assign hf rfl) fun a hf => ?_
 refine pl_nil ?_
 refine then_n ?_
 rcases cond_some h with ⟨hc13, h⟩ | ⟨hc13, h⟩
 ·refine cond_t hf rfl hc13 ?_
  refine wp_seq ?_
  refine region_pl ?_
  refine q_ hf rfl rfl rfl (e_assign hf rfl) fun a hf => ?_
  refine pl_nil ?_
  refine then_n ?_
  refine wp_ret ?_
  refine blk_r ?_
  refine then_r ?_
  obtain rfl := some_inj h
  exact leave1 hf rfl rfl ⟨rfl, hM.fin, (R64_lit rfl)⟩
 refine cond_f hf rfl hc13 ?_
 refine wp_seq ?_
 refine region_pl ?_
 refine q_ hf rfl rfl rfl (e_move hf rfl) fun a hf => ?_
 obtain ⟨p14, hv15, hc16⟩ := hM.err4
 refine q_ hf rfl rfl rfl (e_load1 hf rfl Tryz.isAgg71 hc16) fun a hf => ?_
 obtain ⟨y17, hz18, h⟩ := bind_some h
 refine pl_l hf rfl rfl rfl (w_call hf Tryz.call86 rfl (r_errors_Is ⟨_, Sh C _ _, none_, hM.sh_lt, none_not, C.G, hM.g_lt, g_none, hM.tabs⟩ err1 _ (hM.errIn hp3) 4 _ (hM.errIn hv15) _ hz18) ?_)
 rintro _ w19 ⟨rfl, hM2⟩
 obtain ⟨hM, hx20, hup21⟩ := hM.back hM2
 dsimp only [List.cons_append, List.nil_append] at hM hup21
 clear hM2
 refine ⟨_, rfl, fun a hf => ?_⟩
 refine q_ hf rfl rfl rfl (e_assign hf rfl) fun a hf => ?_
 refine pl_nil ?_
 refine then_n ?_
 rcases cond_some h with ⟨hc22, h⟩ | ⟨hc22, h⟩
 ·refine cond_t hf rfl hc22 ?_
  refine wp_seq ?_
  refine region_pl ?_
  refine q_ hf rfl rfl rfl (e_assign hf rfl) fun a hf => ?_
  refine pl_nil ?_
  refine then_n ?_
  refine wp_ret ?_
  refine blk_r ?_
  refine then_r ?_
  obtain rfl := some_inj h
  exact leave1 hf rfl rfl ⟨rfl, hM.fin, (R64_lit rfl)⟩
 refine cond_f hf rfl hc22 ?_
 refine wp_skip ?_
 refine blk_n ?_
 refine then_n ?_
 refine wp_seq ?_
 refine region_pl ?_
 refine q_ hf rfl rfl rfl (e_assign hf rfl) fun a hf => ?_
 refine pl_nil ?_
 refine then_n ?_
 refine wp_ret ?_
 obtain rfl := some_inj h
 exact leave1 hf rfl rfl ⟨rfl, hM.fin, (R64_lit rfl)⟩
theorem r_impl_maker_node (C : Cx) (m1 : maker) (b2 : Nat) (A3 : Option Addr) (c4 : Nat) (b5 : Nat) (hp6 : MapR m1.register) (n7 : Node) (hp8 : n7.Letters.length ≤ maxLen) (A9 : Option Addr) (c10 : Nat) (hp11 : (sliceRep intRep).R C.w0 C.S0 n7.Next [vL A9 n7.Next c10]) (hO : Mem C C.w0 [.box b2 [vL A3 (m1.nodes) c4, vM b5] 109, .row NodeRep A3 c4 47 m1.nodes true, .obj b5 (mapO fS fI m1.register)] []) (hd : ∀ b, C.S0 b → ¬ ownB [.box b2 [vL A3 (m1.nodes) c4, vM b5] 109, .row NodeRep A3 c4 47 m1.nodes true, .obj b5 (mapO fS fI m1.register)] b) (r : (Int × maker)) (h : m_impl_maker_node m1 n7 = some r) :
    Calls Tryz.prog 90 #[vP b2 (0), .agg #[.bool (n7.Final), vS (n7.Letters), vL A9 (n7.Next) c10]] C.w0 fun e w => ∃ (A_1 : Option Addr), ∃ (c_1 : Nat), ∃ (b_1 : Nat), e = .returned (vI (r.1)) ∧ Mem C w [.box b2 [vL A_1 (r.2.nodes) c_1, vM b_1] 109, .row NodeRep A_1 c_1 47 r.2.nodes true, .obj b_1 (mapO fS fI r.2.register)] [] ∧ MapR r.2.register ∧ R64 r.1 := by
 have hM := hO
 have hM := hM.addIn hd (y := .dat (sliceRep intRep) n7.Next [vL A9 n7.Next c10]) hp11
 refine enter Tryz.func90 rfl Tryz.ntmps90 rfl fun a hf => ?_
 unfold m_impl_maker_node at h
 refine wp_seq ?_
 refine region_pl ?_
 refine pl_l hf rfl rfl rfl (w_box hf hM (cs := [.bool (n7.Final), vS (n7.Letters), vL A9 (n7.Next) c10]) rfl rfl fun b12 w13 hx14 hM a hf => ?_)
 refine q_ hf rfl rfl rfl (e_assign hf rfl) fun a hf => ?_
 refine pl_nil ?_
 refine then_n ?_
 refine wp_seq ?_
 refine region_pl ?_
 refine q_ hf rfl rfl rfl (e_loadA hf (us := [.bool (n7.Final), vS (n7.Letters), vL A9 (n7.Next) c10]) rfl ⟨Tryz.isAgg47, Tryz.sizeOf47⟩ rfl (hM.boxSub (k := 0) (us := [.bool (n7.Final), vS (n7.Letters), vL A9 (n7.Next) c10]) (o := 0) rfl rfl)) fun a hf => ?_
 obtain ⟨y16, hz17, h⟩ := bind_some h
 refine pl_l hf rfl rfl rfl (w_call hf Tryz.call43 rfl (r_impl_keyOf ⟨_, Sh C _ _, none_, hM.sh_lt, none_not, C.G, hM.g_lt, g_none, hM.tabs⟩ n7 hp8 _ _ (hM.dat (k := 0) rfl) _ hz17) ?_)
 rintro _ w19 ⟨rfl, hM2, hv18⟩
 obtain ⟨hM, hx20, hup21⟩ := hM.back hM2
 dsimp only [List.cons_append, List.nil_append] at hM hup21
 clear hM2
 refine ⟨_, rfl, fun a hf => ?_⟩
 refine q_ hf rfl rfl rfl (e_assign hf rfl) fun a hf => ?_
 refine pl_nil ?_
 refine then_n ?_
 refine wp_seq ?_
 refine region_pl ?_
 refine q_ hf rfl rfl rfl (e_move hf rfl) fun a hf => ?_
 refine q_ hf rfl rfl rfl (e_nil hf rfl) fun a hf => ?_
 refine q_ hf rfl rfl rfl (e_field hf rfl Tryz.underlying109 rfl Tryz.sizeOf107 (o' := 1) rfl) fun a hf => ?_
 refine q_ hf rfl rfl rfl (e_load1 hf rfl Tryz.isAgg107 (hM.boxCell (k := 1) rfl rfl)) fun a hf => ?_
 refine q_ hf rfl rfl rfl (e_move hf rfl) fun a hf => ?_
 refine q_ hf rfl rfl rfl (e_lookupOk (fk := fS) (fv := fI) hf (keyS Tryz.underlying9) Tryz.underlying107 (k := y16) (z := 0) rfl rfl Tryz.zeroValue2 (hM.ownAt (k := 3) rfl)) fun a hf => ?_
 refine q_ hf rfl rfl rfl (e_move hf rfl) fun a hf => ?_
 iterate 2 refine q_ hf rfl rfl rfl (e_extract hf rfl rfl) fun a hf => ?_
 iterate 2 refine q_ hf rfl rfl rfl (e_assign hf rfl) fun a hf => ?_
 refine pl_nil ?_
 refine then_n ?_
 obtain ⟨x30, h31, h⟩ := bind_some h
 refine seq_join (fun a w => ∃ (mp22 : (List (Str × Int))) (xs25 : (List Node)) (n28 : Int) (b23 : Nat) (A26 : Option Addr) (c27 : Nat), (mp22, xs25, n28) = x30 ∧ Has 43 a [(6, vI (n28))] ∧ Mem C w [.box b12 [.bool (n7.Final), vS (n7.Letters), vL A9 (n7.Next) c10] 47, .box b2 [vL A26 (xs25) c27, vM b23] 109, .row NodeRep A26 c27 47 xs25 true, .obj b23 (mapO fS fI mp22)] [.dat (sliceRep intRep) n7.Next [vL A9 n7.Next c10]] ∧ MapR mp22 ∧ R64 n28) ?_ ?_
 ·refine wp_seq ?_
  refine region_pl ?_
  refine q_ hf rfl rfl rfl (e_move hf rfl) fun a hf => ?_
  refine q_ hf rfl rfl rfl (e_not hf rfl) fun a hf => ?_
  refine pl_nil ?_
  refine then_n ?_
  rcases cond_some h31 with ⟨hc32, h31⟩ | ⟨hc32, h31⟩
  ·refine cond_t hf rfl hc32 ?_
   refine wp_seq ?_
   refine region_pl ?_
   refine q_ hf rfl rfl rfl (e_move hf rfl) fun a hf => ?_
   refine q_ hf rfl rfl rfl (e_nil hf rfl) fun a hf => ?_
   refine q_ hf rfl rfl rfl (e_field hf rfl Tryz.underlying109 rfl Tryz.sizeOf29 (o' := 0) rfl) fun a hf => ?_
   refine q_ hf rfl rfl rfl (e_load1 hf rfl Tryz.isAgg29 (hM.boxCell (k := 1) rfl rfl)) fun a hf => ?_
   have hl33 := row_len (hM.ownAt (k := 2) rfl)
   refine q_ hf rfl rfl rfl (e_lenL hf (x := m1.nodes) rfl Tryz.underlying29) fun a hf => ?_
   refine q_ hf rfl rfl rfl (e_assign hf rfl) fun a hf => ?_
   refine pl_nil ?_
   refine then_n ?_
   refine wp_seq ?_
   obtain ⟨w34, hw⟩ : ∃ x, x = w19.drew := ⟨_, rfl⟩
   refine region_pi (.q 0 (.q 1 (.q 2 (.q 3 (.q 4 (.q 5 (.l 6 (.l 7 (.q 8 (.q 9 (.l 10 (.nil)))))))))))) (ExtM [A3.map (·.block)] w34) rfl (by kernel_rfl) ?_
   have hM := hM.drew
   rw [← hw] at hM ⊢
   clear hw
   iterate 2 refine pi_q hf rfl rfl rfl rfl (ExtM.refl _ _) (e_move hf rfl) fun a hf => ?_
   refine pi_q hf rfl rfl rfl rfl (ExtM.refl _ _) (e_nil hf rfl) fun a hf => ?_
   refine pi_q hf rfl rfl rfl rfl (ExtM.refl _ _) (e_field hf rfl Tryz.underlying109 rfl Tryz.sizeOf29 (o' := 0) rfl) fun a hf => ?_
   refine pi_q hf rfl rfl rfl rfl (ExtM.refl _ _) (e_load1M hf rfl Tryz.isAgg29 (hM.boxCell (k := 1) rfl rfl) (hM.apart (js := [2]) rfl (k := 1) rfl rfl rfl)) fun a hf => ?_
   refine pi_q hf rfl rfl rfl rfl (ExtM.refl _ _) (e_loadAM hf (us := [.bool (n7.Final), vS (n7.Letters), vL A9 (n7.Next) c10]) rfl ⟨Tryz.isAgg47, Tryz.sizeOf47⟩ rfl (hM.boxSub (k := 0) (us := [.bool (n7.Final), vS (n7.Letters), vL A9 (n7.Next) c10]) (o := 0) rfl rfl) (hM.apart (js := [2]) rfl (k := 0) rfl rfl rfl)) fun a hf => ?_
   refine pi_one ?_
   refine pi_l hf rfl rfl rfl rfl (w_slice hf hM (K := NodeRep) (xs := ([n7] : (List Node))) (os := [.tmp 31]) Tryz.underlying29 ei_47 rfl rfl rfl rfl rfl ⟨⟨[.bool (n7.Final), vS (n7.Letters), vL A9 (n7.Next) c10], rfl, (NodeRep_mk (x := n7) hp8 (hM.dat (k := 0) rfl))⟩, trivial⟩ rfl fun b35 w36 hx37 hM => ⟨ExtM [A3.map (·.block)] w36, fun _ h => ExtM.trans hx37 h, ExtM.refl _ _, fun a hf => ?_⟩)
   refine pi_one ?_
   obtain ⟨xs38, hz39, h31⟩ := bind_some h31
   refine pi_l hf rfl rfl rfl rfl (w_appendX hf hM Tryz.underlying29 ei_47 rfl rfl rfl (k := 3) rfl (hM.srcRow (k := 0) rfl) hz39 fun A40 c41 w42 hsz44 hold43 hM => ⟨Ext w42, fun _ h => ExtM.last (ExtM.ofRow (List.mem_of_getElem? (i := 0) rfl) hold43) hsz44 h, Ext.refl _, fun a hf => ?_⟩)
   dsimp only [List.set] at hM
   refine pi_q hf rfl rfl rfl rfl (Ext.refl _) (e_nil hf rfl) fun a hf => ?_
   refine pi_q hf rfl rfl rfl rfl (Ext.refl _) (e_field hf rfl Tryz.underlying109 rfl Tryz.sizeOf29 (o' := 0) rfl) fun a hf => ?_
   refine pi_one ?_
   refine pi_z0 hf rfl rfl rfl (by kernel_rfl) (w_store hf hM (us := [vL A40 (xs38) c41]) (cs' := [vL A40 (xs38) c41, vM b5]) rfl rfl (k := 2) rfl rfl Tryz.sizeOf29 rfl rfl rfl fun w45 hM => ?_)
   dsimp only [List.set] at hM
   refine pi_nil ?_
   refine then_n ?_
   refine region_pl ?_
   refine q_ hf rfl rfl rfl (e_move hf rfl) fun a hf => ?_
   refine q_ hf rfl rfl rfl (e_nil hf rfl) fun a hf => ?_
   refine q_ hf rfl rfl rfl (e_field hf rfl Tryz.underlying109 rfl Tryz.sizeOf107 (o' := 1) rfl) fun a hf => ?_
   refine q_ hf rfl rfl rfl (e_load1 hf rfl Tryz.isAgg107 (hM.boxCell (k := 2) rfl rfl)) fun a hf => ?_
   iterate 2 refine q_ hf rfl rfl rfl (e_move hf rfl) fun a hf => ?_
   refine pl_0 hf rfl rfl (w_mapUpdate (fk := fS) (fv := fI) hf hM (keyS Tryz.underlying9) Tryz.underlying107 (k := y16) (v := (m1.nodes.length : Int)) rfl rfl rfl (n := 4) rfl fun w48 hM => ?_)
   dsimp only [List.set] at hM
   refine pl_nil ?_
   obtain rfl := some_inj h31
   refine then_n ?_
   exact ⟨(putM m1.register y16 (m1.nodes.length : Int)), xs38, (m1.nodes.length : Int), b5, A40, c41, rfl, hf.keep ⟨rfl, trivial⟩, (hM.drop (.cons _ (.cons_cons _ (.cons_cons _ (.cons_cons _ (.cons_cons _ .slnil)))))).pick [0] rfl, (hp6.put (R64_len hl33)), (R64_len hl33)⟩
  refine cond_f hf rfl hc32 ?_
  refine wp_skip ?_
  obtain rfl := some_inj h31
  refine then_n ?_
  exact ⟨m1.register, m1.nodes, ((getM m1.register y16).getD 0), b5, A3, c4, rfl, hf.keep ⟨rfl, trivial⟩, hM.pick [0] rfl, hp6, (hp6.get _)⟩
 rintro a w51 ⟨mp22, xs25, n28, b23, A26, c27, rfl, hf, hM, hv24, hv29⟩
 try dsimp only at h
 refine wp_seq ?_
 refine region_pl ?_
 refine q_ hf rfl rfl rfl (e_move hf rfl) fun a hf => ?_
 refine q_ hf rfl rfl rfl (e_assign hf rfl) fun a hf => ?_
 refine pl_nil ?_
 refine then_n ?_
 refine wp_ret ?_
 obtain rfl := some_inj h
 have hM := hM.front (k := 3) rfl
 dsimp only [List.eraseIdx] at hM
 have hM := hM.front (k := 3) rfl
 dsimp only [List.eraseIdx] at hM
 have hM := hM.front (k := 3) rfl
 dsimp only [List.eraseIdx] at hM
 have hM := hM.outs (own' := [.box b2 [vL A26 (xs25) c27, vM b23] 109, .row NodeRep A26 c27 47 xs25 true, .obj b23 (mapO fS fI mp22)]) 3 rfl
 exact leave1 hf rfl rfl ⟨A26, c27, b23, rfl, hM.fin, hv24, hv29⟩
def Ct_impl_maker_build (rc : maker → (List Str) → Int → Option (Int × maker)) : Prop := ∀ (C : Cx) (m1 : maker) (b2 : Nat) (A3 : Option Addr) (c4 : Nat) (b5 : Nat) (hp6 : MapR m1.register) (list7 : (List Str)) (A8 : Option Addr) (c9 : Nat) (hp10 : (sliceRep strRep).R C.w0 C.S0 list7 [vL A8 list7 c9]) (depth11 : Int) (hp12 : R64 depth11) (hO : Mem C C.w0 [.box b2 [vL A3 (m1.nodes) c4, vM b5] 109, .row NodeRep A3 c4 47 m1.nodes true, .obj b5 (mapO fS fI m1.register)] []) (hd : ∀ b, C.S0 b → ¬ ownB [.box b2 [vL A3 (m1.nodes) c4, vM b5] 109, .row NodeRep A3 c4 47 m1.nodes true, .obj b5 (mapO fS fI m1.register)] b) (r : (Int × maker)) (h : rc m1 list7 depth11 = some r),
    Calls Tryz.prog 60 #[vP b2 (0), vL A8 (list7) c9, vI (depth11)] C.w0 fun e w => ∃ (A_1 : Option Addr), ∃ (c_1 : Nat), ∃ (b_1 : Nat), e = .returned (vI (r.1)) ∧ Mem C w [.box b2 [vL A_1 (r.2.nodes) c_1, vM b_1] 109, .row NodeRep A_1 c_1 47 r.2.nodes true, .obj b_1 (mapO fS fI r.2.register)] [] ∧ MapR r.2.register ∧ R64 r.1
theorem r_impl_maker_build_b (rc : maker → (List Str) → Int → Option (Int × maker)) (ih : Ct_impl_maker_build rc) : Ct_impl_maker_build (m_impl_maker_build_b rc) := by
 intro C m1 b2 A3 c4 b5 hp6 list7 A8 c9 hp10 depth11 hp12 hO hd r h
 have hM := hO
 have hM := hM.addIn hd (y := .dat (sliceRep strRep) list7 [vL A8 list7 c9]) hp10
 refine enter Tryz.func60 rfl Tryz.ntmps60 rfl fun a hf => ?_
 unfold m_impl_maker_build_b at h
 refine wp_seq ?_
 refine region_pl ?_
 refine q_ hf rfl rfl rfl (e_assign hf rfl) fun a hf => ?_
 refine pl_nil ?_
 refine then_n ?_
 refine wp_seq ?_
 refine region_pl ?_
 refine q_ hf rfl rfl rfl (e_build hf Tryz.zeroValue47 Tryz.underlying47 (bp_47 _ Tryz.underlying47.symm) rfl (cs := #[.bool (false), vS (([] : Str)), vL none (([] : (List Int))) 0]) (by kernel_rfl)) fun a hf => ?_
 refine pl_l hf rfl rfl rfl (w_alloc hM (cs := [.bool (false), vS (([] : Str)), vL none (([] : (List Int))) 0]) Tryz.zeroValue47 rfl fun b13 w14 hx15 hM a hf => ?_)
 refine pl_0 hf rfl rfl (w_store hf hM (us := [.bool (false), vS (([] : Str)), vL none (([] : (List Int))) 0]) (cs' := [.bool (false), vS (([] : Str)), vL none (([] : (List Int))) 0]) rfl rfl (k := 0) rfl rfl Tryz.sizeOf47 rfl rfl rfl fun w17 hM => ?_)
 dsimp only [List.set] at hM
 refine pl_nil ?_
 refine then_n ?_
 obtain ⟨x25, h26, h⟩ := bind_some h
 refine seq_join (fun a w => ∃ (t20 : Bool) (l22 : (List Str)) (A23 : Option Addr) (c24 : Nat), (t20, l22) = x25 ∧ Has 74 a [(0, vP b2 (0)), (1, vL A23 (l22) c24), (2, vI (depth11)), (7, vP b13 (0))] ∧ Mem C w [.box b13 [.bool (t20), vS (([] : Str)), vL none (([] : (List Int))) 0] 47, .box b2 [vL A3 (m1.nodes) c4, vM b5] 109, .row NodeRep A3 c4 47 m1.nodes true, .obj b5 (mapO fS fI m1.register)] [.dat (sliceRep strRep) l22 [vL A23 l22 c24], .dat (sliceRep strRep) list7 [vL A8 list7 c9]]) ?_ ?_
 ·obtain ⟨x29, h30, h26⟩ := bind_some h26
  refine seq_join (fun a w => ∃ (t27 : Bool), t27 = x29 ∧ Has 74 a [(0, vP b2 (0)), (1, vL A8 (list7) c9), (2, vI (depth11)), (7, vP b13 (0)), (21, .bool (t27))] ∧ Mem C w [.box b13 [.bool (false), vS (([] : Str)), vL none (([] : (List Int))) 0] 47, .box b2 [vL A3 (m1.nodes) c4, vM b5] 109, .row NodeRep A3 c4 47 m1.nodes true, .obj b5 (mapO fS fI m1.register)] [.dat (sliceRep strRep) list7 [vL A8 list7 c9]]) ?_ ?_
  ·refine region_pl ?_
   refine q_ hf rfl rfl rfl (e_move hf rfl) fun a hf => ?_
   have hl31 := slice_len (hM.dat (k := 0) rfl)
   refine q_ hf rfl rfl rfl (e_lenL hf (x := list7) rfl Tryz.underlying24) fun a hf => ?_
   refine q_ hf rfl rfl rfl (e_gt hf (x := (list7.length : Int)) (y := 0) rfl rfl) fun a hf => ?_
   refine q_ hf rfl rfl rfl (e_move hf rfl) fun a hf => ?_
   rcases cond_some h30 with ⟨hc32, h30⟩ | ⟨hc32, h30⟩
   ·refine gq (wanted_t hf rfl rfl rfl rfl hc32) hf rfl rfl (e_move hf rfl) fun a hf => ?_
    obtain ⟨e33, hz34, h30⟩ := bind_some h30
    obtain ⟨b38, o39, _, hA40, h35, h36, hr37, hM⟩ := hM.elem (hM.dat (k := 0) rfl) (n := 1) rfl hz34
    obtain ⟨rfl, hv41⟩ := hr37
    refine gq (wanted_t hf rfl rfl rfl rfl hc32) hf rfl rfl (e_indexAddr (A := A8) (b := b38) (o := o39) (xs := list7) (i := 0) hf hA40 rfl rfl Tryz.underlying24 Tryz.sizeOf9 h35 h36) fun a hf => ?_
    refine gq (wanted_t hf rfl rfl rfl rfl hc32) hf rfl rfl (e_load1 hf rfl Tryz.isAgg9 (hM.litCell (k := 0) (j := 0) rfl rfl rfl)) fun a hf => ?_
    refine gq (wanted_t hf rfl rfl rfl rfl hc32) hf rfl rfl (e_lenS hf (x := e33) rfl Tryz.underlying9) fun a hf => ?_
    refine gq (wanted_t hf rfl rfl rfl rfl hc32) hf rfl rfl (e_move hf rfl) fun a hf => ?_
    refine gq (wanted_t hf rfl rfl rfl rfl hc32) hf rfl rfl (e_eq hf (x := (e33.length : Int)) (y := depth11) rfl rfl) fun a hf => ?_
    refine q_ hf rfl rfl rfl (e_pick_t hf rfl hc32 rfl) fun a hf => ?_
    refine pl_nil ?_
    obtain rfl := some_inj h30
    refine then_n ?_
    exact ⟨((e33.length : Int) == depth11), rfl, hf.keep ⟨rfl, rfl, rfl, rfl, rfl, trivial⟩, hM.pick [1] rfl⟩
   iterate 6 refine pl_gs (wanted_f hf rfl rfl rfl rfl hc32) hf rfl rfl fun a hf => ?_
   refine q_ hf rfl rfl rfl (e_pick_f hf rfl hc32 rfl) fun a hf => ?_
   refine pl_nil ?_
   obtain rfl := some_inj h30
   refine then_n ?_
   exact ⟨false, rfl, hf.keep ⟨rfl, rfl, rfl, rfl, rfl, trivial⟩, hM.pick [0] rfl⟩
  rintro a w44 ⟨t27, rfl, hf, hM⟩
  try dsimp only at h26
  rcases cond_some h26 with ⟨hc45, h26⟩ | ⟨hc45, h26⟩
  ·refine cond_t hf rfl hc45 ?_
   refine wp_seq ?_
   refine region_pl ?_
   refine q_ hf rfl rfl rfl (e_field hf rfl Tryz.underlying47 rfl Tryz.sizeOf4 (o' := 0) rfl) fun a hf => ?_
   refine pl_0 hf rfl rfl (w_store hf hM (us := [.bool (true)]) (cs' := [.bool (true), vS (([] : Str)), vL none (([] : (List Int))) 0]) rfl rfl (k := 0) rfl rfl Tryz.sizeOf4 rfl rfl rfl fun w46 hM => ?_)
   dsimp only [List.set] at hM
   refine pl_nil ?_
   refine then_n ?_
   refine region_pl ?_
   refine q_ hf rfl rfl rfl (e_move hf rfl) fun a hf => ?_
   obtain ⟨l49, hz50, h26⟩ := bind_some h26
   obtain ⟨A51, hd52, hA53⟩ := sub_rep (hM.dat (k := 0) rfl) hz50
   have hM := hM.add (y := .dat (sliceRep strRep) l49 [vL A51 l49 (c9 - (1 : Int).toNat)]) hd52
   refine q_ hf rfl rfl rfl (e_subLl hf (xs := list7) rfl rfl Tryz.underlying24 Tryz.sizeOf9 (slice_cap (hM.dat (k := 1) rfl)) hz50 hA53) fun a hf => ?_
   refine q_ hf rfl rfl rfl (e_assign hf rfl) fun a hf => ?_
   refine pl_nil ?_
   obtain rfl := some_inj h26
   refine then_n ?_
   exact ⟨true, l49, A51, (c9 - (1 : Int).toNat), rfl, hf.keep ⟨rfl, rfl, rfl, rfl, trivial⟩, hM.pick [0, 1] rfl⟩
  refine cond_f hf rfl hc45 ?_
  refine wp_skip ?_
  obtain rfl := some_inj h26
  refine then_n ?_
  exact ⟨false, list7, A8, c9, rfl, hf.keep ⟨rfl, rfl, rfl, rfl, trivial⟩, hM.pick [0, 0] rfl⟩
 rintro a w56 ⟨t20, l22, A23, c24, rfl, hf, hM⟩
 try dsimp only at h
 obtain ⟨x68, h69, h⟩ := bind_some h
 refine seq_join (fun a w => ∃ (s57 : Str) (xs59 : (List Int)) (mp62 : (List (Str × Int))) (xs65 : (List Node)) (A60 : Option Addr) (c61 : Nat) (b63 : Nat) (A66 : Option Addr) (c67 : Nat), (s57, xs59, mp62, xs65) = x68 ∧ Has 74 a [(0, vP b2 (0)), (7, vP b13 (0))] ∧ Mem C w [.row intRep A60 c61 2 xs59 true, .box b13 [.bool (t20), vS (s57), vL A60 (xs59) c61] 47, .box b2 [vL A66 (xs65) c67, vM b63] 109, .row NodeRep A66 c67 47 xs65 true, .obj b63 (mapO fS fI mp62)] [.dat (sliceRep strRep) l22 [vL A23 l22 c24], .dat (sliceRep strRep) list7 [vL A8 list7 c9]] ∧ s57.length ≤ maxLen ∧ MapR mp62) ?_ ?_
 ·refine wp_block ?_
  have hM := hM.nilRow intRep 2
  obtain ⟨x96, h97, h69⟩ := bind_some h69
  refine wp_loopM h97 (fun s a w => ∃ (s70 : Str) (mp72 : (List (Str × Int))) (xs75 : (List Node)) (xs78 : (List Int)) (l81 : (List Str)) (b73 : Nat) (A76 : Option Addr) (c77 : Nat) (A79 : Option Addr) (c80 : Nat) (A82 : Option Addr) (c83 : Nat), (s70, mp72, xs75, xs78, l81) = s ∧ Has 74 a [(0, vP b2 (0)), (1, vL A82 (l81) c83), (2, vI (depth11)), (7, vP b13 (0))] ∧ Mem C w [.row intRep A79 c80 2 xs78 true, .box b13 [.bool (t20), vS (s70), vL A79 (xs78) c80] 47, .box b2 [vL A76 (xs75) c77, vM b73] 109, .row NodeRep A76 c77 47 xs75 true, .obj b73 (mapO fS fI mp72)] [.dat (sliceRep strRep) l81 [vL A82 l81 c83], .dat (sliceRep strRep) l22 [vL A23 l22 c24], .dat (sliceRep strRep) list7 [vL A8 list7 c9]] ∧ s70.length ≤ maxLen ∧ MapR mp72) ?_ ?_
  ·exact ⟨([] : Str), m1.register, m1.nodes, ([] : (List Int)), l22, b5, A3, c4, none, 0, A23, c24, rfl, hf.keep ⟨rfl, rfl, rfl, rfl, trivial⟩, hM.pick [0, 0, 1] rfl, (lit_len rfl), hp6⟩
  rintro s o98 a w84 ⟨s70, mp72, xs75, xs78, l81, b73, A76, c77, A79, c80, A82, c83, rfl, hf, hM, hv71, hv74⟩ h99 hd100
  replace h99 : m_impl_maker_build_l1 depth11 rc s70 mp72 xs75 xs78 l81 = some o98 := h99
  unfold m_impl_maker_build_l1 at h99
  iterate 2 refine wp_seq ?_
  refine region_pl ?_
  refine q_ hf rfl rfl rfl (e_move hf rfl) fun a hf => ?_
  have hl101 := slice_len (hM.dat (k := 0) rfl)
  refine q_ hf rfl rfl rfl (e_lenL hf (x := l81) rfl Tryz.underlying24) fun a hf => ?_
  refine q_ hf rfl rfl rfl (e_gt hf (x := (l81.length : Int)) (y := 0) rfl rfl) fun a hf => ?_
  refine pl_nil ?_
  refine then_n ?_
  rcases cond_some h99 with ⟨hc102, h99⟩ | ⟨hc102, h99⟩
  ·refine cond_t hf rfl hc102 ?_
   refine wp_skip ?_
   refine then_n ?_
   refine wp_block ?_
   refine wp_seq ?_
   refine region_pl ?_
   refine q_ hf rfl rfl rfl (e_move hf rfl) fun a hf => ?_
   obtain ⟨e103, hz104, h99⟩ := bind_some h99
   obtain ⟨b108, o109, _, hA110, h105, h106, hr107, hM⟩ := hM.elem (hM.dat (k := 0) rfl) (n := 1) rfl hz104
   obtain ⟨rfl, hv111⟩ := hr107
   refine q_ hf rfl rfl rfl (e_indexAddr (A := A82) (b := b108) (o := o109) (xs := l81) (i := 0) hf hA110 rfl rfl Tryz.underlying24 Tryz.sizeOf9 h105 h106) fun a hf => ?_
   refine q_ hf rfl rfl rfl (e_load1 hf rfl Tryz.isAgg9 (hM.litCell (k := 0) (j := 0) rfl rfl rfl)) fun a hf => ?_
   refine q_ hf rfl rfl rfl (e_move hf rfl) fun a hf => ?_
   obtain ⟨c112, hz113, h99⟩ := bind_some h99
   refine q_ hf rfl rfl rfl (e_indexS hf (x := e103) rfl rfl Tryz.underlying9 hz113) fun a hf => ?_
   iterate 2 refine q_ hf rfl rfl rfl (e_assign hf rfl) fun a hf => ?_
   refine pl_nil ?_
   refine then_n ?_
   obtain ⟨x116, h117, h99⟩ := bind_some h99
   refine seq_join (fun a w => ∃ (n114 : Int), n114 = x116 ∧ Has 74 a [(0, vP b2 (0)), (1, vL A82 (l81) c83), (2, vI (depth11)), (7, vP b13 (0)), (8, vB (c112)), (9, vI (n114))] ∧ Mem C w [.row intRep A79 c80 2 xs78 true, .box b13 [.bool (t20), vS (s70), vL A79 (xs78) c80] 47, .box b2 [vL A76 (xs75) c77, vM b73] 109, .row NodeRep A76 c77 47 xs75 true, .obj b73 (mapO fS fI mp72)] [.lit b108 (o109 + (0 : Int).toNat * 1) [vS (e103)], .dat (sliceRep strRep) l81 [vL A82 l81 c83], .dat (sliceRep strRep) l22 [vL A23 l22 c24], .dat (sliceRep strRep) list7 [vL A8 list7 c9]] ∧ R64 n114) ?_ ?_
   ·refine wp_block ?_
    obtain ⟨x123, h124, h117⟩ := bind_some h117
    refine wp_loopM h124 (fun s a w => ∃ (n118 : Int), n118 = s ∧ Has 74 a [(0, vP b2 (0)), (1, vL A82 (l81) c83), (2, vI (depth11)), (7, vP b13 (0)), (8, vB (c112)), (9, vI (n118))] ∧ Mem C w [.row intRep A79 c80 2 xs78 true, .box b13 [.bool (t20), vS (s70), vL A79 (xs78) c80] 47, .box b2 [vL A76 (xs75) c77, vM b73] 109, .row NodeRep A76 c77 47 xs75 true, .obj b73 (mapO fS fI mp72)] [.lit b108 (o109 + (0 : Int).toNat * 1) [vS (e103)], .dat (sliceRep strRep) l81 [vL A82 l81 c83], .dat (sliceRep strRep) l22 [vL A23 l22 c24], .dat (sliceRep strRep) list7 [vL A8 list7 c9]] ∧ R64 n118) ?_ ?_
    ·exact ⟨1, rfl, hf.keep ⟨rfl, rfl, rfl, rfl, rfl, rfl, trivial⟩, hM.pick [0, 1, 2, 3] rfl, (R64_lit rfl)⟩
    rintro s o125 a w120 ⟨n118, rfl, hf, hM, hv119⟩ h126 hd127
    replace h126 : m_impl_maker_build_l2 l81 depth11 c112 n118 = some o125 := h126
    unfold m_impl_maker_build_l2 at h126
    refine wp_seq ?_
    obtain ⟨x130, h131, h126⟩ := bind_some h126
    refine seq_join (fun a w => ∃ (t128 : Bool), t128 = x130 ∧ Has 74 a [(0, vP b2 (0)), (1, vL A82 (l81) c83), (2, vI (depth11)), (7, vP b13 (0)), (8, vB (c112)), (9, vI (n118)), (46, .bool (t128))] ∧ Mem C w [.row intRep A79 c80 2 xs78 true, .box b13 [.bool (t20), vS (s70), vL A79 (xs78) c80] 47, .box b2 [vL A76 (xs75) c77, vM b73] 109, .row NodeRep A76 c77 47 xs75 true, .obj b73 (mapO fS fI mp72)] [.lit b108 (o109 + (0 : Int).toNat * 1) [vS (e103)], .dat (sliceRep strRep) l81 [vL A82 l81 c83], .dat (sliceRep strRep) l22 [vL A23 l22 c24], .dat (sliceRep strRep) list7 [vL A8 list7 c9]]) ?_ ?_
    ·refine region_pl ?_
     iterate 2 refine q_ hf rfl rfl rfl (e_move hf rfl) fun a hf => ?_
     have hl132 := slice_len (hM.dat (k := 1) rfl)
     refine q_ hf rfl rfl rfl (e_lenL hf (x := l81) rfl Tryz.underlying24) fun a hf => ?_
     refine q_ hf rfl rfl rfl (e_lt hf (x := n118) (y := (l81.length : Int)) rfl rfl) fun a hf => ?_
     refine q_ hf rfl rfl rfl (e_move hf rfl) fun a hf => ?_
     rcases cond_some h131 with ⟨hc133, h131⟩ | ⟨hc133, h131⟩
     ·iterate 2 refine gq (wanted_t hf rfl rfl rfl rfl hc133) hf rfl rfl (e_move hf rfl) fun a hf => ?_
      obtain ⟨e134, hz135, h131⟩ := bind_some h131
      obtain ⟨b139, o140, _, hA141, h136, h137, hr138, hM⟩ := hM.elem (hM.dat (k := 1) rfl) (n := 1) rfl hz135
      obtain ⟨rfl, hv142⟩ := hr138
      refine gq (wanted_t hf rfl rfl rfl rfl hc133) hf rfl rfl (e_indexAddr (A := A82) (b := b139) (o := o140) (xs := l81) (i := n118) hf hA141 rfl rfl Tryz.underlying24 Tryz.sizeOf9 h136 h137) fun a hf => ?_
      refine gq (wanted_t hf rfl rfl rfl rfl hc133) hf rfl rfl (e_load1 hf rfl Tryz.isAgg9 (hM.litCell (k := 0) (j := 0) rfl rfl rfl)) fun a hf => ?_
      refine gq (wanted_t hf rfl rfl rfl rfl hc133) hf rfl rfl (e_move hf rfl) fun a hf => ?_
      obtain ⟨c143, hz144, h131⟩ := bind_some h131
      refine gq (wanted_t hf rfl rfl rfl rfl hc133) hf rfl rfl (e_indexS hf (x := e134) rfl rfl Tryz.underlying9 hz144) fun a hf => ?_
      refine gq (wanted_t hf rfl rfl rfl rfl hc133) hf rfl rfl (e_move hf rfl) fun a hf => ?_
      refine gq (wanted_t hf rfl rfl rfl rfl hc133) hf rfl rfl (e_eqB hf (x := c143) (y := c112) rfl rfl) fun a hf => ?_
      refine q_ hf rfl rfl rfl (e_pick_t hf rfl hc133 rfl) fun a hf => ?_
      refine pl_nil ?_
      obtain rfl := some_inj h131
      refine then_n ?_
      exact ⟨(c143 == c112), rfl, hf.keep ⟨rfl, rfl, rfl, rfl, rfl, rfl, rfl, trivial⟩, hM.pick [1, 2, 3, 4] rfl⟩
     iterate 8 refine pl_gs (wanted_f hf rfl rfl rfl rfl hc133) hf rfl rfl fun a hf => ?_
     refine q_ hf rfl rfl rfl (e_pick_f hf rfl hc133 rfl) fun a hf => ?_
     refine pl_nil ?_
     obtain rfl := some_inj h131
     refine then_n ?_
     exact ⟨false, rfl, hf.keep ⟨rfl, rfl, rfl, rfl, rfl, rfl, rfl, trivial⟩, hM.pick [0, 1, 2, 3] rfl⟩
    rintro a w147 ⟨t128, rfl, hf, hM⟩
    try dsimp only at h126
    rcases cond_some h126 with ⟨hc148, h126⟩ | ⟨hc148, h126⟩
    ·refine cond_t hf rfl hc148 ?_
     refine wp_skip ?_
     refine then_n ?_
     refine wp_block ?_
     refine region_pl ?_
     refine q_ hf rfl rfl rfl (e_move hf rfl) fun a hf => ?_
     obtain ⟨z149, hz150, h126⟩ := bind_some h126
     refine q_ hf rfl rfl rfl (e_add hf rfl rfl hz150) fun a hf => ?_
     refine q_ hf rfl rfl rfl (e_assign hf rfl) fun a hf => ?_
     refine pl_nil ?_
     refine blk_n ?_
     obtain rfl := some_inj h126
     refine then_n ⟨_, rfl, ?_⟩
     exact ⟨z149, rfl, hf.keep ⟨rfl, rfl, rfl, rfl, rfl, rfl, trivial⟩, hM.pick [0, 1, 2, 3] rfl, (chk_R hz150)⟩
    refine cond_f hf rfl hc148 ?_
    refine wp_exit ?_
    refine then_x ?_
    obtain rfl := some_inj h126
    obtain rfl := hd127 _ rfl
    try dsimp only at h117
    refine then_x ?_
    refine exit_hit ?_
    obtain rfl := some_inj h117
    refine then_n ?_
    exact ⟨n118, rfl, hf.keep ⟨rfl, rfl, rfl, rfl, rfl, rfl, trivial⟩, hM.pick [0, 1, 2, 3] rfl, hv119⟩
   rintro a w156 ⟨n114, rfl, hf, hM, hv115⟩
   try dsimp only at h99
   refine wp_seq ?_
   refine region_pl ?_
   refine q_ hf rfl rfl rfl (e_field hf rfl Tryz.underlying47 rfl Tryz.sizeOf9 (o' := 1) rfl) fun a hf => ?_
   refine q_ hf rfl rfl rfl (e_load1 hf rfl Tryz.isAgg9 (hM.boxCell (k := 1) rfl rfl)) fun a hf => ?_
   refine q_ hf rfl rfl rfl (e_move hf rfl) fun a hf => ?_
   refine q_ hf rfl rfl rfl (e_convBR hf (x := c112) rfl Tryz.underlying5 Tryz.underlying21) fun a hf => ?_
   obtain ⟨s157, hz158, h99⟩ := bind_some h99
   refine q_ hf rfl rfl rfl (e_convRS hf rfl Tryz.underlying21 Tryz.underlying9 hz158) fun a hf => ?_
   obtain ⟨s159, hz160, h99⟩ := bind_some h99
   refine q_ hf rfl rfl rfl (e_cat hf (x := s70) (y := s157) rfl rfl hz160) fun a hf => ?_
   refine q_ hf rfl rfl rfl (e_field hf rfl Tryz.underlying47 rfl Tryz.sizeOf9 (o' := 1) rfl) fun a hf => ?_
   refine pl_0 hf rfl rfl (w_store hf hM (us := [vS (s159)]) (cs' := [.bool (t20), vS (s159), vL A79 (xs78) c80]) rfl rfl (k := 1) rfl rfl Tryz.sizeOf9 rfl rfl rfl fun w161 hM => ?_)
   dsimp only [List.set] at hM
   refine pl_nil ?_
   refine then_n ?_
   refine wp_seq ?_
   obtain ⟨w164, hw⟩ : ∃ x, x = w161.drew := ⟨_, rfl⟩
   refine region_pi (.q 0 (.q 1 (.q 2 (.q 3 (.q 4 (.q 5 (.q 6 (.q 7 (.l 8 (.l 9 (.l 10 (.q 11 (.l 12 (.nil)))))))))))))) (ExtM [some b2, A76.map (·.block), some b73] w164) rfl (by kernel_rfl) ?_
   have hM := hM.drew
   rw [← hw] at hM ⊢
   clear hw
   refine pi_q hf rfl rfl rfl rfl (ExtM.refl _ _) (e_field hf rfl Tryz.underlying47 rfl Tryz.sizeOf45 (o' := 2) rfl) fun a hf => ?_
   refine pi_q hf rfl rfl rfl rfl (ExtM.refl _ _) (e_load1M hf rfl Tryz.isAgg45 (hM.boxCell (k := 1) rfl rfl) (hM.apart (js := [2, 3, 4]) rfl (k := 1) rfl rfl rfl)) fun a hf => ?_
   iterate 3 refine pi_q hf rfl rfl rfl rfl (ExtM.refl _ _) (e_move hf rfl) fun a hf => ?_
   obtain ⟨l165, hz166, h99⟩ := bind_some h99
   obtain ⟨A167, hd168, hA169⟩ := sub_rep (hM.dat (k := 1) rfl) hz166
   have hM := hM.add (y := .dat (sliceRep strRep) l165 [vL A167 l165 (c83 - (0 : Int).toNat)]) hd168
   refine pi_q hf rfl rfl rfl rfl (ExtM.refl _ _) (e_subLh hf (xs := l81) rfl rfl Tryz.underlying24 Tryz.sizeOf9 (slice_cap (hM.dat (k := 2) rfl)) hz166 hA169) fun a hf => ?_
   refine pi_q hf rfl rfl rfl rfl (ExtM.refl _ _) (e_move hf rfl) fun a hf => ?_
   obtain ⟨z170, hz171, h99⟩ := bind_some h99
   refine pi_q hf rfl rfl rfl rfl (ExtM.refl _ _) (e_add hf rfl rfl hz171) fun a hf => ?_
   refine pi_one ?_
   have hM := hM.front (k := 4) rfl
   dsimp only [List.eraseIdx] at hM
   have hM := hM.front (k := 4) rfl
   dsimp only [List.eraseIdx] at hM
   have hM := hM.front (k := 4) rfl
   dsimp only [List.eraseIdx] at hM
   have hM : Mem C _ ([.box b2 [vL A76 (xs75) c77, vM b73] 109, .row NodeRep A76 c77 47 xs75 true, .obj b73 (mapO fS fI mp72)] ++ [.row intRep A79 c80 2 xs78 true, .box b13 [.bool (t20), vS (s159), vL A79 (xs78) c80] 47]) _ := hM
   obtain ⟨y172, hz173, h99⟩ := bind_some h99
   refine pi_l hf rfl rfl rfl rfl (w_call hf Tryz.call60 rfl (ih ⟨_, Sh C _ _, ownB _, hM.sh_lt, sub_dis, C.G, hM.g_lt, hM.g_own, hM.tabs⟩ (⟨xs75, mp72⟩ : maker) _ _ _ _ hv74 l165 _ _ (hM.dat (k := 0) rfl) z170 (chk_R hz171) hM.sub sub_dis _ hz173) ?_)
   rintro _ w179 ⟨A174, c175, b176, rfl, hM2, hv177, hv178⟩
   have hxm182 := ExtM.ofChg (bs := [some b2, A76.map (·.block), some b73]) hM2.chg ⟨List.mem_of_getElem? (i := 0) rfl, List.mem_of_getElem? (i := 1) rfl, List.mem_of_getElem? (i := 2) rfl, trivial⟩
   have hsz183 := hM2.chg.size
   obtain ⟨hM, hup181⟩ := hM.backG hM2
   dsimp only [List.cons_append, List.nil_append] at hM hup181
   clear hM2
   refine ⟨_, rfl, Ext w179, fun _ h => ExtM.last hxm182 hsz183 h, Ext.refl _, fun a hf => ?_⟩
   refine pi_one ?_
   refine pi_l hf rfl rfl rfl rfl (w_slice hf hM (K := intRep) (xs := ([y172.1] : (List Int))) (os := [.tmp 64]) Tryz.underlying45 ei_2 rfl rfl rfl rfl rfl ⟨⟨[vI (y172.1)], rfl, ⟨rfl, hv178⟩⟩, trivial⟩ rfl fun b184 w185 hx186 hM => ⟨Ext w185, fun _ h => Ext.trans hx186 h, Ext.refl _, fun a hf => ?_⟩)
   refine pi_one ?_
   obtain ⟨xs187, hz188, h99⟩ := bind_some h99
   refine pi_z hf rfl rfl rfl rfl (by kernel_rfl) (w_append hf hM Tryz.underlying45 ei_2 rfl rfl rfl (k := 4) rfl (hM.srcRow (k := 0) rfl) hz188 fun A189 c190 w191 hM a hf => ?_)
   dsimp only [List.set] at hM
   refine pi_q hf rfl rfl rfl rfl (Ext.refl _) (e_field hf rfl Tryz.underlying47 rfl Tryz.sizeOf45 (o' := 2) rfl) fun a hf => ?_
   refine pi_one ?_
   refine pi_z0 hf rfl rfl rfl (by kernel_rfl) (w_store hf hM (us := [vL A189 (xs187) c190]) (cs' := [.bool (t20), vS (s159), vL A189 (xs187) c190]) rfl rfl (k := 5) rfl rfl Tryz.sizeOf45 rfl rfl rfl fun w194 hM => ?_)
   dsimp only [List.set] at hM
   refine pi_nil ?_
   refine then_n ?_
   refine region_pl ?_
   iterate 2 refine q_ hf rfl rfl rfl (e_move hf rfl) fun a hf => ?_
   obtain ⟨l197, hz198, h99⟩ := bind_some h99
   obtain ⟨A199, hd200, hA201⟩ := sub_rep (hM.dat (k := 2) rfl) hz198
   have hM := hM.add (y := .dat (sliceRep strRep) l197 [vL A199 l197 (c83 - (n114 : Int).toNat)]) hd200
   refine q_ hf rfl rfl rfl (e_subLl hf (xs := l81) rfl rfl Tryz.underlying24 Tryz.sizeOf9 (slice_cap (hM.dat (k := 3) rfl)) hz198 hA201) fun a hf => ?_
   refine q_ hf rfl rfl rfl (e_assign hf rfl) fun a hf => ?_
   refine pl_nil ?_
   refine blk_n ?_
   obtain rfl := some_inj h99
   refine then_n ⟨_, rfl, ?_⟩
   have hM := hM.front (k := 3) rfl
   dsimp only [List.eraseIdx] at hM
   have hM := hM.front (k := 3) rfl
   dsimp only [List.eraseIdx] at hM
   have hM := hM.front (k := 3) rfl
   dsimp only [List.eraseIdx] at hM
   have hM := hM.front (k := 5) rfl
   dsimp only [List.eraseIdx] at hM
   have hM := hM.front (k := 5) rfl
   dsimp only [List.eraseIdx] at hM
   exact ⟨s159, y172.2.register, y172.2.nodes, xs187, l197, b176, A174, c175, A189, c190, A199, (c83 - (n114 : Int).toNat), rfl, hf.keep ⟨rfl, rfl, rfl, rfl, trivial⟩, (hM.drop (.cons_cons _ (.cons_cons _ (.cons_cons _ (.cons_cons _ (.cons_cons _ (.cons _ .slnil))))))).pick [0, 4, 5] rfl, (cat_len hz160), hv177⟩
  refine cond_f hf rfl hc102 ?_
  refine wp_exit ?_
  refine then_x ?_
  obtain rfl := some_inj h99
  obtain rfl := hd100 _ rfl
  try dsimp only at h69
  refine then_x ?_
  refine exit_hit ?_
  obtain rfl := some_inj h69
  refine then_n ?_
  exact ⟨s70, xs78, mp72, xs75, A79, c80, b73, A76, c77, rfl, hf.keep ⟨rfl, rfl, trivial⟩, hM.pick [1, 2] rfl, hv71, hv74⟩
 rintro a w207 ⟨s57, xs59, mp62, xs65, A60, c61, b63, A66, c67, rfl, hf, hM, hv58, hv64⟩
 try dsimp only at h
 refine wp_seq ?_
 refine region_pl ?_
 refine q_ hf rfl rfl rfl (e_move hf rfl) fun a hf => ?_
 refine q_ hf rfl rfl rfl (e_loadA hf (us := [.bool (t20), vS (s57), vL A60 (xs59) c61]) rfl ⟨Tryz.isAgg47, Tryz.sizeOf47⟩ rfl (hM.boxSub (k := 1) (us := [.bool (t20), vS (s57), vL A60 (xs59) c61]) (o := 0) rfl rfl)) fun a hf => ?_
 have hM := hM.freezeRow (k := 0) rfl rfl
 dsimp only [List.eraseIdx] at hM
 have hM := hM.front (k := 3) rfl
 dsimp only [List.eraseIdx] at hM
 have hM := hM.front (k := 3) rfl
 dsimp only [List.eraseIdx] at hM
 have hM := hM.front (k := 3) rfl
 dsimp only [List.eraseIdx] at hM
 have hM : Mem C _ ([.box b2 [vL A66 (xs65) c67, vM b63] 109, .row NodeRep A66 c67 47 xs65 true, .obj b63 (mapO fS fI mp62)] ++ [.box b13 [.bool (t20), vS (s57), vL A60 (xs59) c61] 47]) _ := hM
 obtain ⟨y208, hz209, h⟩ := bind_some h
 refine pl_l hf rfl rfl rfl (w_call hf Tryz.call90 rfl (r_impl_maker_node ⟨_, Sh C _ _, ownB _, hM.sh_lt, sub_dis, C.G, hM.g_lt, hM.g_own, hM.tabs⟩ (⟨xs65, mp62⟩ : maker) _ _ _ _ hv64 (⟨t20, s57, xs59⟩ : Node) hv58 _ _ (hM.dat (k := 0) rfl) hM.sub sub_dis _ hz209) ?_)
 rintro _ w215 ⟨A210, c211, b212, rfl, hM2, hv213, hv214⟩
 obtain ⟨hM, hup217⟩ := hM.backG hM2
 dsimp only [List.cons_append, List.nil_append] at hM hup217
 clear hM2
 refine ⟨_, rfl, fun a hf => ?_⟩
 refine q_ hf rfl rfl rfl (e_assign hf rfl) fun a hf => ?_
 refine pl_nil ?_
 refine then_n ?_
 refine wp_ret ?_
 obtain rfl := some_inj h
 have hM := hM.outs (own' := [.box b2 [vL A210 (y208.2.nodes) c211, vM b212] 109, .row NodeRep A210 c211 47 y208.2.nodes true, .obj b212 (mapO fS fI y208.2.register)]) 3 rfl
 exact leave1 hf rfl rfl ⟨A210, c211, b212, rfl, hM.fin, hv213, hv214⟩
theorem r_impl_maker_build_n : ∀ n, Ct_impl_maker_build (m_impl_maker_build_n n)
  | 0 => fun C m1 b2 A3 c4 b5 hp6 list7 A8 c9 hp10 depth11 hp12 hO hd r h => by cases h
  | n + 1 => r_impl_maker_build_b _ (r_impl_maker_build_n n)
theorem r_impl_maker_build : Ct_impl_maker_build (m_impl_maker_build) := r_impl_maker_build_n fuelN
end Go.Proofs.YtdaoecpkgobelaaGreatDoor
