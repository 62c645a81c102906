/- The functions that this law reaches do what their models say. Printed by gen.py. -/
import Derived.Test.YtccoeheoifbpcaaGreatDoorMod
import Derived.Test.YtccoeheoifbpcaaGreatDoorLib
import Derived.Test.YtccoeheoifbpcaaGreatDoorMinusDawgRefB
namespace Go.Proofs.YtccoeheoifbpcaaGreatDoor
open Go Go.RowKit
set_option linter.unusedSimpArgs false
set_option linter.unusedVariables false
set_option maxRecDepth 100000
set_option maxHeartbeats 4000000
def Ct_impl_Dawg_words_1 (rc : Int → Dawg → (List Str) → Str → Option ((List Str) × Str)) : Prop := ∀ (C : Cx) (node1 : Int) (hp2 : R64 node1) (p3 : Dawg) (b4 : Nat) (o5 : Nat) (hp6 : (ptrRep DawgRep).R C.w0 C.S0 p3 [vP b4 o5]) (p7 : (List Str)) (b8 : Nat) (A9 : Option Addr) (c10 : Nat) (p11 : Str) (b12 : Nat) (A13 : Option Addr) (c14 : Nat) (b16 : Nat) (o17 : Nat) (hp18 : Shr.good C.w0 C.S0 (.lit b16 (o17) [.func (.func 50) #[] #[vP b4 (o5), vP b8 (0), vP b12 (0), vP b16 (o17)]])) (hO : Mem C C.w0 [.box b8 [vL A9 (p7) c10] 30, .row strRep A9 c10 9 p7 true, .box b12 [vL A13 (p11) c14] 22, .row byteRep A13 c14 5 p11 true] []) (hd : ∀ b, C.S0 b → ¬ ownB [.box b8 [vL A9 (p7) c10] 30, .row strRep A9 c10 9 p7 true, .box b12 [vL A13 (p11) c14] 22, .row byteRep A13 c14 5 p11 true] b) (r : ((List Str) × Str)) (h : rc node1 p3 p7 p11 = some r),
    Calls Tryz.prog 50 #[vI (node1), vP b4 (o5), vP b8 (0), vP b12 (0), vP b16 (o17)] C.w0 fun e w => ∃ (A_1 : Option Addr), ∃ (c_1 : Nat), ∃ (A_2 : Option Addr), ∃ (c_2 : Nat), e = .returned (.tuple #[]) ∧ Mem C w [.box b8 [vL A_1 (r.1) c_1] 30, .row strRep A_1 c_1 9 r.1 true, .box b12 [vL A_2 (r.2) c_2] 22, .row byteRep A_2 c_2 5 r.2 true] []
theorem r_impl_Dawg_words_1_b (rc : Int → Dawg → (List Str) → Str → Option ((List Str) × Str)) (ih : Ct_impl_Dawg_words_1 rc) : Ct_impl_Dawg_words_1 (m_impl_Dawg_words_1_b rc) := by
 intro C node1 hp2 p3 b4 o5 hp6 p7 b8 A9 c10 p11 b12 A13 c14 b16 o17 hp18 hO hd r h
 have hM := hO
 have hM := hM.addIn hd (y := .dat (ptrRep DawgRep) p3 [vP b4 o5]) hp6
 have hM := hM.addIn hd (y := .lit b16 (o17) [.func (.func 50) #[] #[vP b4 (o5), vP b8 (0), vP b12 (0), vP b16 (o17)]]) hp18
 refine enter Tryz.func50 rfl Tryz.ntmps50 rfl fun a hf => ?_
 unfold m_impl_Dawg_words_1_b at h
 refine wp_seq ?_
 refine region_pl ?_
 obtain ⟨_, hr19, hM⟩ := hM.deref (hM.dat (k := 1) rfl)
 obtain ⟨A20, c21, rfl, hv22⟩ := DawgRep_open hr19
 have hM := hM.add (y := .dat (sliceRep NodeRep) p3.Nodes [vL A20 p3.Nodes c21]) hv22
 refine q_ hf rfl rfl rfl (e_field hf rfl Tryz.underlying26 rfl Tryz.sizeOf24 (o' := o5 + 0) rfl) fun a hf => ?_
 refine q_ hf rfl rfl rfl (e_load1 hf rfl Tryz.isAgg24 (hM.litCell (k := 1) (j := 0) rfl rfl rfl)) fun a hf => ?_
 refine q_ hf rfl rfl rfl (e_move hf rfl) fun a hf => ?_
 obtain ⟨e23, hz24, h⟩ := bind_some h
 obtain ⟨b28, o29, _, hA30, h25, h26, hr27, hM⟩ := hM.elem (hM.dat (k := 0) rfl) (n := 3) rfl hz24
 obtain ⟨A32, c33, rfl, hv31, hv34⟩ := NodeRep_open hr27
 have hM := hM.add (y := .dat (sliceRep intRep) e23.Next [vL A32 e23.Next c33]) hv34
 refine q_ hf rfl rfl rfl (e_indexAddr (A := A20) (b := b28) (o := o29) (xs := p3.Nodes) (i := node1) hf hA30 rfl rfl Tryz.underlying24 Tryz.sizeOf79 h25 h26) fun a hf => ?_
 refine q_ hf rfl rfl rfl (e_loadA hf (us := [.bool (e23.Final), vS (e23.Letters), vL A32 (e23.Next) c33]) rfl ⟨Tryz.isAgg79, Tryz.sizeOf79⟩ rfl (hM.litSub (k := 1) (d := 0) (us := [.bool (e23.Final), vS (e23.Letters), vL A32 (e23.Next) c33]) rfl rfl rfl)) fun a hf => ?_
 refine pl_l hf rfl rfl rfl (w_alloc hM (cs := [.bool (false), vS (([] : Str)), vL none (([] : (List Int))) 0]) Tryz.zeroValue79 rfl fun b35 w36 hx37 hM a hf => ?_)
 refine pl_0 hf rfl rfl (w_store hf hM (us := [.bool (e23.Final), vS (e23.Letters), vL A32 (e23.Next) c33]) (cs' := [.bool (e23.Final), vS (e23.Letters), vL A32 (e23.Next) c33]) rfl rfl (k := 0) rfl rfl Tryz.sizeOf79 rfl rfl rfl fun w39 hM => ?_)
 dsimp only [List.set] at hM
 refine pl_nil ?_
 refine then_n ?_
 obtain ⟨x45, h46, h⟩ := bind_some h
 refine seq_join (fun a w => ∃ (xs42 : (List Str)) (A43 : Option Addr) (c44 : Nat), xs42 = x45 ∧ Has 45 a [(3, vP b12 (0)), (4, vP b16 (o17)), (6, vP b35 (0))] ∧ Mem C w [.box b35 [.bool (e23.Final), vS (e23.Letters), vL A32 (e23.Next) c33] 79, .box b8 [vL A43 (xs42) c44] 30, .row strRep A43 c44 9 xs42 true, .box b12 [vL A13 (p11) c14] 22, .row byteRep A13 c14 5 p11 true] [.dat (sliceRep intRep) e23.Next [vL A32 e23.Next c33], .lit b28 (o29 + (node1 : Int).toNat * 3) [.bool (e23.Final), vS (e23.Letters), vL A32 (e23.Next) c33], .dat (sliceRep NodeRep) p3.Nodes [vL A20 p3.Nodes c21], .lit b4 (o5) [vL A20 (p3.Nodes) c21], .lit b16 (o17) [.func (.func 50) #[] #[vP b4 (o5), vP b8 (0), vP b12 (0), vP b16 (o17)]], .dat (ptrRep DawgRep) p3 [vP b4 o5]]) ?_ ?_
 ·refine wp_seq ?_
  refine region_pl ?_
  refine q_ hf rfl rfl rfl (e_field hf rfl Tryz.underlying79 rfl Tryz.sizeOf4 (o' := 0) rfl) fun a hf => ?_
  refine q_ hf rfl rfl rfl (e_load1 hf rfl Tryz.isAgg4 (hM.boxCell (k := 0) rfl rfl)) fun a hf => ?_
  refine pl_nil ?_
  refine then_n ?_
  rcases cond_some h46 with ⟨hc47, h46⟩ | ⟨hc47, h46⟩
  ·refine cond_t hf rfl hc47 ?_
   refine region_pl ?_
   refine q_ hf rfl rfl rfl (e_load1 hf rfl Tryz.isAgg30 (hM.boxCell (k := 1) rfl rfl)) fun a hf => ?_
   refine q_ hf rfl rfl rfl (e_load1 hf rfl Tryz.isAgg22 (hM.boxCell (k := 3) rfl rfl)) fun a hf => ?_
   have hl48 := row_len (hM.ownAt (k := 4) rfl)
   refine q_ hf rfl rfl rfl (e_bytesStr hf (xs := p11) rfl Tryz.underlying22 Tryz.underlying5 Tryz.underlying9 (hM.lendRow (k := 4) rfl)) fun a hf => ?_
   refine pl_l hf rfl rfl rfl (w_slice hf hM (K := strRep) (xs := ([p11] : (List Str))) (os := [.tmp 18]) Tryz.underlying30 ei_9 rfl rfl rfl rfl rfl ⟨⟨[vS (p11)], rfl, ⟨rfl, hl48⟩⟩, trivial⟩ rfl fun b49 w50 hx51 hM a hf => ?_)
   obtain ⟨xs52, hz53, h46⟩ := bind_some h46
   refine pl_l hf rfl rfl rfl (w_append hf hM Tryz.underlying30 ei_9 rfl rfl rfl (k := 3) rfl (hM.srcRow (k := 0) rfl) hz53 fun A54 c55 w56 hM a hf => ?_)
   dsimp only [List.set] at hM
   refine pl_0 hf rfl rfl (w_store hf hM (us := [vL A54 (xs52) c55]) (cs' := [vL A54 (xs52) c55]) rfl rfl (k := 2) rfl rfl Tryz.sizeOf30 rfl rfl rfl fun w59 hM => ?_)
   dsimp only [List.set] at hM
   refine pl_nil ?_
   obtain rfl := some_inj h46
   refine then_n ?_
   exact ⟨xs52, A54, c55, rfl, hf.keep ⟨rfl, rfl, rfl, trivial⟩, (hM.drop (.cons _ (.cons_cons _ (.cons_cons _ (.cons_cons _ (.cons_cons _ (.cons_cons _ .slnil))))))).pick [0, 1, 2, 3, 4, 5] rfl⟩
  refine cond_f hf rfl hc47 ?_
  refine wp_skip ?_
  obtain rfl := some_inj h46
  refine then_n ?_
  exact ⟨p7, A9, c10, rfl, hf.keep ⟨rfl, rfl, rfl, trivial⟩, hM.pick [0, 1, 2, 3, 4, 5] rfl⟩
 rintro a w64 ⟨xs42, A43, c44, rfl, hf, hM⟩
 try dsimp only at h
 refine wp_seq ?_
 refine region_pl ?_
 refine q_ hf rfl rfl rfl (e_field hf rfl Tryz.underlying79 rfl Tryz.sizeOf77 (o' := 2) rfl) fun a hf => ?_
 refine q_ hf rfl rfl rfl (e_load1 hf rfl Tryz.isAgg77 (hM.boxCell (k := 0) rfl rfl)) fun a hf => ?_
 have hl65 := slice_len (hM.dat (k := 0) rfl)
 refine q_ hf rfl rfl rfl (e_lenL hf (x := e23.Next) rfl Tryz.underlying77) fun a hf => ?_
 refine q_ hf rfl rfl rfl (e_move hf rfl) fun a hf => ?_
 refine pl_nil ?_
 refine then_n ?_
 refine wp_block ?_
 obtain ⟨x81, h82, h⟩ := bind_some h
 refine wp_loopM h82 (fun s a w => ∃ (xs66 : (List Str)) (xs69 : Str) (n72 : Int) (A67 : Option Addr) (c68 : Nat) (A70 : Option Addr) (c71 : Nat), (xs66, xs69, n72) = s ∧ Has 45 a [(3, vP b12 (0)), (4, vP b16 (o17)), (6, vP b35 (0)), (22, vL A32 (e23.Next) c33), (23, vI ((e23.Next.length : Int))), (24, vI (n72))] ∧ Mem C w [.box b35 [.bool (e23.Final), vS (e23.Letters), vL A32 (e23.Next) c33] 79, .box b8 [vL A67 (xs66) c68] 30, .row strRep A67 c68 9 xs66 true, .box b12 [vL A70 (xs69) c71] 22, .row byteRep A70 c71 5 xs69 true] [.dat (sliceRep intRep) e23.Next [vL A32 e23.Next c33], .lit b28 (o29 + (node1 : Int).toNat * 3) [.bool (e23.Final), vS (e23.Letters), vL A32 (e23.Next) c33], .dat (sliceRep NodeRep) p3.Nodes [vL A20 p3.Nodes c21], .lit b4 (o5) [vL A20 (p3.Nodes) c21], .lit b16 (o17) [.func (.func 50) #[] #[vP b4 (o5), vP b8 (0), vP b12 (0), vP b16 (o17)]], .dat (ptrRep DawgRep) p3 [vP b4 o5]] ∧ R64 n72) ?_ ?_
 ·exact ⟨xs42, p11, 0, A43, c44, A13, c14, rfl, hf.keep ⟨rfl, rfl, rfl, rfl, rfl, rfl, trivial⟩, hM.pick [0, 1, 2, 3, 4, 5] rfl, (R64_lit rfl)⟩
 rintro s o83 a w74 ⟨xs66, xs69, n72, A67, c68, A70, c71, rfl, hf, hM, hv73⟩ h84 hd85
 replace h84 : m_impl_Dawg_words_1_l1 e23 rc p3 xs66 xs69 n72 = some o83 := h84
 unfold m_impl_Dawg_words_1_l1 at h84
 refine wp_seq ?_
 refine region_pl ?_
 refine q_ hf rfl rfl rfl (e_lt hf (x := n72) (y := (e23.Next.length : Int)) rfl rfl) fun a hf => ?_
 refine pl_nil ?_
 refine then_n ?_
 refine wp_seq ?_
 rcases cond_some h84 with ⟨hc86, h84⟩ | ⟨hc86, h84⟩
 ·refine cond_t hf rfl hc86 ?_
  refine wp_skip ?_
  refine then_n ?_
  refine wp_seq ?_
  refine wp_block ?_
  refine wp_seq ?_
  refine region_pl ?_
  refine q_ hf rfl rfl rfl (e_move hf rfl) fun a hf => ?_
  obtain ⟨e87, hz88, h84⟩ := bind_some h84
  obtain ⟨b92, o93, _, hA94, h89, h90, hr91, hM⟩ := hM.elem (hM.dat (k := 0) rfl) (n := 1) rfl hz88
  obtain ⟨rfl, hv95⟩ := hr91
  refine q_ hf rfl rfl rfl (e_indexAddr (A := A32) (b := b92) (o := o93) (xs := e23.Next) (i := n72) hf hA94 rfl rfl Tryz.underlying77 Tryz.sizeOf2 h89 h90) fun a hf => ?_
  refine q_ hf rfl rfl rfl (e_load1 hf rfl Tryz.isAgg2 (hM.litCell (k := 0) (j := 0) rfl rfl rfl)) fun a hf => ?_
  iterate 2 refine q_ hf rfl rfl rfl (e_assign hf rfl) fun a hf => ?_
  refine pl_nil ?_
  refine then_n ?_
  refine wp_seq ?_
  obtain ⟨w96, hw⟩ : ∃ x, x = w74.drew := ⟨_, rfl⟩
  refine region_pi (.q 0 (.q 1 (.q 2 (.q 3 (.q 4 (.l 5 (.l 6 (.l 7 (.nil))))))))) (Ext w96) rfl (by kernel_rfl) ?_
  have hM := hM.drew
  rw [← hw] at hM ⊢
  clear hw
  refine pi_q hf rfl rfl rfl rfl (Ext.refl _) (e_load1 hf rfl Tryz.isAgg22 (hM.boxCell (k := 3) rfl rfl)) fun a hf => ?_
  refine pi_q hf rfl rfl rfl rfl (Ext.refl _) (e_field hf rfl Tryz.underlying79 rfl Tryz.sizeOf9 (o' := 1) rfl) fun a hf => ?_
  refine pi_q hf rfl rfl rfl rfl (Ext.refl _) (e_load1 hf rfl Tryz.isAgg9 (hM.boxCell (k := 0) rfl rfl)) fun a hf => ?_
  refine pi_q hf rfl rfl rfl rfl (Ext.refl _) (e_move hf rfl) fun a hf => ?_
  obtain ⟨c97, hz98, h84⟩ := bind_some h84
  refine pi_q hf rfl rfl rfl rfl (Ext.refl _) (e_indexS hf (x := e23.Letters) rfl rfl Tryz.underlying9 hz98) fun a hf => ?_
  refine pi_one ?_
  refine pi_l hf rfl rfl rfl rfl (w_slice hf hM (K := byteRep) (xs := ([c97] : Str)) (os := [.tmp 33]) Tryz.underlying22 ei_5 rfl rfl rfl rfl rfl ⟨⟨[vB (c97)], rfl, rfl⟩, trivial⟩ rfl fun b99 w100 hx101 hM => ⟨Ext w100, fun _ h => Ext.trans hx101 h, Ext.refl _, fun a hf => ?_⟩)
  refine pi_one ?_
  obtain ⟨xs102, hz103, h84⟩ := bind_some h84
  refine pi_z hf rfl rfl rfl rfl (by kernel_rfl) (w_append hf hM Tryz.underlying22 ei_5 rfl rfl rfl (k := 5) rfl (hM.srcRow (k := 0) rfl) hz103 fun A104 c105 w106 hM a hf => ?_)
  dsimp only [List.set] at hM
  refine pi_one ?_
  refine pi_z0 hf rfl rfl rfl (by kernel_rfl) (w_store hf hM (us := [vL A104 (xs102) c105]) (cs' := [vL A104 (xs102) c105]) rfl rfl (k := 4) rfl rfl Tryz.sizeOf22 rfl rfl rfl fun w109 hM => ?_)
  dsimp only [List.set] at hM
  refine pi_nil ?_
  refine then_n ?_
  refine wp_seq ?_
  refine region_pl ?_
  refine q_ hf rfl rfl rfl (e_load1 hf rfl Tryz.isAgg88 (hM.litCell (k := 5) (j := 0) rfl rfl rfl)) fun a hf => ?_
  refine q_ hf rfl rfl rfl (e_move hf rfl) fun a hf => ?_
  have hM := hM.front (k := 5) rfl
  dsimp only [List.eraseIdx] at hM
  have hM := hM.front (k := 5) rfl
  dsimp only [List.eraseIdx] at hM
  have hM := hM.front (k := 5) rfl
  dsimp only [List.eraseIdx] at hM
  have hM := hM.front (k := 5) rfl
  dsimp only [List.eraseIdx] at hM
  have hM : Mem C _ ([.box b8 [vL A67 (xs66) c68] 30, .row strRep A67 c68 9 xs66 true, .box b12 [vL A104 (xs102) c105] 22, .row byteRep A104 c105 5 xs102 true] ++ [.row byteRep (some ⟨b99, 0, none⟩) 1 5 ([c97] : Str) true, .box b35 [.bool (e23.Final), vS (e23.Letters), vL A32 (e23.Next) c33] 79]) _ := hM
  obtain ⟨y112, hz113, h84⟩ := bind_some h84
  refine pl_l hf rfl rfl rfl (w_callV hf (fk := 50) (fc := [vP b4 (o5), vP b8 (0), vP b12 (0), vP b16 (o17)]) rfl Tryz.call50 rfl (ih ⟨_, Sh C _ _, ownB _, hM.sh_lt, sub_dis, C.G, hM.g_lt, hM.g_own, hM.tabs⟩ e87 hv95 p3 _ _ (hM.dat (k := 6) rfl) xs66 _ _ _ xs102 _ _ _ _ _ (hM.at_ (k := 5) rfl) hM.sub sub_dis _ hz113) ?_)
  rintro _ w118 ⟨A114, c115, A116, c117, rfl, hM2⟩
  obtain ⟨hM, hup120⟩ := hM.backG hM2
  dsimp only [List.cons_append, List.nil_append] at hM hup120
  clear hM2
  refine ⟨_, rfl, fun a hf => ?_⟩
  refine pl_nil ?_
  refine then_n ?_
  refine region_pl ?_
  iterate 2 refine q_ hf rfl rfl rfl (e_load1 hf rfl Tryz.isAgg22 (hM.boxCell (k := 2) rfl rfl)) fun a hf => ?_
  have hl121 := row_len (hM.ownAt (k := 3) rfl)
  refine q_ hf rfl rfl rfl (e_lenL hf (x := y112.2) rfl Tryz.underlying22) fun a hf => ?_
  obtain ⟨z122, hz123, h84⟩ := bind_some h84
  refine q_ hf rfl rfl rfl (e_sub hf rfl rfl hz123) fun a hf => ?_
  obtain ⟨l124, hz125, h84⟩ := bind_some h84
  have hr126 := hM.rowForm (k := 3) rfl
  have hM := hM.truncRow (k := 3) rfl hz125
  dsimp only [List.set] at hM
  refine q_ hf rfl rfl rfl (e_trunc hf (xs := y112.2) rfl rfl Tryz.underlying22 Tryz.sizeOf5 hr126 hz125) fun a hf => ?_
  refine pl_0 hf rfl rfl (w_store hf hM (us := [vL A116 (l124) c117]) (cs' := [vL A116 (l124) c117]) rfl rfl (k := 2) rfl rfl Tryz.sizeOf22 rfl rfl rfl fun w127 hM => ?_)
  dsimp only [List.set] at hM
  refine pl_nil ?_
  refine blk_n ?_
  refine then_n ?_
  refine region_pl ?_
  obtain ⟨z130, hz131, h84⟩ := bind_some h84
  refine q_ hf rfl rfl rfl (e_add hf rfl rfl hz131) fun a hf => ?_
  refine q_ hf rfl rfl rfl (e_move hf rfl) fun a hf => ?_
  refine pl_nil ?_
  obtain rfl := some_inj h84
  refine then_n ⟨_, rfl, ?_⟩
  have hM := hM.front (k := 3) rfl
  dsimp only [List.eraseIdx] at hM
  have hM := hM.front (k := 3) rfl
  dsimp only [List.eraseIdx] at hM
  have hM := hM.front (k := 3) rfl
  dsimp only [List.eraseIdx] at hM
  have hM := hM.front (k := 3) rfl
  dsimp only [List.eraseIdx] at hM
  have hM := hM.front (k := 5) rfl
  dsimp only [List.eraseIdx] at hM
  exact ⟨y112.1, l124, z130, A114, c115, A116, c117, rfl, hf.keep ⟨rfl, rfl, rfl, rfl, rfl, rfl, trivial⟩, (hM.drop (.cons_cons _ (.cons_cons _ (.cons_cons _ (.cons_cons _ (.cons_cons _ (.cons _ .slnil))))))).pick [1, 2, 3, 4, 5, 6] rfl, (chk_R hz131)⟩
 refine cond_f hf rfl hc86 ?_
 refine wp_exit ?_
 refine then_x ?_
 obtain rfl := some_inj h84
 obtain rfl := hd85 _ rfl
 try dsimp only at h
 refine then_x ?_
 refine exit_hit ?_
 obtain rfl := some_inj h
 have hM := hM.front (k := 4) rfl
 dsimp only [List.eraseIdx] at hM
 have hM := hM.front (k := 4) rfl
 dsimp only [List.eraseIdx] at hM
 have hM := hM.front (k := 4) rfl
 dsimp only [List.eraseIdx] at hM
 have hM := hM.front (k := 4) rfl
 dsimp only [List.eraseIdx] at hM
 have hM := hM.outs (own' := [.box b8 [vL A67 (xs66) c68] 30, .row strRep A67 c68 9 xs66 true, .box b12 [vL A70 (xs69) c71] 22, .row byteRep A70 c71 5 xs69 true]) 4 rfl
 exact leave0n hf rfl ⟨A67, c68, A70, c71, rfl, hM.fin⟩
theorem r_impl_Dawg_words_1_n : ∀ n, Ct_impl_Dawg_words_1 (m_impl_Dawg_words_1_n n)
  | 0 => fun C node1 hp2 p3 b4 o5 hp6 p7 b8 A9 c10 p11 b12 A13 c14 b16 o17 hp18 hO hd r h => by cases h
  | n + 1 => r_impl_Dawg_words_1_b _ (r_impl_Dawg_words_1_n n)
theorem r_impl_Dawg_words_1 : Ct_impl_Dawg_words_1 (m_impl_Dawg_words_1) := r_impl_Dawg_words_1_n fuelN
theorem r_impl_Dawg_words (C : Cx) (d1 : Dawg) (A2 : Option Addr) (c3 : Nat) (hp4 : (sliceRep NodeRep).R C.w0 C.S0 d1.Nodes [vL A2 d1.Nodes c3]) (r : (List Str)) (h : m_impl_Dawg_words d1 = some r) :
    Calls Tryz.prog 28 #[.agg #[vL A2 (d1.Nodes) c3]] C.w0 fun e w => ∃ (A_1 : Option Addr), ∃ (c_1 : Nat), e = .returned (vL A_1 (r) c_1) ∧ Mem C w [.row strRep A_1 c_1 9 r true] [] := by
 have hM := Mem.begin C [.dat (sliceRep NodeRep) d1.Nodes [vL A2 d1.Nodes c3]] ⟨hp4, trivial⟩
 refine enter Tryz.func28 rfl Tryz.ntmps28 rfl fun a hf => ?_
 unfold m_impl_Dawg_words at h
 refine wp_seq ?_
 refine region_pl ?_
 refine pl_l hf rfl rfl rfl (w_box hf hM (cs := [vL A2 (d1.Nodes) c3]) rfl rfl fun b5 w6 hx7 hM a hf => ?_)
 refine q_ hf rfl rfl rfl (e_assign hf rfl) fun a hf => ?_
 refine pl_nil ?_
 refine then_n ?_
 refine wp_seq ?_
 refine region_pl ?_
 refine pl_l hf rfl rfl rfl (w_slice0 (K := strRep) hM Tryz.underlying30 ei_9 fun b9 w10 hx11 hM a hf => ?_)
 refine pl_l hf rfl rfl rfl (w_slice0 (K := byteRep) hM Tryz.underlying22 ei_5 fun b12 w13 hx14 hM a hf => ?_)
 refine pl_l hf rfl rfl rfl (w_alloc hM (cs := [vL none (([] : (List Str))) 0]) Tryz.zeroValue30 rfl fun b15 w16 hx17 hM a hf => ?_)
 refine pl_l hf rfl rfl rfl (w_alloc hM (cs := [vL none (([] : Str)) 0]) Tryz.zeroValue22 rfl fun b19 w20 hx21 hM a hf => ?_)
 refine pl_0 hf rfl rfl (w_store hf hM (us := [vL (some ⟨b9, 0, none⟩) (([] : (List Str))) 0]) (cs' := [vL (some ⟨b9, 0, none⟩) (([] : (List Str))) 0]) rfl rfl (k := 1) rfl rfl Tryz.sizeOf30 rfl rfl rfl fun w23 hM => ?_)
 dsimp only [List.set] at hM
 refine pl_0 hf rfl rfl (w_store hf hM (us := [vL (some ⟨b12, 0, none⟩) (([] : Str)) 0]) (cs' := [vL (some ⟨b12, 0, none⟩) (([] : Str)) 0]) rfl rfl (k := 0) rfl rfl Tryz.sizeOf22 rfl rfl rfl fun w26 hM => ?_)
 dsimp only [List.set] at hM
 refine pl_nil ?_
 refine then_n ?_
 refine wp_seq ?_
 refine region_pl ?_
 refine pl_l hf rfl rfl rfl (w_alloc hM (cs := [.nilFunc]) Tryz.zeroValue88 rfl fun b29 w30 hx31 hM a hf => ?_)
 refine pl_nil ?_
 refine then_n ?_
 refine wp_seq ?_
 refine region_pl ?_
 refine q_ hf rfl rfl rfl (w_makeFunc hf rfl) fun a hf => ?_
 refine pl_0 hf rfl rfl (w_store hf hM (us := [.func (.func 50) #[] #[vP b5 (0), vP b15 (0), vP b19 (0), vP b29 (0)]]) (cs' := [.func (.func 50) #[] #[vP b5 (0), vP b15 (0), vP b19 (0), vP b29 (0)]]) rfl rfl (k := 0) rfl rfl Tryz.sizeOf88 rfl rfl rfl fun w33 hM => ?_)
 dsimp only [List.set] at hM
 refine pl_nil ?_
 refine then_n ?_
 refine wp_seq ?_
 refine region_pl ?_
 refine q_ hf rfl rfl rfl (e_load1 hf rfl Tryz.isAgg88 (hM.boxCell (k := 0) rfl rfl)) fun a hf => ?_
 have hM := hM.freezeBox (k := 0) rfl rfl
 dsimp only [List.eraseIdx] at hM
 have hM := hM.freezeBox (k := 4) rfl rfl
 dsimp only [List.eraseIdx] at hM
 have hM := hM.front (k := 2) rfl
 dsimp only [List.eraseIdx] at hM
 have hM := hM.front (k := 1) rfl
 dsimp only [List.eraseIdx] at hM
 have hM := hM.front (k := 3) rfl
 dsimp only [List.eraseIdx] at hM
 have hM := hM.front (k := 3) rfl
 dsimp only [List.eraseIdx] at hM
 have hM : Mem C _ ([.box b15 [vL (some ⟨b9, 0, none⟩) (([] : (List Str))) 0] 30, .row strRep (some ⟨b9, 0, none⟩) 0 9 ([] : (List Str)) true, .box b19 [vL (some ⟨b12, 0, none⟩) (([] : Str)) 0] 22, .row byteRep (some ⟨b12, 0, none⟩) 0 5 ([] : Str) true] ++ []) _ := hM
 obtain ⟨y36, hz37, h⟩ := bind_some h
 refine pl_l hf rfl rfl rfl (w_callV hf (fk := 50) (fc := [vP b5 (0), vP b15 (0), vP b19 (0), vP b29 (0)]) rfl Tryz.call50 rfl (r_impl_Dawg_words_1 ⟨_, Sh C _ _, ownB _, hM.sh_lt, sub_dis, C.G, hM.g_lt, hM.g_own, hM.tabs⟩ 0 (R64_lit rfl) d1 _ _ (hM.litPtr (k := 0) (d := 0) (us := [vL A2 (d1.Nodes) c3]) rfl rfl rfl (DawgRep_mk (x := d1) (hM.dat (k := 2) rfl))) ([] : (List Str)) _ _ _ ([] : Str) _ _ _ _ _ (hM.at_ (k := 1) rfl) hM.sub sub_dis _ hz37) ?_)
 rintro _ w42 ⟨A38, c39, A40, c41, rfl, hM2⟩
 obtain ⟨hM, hup44⟩ := hM.backG hM2
 dsimp only [List.cons_append, List.nil_append] at hM hup44
 clear hM2
 refine ⟨_, rfl, fun a hf => ?_⟩
 refine pl_nil ?_
 refine then_n ?_
 refine wp_seq ?_
 refine region_pl ?_
 refine q_ hf rfl rfl rfl (e_load1 hf rfl Tryz.isAgg30 (hM.boxCell (k := 0) rfl rfl)) fun a hf => ?_
 refine q_ hf rfl rfl rfl (e_assign hf rfl) fun a hf => ?_
 refine pl_nil ?_
 refine then_n ?_
 refine wp_ret ?_
 obtain rfl := some_inj h
 have hM := hM.front (k := 1) rfl
 dsimp only [List.eraseIdx] at hM
 have hM := hM.outs (own' := [.row strRep A38 c39 9 y36.1 true]) 1 rfl
 exact leave1 hf rfl rfl ⟨A38, c39, rfl, hM.fin⟩
theorem r_impl_selected_string (C : Cx) (list1 : (List Str)) (A2 : Option Addr) (c3 : Nat) (hp4 : (sliceRep strRep).R C.w0 C.S0 list1 [vL A2 list1 c3]) (is5 : (Str → Option Bool)) (fV6 : Value) (fk7 : FuncId) (fa8 : List Value) (fc9 : List Value) (hV10 : CallsAs Tryz.prog fV6 fk7 fa8 fc9) (hfn11 : FnOk Tryz.prog C fk7 (FnC_Str_to_Bool fk7 fa8 fc9 is5)) (r : (List Str)) (h : m_impl_selected_string list1 is5 = some r) :
    Calls Tryz.prog 72 #[vL A2 (list1) c3, fV6] C.w0 fun e w => ∃ (A_1 : Option Addr), ∃ (c_1 : Nat), e = .returned (vL A_1 (r) c_1) ∧ Mem C w [.row strRep A_1 c_1 9 r true] [] := by
 have hM := Mem.begin C [.dat (sliceRep strRep) list1 [vL A2 list1 c3]] ⟨hp4, trivial⟩
 refine enter Tryz.func72 rfl Tryz.ntmps72 rfl fun a hf => ?_
 unfold m_impl_selected_string at h
 refine wp_seq ?_
 refine region_pl ?_
 refine q_ hf rfl rfl rfl (e_assign hf rfl) fun a hf => ?_
 refine pl_nil ?_
 refine then_n ?_
 refine wp_seq ?_
 refine region_pl ?_
 refine pl_l hf rfl rfl rfl (w_slice0 (K := strRep) hM Tryz.underlying30 ei_9 fun b12 w13 hx14 hM a hf => ?_)
 refine q_ hf rfl rfl rfl (e_assign hf rfl) fun a hf => ?_
 refine pl_nil ?_
 refine then_n ?_
 obtain ⟨x18, h19, h⟩ := bind_some h
 refine seq_join (fun a w => ∃ (xs15 : (List Str)) (A16 : Option Addr) (c17 : Nat), xs15 = x18 ∧ Has 24 a [(5, vL A16 (xs15) c17)] ∧ Mem C w [.row strRep A16 c17 9 xs15 true] [.dat (sliceRep strRep) list1 [vL A2 list1 c3]]) ?_ ?_
 ·refine wp_seq ?_
  refine region_pl ?_
  refine q_ hf rfl rfl rfl (e_move hf rfl) fun a hf => ?_
  have hl20 := slice_len (hM.dat (k := 0) rfl)
  refine q_ hf rfl rfl rfl (e_lenL hf (x := list1) rfl Tryz.underlying30) fun a hf => ?_
  refine q_ hf rfl rfl rfl (e_move hf rfl) fun a hf => ?_
  refine pl_nil ?_
  refine then_n ?_
  refine wp_block ?_
  obtain ⟨x30, h31, h19⟩ := bind_some h19
  refine wp_loopM h31 (fun s a w => ∃ (xs21 : (List Str)) (n24 : Int) (A22 : Option Addr) (c23 : Nat), (xs21, n24) = s ∧ Has 24 a [(1, fV6), (5, vL A22 (xs21) c23), (9, vL A2 (list1) c3), (10, vI ((list1.length : Int))), (11, vI (n24))] ∧ Mem C w [.row strRep A22 c23 9 xs21 true] [.dat (sliceRep strRep) list1 [vL A2 list1 c3]] ∧ R64 n24) ?_ ?_
  ·exact ⟨([] : (List Str)), 0, (some ⟨b12, 0, none⟩), 0, rfl, hf.keep ⟨rfl, rfl, rfl, rfl, rfl, trivial⟩, hM.pick [0] rfl, (R64_lit rfl)⟩
  rintro s o32 a w26 ⟨xs21, n24, A22, c23, rfl, hf, hM, hv25⟩ h33 hd34
  replace h33 : m_impl_selected_string_l1 list1 is5 xs21 n24 = some o32 := h33
  unfold m_impl_selected_string_l1 at h33
  refine wp_seq ?_
  refine region_pl ?_
  refine q_ hf rfl rfl rfl (e_lt hf (x := n24) (y := (list1.length : Int)) rfl rfl) fun a hf => ?_
  refine pl_nil ?_
  refine then_n ?_
  refine wp_seq ?_
  rcases cond_some h33 with ⟨hc35, h33⟩ | ⟨hc35, h33⟩
  ·refine cond_t hf rfl hc35 ?_
   refine wp_skip ?_
   refine then_n ?_
   obtain ⟨x39, h40, h33⟩ := bind_some h33
   refine seq_join (fun a w => ∃ (xs36 : (List Str)) (A37 : Option Addr) (c38 : Nat), xs36 = x39 ∧ Has 24 a [(1, fV6), (5, vL A37 (xs36) c38), (9, vL A2 (list1) c3), (10, vI ((list1.length : Int))), (11, vI (n24))] ∧ Mem C w [.row strRep A37 c38 9 xs36 true] [.dat (sliceRep strRep) list1 [vL A2 list1 c3]]) ?_ ?_
   ·refine wp_block ?_
    refine wp_seq ?_
    refine region_pl ?_
    obtain ⟨e41, hz42, h40⟩ := bind_some h40
    obtain ⟨b46, o47, _, hA48, h43, h44, hr45, hM⟩ := hM.elem (hM.dat (k := 0) rfl) (n := 1) rfl hz42
    obtain ⟨rfl, hv49⟩ := hr45
    refine q_ hf rfl rfl rfl (e_indexAddr (A := A2) (b := b46) (o := o47) (xs := list1) (i := n24) hf hA48 rfl rfl Tryz.underlying30 Tryz.sizeOf9 h43 h44) fun a hf => ?_
    refine q_ hf rfl rfl rfl (e_load1 hf rfl Tryz.isAgg9 (hM.litCell (k := 0) (j := 0) rfl rfl rfl)) fun a hf => ?_
    refine q_ hf rfl rfl rfl (e_assign hf rfl) fun a hf => ?_
    refine pl_nil ?_
    refine then_n ?_
    refine wp_seq ?_
    refine region_pl ?_
    iterate 2 refine q_ hf rfl rfl rfl (e_move hf rfl) fun a hf => ?_
    obtain ⟨y50, hz51, h40⟩ := bind_some h40
    refine pl_l hf rfl rfl rfl (w_callF hf hV10 rfl rfl (hfn11.2 ⟨_, Sh C _ _, none_, hM.sh_lt, none_not, C.G, hM.g_lt, g_none, hM.tabs⟩ hM.sameS hM.s0sh e41 hv49 _ hz51) ?_)
    rintro _ w52 ⟨rfl, hM2⟩
    obtain ⟨hM, hx53, hup54⟩ := hM.back hM2
    dsimp only [List.cons_append, List.nil_append] at hM hup54
    clear hM2
    refine ⟨_, rfl, fun a hf => ?_⟩
    refine pl_nil ?_
    refine then_n ?_
    rcases cond_some h40 with ⟨hc55, h40⟩ | ⟨hc55, h40⟩
    ·refine cond_t hf rfl hc55 ?_
     refine region_pl ?_
     iterate 2 refine q_ hf rfl rfl rfl (e_move hf rfl) fun a hf => ?_
     refine pl_l hf rfl rfl rfl (w_slice hf hM (K := strRep) (xs := ([e41] : (List Str))) (os := [.tmp 19]) Tryz.underlying30 ei_9 rfl rfl rfl rfl rfl ⟨⟨[vS (e41)], rfl, ⟨rfl, hv49⟩⟩, trivial⟩ rfl fun b56 w57 hx58 hM a hf => ?_)
     obtain ⟨xs59, hz60, h40⟩ := bind_some h40
     refine pl_l hf rfl rfl rfl (w_append hf hM Tryz.underlying30 ei_9 rfl rfl rfl (k := 1) rfl (hM.srcRow (k := 0) rfl) hz60 fun A61 c62 w63 hM a hf => ?_)
     dsimp only [List.set] at hM
     refine q_ hf rfl rfl rfl (e_assign hf rfl) fun a hf => ?_
     refine pl_nil ?_
     refine blk_n ?_
     obtain rfl := some_inj h40
     refine then_n ?_
     exact ⟨xs59, A61, c62, rfl, hf.keep ⟨rfl, rfl, rfl, rfl, rfl, trivial⟩, (hM.drop (.cons _ (.cons_cons _ .slnil))).pick [1] rfl⟩
    refine cond_f hf rfl hc55 ?_
    refine wp_skip ?_
    refine blk_n ?_
    obtain rfl := some_inj h40
    refine then_n ?_
    exact ⟨xs21, A22, c23, rfl, hf.keep ⟨rfl, rfl, rfl, rfl, rfl, trivial⟩, hM.pick [1] rfl⟩
   rintro a w68 ⟨xs36, A37, c38, rfl, hf, hM⟩
   try dsimp only at h33
   refine region_pl ?_
   obtain ⟨z69, hz70, h33⟩ := bind_some h33
   refine q_ hf rfl rfl rfl (e_add hf rfl rfl hz70) fun a hf => ?_
   refine q_ hf rfl rfl rfl (e_move hf rfl) fun a hf => ?_
   refine pl_nil ?_
   obtain rfl := some_inj h33
   refine then_n ⟨_, rfl, ?_⟩
   exact ⟨xs36, z69, A37, c38, rfl, hf.keep ⟨rfl, rfl, rfl, rfl, rfl, trivial⟩, hM.pick [0] rfl, (chk_R hz70)⟩
  refine cond_f hf rfl hc35 ?_
  refine wp_exit ?_
  refine then_x ?_
  obtain rfl := some_inj h33
  obtain rfl := hd34 _ rfl
  try dsimp only at h19
  refine then_x ?_
  refine exit_hit ?_
  obtain rfl := some_inj h19
  refine then_n ?_
  exact ⟨xs21, A22, c23, rfl, hf.keep ⟨rfl, trivial⟩, hM.pick [0] rfl⟩
 rintro a w76 ⟨xs15, A16, c17, rfl, hf, hM⟩
 try dsimp only at h
 refine wp_seq ?_
 refine region_pl ?_
 refine q_ hf rfl rfl rfl (e_move hf rfl) fun a hf => ?_
 refine q_ hf rfl rfl rfl (e_assign hf rfl) fun a hf => ?_
 refine pl_nil ?_
 refine then_n ?_
 refine wp_ret ?_
 obtain rfl := some_inj h
 exact leave1 hf rfl rfl ⟨A16, c17, rfl, hM.fin⟩
theorem r_impl_chosen (C : Cx) (a1 : Dawg) (A2 : Option Addr) (c3 : Nat) (hp4 : (sliceRep NodeRep).R C.w0 C.S0 a1.Nodes [vL A2 a1.Nodes c3]) (b5 : Dawg) (A6 : Option Addr) (c7 : Nat) (hp8 : (sliceRep NodeRep).R C.w0 C.S0 b5.Nodes [vL A6 b5.Nodes c7]) (of9 : (Str → Option Bool)) (fI10 : Value) (hI11 : ∃ T v, fI10 = .iface T v) (fk12 : FuncId) (fa13 : List Value) (hV14 : CallsAs Tryz.prog (.func (.method "loop.example/g00911/impl.has") #[fI10] #[]) fk12 fa13 []) (hfn15 : FnOk Tryz.prog C fk12 (FnC_Str_to_Bool fk12 fa13 [] of9)) (r : (List Str)) (h : m_impl_chosen a1 b5 of9 = some r) :
    Calls Tryz.prog 46 #[.agg #[vL A2 (a1.Nodes) c3], .agg #[vL A6 (b5.Nodes) c7], fI10] C.w0 fun e w => ∃ (A_1 : Option Addr), ∃ (c_1 : Nat), e = .returned (vL A_1 (r) c_1) ∧ Mem C w [.row strRep A_1 c_1 9 r true] [] := by
 have hM := Mem.begin C [.dat (sliceRep NodeRep) b5.Nodes [vL A6 b5.Nodes c7], .dat (sliceRep NodeRep) a1.Nodes [vL A2 a1.Nodes c3]] ⟨hp8, hp4, trivial⟩
 refine enter Tryz.func46 rfl Tryz.ntmps46 rfl fun a hf => ?_
 unfold m_impl_chosen at h
 refine wp_seq ?_
 refine region_pl ?_
 refine pl_l hf rfl rfl rfl (w_box hf hM (cs := [vL A2 (a1.Nodes) c3]) rfl rfl fun b16 w17 hx18 hM a hf => ?_)
 refine pl_l hf rfl rfl rfl (w_box hf hM (cs := [vL A6 (b5.Nodes) c7]) rfl rfl fun b20 w21 hx22 hM a hf => ?_)
 refine q_ hf rfl rfl rfl (e_assign hf rfl) fun a hf => ?_
 refine pl_nil ?_
 refine then_n ?_
 refine wp_seq ?_
 obtain ⟨w24, hw⟩ : ∃ x, x = w21.drew := ⟨_, rfl⟩
 refine region_pi (.q 0 (.q 2 (.l 1 (.l 3 (.l 4 (.q 5 (.nil))))))) (Ext w24) rfl (by kernel_rfl) ?_
 have hM := hM.drew
 rw [← hw] at hM ⊢
 clear hw
 refine pi_q hf rfl rfl rfl rfl (Ext.refl _) (e_loadA hf (us := [vL A2 (a1.Nodes) c3]) rfl ⟨Tryz.isAgg26, Tryz.sizeOf26⟩ rfl (hM.boxSub (k := 1) (us := [vL A2 (a1.Nodes) c3]) (o := 0) rfl rfl)) fun a hf => ?_
 refine pi_q hf rfl rfl rfl rfl (Ext.refl _) (e_loadA hf (us := [vL A6 (b5.Nodes) c7]) rfl ⟨Tryz.isAgg26, Tryz.sizeOf26⟩ rfl (hM.boxSub (k := 0) (us := [vL A6 (b5.Nodes) c7]) (o := 0) rfl rfl)) fun a hf => ?_
 refine pi_one ?_
 obtain ⟨y25, hz26, h⟩ := bind_some h
 refine pi_l hf rfl rfl rfl rfl (w_call hf Tryz.call28 rfl (r_impl_Dawg_words ⟨_, Sh C _ _, none_, hM.sh_lt, none_not, C.G, hM.g_lt, g_none, hM.tabs⟩ a1 _ _ (hM.dat (k := 1) rfl) _ hz26) ?_)
 rintro _ w29 ⟨A27, c28, rfl, hM2⟩
 obtain ⟨hM, hx30, hup31⟩ := hM.back hM2
 dsimp only [List.cons_append, List.nil_append] at hM hup31
 clear hM2
 refine ⟨_, rfl, Ext w29, fun _ h => Ext.trans hx30 h, Ext.refl _, fun a hf => ?_⟩
 refine pi_one ?_
 obtain ⟨y32, hz33, h⟩ := bind_some h
 refine pi_l hf rfl rfl rfl rfl (w_call hf Tryz.call28 rfl (r_impl_Dawg_words ⟨_, Sh C _ _, none_, hM.sh_lt, none_not, C.G, hM.g_lt, g_none, hM.tabs⟩ b5 _ _ (hM.dat (k := 0) rfl) _ hz33) ?_)
 rintro _ w36 ⟨A34, c35, rfl, hM2⟩
 obtain ⟨hM, hx37, hup38⟩ := hM.back hM2
 dsimp only [List.cons_append, List.nil_append] at hM hup38
 clear hM2
 refine ⟨_, rfl, Ext w36, fun _ h => Ext.trans hx37 h, Ext.refl _, fun a hf => ?_⟩
 refine pi_one ?_
 have hM := hM.freezeRow (k := 0) rfl rfl
 dsimp only [List.eraseIdx] at hM
 obtain ⟨xs39, hz40, h⟩ := bind_some h
 refine pi_z hf rfl rfl rfl rfl (by kernel_rfl) (w_appendD hf hM Tryz.underlying30 ei_9 rfl rfl rfl (k := 0) rfl (hM.dat (k := 0) rfl) hz40 fun A41 c42 w43 hM a hf => ?_)
 dsimp only [List.set] at hM
 refine pi_q hf rfl rfl rfl rfl (Ext.refl _) (e_assign hf rfl) fun a hf => ?_
 refine pi_nil ?_
 refine then_n ?_
 refine wp_seq ?_
 refine region_pl ?_
 refine q_ hf rfl rfl rfl (e_move hf rfl) fun a hf => ?_
 have hM : Mem C _ ([.row strRep A41 c42 9 xs39 true] ++ [.box b20 [vL A6 (b5.Nodes) c7] 26, .box b16 [vL A2 (a1.Nodes) c3] 26]) _ := hM
 obtain ⟨y46, hz47, h⟩ := bind_some h
 refine pl_l hf rfl rfl rfl (w_call hf Tryz.call32 rfl (r_slices_Sort_string_string ⟨_, Sh C _ _, ownB _, hM.sh_lt, sub_dis, C.G, hM.g_lt, hM.g_own, hM.tabs⟩ xs39 _ _ hM.sub sub_dis _ hz47) ?_)
 rintro _ w49 ⟨rfl, hM2, hl48⟩
 obtain ⟨hM, hup51⟩ := hM.backG hM2
 dsimp only [List.cons_append, List.nil_append] at hM hup51
 clear hM2
 refine ⟨_, rfl, fun a hf => ?_⟩
 have hf := hf.alter (d := 12) (v := vL A41 (y46) c42) rfl (vL_len hl48)
 have hf := hf.alter (d := 7) (v := vL A41 (y46) c42) rfl (vL_len hl48)
 have hf := hf.alter (d := 13) (v := vL A41 (y46) c42) rfl (vL_len hl48)
 refine pl_nil ?_
 refine then_n ?_
 refine wp_seq ?_
 obtain ⟨w52, hw⟩ : ∃ x, x = w49.drew := ⟨_, rfl⟩
 refine region_pi (.q 0 (.q 2 (.q 3 (.q 4 (.l 1 (.l 5 (.q 6 (.nil)))))))) (ExtM [A41.map (·.block)] w52) rfl (by kernel_rfl) ?_
 have hM := hM.drew
 rw [← hw] at hM ⊢
 clear hw
 iterate 2 refine pi_q hf rfl rfl rfl rfl (ExtM.refl _ _) (e_move hf rfl) fun a hf => ?_
 refine pi_q hf rfl rfl rfl rfl (ExtM.refl _ _) (e_nilI hf rfl hI11) fun a hf => ?_
 refine pi_q hf rfl rfl rfl rfl (ExtM.refl _ _) (e_methodVal hf rfl) fun a hf => ?_
 refine pi_one ?_
 have hM : Mem C _ ([.row strRep A41 c42 9 y46 true] ++ [.box b20 [vL A6 (b5.Nodes) c7] 26, .box b16 [vL A2 (a1.Nodes) c3] 26]) _ := hM
 obtain ⟨y53, hz54, h⟩ := bind_some h
 refine pi_l hf rfl rfl rfl rfl (w_call hf Tryz.call73 rfl (r_slices_Compact_string_string ⟨_, Sh C _ _, ownB _, hM.sh_lt, sub_dis, C.G, hM.g_lt, hM.g_own, hM.tabs⟩ y46 _ _ hM.sub sub_dis _ hz54) ?_)
 rintro _ w57 ⟨A55, c56, rfl, hM2⟩
 have hxm60 := ExtM.ofChg (bs := [A41.map (·.block)]) hM2.chg ⟨List.mem_of_getElem? (i := 0) rfl, trivial⟩
 have hsz61 := hM2.chg.size
 obtain ⟨hM, hup59⟩ := hM.backG hM2
 dsimp only [List.cons_append, List.nil_append] at hM hup59
 clear hM2
 refine ⟨_, rfl, Ext w57, fun _ h => ExtM.last hxm60 hsz61 h, Ext.refl _, fun a hf => ?_⟩
 refine pi_one ?_
 obtain ⟨y62, hz63, h⟩ := bind_some h
 refine pi_l hf rfl rfl rfl rfl (w_call hf Tryz.call72 rfl (r_impl_selected_string ⟨_, All C _ _, none_, hM.all_lt, none_not, C.G, hM.g_lt, g_none, hM.tabs⟩ y53 _ _ (hM.lendRow (k := 0) rfl) of9 _ _ _ _ hV14 (hfn15.to hM.sameS (fun b hb => .inl (hM.s0sh b hb))) _ hz63) ?_)
 rintro _ w66 ⟨A64, c65, rfl, hM2⟩
 obtain ⟨hM, hx67⟩ := hM.backAF strRep_flat hM2
 clear hM2
 refine ⟨_, rfl, Ext w66, fun _ h => Ext.trans hx67 h, Ext.refl _, fun a hf => ?_⟩
 refine pi_q hf rfl rfl rfl rfl (Ext.refl _) (e_assign hf rfl) fun a hf => ?_
 refine pi_nil ?_
 refine then_n ?_
 refine wp_ret ?_
 obtain rfl := some_inj h
 have hM := hM.outs (own' := [.row strRep A64 c65 9 y62 true]) 1 rfl
 exact leave1 hf rfl rfl ⟨A64, c65, rfl, hM.fin⟩
theorem r_impl_maker_node (C : Cx) (m1 : maker) (b2 : Nat) (A3 : Option Addr) (c4 : Nat) (b5 : Nat) (hp6 : MapR m1.register) (n7 : Node) (hp8 : n7.Letters.length ≤ maxLen) (A9 : Option Addr) (c10 : Nat) (hp11 : (sliceRep intRep).R C.w0 C.S0 n7.Next [vL A9 n7.Next c10]) (hO : Mem C C.w0 [.box b2 [vL A3 (m1.nodes) c4, vM b5] 100, .row NodeRep A3 c4 79 m1.nodes true, .obj b5 (mapO fS fI m1.register)] []) (hd : ∀ b, C.S0 b → ¬ ownB [.box b2 [vL A3 (m1.nodes) c4, vM b5] 100, .row NodeRep A3 c4 79 m1.nodes true, .obj b5 (mapO fS fI m1.register)] b) (r : (Int × maker)) (h : m_impl_maker_node m1 n7 = some r) :
    Calls Tryz.prog 94 #[vP b2 (0), .agg #[.bool (n7.Final), vS (n7.Letters), vL A9 (n7.Next) c10]] C.w0 fun e w => ∃ (A_1 : Option Addr), ∃ (c_1 : Nat), ∃ (b_1 : Nat), e = .returned (vI (r.1)) ∧ Mem C w [.box b2 [vL A_1 (r.2.nodes) c_1, vM b_1] 100, .row NodeRep A_1 c_1 79 r.2.nodes true, .obj b_1 (mapO fS fI r.2.register)] [] ∧ MapR r.2.register ∧ R64 r.1 := by
 have hM := hO
 have hM := hM.addIn hd (y := .dat (sliceRep intRep) n7.Next [vL A9 n7.Next c10]) hp11
 refine enter Tryz.func94 rfl Tryz.ntmps94 rfl fun a hf => ?_
 unfold m_impl_maker_node at h
 refine wp_seq ?_
 refine region_pl ?_
 refine pl_l hf rfl rfl rfl (w_box hf hM (cs := [.bool (n7.Final), vS (n7.Letters), vL A9 (n7.Next) c10]) rfl rfl fun b12 w13 hx14 hM a hf => ?_)
 refine q_ hf rfl rfl rfl (e_assign hf rfl) fun a hf => ?_
 refine pl_nil ?_
 refine then_n ?_
 refine wp_seq ?_
 refine region_pl ?_
 refine q_ hf rfl rfl rfl (e_loadA hf (us := [.bool (n7.Final), vS (n7.Letters), vL A9 (n7.Next) c10]) rfl ⟨Tryz.isAgg79, Tryz.sizeOf79⟩ rfl (hM.boxSub (k := 0) (us := [.bool (n7.Final), vS (n7.Letters), vL A9 (n7.Next) c10]) (o := 0) rfl rfl)) fun a hf => ?_
 obtain ⟨y16, hz17, h⟩ := bind_some h
 refine pl_l hf rfl rfl rfl (w_call hf Tryz.call49 rfl (r_impl_keyOf ⟨_, Sh C _ _, none_, hM.sh_lt, none_not, C.G, hM.g_lt, g_none, hM.tabs⟩ n7 hp8 _ _ (hM.dat (k := 0) rfl) _ hz17) ?_)
 rintro _ w19 ⟨rfl, hM2, hv18⟩
 obtain ⟨hM, hx20, hup21⟩ := hM.back hM2
 dsimp only [List.cons_append, List.nil_append] at hM hup21
 clear hM2
 refine ⟨_, rfl, fun a hf => ?_⟩
 refine q_ hf rfl rfl rfl (e_assign hf rfl) fun a hf => ?_
 refine pl_nil ?_
 refine then_n ?_
 refine wp_seq ?_
 refine region_pl ?_
 refine q_ hf rfl rfl rfl (e_move hf rfl) fun a hf => ?_
 refine q_ hf rfl rfl rfl (e_nil hf rfl) fun a hf => ?_
 refine q_ hf rfl rfl rfl (e_field hf rfl Tryz.underlying100 rfl Tryz.sizeOf98 (o' := 1) rfl) fun a hf => ?_
 refine q_ hf rfl rfl rfl (e_load1 hf rfl Tryz.isAgg98 (hM.boxCell (k := 1) rfl rfl)) fun a hf => ?_
 refine q_ hf rfl rfl rfl (e_move hf rfl) fun a hf => ?_
 refine q_ hf rfl rfl rfl (e_lookupOk (fk := fS) (fv := fI) hf (keyS Tryz.underlying9) Tryz.underlying98 (k := y16) (z := 0) rfl rfl Tryz.zeroValue2 (hM.ownAt (k := 3) rfl)) fun a hf => ?_
 refine q_ hf rfl rfl rfl (e_move hf rfl) fun a hf => ?_
 iterate 2 refine q_ hf rfl rfl rfl (e_extract hf rfl rfl) fun a hf => ?_
 iterate 2 refine q_ hf rfl rfl rfl (e_assign hf rfl) fun a hf => ?_
 refine pl_nil ?_
 refine then_n ?_
 obtain ⟨x30, h31, h⟩ := bind_some h
 refine seq_join (fun a w => ∃ (mp22 : (List (Str × Int))) (xs25 : (List Node)) (n28 : Int) (b23 : Nat) (A26 : Option Addr) (c27 : Nat), (mp22, xs25, n28) = x30 ∧ Has 43 a [(6, vI (n28))] ∧ Mem C w [.box b12 [.bool (n7.Final), vS (n7.Letters), vL A9 (n7.Next) c10] 79, .box b2 [vL A26 (xs25) c27, vM b23] 100, .row NodeRep A26 c27 79 xs25 true, .obj b23 (mapO fS fI mp22)] [.dat (sliceRep intRep) n7.Next [vL A9 n7.Next c10]] ∧ MapR mp22 ∧ R64 n28) ?_ ?_
 ·refine wp_seq ?_
  refine region_pl ?_
  refine q_ hf rfl rfl rfl (e_move hf rfl) fun a hf => ?_
  refine q_ hf rfl rfl rfl (e_not hf rfl) fun a hf => ?_
  refine pl_nil ?_
  refine then_n ?_
  rcases cond_some h31 with ⟨hc32, h31⟩ | ⟨hc32, h31⟩
  ·refine cond_t hf rfl hc32 ?_
   refine wp_seq ?_
   refine region_pl ?_
   refine q_ hf rfl rfl rfl (e_move hf rfl) fun a hf => ?_
   refine q_ hf rfl rfl rfl (e_nil hf rfl) fun a hf => ?_
   refine q_ hf rfl rfl rfl (e_field hf rfl Tryz.underlying100 rfl Tryz.sizeOf24 (o' := 0) rfl) fun a hf => ?_
   refine q_ hf rfl rfl rfl (e_load1 hf rfl Tryz.isAgg24 (hM.boxCell (k := 1) rfl rfl)) fun a hf => ?_
   have hl33 := row_len (hM.ownAt (k := 2) rfl)
   refine q_ hf rfl rfl rfl (e_lenL hf (x := m1.nodes) rfl Tryz.underlying24) fun a hf => ?_
   refine q_ hf rfl rfl rfl (e_assign hf rfl) fun a hf => ?_
   refine pl_nil ?_
   refine then_n ?_
   refine wp_seq ?_
   obtain ⟨w34, hw⟩ : ∃ x, x = w19.drew := ⟨_, rfl⟩
   refine region_pi (.q 0 (.q 1 (.q 2 (.q 3 (.q 4 (.q 5 (.l 6 (.l 7 (.q 8 (.q 9 (.l 10 (.nil)))))))))))) (ExtM [A3.map (·.block)] w34) rfl (by kernel_rfl) ?_
   have hM := hM.drew
   rw [← hw] at hM ⊢
   clear hw
   iterate 2 refine pi_q hf rfl rfl rfl rfl (ExtM.refl _ _) (e_move hf rfl) fun a hf => ?_
   refine pi_q hf rfl rfl rfl rfl (ExtM.refl _ _) (e_nil hf rfl) fun a hf => ?_
   refine pi_q hf rfl rfl rfl rfl (ExtM.refl _ _) (e_field hf rfl Tryz.underlying100 rfl Tryz.sizeOf24 (o' := 0) rfl) fun a hf => ?_
   refine pi_q hf rfl rfl rfl rfl (ExtM.refl _ _) (e_load1M hf rfl Tryz.isAgg24 (hM.boxCell (k := 1) rfl rfl) (hM.apart (js := [2]) rfl (k := 1) rfl rfl rfl)) fun a hf => ?_
   refine pi_q hf rfl rfl rfl rfl (ExtM.refl _ _) (e_loadAM hf (us := [.bool (n7.Final), vS (n7.Letters), vL A9 (n7.Next) c10]) rfl ⟨Tryz.isAgg79, Tryz.sizeOf79⟩ rfl (hM.boxSub (k := 0) (us := [.bool (n7.Final), vS (n7.Letters), vL A9 (n7.Next) c10]) (o := 0) rfl rfl) (hM.apart (js := [2]) rfl (k := 0) rfl rfl rfl)) fun a hf => ?_
   refine pi_one ?_
   refine pi_l hf rfl rfl rfl rfl (w_slice hf hM (K := NodeRep) (xs := ([n7] : (List Node))) (os := [.tmp 31]) Tryz.underlying24 ei_79 rfl rfl rfl rfl rfl ⟨⟨[.bool (n7.Final), vS (n7.Letters), vL A9 (n7.Next) c10], rfl, (NodeRep_mk (x := n7) hp8 (hM.dat (k := 0) rfl))⟩, trivial⟩ rfl fun b35 w36 hx37 hM => ⟨ExtM [A3.map (·.block)] w36, fun _ h => ExtM.trans hx37 h, ExtM.refl _ _, fun a hf => ?_⟩)
   refine pi_one ?_
   obtain ⟨xs38, hz39, h31⟩ := bind_some h31
   refine pi_l hf rfl rfl rfl rfl (w_appendX hf hM Tryz.underlying24 ei_79 rfl rfl rfl (k := 3) rfl (hM.srcRow (k := 0) rfl) hz39 fun A40 c41 w42 hsz44 hold43 hM => ⟨Ext w42, fun _ h => ExtM.last (ExtM.ofRow (List.mem_of_getElem? (i := 0) rfl) hold43) hsz44 h, Ext.refl _, fun a hf => ?_⟩)
   dsimp only [List.set] at hM
   refine pi_q hf rfl rfl rfl rfl (Ext.refl _) (e_nil hf rfl) fun a hf => ?_
   refine pi_q hf rfl rfl rfl rfl (Ext.refl _) (e_field hf rfl Tryz.underlying100 rfl Tryz.sizeOf24 (o' := 0) rfl) fun a hf => ?_
   refine pi_one ?_
   refine pi_z0 hf rfl rfl rfl (by kernel_rfl) (w_store hf hM (us := [vL A40 (xs38) c41]) (cs' := [vL A40 (xs38) c41, vM b5]) rfl rfl (k := 2) rfl rfl Tryz.sizeOf24 rfl rfl rfl fun w45 hM => ?_)
   dsimp only [List.set] at hM
   refine pi_nil ?_
   refine then_n ?_
   refine region_pl ?_
   refine q_ hf rfl rfl rfl (e_move hf rfl) fun a hf => ?_
   refine q_ hf rfl rfl rfl (e_nil hf rfl) fun a hf => ?_
   refine q_ hf rfl rfl rfl (e_field hf rfl Tryz.underlying100 rfl Tryz.sizeOf98 (o' := 1) rfl) fun a hf => ?_
   refine q_ hf rfl rfl rfl (e_load1 hf rfl Tryz.isAgg98 (hM.boxCell (k := 2) rfl rfl)) fun a hf => ?_
   iterate 2 refine q_ hf rfl rfl rfl (e_move hf rfl) fun a hf => ?_
   refine pl_0 hf rfl rfl (w_mapUpdate (fk := fS) (fv := fI) hf hM (keyS Tryz.underlying9) Tryz.underlying98 (k := y16) (v := (m1.nodes.length : Int)) rfl rfl rfl (n := 4) rfl fun w48 hM => ?_)
   dsimp only [List.set] at hM
   refine pl_nil ?_
   obtain rfl := some_inj h31
   refine then_n ?_
   exact ⟨(putM m1.register y16 (m1.nodes.length : Int)), xs38, (m1.nodes.length : Int), b5, A40, c41, rfl, hf.keep ⟨rfl, trivial⟩, (hM.drop (.cons _ (.cons_cons _ (.cons_cons _ (.cons_cons _ (.cons_cons _ .slnil)))))).pick [0] rfl, (hp6.put (R64_len hl33)), (R64_len hl33)⟩
  refine cond_f hf rfl hc32 ?_
  refine wp_skip ?_
  obtain rfl := some_inj h31
  refine then_n ?_
  exact ⟨m1.register, m1.nodes, ((getM m1.register y16).getD 0), b5, A3, c4, rfl, hf.keep ⟨rfl, trivial⟩, hM.pick [0] rfl, hp6, (hp6.get _)⟩
 rintro a w51 ⟨mp22, xs25, n28, b23, A26, c27, rfl, hf, hM, hv24, hv29⟩
 try dsimp only at h
 refine wp_seq ?_
 refine region_pl ?_
 refine q_ hf rfl rfl rfl (e_move hf rfl) fun a hf => ?_
 refine q_ hf rfl rfl rfl (e_assign hf rfl) fun a hf => ?_
 refine pl_nil ?_
 refine then_n ?_
 refine wp_ret ?_
 obtain rfl := some_inj h
 have hM := hM.front (k := 3) rfl
 dsimp only [List.eraseIdx] at hM
 have hM := hM.front (k := 3) rfl
 dsimp only [List.eraseIdx] at hM
 have hM := hM.front (k := 3) rfl
 dsimp only [List.eraseIdx] at hM
 have hM := hM.outs (own' := [.box b2 [vL A26 (xs25) c27, vM b23] 100, .row NodeRep A26 c27 79 xs25 true, .obj b23 (mapO fS fI mp22)]) 3 rfl
 exact leave1 hf rfl rfl ⟨A26, c27, b23, rfl, hM.fin, hv24, hv29⟩
def Ct_impl_maker_build (rc : maker → (List Str) → Int → Option (Int × maker)) : Prop := ∀ (C : Cx) (m1 : maker) (b2 : Nat) (A3 : Option Addr) (c4 : Nat) (b5 : Nat) (hp6 : MapR m1.register) (list7 : (List Str)) (A8 : Option Addr) (c9 : Nat) (hp10 : (sliceRep strRep).R C.w0 C.S0 list7 [vL A8 list7 c9]) (depth11 : Int) (hp12 : R64 depth11) (hO : Mem C C.w0 [.box b2 [vL A3 (m1.nodes) c4, vM b5] 100, .row NodeRep A3 c4 79 m1.nodes true, .obj b5 (mapO fS fI m1.register)] []) (hd : ∀ b, C.S0 b → ¬ ownB [.box b2 [vL A3 (m1.nodes) c4, vM b5] 100, .row NodeRep A3 c4 79 m1.nodes true, .obj b5 (mapO fS fI m1.register)] b) (r : (Int × maker)) (h : rc m1 list7 depth11 = some r),
    Calls Tryz.prog 58 #[vP b2 (0), vL A8 (list7) c9, vI (depth11)] C.w0 fun e w => ∃ (A_1 : Option Addr), ∃ (c_1 : Nat), ∃ (b_1 : Nat), e = .returned (vI (r.1)) ∧ Mem C w [.box b2 [vL A_1 (r.2.nodes) c_1, vM b_1] 100, .row NodeRep A_1 c_1 79 r.2.nodes true, .obj b_1 (mapO fS fI r.2.register)] [] ∧ MapR r.2.register ∧ R64 r.1
theorem r_impl_maker_build_b (rc : maker → (List Str) → Int → Option (Int × maker)) (ih : Ct_impl_maker_build rc) : Ct_impl_maker_build (m_impl_maker_build_b rc) := by
 intro C m1 b2 A3 c4 b5 hp6 list7 A8 c9 hp10 depth11 hp12 hO hd r h
 have hM := hO
 have hM := hM.addIn hd (y := .dat (sliceRep strRep) list7 [vL A8 list7 c9]) hp10
 refine enter Tryz.func58 rfl Tryz.ntmps58 rfl fun a hf => ?_
 unfold m_impl_maker_build_b at h
 refine wp_seq ?_
 refine region_pl ?_
 refine q_ hf rfl rfl rfl (e_assign hf rfl) fun a hf => ?_
 refine pl_nil ?_
 refine then_n ?_
 refine wp_seq ?_
 refine region_pl ?_
 refine q_ hf rfl rfl rfl (e_build hf Tryz.zeroValue79 Tryz.underlying79 (bp_79 _ Tryz.underlying79.symm) rfl (cs := #[.bool (false), vS (([] : Str)), vL none (([] : (List Int))) 0]) (by kernel_rfl)) fun a hf => ?_
 refine pl_l hf rfl rfl rfl (w_alloc hM (cs := [.bool (false), vS (([] : Str)), vL none (([] : (List Int))) 0]) Tryz.zeroValue79 rfl fun b13 w14 hx15 hM a hf => ?_)
 refine pl_0 hf rfl rfl (w_store hf hM (us := [.bool (false), vS (([] : Str)), vL none (([] : (List Int))) 0]) (cs' := [.bool (false), vS (([] : Str)), vL none (([] : (List Int))) 0]) rfl rfl (k := 0) rfl rfl Tryz.sizeOf79 rfl rfl rfl fun w17 hM => ?_)
 dsimp only [List.set] at hM
 refine pl_nil ?_
 refine then_n ?_
 obtain ⟨x25, h26, h⟩ := bind_some h
 refine seq_join (fun a w => ∃ (t20 : Bool) (l22 : (List Str)) (A23 : Option Addr) (c24 : Nat), (t20, l22) = x25 ∧ Has 74 a [(0, vP b2 (0)), (1, vL A23 (l22) c24), (2, vI (depth11)), (7, vP b13 (0))] ∧ Mem C w [.box b13 [.bool (t20), vS (([] : Str)), vL none (([] : (List Int))) 0] 79, .box b2 [vL A3 (m1.nodes) c4, vM b5] 100, .row NodeRep A3 c4 79 m1.nodes true, .obj b5 (mapO fS fI m1.register)] [.dat (sliceRep strRep) l22 [vL A23 l22 c24], .dat (sliceRep strRep) list7 [vL A8 list7 c9]]) ?_ ?_
 ·obtain ⟨x29, h30, h26⟩ := bind_some h26
  refine seq_join (fun a w => ∃ (t27 : Bool), t27 = x29 ∧ Has 74 a [(0, vP b2 (0)), (1, vL A8 (list7) c9), (2, vI (depth11)), (7, vP b13 (0)), (21, .bool (t27))] ∧ Mem C w [.box b13 [.bool (false), vS (([] : Str)), vL none (([] : (List Int))) 0] 79, .box b2 [vL A3 (m1.nodes) c4, vM b5] 100, .row NodeRep A3 c4 79 m1.nodes true, .obj b5 (mapO fS fI m1.register)] [.dat (sliceRep strRep) list7 [vL A8 list7 c9]]) ?_ ?_
  ·refine region_pl ?_
   refine q_ hf rfl rfl rfl (e_move hf rfl) fun a hf => ?_
   have hl31 := slice_len (hM.dat (k := 0) rfl)
   refine q_ hf rfl rfl rfl (e_lenL hf (x := list7) rfl Tryz.underlying30) fun a hf => ?_
   refine q_ hf rfl rfl rfl (e_gt hf (x := (list7.length : Int)) (y := 0) rfl rfl) fun a hf => ?_
   refine q_ hf rfl rfl rfl (e_move hf rfl) fun a hf => ?_
   rcases cond_some h30 with ⟨hc32, h30⟩ | ⟨hc32, h30⟩
   ·refine gq (wanted_t hf rfl rfl rfl rfl hc32) hf rfl rfl (e_move hf rfl) fun a hf => ?_
    obtain ⟨e33, hz34, h30⟩ := bind_some h30
    obtain ⟨b38, o39, _, hA40, h35, h36, hr37, hM⟩ := hM.elem (hM.dat (k := 0) rfl) (n := 1) rfl hz34
    obtain ⟨rfl, hv41⟩ := hr37
    refine gq (wanted_t hf rfl rfl rfl rfl hc32) hf rfl rfl (e_indexAddr (A := A8) (b := b38) (o := o39) (xs := list7) (i := 0) hf hA40 rfl rfl Tryz.underlying30 Tryz.sizeOf9 h35 h36) fun a hf => ?_
    refine gq (wanted_t hf rfl rfl rfl rfl hc32) hf rfl rfl (e_load1 hf rfl Tryz.isAgg9 (hM.litCell (k := 0) (j := 0) rfl rfl rfl)) fun a hf => ?_
    refine gq (wanted_t hf rfl rfl rfl rfl hc32) hf rfl rfl (e_lenS hf (x := e33) rfl Tryz.underlying9) fun a hf => ?_
    refine gq (wanted_t hf rfl rfl rfl rfl hc32) hf rfl rfl (e_move hf rfl) fun a hf => ?_
    refine gq (wanted_t hf rfl rfl rfl rfl hc32) hf rfl rfl (e_eq hf (x := (e33.length : Int)) (y := depth11) rfl rfl) fun a hf => ?_
    refine q_ hf rfl rfl rfl (e_pick_t hf rfl hc32 rfl) fun a hf => ?_
    refine pl_nil ?_
    obtain rfl := some_inj h30
    refine then_n ?_
    exact ⟨((e33.length : Int) == depth11), rfl, hf.keep ⟨rfl, rfl, rfl, rfl, rfl, trivial⟩, hM.pick [1] rfl⟩
   iterate 6 refine pl_gs (wanted_f hf rfl rfl rfl rfl hc32) hf rfl rfl fun a hf => ?_
   refine q_ hf rfl rfl rfl (e_pick_f hf rfl hc32 rfl) fun a hf => ?_
   refine pl_nil ?_
   obtain rfl := some_inj h30
   refine then_n ?_
   exact ⟨false, rfl, hf.keep ⟨rfl, rfl, rfl, rfl, rfl, trivial⟩, hM.pick [0] rfl⟩
  rintro a w44 ⟨t27, rfl, hf, hM⟩
  try dsimp only at h26
  rcases cond_some h26 with ⟨hc45, h26⟩ | ⟨hc45, h26⟩
  ·refine cond_t hf rfl hc45 ?_
   refine wp_seq ?_
   refine region_pl ?_
   refine q_ hf rfl rfl rfl (e_field hf rfl Tryz.underlying79 rfl Tryz.sizeOf4 (o' := 0) rfl) fun a hf => ?_
   refine pl_0 hf rfl rfl (w_store hf hM (us := [.bool (true)]) (cs' := [.bool (true), vS (([] : Str)), vL none (([] : (List Int))) 0]) rfl rfl (k := 0) rfl rfl Tryz.sizeOf4 rfl rfl rfl fun w46 hM => ?_)
   dsimp only [List.set] at hM
   refine pl_nil ?_
   refine then_n ?_
   refine region_pl ?_
   refine q_ hf rfl rfl rfl (e_move hf rfl) fun a hf => ?_
   obtain ⟨l49, hz50, h26⟩ := bind_some h26
   obtain ⟨A51, hd52, hA53⟩ := sub_rep (hM.dat (k := 0) rfl) hz50
   have hM := hM.add (y := .dat (sliceRep strRep) l49 [vL A51 l49 (c9 - (1 : Int).toNat)]) hd52
   refine q_ hf rfl rfl rfl (e_subLl hf (xs := list7) rfl rfl Tryz.underlying30 Tryz.sizeOf9 (slice_cap (hM.dat (k := 1) rfl)) hz50 hA53) fun a hf => ?_
   refine q_ hf rfl rfl rfl (e_assign hf rfl) fun a hf => ?_
   refine pl_nil ?_
   obtain rfl := some_inj h26
   refine then_n ?_
   exact ⟨true, l49, A51, (c9 - (1 : Int).toNat), rfl, hf.keep ⟨rfl, rfl, rfl, rfl, trivial⟩, hM.pick [0, 1] rfl⟩
  refine cond_f hf rfl hc45 ?_
  refine wp_skip ?_
  obtain rfl := some_inj h26
  refine then_n ?_
  exact ⟨false, list7, A8, c9, rfl, hf.keep ⟨rfl, rfl, rfl, rfl, trivial⟩, hM.pick [0, 0] rfl⟩
 rintro a w56 ⟨t20, l22, A23, c24, rfl, hf, hM⟩
 try dsimp only at h
 obtain ⟨x68, h69, h⟩ := bind_some h
 refine seq_join (fun a w => ∃ (s57 : Str) (xs59 : (List Int)) (mp62 : (List (Str × Int))) (xs65 : (List Node)) (A60 : Option Addr) (c61 : Nat) (b63 : Nat) (A66 : Option Addr) (c67 : Nat), (s57, xs59, mp62, xs65) = x68 ∧ Has 74 a [(0, vP b2 (0)), (7, vP b13 (0))] ∧ Mem C w [.row intRep A60 c61 2 xs59 true, .box b13 [.bool (t20), vS (s57), vL A60 (xs59) c61] 79, .box b2 [vL A66 (xs65) c67, vM b63] 100, .row NodeRep A66 c67 79 xs65 true, .obj b63 (mapO fS fI mp62)] [.dat (sliceRep strRep) l22 [vL A23 l22 c24], .dat (sliceRep strRep) list7 [vL A8 list7 c9]] ∧ s57.length ≤ maxLen ∧ MapR mp62) ?_ ?_
 ·refine wp_block ?_
  have hM := hM.nilRow intRep 2
  obtain ⟨x96, h97, h69⟩ := bind_some h69
  refine wp_loopM h97 (fun s a w => ∃ (s70 : Str) (mp72 : (List (Str × Int))) (xs75 : (List Node)) (xs78 : (List Int)) (l81 : (List Str)) (b73 : Nat) (A76 : Option Addr) (c77 : Nat) (A79 : Option Addr) (c80 : Nat) (A82 : Option Addr) (c83 : Nat), (s70, mp72, xs75, xs78, l81) = s ∧ Has 74 a [(0, vP b2 (0)), (1, vL A82 (l81) c83), (2, vI (depth11)), (7, vP b13 (0))] ∧ Mem C w [.row intRep A79 c80 2 xs78 true, .box b13 [.bool (t20), vS (s70), vL A79 (xs78) c80] 79, .box b2 [vL A76 (xs75) c77, vM b73] 100, .row NodeRep A76 c77 79 xs75 true, .obj b73 (mapO fS fI mp72)] [.dat (sliceRep strRep) l81 [vL A82 l81 c83], .dat (sliceRep strRep) l22 [vL A23 l22 c24], .dat (sliceRep strRep) list7 [vL A8 list7 c9]] ∧ s70.length ≤ maxLen ∧ MapR mp72) ?_ ?_
  ·exact ⟨([] : Str), m1.register, m1.nodes, ([] : (List Int)), l22, b5, A3, c4, none, 0, A23, c24, rfl, hf.keep ⟨rfl, rfl, rfl, rfl, trivial⟩, hM.pick [0, 0, 1] rfl, (lit_len rfl), hp6⟩
  rintro s o98 a w84 ⟨s70, mp72, xs75, xs78, l81, b73, A76, c77, A79, c80, A82, c83, rfl, hf, hM, hv71, hv74⟩ h99 hd100
  replace h99 : m_impl_maker_build_l1 depth11 rc s70 mp72 xs75 xs78 l81 = some o98 := h99
  unfold m_impl_maker_build_l1 at h99
  iterate 2 refine wp_seq ?_
  refine region_pl ?_
  refine q_ hf rfl rfl rfl (e_move hf rfl) fun a hf => ?_
  have hl101 := slice_len (hM.dat (k := 0) rfl)
  refine q_ hf rfl rfl rfl (e_lenL hf (x := l81) rfl Tryz.underlying30) fun a hf => ?_
  refine q_ hf rfl rfl rfl (e_gt hf (x := (l81.length : Int)) (y := 0) rfl rfl) fun a hf => ?_
  refine pl_nil ?_
  refine then_n ?_
  rcases cond_some h99 with ⟨hc102, h99⟩ | ⟨hc102, h99⟩
  ·refine cond_t hf rfl hc102 ?_
   refine wp_skip ?_
   refine then_n ?_
   refine wp_block ?_
   refine wp_seq ?_
   refine region_pl ?_
   refine q_ hf rfl rfl rfl (e_move hf rfl) fun a hf => ?_
   obtain ⟨e103, hz104, h99⟩ := bind_some h99
   obtain ⟨b108, o109, _, hA110, h105, h106, hr107, hM⟩ := hM.elem (hM.dat (k := 0) rfl) (n := 1) rfl hz104
   obtain ⟨rfl, hv111⟩ := hr107
   refine q_ hf rfl rfl rfl (e_indexAddr (A := A82) (b := b108) (o := o109) (xs := l81) (i := 0) hf hA110 rfl rfl Tryz.underlying30 Tryz.sizeOf9 h105 h106) fun a hf => ?_
   refine q_ hf rfl rfl rfl (e_load1 hf rfl Tryz.isAgg9 (hM.litCell (k := 0) (j := 0) rfl rfl rfl)) fun a hf => ?_
   refine q_ hf rfl rfl rfl (e_move hf rfl) fun a hf => ?_
   obtain ⟨c112, hz113, h99⟩ := bind_some h99
   refine q_ hf rfl rfl rfl (e_indexS hf (x := e103) rfl rfl Tryz.underlying9 hz113) fun a hf => ?_
   iterate 2 refine q_ hf rfl rfl rfl (e_assign hf rfl) fun a hf => ?_
   refine pl_nil ?_
   refine then_n ?_
   obtain ⟨x116, h117, h99⟩ := bind_some h99
   refine seq_join (fun a w => ∃ (n114 : Int), n114 = x116 ∧ Has 74 a [(0, vP b2 (0)), (1, vL A82 (l81) c83), (2, vI (depth11)), (7, vP b13 (0)), (8, vB (c112)), (9, vI (n114))] ∧ Mem C w [.row intRep A79 c80 2 xs78 true, .box b13 [.bool (t20), vS (s70), vL A79 (xs78) c80] 79, .box b2 [vL A76 (xs75) c77, vM b73] 100, .row NodeRep A76 c77 79 xs75 true, .obj b73 (mapO fS fI mp72)] [.lit b108 (o109 + (0 : Int).toNat * 1) [vS (e103)], .dat (sliceRep strRep) l81 [vL A82 l81 c83], .dat (sliceRep strRep) l22 [vL A23 l22 c24], .dat (sliceRep strRep) list7 [vL A8 list7 c9]] ∧ R64 n114) ?_ ?_
   ·refine wp_block ?_
    obtain ⟨x123, h124, h117⟩ := bind_some h117
    refine wp_loopM h124 (fun s a w => ∃ (n118 : Int), n118 = s ∧ Has 74 a [(0, vP b2 (0)), (1, vL A82 (l81) c83), (2, vI (depth11)), (7, vP b13 (0)), (8, vB (c112)), (9, vI (n118))] ∧ Mem C w [.row intRep A79 c80 2 xs78 true, .box b13 [.bool (t20), vS (s70), vL A79 (xs78) c80] 79, .box b2 [vL A76 (xs75) c77, vM b73] 100, .row NodeRep A76 c77 79 xs75 true, .obj b73 (mapO fS fI mp72)] [.lit b108 (o109 + (0 : Int).toNat * 1) [vS (e103)], .dat (sliceRep strRep) l81 [vL A82 l81 c83], .dat (sliceRep strRep) l22 [vL A23 l22 c24], .dat (sliceRep strRep) list7 [vL A8 list7 c9]] ∧ R64 n118) ?_ ?_
    ·exact ⟨1, rfl, hf.keep ⟨rfl, rfl, rfl, rfl, rfl, rfl, trivial⟩, hM.pick [0, 1, 2, 3] rfl, (R64_lit rfl)⟩
    rintro s o125 a w120 ⟨n118, rfl, hf, hM, hv119⟩ h126 hd127
    replace h126 : m_impl_maker_build_l2 l81 depth11 c112 n118 = some o125 := h126
    unfold m_impl_maker_build_l2 at h126
    refine wp_seq ?_
    obtain ⟨x130, h131, h126⟩ := bind_some h126
    refine seq_join (fun a w => ∃ (t128 : Bool), t128 = x130 ∧ Has 74 a [(0, vP b2 (0)), (1, vL A82 (l81) c83), (2, vI (depth11)), (7, vP b13 (0)), (8, vB (c112)), (9, vI (n118)), (46, .bool (t128))] ∧ Mem C w [.row intRep A79 c80 2 xs78 true, .box b13 [.bool (t20), vS (s70), vL A79 (xs78) c80] 79, .box b2 [vL A76 (xs75) c77, vM b73] 100, .row NodeRep A76 c77 79 xs75 true, .obj b73 (mapO fS fI mp72)] [.lit b108 (o109 + (0 : Int).toNat * 1) [vS (e103)], .dat (sliceRep strRep) l81 [vL A82 l81 c83], .dat (sliceRep strRep) l22 [vL A23 l22 c24], .dat (sliceRep strRep) list7 [vL A8 list7 c9]]) ?_ ?_
    ·refine region_pl ?_
     iterate 2 refine q_ hf rfl rfl rfl (e_move hf rfl) fun a hf => ?_
     have hl132 := slice_len (hM.dat (k := 1) rfl)
     refine q_ hf rfl rfl rfl (e_lenL hf (x := l81) rfl Tryz.underlying30) fun a hf => ?_
     refine q_ hf rfl rfl rfl (e_lt hf (x := n118) (y := (l81.length : Int)) rfl rfl) fun a hf => ?_
     refine q_ hf rfl rfl rfl (e_move hf rfl) fun a hf => ?_
     rcases cond_some h131 with ⟨hc133, h131⟩ | ⟨hc133, h131⟩
     ·iterate 2 refine gq (wanted_t hf rfl rfl rfl rfl hc133) hf rfl rfl (e_move hf rfl) fun a hf => ?_
      obtain ⟨e134, hz135, h131⟩ := bind_some h131
      obtain ⟨b139, o140, _, hA141, h136, h137, hr138, hM⟩ := hM.elem (hM.dat (k := 1) rfl) (n := 1) rfl hz135
      obtain ⟨rfl, hv142⟩ := hr138
      refine gq (wanted_t hf rfl rfl rfl rfl hc133) hf rfl rfl (e_indexAddr (A := A82) (b := b139) (o := o140) (xs := l81) (i := n118) hf hA141 rfl rfl Tryz.underlying30 Tryz.sizeOf9 h136 h137) fun a hf => ?_
      refine gq (wanted_t hf rfl rfl rfl rfl hc133) hf rfl rfl (e_load1 hf rfl Tryz.isAgg9 (hM.litCell (k := 0) (j := 0) rfl rfl rfl)) fun a hf => ?_
      refine gq (wanted_t hf rfl rfl rfl rfl hc133) hf rfl rfl (e_move hf rfl) fun a hf => ?_
      obtain ⟨c143, hz144, h131⟩ := bind_some h131
      refine gq (wanted_t hf rfl rfl rfl rfl hc133) hf rfl rfl (e_indexS hf (x := e134) rfl rfl Tryz.underlying9 hz144) fun a hf => ?_
      refine gq (wanted_t hf rfl rfl rfl rfl hc133) hf rfl rfl (e_move hf rfl) fun a hf => ?_
      refine gq (wanted_t hf rfl rfl rfl rfl hc133) hf rfl rfl (e_eqB hf (x := c143) (y := c112) rfl rfl) fun a hf => ?_
      refine q_ hf rfl rfl rfl (e_pick_t hf rfl hc133 rfl) fun a hf => ?_
      refine pl_nil ?_
      obtain rfl := some_inj h131
      refine then_n ?_
      exact ⟨(c143 == c112), rfl, hf.keep ⟨rfl, rfl, rfl, rfl, rfl, rfl, rfl, trivial⟩, hM.pick [1, 2, 3, 4] rfl⟩
     iterate 8 refine pl_gs (wanted_f hf rfl rfl rfl rfl hc133) hf rfl rfl fun a hf => ?_
     refine q_ hf rfl rfl rfl (e_pick_f hf rfl hc133 rfl) fun a hf => ?_
     refine pl_nil ?_
     obtain rfl := some_inj h131
     refine then_n ?_
     exact ⟨false, rfl, hf.keep ⟨rfl, rfl, rfl, rfl, rfl, rfl, rfl, trivial⟩, hM.pick [0, 1, 2, 3] rfl⟩
    rintro a w147 ⟨t128, rfl, hf, hM⟩
    try dsimp only at h126
    rcases cond_some h126 with ⟨hc148, h126⟩ | ⟨hc148, h126⟩
    ·refine cond_t hf rfl hc148 ?_
     refine wp_skip ?_
     refine then_n ?_
     refine wp_block ?_
     refine region_pl ?_
     refine q_ hf rfl rfl rfl (e_move hf rfl) fun a hf => ?_
     obtain ⟨z149, hz150, h126⟩ := bind_some h126
     refine q_ hf rfl rfl rfl (e_add hf rfl rfl hz150) fun a hf => ?_
     refine q_ hf rfl rfl rfl (e_assign hf rfl) fun a hf => ?_
     refine pl_nil ?_
     refine blk_n ?_
     obtain rfl := some_inj h126
     refine then_n ⟨_, rfl, ?_⟩
     exact ⟨z149, rfl, hf.keep ⟨rfl, rfl, rfl, rfl, rfl, rfl, trivial⟩, hM.pick [0, 1, 2, 3] rfl, (chk_R hz150)⟩
    refine cond_f hf rfl hc148 ?_
    refine wp_exit ?_
    refine then_x ?_
    obtain rfl := some_inj h126
    obtain rfl := hd127 _ rfl
    try dsimp only at h117
    refine then_x ?_
    refine exit_hit ?_
    obtain rfl := some_inj h117
    refine then_n ?_
    exact ⟨n118, rfl, hf.keep ⟨rfl, rfl, rfl, rfl, rfl, rfl, trivial⟩, hM.pick [0, 1, 2, 3] rfl, hv119⟩
   rintro a w156 ⟨n114, rfl, hf, hM, hv115⟩
   try dsimp only at h99
   refine wp_seq ?_
   refine region_pl ?_
   refine q_ hf rfl rfl rfl (e_field hf rfl Tryz.underlying79 rfl Tryz.sizeOf9 (o' := 1) rfl) fun a hf => ?_
   refine q_ hf rfl rfl rfl (e_load1 hf rfl Tryz.isAgg9 (hM.boxCell (k := 1) rfl rfl)) fun a hf => ?_
   refine q_ hf rfl rfl rfl (e_move hf rfl) fun a hf => ?_
   refine q_ hf rfl rfl rfl (e_convBR hf (x := c112) rfl Tryz.underlying5 Tryz.underlying21) fun a hf => ?_
   obtain ⟨s157, hz158, h99⟩ := bind_some h99
   refine q_ hf rfl rfl rfl (e_convRS hf rfl Tryz.underlying21 Tryz.underlying9 hz158) fun a hf => ?_
   obtain ⟨s159, hz160, h99⟩ := bind_some h99
   refine q_ hf rfl rfl rfl (e_cat hf (x := s70) (y := s157) rfl rfl hz160) fun a hf => ?_
   refine q_ hf rfl rfl rfl (e_field hf rfl Tryz.underlying79 rfl Tryz.sizeOf9 (o' := 1) rfl) fun a hf => ?_
   refine pl_0 hf rfl rfl (w_store hf hM (us := [vS (s159)]) (cs' := [.bool (t20), vS (s159), vL A79 (xs78) c80]) rfl rfl (k := 1) rfl rfl Tryz.sizeOf9 rfl rfl rfl fun w161 hM => ?_)
   dsimp only [List.set] at hM
   refine pl_nil ?_
   refine then_n ?_
   refine wp_seq ?_
   obtain ⟨w164, hw⟩ : ∃ x, x = w161.drew := ⟨_, rfl⟩
   refine region_pi (.q 0 (.q 1 (.q 2 (.q 3 (.q 4 (.q 5 (.q 6 (.q 7 (.l 8 (.l 9 (.l 10 (.q 11 (.l 12 (.nil)))))))))))))) (ExtM [some b2, A76.map (·.block), some b73] w164) rfl (by kernel_rfl) ?_
   have hM := hM.drew
   rw [← hw] at hM ⊢
   clear hw
   refine pi_q hf rfl rfl rfl rfl (ExtM.refl _ _) (e_field hf rfl Tryz.underlying79 rfl Tryz.sizeOf77 (o' := 2) rfl) fun a hf => ?_
   refine pi_q hf rfl rfl rfl rfl (ExtM.refl _ _) (e_load1M hf rfl Tryz.isAgg77 (hM.boxCell (k := 1) rfl rfl) (hM.apart (js := [2, 3, 4]) rfl (k := 1) rfl rfl rfl)) fun a hf => ?_
   iterate 3 refine pi_q hf rfl rfl rfl rfl (ExtM.refl _ _) (e_move hf rfl) fun a hf => ?_
   obtain ⟨l165, hz166, h99⟩ := bind_some h99
   obtain ⟨A167, hd168, hA169⟩ := sub_rep (hM.dat (k := 1) rfl) hz166
   have hM := hM.add (y := .dat (sliceRep strRep) l165 [vL A167 l165 (c83 - (0 : Int).toNat)]) hd168
   refine pi_q hf rfl rfl rfl rfl (ExtM.refl _ _) (e_subLh hf (xs := l81) rfl rfl Tryz.underlying30 Tryz.sizeOf9 (slice_cap (hM.dat (k := 2) rfl)) hz166 hA169) fun a hf => ?_
   refine pi_q hf rfl rfl rfl rfl (ExtM.refl _ _) (e_move hf rfl) fun a hf => ?_
   obtain ⟨z170, hz171, h99⟩ := bind_some h99
   refine pi_q hf rfl rfl rfl rfl (ExtM.refl _ _) (e_add hf rfl rfl hz171) fun a hf => ?_
   refine pi_one ?_
   have hM := hM.front (k := 4) rfl
   dsimp only [List.eraseIdx] at hM
   have hM := hM.front (k := 4) rfl
   dsimp only [List.eraseIdx] at hM
   have hM := hM.front (k := 4) rfl
   dsimp only [List.eraseIdx] at hM
   have hM : Mem C _ ([.box b2 [vL A76 (xs75) c77, vM b73] 100, .row NodeRep A76 c77 79 xs75 true, .obj b73 (mapO fS fI mp72)] ++ [.row intRep A79 c80 2 xs78 true, .box b13 [.bool (t20), vS (s159), vL A79 (xs78) c80] 79]) _ := hM
   obtain ⟨y172, hz173, h99⟩ := bind_some h99
   refine pi_l hf rfl rfl rfl rfl (w_call hf Tryz.call58 rfl (ih ⟨_, Sh C _ _, ownB _, hM.sh_lt, sub_dis, C.G, hM.g_lt, hM.g_own, hM.tabs⟩ (⟨xs75, mp72⟩ : maker) _ _ _ _ hv74 l165 _ _ (hM.dat (k := 0) rfl) z170 (chk_R hz171) hM.sub sub_dis _ hz173) ?_)
   rintro _ w179 ⟨A174, c175, b176, rfl, hM2, hv177, hv178⟩
   have hxm182 := ExtM.ofChg (bs := [some b2, A76.map (·.block), some b73]) hM2.chg ⟨List.mem_of_getElem? (i := 0) rfl, List.mem_of_getElem? (i := 1) rfl, List.mem_of_getElem? (i := 2) rfl, trivial⟩
   have hsz183 := hM2.chg.size
   obtain ⟨hM, hup181⟩ := hM.backG hM2
   dsimp only [List.cons_append, List.nil_append] at hM hup181
   clear hM2
   refine ⟨_, rfl, Ext w179, fun _ h => ExtM.last hxm182 hsz183 h, Ext.refl _, fun a hf => ?_⟩
   refine pi_one ?_
   refine pi_l hf rfl rfl rfl rfl (w_slice hf hM (K := intRep) (xs := ([y172.1] : (List Int))) (os := [.tmp 64]) Tryz.underlying77 ei_2 rfl rfl rfl rfl rfl ⟨⟨[vI (y172.1)], rfl, ⟨rfl, hv178⟩⟩, trivial⟩ rfl fun b184 w185 hx186 hM => ⟨Ext w185, fun _ h => Ext.trans hx186 h, Ext.refl _, fun a hf => ?_⟩)
   refine pi_one ?_
   obtain ⟨xs187, hz188, h99⟩ := bind_some h99
   refine pi_z hf rfl rfl rfl rfl (by kernel_rfl) (w_append hf hM Tryz.underlying77 ei_2 rfl rfl rfl (k := 4) rfl (hM.srcRow (k := 0) rfl) hz188 fun A189 c190 w191 hM a hf => ?_)
   dsimp only [List.set] at hM
   refine pi_q hf rfl rfl rfl rfl (Ext.refl _) (e_field hf rfl Tryz.underlying79 rfl Tryz.sizeOf77 (o' := 2) rfl) fun a hf => ?_
   refine pi_one ?_
   refine pi_z0 hf rfl rfl rfl (by kernel_rfl) (w_store hf hM (us := [vL A189 (xs187) c190]) (cs' := [.bool (t20), vS (s159), vL A189 (xs187) c190]) rfl rfl (k := 5) rfl rfl Tryz.sizeOf77 rfl rfl rfl fun w194 hM => ?_)
   dsimp only [List.set] at hM
   refine pi_nil ?_
   refine then_n ?_
   refine region_pl ?_
   iterate 2 refine q_ hf rfl rfl rfl (e_move hf rfl) fun a hf => ?_
   obtain ⟨l197, hz198, h99⟩ := bind_some h99
   obtain ⟨A199, hd200, hA201⟩ := sub_rep (hM.dat (k := 2) rfl) hz198
   have hM := hM.add (y := .dat (sliceRep strRep) l197 [vL A199 l197 (c83 - (n114 : Int).toNat)]) hd200
   refine q_ hf rfl rfl rfl (e_subLl hf (xs := l81) rfl rfl Tryz.underlying30 Tryz.sizeOf9 (slice_cap (hM.dat (k := 3) rfl)) hz198 hA201) fun a hf => ?_
   refine q_ hf rfl rfl rfl (e_assign hf rfl) fun a hf => ?_
   refine pl_nil ?_
   refine blk_n ?_
   obtain rfl := some_inj h99
   refine then_n ⟨_, rfl, ?_⟩
   have hM := hM.front (k := 3) rfl
   dsimp only [List.eraseIdx] at hM
   have hM := hM.front (k := 3) rfl
   dsimp only [List.eraseIdx] at hM
   have hM := hM.front (k := 3) rfl
   dsimp only [List.eraseIdx] at hM
   have hM := hM.front (k := 5) rfl
   dsimp only [List.eraseIdx] at hM
   have hM := hM.front (k := 5) rfl
   dsimp only [List.eraseIdx] at hM
   exact ⟨s159, y172.2.register, y172.2.nodes, xs187, l197, b176, A174, c175, A189, c190, A199, (c83 - (n114 : Int).toNat), rfl, hf.keep ⟨rfl, rfl, rfl, rfl, trivial⟩, (hM.drop (.cons_cons _ (.cons_cons _ (.cons_cons _ (.cons_cons _ (.cons_cons _ (.cons _ .slnil))))))).pick [0, 4, 5] rfl, (cat_len hz160), hv177⟩
  refine cond_f hf rfl hc102 ?_
  refine wp_exit ?_
  refine then_x ?_
  obtain rfl := some_inj h99
  obtain rfl := hd100 _ rfl
  try dsimp only at h69
  refine then_x ?_
  refine exit_hit ?_
  obtain rfl := some_inj h69
  refine then_n ?_
  exact ⟨s70, xs78, mp72, xs75, A79, c80, b73, A76, c77, rfl, hf.keep ⟨rfl, rfl, trivial⟩, hM.pick [1, 2] rfl, hv71, hv74⟩
 rintro a w207 ⟨s57, xs59, mp62, xs65, A60, c61, b63, A66, c67, rfl, hf, hM, hv58, hv64⟩
 try dsimp only at h
 refine wp_seq ?_
 refine region_pl ?_
 refine q_ hf rfl rfl rfl (e_move hf rfl) fun a hf => ?_
 refine q_ hf rfl rfl rfl (e_loadA hf (us := [.bool (t20), vS (s57), vL A60 (xs59) c61]) rfl ⟨Tryz.isAgg79, Tryz.sizeOf79⟩ rfl (hM.boxSub (k := 1) (us := [.bool (t20), vS (s57), vL A60 (xs59) c61]) (o := 0) rfl rfl)) fun a hf => ?_
 have hM := hM.freezeRow (k := 0) rfl rfl
 dsimp only [List.eraseIdx] at hM
 have hM := hM.front (k := 3) rfl
 dsimp only [List.eraseIdx] at hM
 have hM := hM.front (k := 3) rfl
 dsimp only [List.eraseIdx] at hM
 have hM := hM.front (k := 3) rfl
 dsimp only [List.eraseIdx] at hM
 have hM : Mem C _ ([.box b2 [vL A66 (xs65) c67, vM b63] 100, .row NodeRep A66 c67 79 xs65 true, .obj b63 (mapO fS fI mp62)] ++ [.box b13 [.bool (t20), vS (s57), vL A60 (xs59) c61] 79]) _ := hM
 obtain ⟨y208, hz209, h⟩ := bind_some h
 refine pl_l hf rfl rfl rfl (w_call hf Tryz.call94 rfl (r_impl_maker_node ⟨_, Sh C _ _, ownB _, hM.sh_lt, sub_dis, C.G, hM.g_lt, hM.g_own, hM.tabs⟩ (⟨xs65, mp62⟩ : maker) _ _ _ _ hv64 (⟨t20, s57, xs59⟩ : Node) hv58 _ _ (hM.dat (k := 0) rfl) hM.sub sub_dis _ hz209) ?_)
 rintro _ w215 ⟨A210, c211, b212, rfl, hM2, hv213, hv214⟩
 obtain ⟨hM, hup217⟩ := hM.backG hM2
 dsimp only [List.cons_append, List.nil_append] at hM hup217
 clear hM2
 refine ⟨_, rfl, fun a hf => ?_⟩
 refine q_ hf rfl rfl rfl (e_assign hf rfl) fun a hf => ?_
 refine pl_nil ?_
 refine then_n ?_
 refine wp_ret ?_
 obtain rfl := some_inj h
 have hM := hM.outs (own' := [.box b2 [vL A210 (y208.2.nodes) c211, vM b212] 100, .row NodeRep A210 c211 79 y208.2.nodes true, .obj b212 (mapO fS fI y208.2.register)]) 3 rfl
 exact leave1 hf rfl rfl ⟨A210, c211, b212, rfl, hM.fin, hv213, hv214⟩
theorem r_impl_maker_build_n : ∀ n, Ct_impl_maker_build (m_impl_maker_build_n n)
  | 0 => fun C m1 b2 A3 c4 b5 hp6 list7 A8 c9 hp10 depth11 hp12 hO hd r h => by cases h
  | n + 1 => r_impl_maker_build_b _ (r_impl_maker_build_n n)
theorem r_impl_maker_build : Ct_impl_maker_build (m_impl_maker_build) := r_impl_maker_build_n fuelN
def Ct_impl_maker_numbered_1 (rc : Int → (List (Int × Int)) → Dawg → maker → Option (Int × (List (Int × Int)) × Dawg)) : Prop := ∀ (C : Cx) (k1 : Int) (hp2 : R64 k1) (p3 : (List (Int × Int))) (b4 : Nat) (b5 : Nat) (hp6 : MapR p3) (p7 : Dawg) (b8 : Nat) (A9 : Option Addr) (c10 : Nat) (ws : List NodeW) (hws : ws.map NodeW.to = p7.Nodes) (p11 : maker) (b12 : Nat) (o13 : Nat) (hp14 : (ptrRep (ptrRep makerRep)).R C.w0 C.S0 p11 [vP b12 o13]) (b16 : Nat) (o17 : Nat) (hp18 : Shr.good C.w0 C.S0 (.lit b16 (o17) [.func (.func 93) #[] #[vP b4 (0), vP b8 (0), vP b12 (o13), vP b16 (o17)]])) (hO : Mem C C.w0 (.box b4 [vM b5] 146 :: .obj b5 (mapO fI fI p3) :: .box b8 [vL A9 (p7.Nodes) c10] 26 :: .row NodeWRep A9 c10 79 ws true :: nestO 2 ws) []) (hd : ∀ b, C.S0 b → ¬ ownB (.box b4 [vM b5] 146 :: .obj b5 (mapO fI fI p3) :: .box b8 [vL A9 (p7.Nodes) c10] 26 :: .row NodeWRep A9 c10 79 ws true :: nestO 2 ws) b) (r : (Int × (List (Int × Int)) × Dawg)) (h : rc k1 p3 p7 p11 = some r),
    Calls Tryz.prog 93 #[vI (k1), vP b4 (0), vP b8 (0), vP b12 (o13), vP b16 (o17)] C.w0 fun e w => ∃ (b_1 : Nat), ∃ (A_1 : Option Addr), ∃ (c_1 : Nat), ∃ (ws_1 : List NodeW), e = .returned (vI (r.1)) ∧ Mem C w (.box b4 [vM b_1] 146 :: .obj b_1 (mapO fI fI r.2.1) :: .box b8 [vL A_1 (r.2.2.Nodes) c_1] 26 :: .row NodeWRep A_1 c_1 79 ws_1 true :: nestO 2 ws_1) [] ∧ ws_1.map NodeW.to = r.2.2.Nodes ∧ MapR r.2.1 ∧ R64 r.1
theorem r_impl_maker_numbered_1_b (rc : Int → (List (Int × Int)) → Dawg → maker → Option (Int × (List (Int × Int)) × Dawg)) (ih : Ct_impl_maker_numbered_1 rc) : Ct_impl_maker_numbered_1 (m_impl_maker_numbered_1_b rc) := by
 intro C k1 hp2 p3 b4 b5 hp6 p7 b8 A9 c10 ws hws p11 b12 o13 hp14 b16 o17 hp18 hO hd r h
 have hlw : ws.length = p7.Nodes.length := by rw [← hws, List.length_map]
 have hM := hO
 have hM := hM.addIn hd (y := .dat (ptrRep (ptrRep makerRep)) p11 [vP b12 o13]) hp14
 have hM := hM.addIn hd (y := .lit b16 (o17) [.func (.func 93) #[] #[vP b4 (0), vP b8 (0), vP b12 (o13), vP b16 (o17)]]) hp18
 refine enter Tryz.func93 rfl Tryz.ntmps93 rfl fun a hf => ?_
 unfold m_impl_maker_numbered_1_b at h
 refine wp_seq ?_
 refine region_pl ?_
 refine q_ hf rfl rfl rfl (e_assign hf rfl) fun a hf => ?_
 refine pl_nil ?_
 refine then_n ?_
 iterate 2 refine wp_seq ?_
 refine region_pl ?_
 refine q_ hf rfl rfl rfl (e_load1 hf rfl Tryz.isAgg146 (hM.boxCell (k := 0) rfl rfl)) fun a hf => ?_
 refine q_ hf rfl rfl rfl (e_move hf rfl) fun a hf => ?_
 refine q_ hf rfl rfl rfl (e_lookupOk (fk := fI) (fv := fI) hf (keyI Tryz.underlying2) Tryz.underlying146 (k := k1) (z := 0) rfl rfl Tryz.zeroValue2 (hM.ownAt (k := 1) rfl)) fun a hf => ?_
 refine q_ hf rfl rfl rfl (e_move hf rfl) fun a hf => ?_
 iterate 2 refine q_ hf rfl rfl rfl (e_extract hf rfl rfl) fun a hf => ?_
 iterate 2 refine q_ hf rfl rfl rfl (e_assign hf rfl) fun a hf => ?_
 refine pl_nil ?_
 refine then_n ?_
 refine wp_seq ?_
 refine region_pl ?_
 refine q_ hf rfl rfl rfl (e_move hf rfl) fun a hf => ?_
 refine pl_nil ?_
 refine then_n ?_
 rcases cond_some h with ⟨hc19, h⟩ | ⟨hc19, h⟩
 ·refine cond_t hf rfl hc19 ?_
  refine wp_seq ?_
  refine region_pl ?_
  refine q_ hf rfl rfl rfl (e_move hf rfl) fun a hf => ?_
  refine q_ hf rfl rfl rfl (e_assign hf rfl) fun a hf => ?_
  refine pl_nil ?_
  refine then_n ?_
  refine wp_ret ?_
  refine then_r ?_
  obtain rfl := some_inj h
  exact leave1 hf rfl rfl ⟨b5, A9, c10, ws, rfl, hM.fin, hws, hp6, (hp6.get _)⟩
 refine cond_f hf rfl hc19 ?_
 refine wp_skip ?_
 refine then_n ?_
 refine wp_seq ?_
 refine region_pl ?_
 refine q_ hf rfl rfl rfl (e_field hf rfl Tryz.underlying26 rfl Tryz.sizeOf24 (o' := 0) rfl) fun a hf => ?_
 refine q_ hf rfl rfl rfl (e_load1 hf rfl Tryz.isAgg24 (hM.boxCell (k := 2) rfl rfl)) fun a hf => ?_
 have hl20 : p7.Nodes.length ≤ maxLen := by rw [← hlw]; exact row_len (hM.ownAt (k := 3) rfl)
 refine q_ hf rfl rfl rfl (e_lenL hf (x := p7.Nodes) rfl Tryz.underlying24) fun a hf => ?_
 refine q_ hf rfl rfl rfl (e_assign hf rfl) fun a hf => ?_
 refine pl_nil ?_
 refine then_n ?_
 refine wp_seq ?_
 refine region_pl ?_
 refine q_ hf rfl rfl rfl (e_load1 hf rfl Tryz.isAgg146 (hM.boxCell (k := 0) rfl rfl)) fun a hf => ?_
 iterate 2 refine q_ hf rfl rfl rfl (e_move hf rfl) fun a hf => ?_
 refine pl_0 hf rfl rfl (w_mapUpdate (fk := fI) (fv := fI) hf hM (keyI Tryz.underlying2) Tryz.underlying146 (k := k1) (v := (p7.Nodes.length : Int)) rfl rfl rfl (n := 1) rfl fun w21 hM => ?_)
 dsimp only [List.set] at hM
 refine pl_nil ?_
 refine then_n ?_
 refine wp_seq ?_
 refine region_pl ?_
 obtain ⟨_, hr22, hM⟩ := hM.deref (hM.dat (k := 1) rfl)
 obtain ⟨b23, o24, rfl, hv25⟩ := ptr_form hr22
 have hM := hM.add (y := .dat (ptrRep makerRep) p11 [vP b23 o24]) hv25
 refine q_ hf rfl rfl rfl (e_load1 hf rfl Tryz.isAgg97 (hM.litCell (k := 1) (j := 0) rfl rfl rfl)) fun a hf => ?_
 refine q_ hf rfl rfl rfl (e_nil hf rfl) fun a hf => ?_
 obtain ⟨_, hr26, hM⟩ := hM.deref (hM.dat (k := 0) rfl)
 obtain ⟨A27, c28, b30, o31, rfl, hv29, hv32⟩ := makerRep_open hr26
 have hM := hM.add (y := .dat (sliceRep NodeRep) p11.nodes [vL A27 p11.nodes c28]) hv29
 have hM := hM.add (y := .dat (mapRep fS fI) p11.register [vM b30]) hv32
 refine q_ hf rfl rfl rfl (e_field hf rfl Tryz.underlying100 rfl Tryz.sizeOf24 (o' := o24 + 0) rfl) fun a hf => ?_
 refine q_ hf rfl rfl rfl (e_load1 hf rfl Tryz.isAgg24 (hM.litCell (k := 2) (j := 0) rfl rfl rfl)) fun a hf => ?_
 refine q_ hf rfl rfl rfl (e_move hf rfl) fun a hf => ?_
 obtain ⟨e33, hz34, h⟩ := bind_some h
 obtain ⟨b38, o39, _, hA40, h35, h36, hr37, hM⟩ := hM.elem (hM.dat (k := 1) rfl) (n := 3) rfl hz34
 obtain ⟨A42, c43, rfl, hv41, hv44⟩ := NodeRep_open hr37
 have hM := hM.add (y := .dat (sliceRep intRep) e33.Next [vL A42 e33.Next c43]) hv44
 refine q_ hf rfl rfl rfl (e_indexAddr (A := A27) (b := b38) (o := o39) (xs := p11.nodes) (i := k1) hf hA40 rfl rfl Tryz.underlying24 Tryz.sizeOf79 h35 h36) fun a hf => ?_
 refine q_ hf rfl rfl rfl (e_loadA hf (us := [.bool (e33.Final), vS (e33.Letters), vL A42 (e33.Next) c43]) rfl ⟨Tryz.isAgg79, Tryz.sizeOf79⟩ rfl (hM.litSub (k := 1) (d := 0) (us := [.bool (e33.Final), vS (e33.Letters), vL A42 (e33.Next) c43]) rfl rfl rfl)) fun a hf => ?_
 refine pl_l hf rfl rfl rfl (w_alloc hM (cs := [.bool (false), vS (([] : Str)), vL none (([] : (List Int))) 0]) Tryz.zeroValue79 rfl fun b45 w46 hx47 hM a hf => ?_)
 refine pl_0 hf rfl rfl (w_store hf hM (us := [.bool (e33.Final), vS (e33.Letters), vL A42 (e33.Next) c43]) (cs' := [.bool (e33.Final), vS (e33.Letters), vL A42 (e33.Next) c43]) rfl rfl (k := 0) rfl rfl Tryz.sizeOf79 rfl rfl rfl fun w49 hM => ?_)
 dsimp only [List.set] at hM
 refine pl_nil ?_
 refine then_n ?_
 refine wp_seq ?_
 refine region_pl ?_
 refine q_ hf rfl rfl rfl (e_field hf rfl Tryz.underlying26 rfl Tryz.sizeOf24 (o' := 0) rfl) fun a hf => ?_
 refine q_ hf rfl rfl rfl (e_load1 hf rfl Tryz.isAgg24 (hM.boxCell (k := 3) rfl rfl)) fun a hf => ?_
 have hf := hf.alter (d := 36) (v := vL A9 ws c10) rfl (vL_len2 hlw)
 refine q_ hf rfl rfl rfl (e_field hf rfl Tryz.underlying79 rfl Tryz.sizeOf4 (o' := 0) rfl) fun a hf => ?_
 refine q_ hf rfl rfl rfl (e_load1 hf rfl Tryz.isAgg4 (hM.boxCell (k := 0) rfl rfl)) fun a hf => ?_
 refine q_ hf rfl rfl rfl (e_field hf rfl Tryz.underlying79 rfl Tryz.sizeOf9 (o' := 1) rfl) fun a hf => ?_
 refine q_ hf rfl rfl rfl (e_load1 hf rfl Tryz.isAgg9 (hM.boxCell (k := 0) rfl rfl)) fun a hf => ?_
 refine q_ hf rfl rfl rfl (e_build hf Tryz.zeroValue79 Tryz.underlying79 (bp_79 _ Tryz.underlying79.symm) rfl (cs := #[.bool (e33.Final), vS (e33.Letters), vL none (([] : (List Int))) 0]) (by kernel_rfl)) fun a hf => ?_
 have hM := hM.add (y := .dat (sliceRep intRep) ([] : (List Int)) [vL none ([] : (List Int)) 0]) (nil_slice _ _ _)
 refine pl_l hf rfl rfl rfl (w_slice hf hM (K := NodeWRep) (xs := ([(⟨e33.Final, e33.Letters, none, 0, []⟩ : NodeW)] : (List NodeW))) (os := [.tmp 41]) Tryz.underlying24 ei_79 rfl rfl rfl rfl rfl ⟨⟨[.bool (e33.Final), vS (e33.Letters), vL none (([] : (List Int))) 0], rfl, ⟨rfl, hv41⟩⟩, trivial⟩ rfl fun b52 w53 hx54 hM a hf => ?_)
 obtain ⟨xs55, hz56, h⟩ := bind_some h
 obtain ⟨hcw, hxw⟩ := catL_nest (y := (⟨e33.Final, e33.Letters, none, 0, []⟩ : NodeW)) hws rfl hz56
 refine pl_l hf rfl rfl rfl (w_append hf hM Tryz.underlying24 ei_79 rfl rfl rfl (k := 5) rfl (hM.srcRow (k := 0) rfl) hcw fun A57 c58 w59 hM a hf => ?_)
 dsimp only [List.set] at hM
 have hlx : xs55.length = (ws ++ [(⟨e33.Final, e33.Letters, none, 0, []⟩ : NodeW)]).length := by rw [← hxw, List.length_map]
 have hf := hf.alter (d := 43) (v := vL A57 xs55 c58) rfl (vL_len2 hlx)
 have hM := Mem.snocNest (pre := [Own.row NodeWRep (some ⟨b52, 0, none⟩) 1 79 ([(⟨e33.Final, e33.Letters, none, 0, []⟩ : NodeW)] : (List NodeW)) true, .box b45 [.bool (e33.Final), vS (e33.Letters), vL A42 (e33.Next) c43] 79, .box b4 [vM b5] 146, .obj b5 (mapO fI fI (putM p3 k1 (p7.Nodes.length : Int))), .box b8 [vL A9 (p7.Nodes) c10] 26, .row NodeWRep A57 c58 79 (ws ++ [(⟨e33.Final, e33.Letters, none, 0, []⟩ : NodeW)]) true]) (y := (⟨e33.Final, e33.Letters, none, 0, []⟩ : NodeW)) rfl rfl rfl hM
 generalize hwx : ws ++ [(⟨e33.Final, e33.Letters, none, 0, []⟩ : NodeW)] = wx at hM hxw hlx
 dsimp only [List.cons_append, List.nil_append] at hM
 refine q_ hf rfl rfl rfl (e_field hf rfl Tryz.underlying26 rfl Tryz.sizeOf24 (o' := 0) rfl) fun a hf => ?_
 refine pl_0 hf rfl rfl (w_store hf hM (us := [vL A57 (xs55) c58]) (cs' := [vL A57 (xs55) c58]) rfl rfl (k := 4) rfl rfl Tryz.sizeOf24 rfl rfl rfl fun w62 hM => ?_)
 dsimp only [List.set] at hM
 refine pl_nil ?_
 refine then_n ?_
 refine wp_seq ?_
 refine region_pl ?_
 refine pl_l hf rfl rfl rfl (w_slice0 (K := intRep) hM Tryz.underlying77 ei_2 fun b65 w66 hx67 hM a hf => ?_)
 refine q_ hf rfl rfl rfl (e_assign hf rfl) fun a hf => ?_
 refine pl_nil ?_
 refine then_n ?_
 obtain ⟨x77, h78, h⟩ := bind_some h
 refine seq_join (fun a w => ∃ (ws : List NodeW) (mp68 : (List (Int × Int))) (xs71 : (List Node)) (xs74 : (List Int)) (b69 : Nat) (A72 : Option Addr) (c73 : Nat) (A75 : Option Addr) (c76 : Nat), (mp68, xs71, xs74) = x77 ∧ ws.map NodeW.to = xs71 ∧ Has 67 a [(2, vP b8 (0)), (9, vI ((p7.Nodes.length : Int))), (11, vL A75 (xs74) c76)] ∧ Mem C w (.row intRep A75 c76 2 xs74 true :: .row NodeWRep (some ⟨b52, 0, none⟩) 1 79 ([(⟨e33.Final, e33.Letters, none, 0, []⟩ : NodeW)] : (List NodeW)) true :: .box b45 [.bool (e33.Final), vS (e33.Letters), vL A42 (e33.Next) c43] 79 :: .box b4 [vM b69] 146 :: .obj b69 (mapO fI fI mp68) :: .box b8 [vL A72 (xs71) c73] 26 :: .row NodeWRep A72 c73 79 ws true :: nestO 2 ws) [.dat (sliceRep intRep) ([] : (List Int)) [vL none ([] : (List Int)) 0], .dat (sliceRep intRep) e33.Next [vL A42 e33.Next c43], .lit b38 (o39 + (k1 : Int).toNat * 3) [.bool (e33.Final), vS (e33.Letters), vL A42 (e33.Next) c43], .dat (mapRep fS fI) p11.register [vM b30], .dat (sliceRep NodeRep) p11.nodes [vL A27 p11.nodes c28], .lit b23 (o24) [vL A27 (p11.nodes) c28, vM b30], .dat (ptrRep makerRep) p11 [vP b23 o24], .lit b12 (o13) [vP b23 (o24)], .lit b16 (o17) [.func (.func 93) #[] #[vP b4 (0), vP b8 (0), vP b12 (o13), vP b16 (o17)]], .dat (ptrRep (ptrRep makerRep)) p11 [vP b12 o13]] ∧ MapR mp68) ?_ ?_
 ·refine wp_seq ?_
  refine region_pl ?_
  refine q_ hf rfl rfl rfl (e_field hf rfl Tryz.underlying79 rfl Tryz.sizeOf77 (o' := 2) rfl) fun a hf => ?_
  refine q_ hf rfl rfl rfl (e_load1 hf rfl Tryz.isAgg77 (hM.boxCell (k := 2) rfl rfl)) fun a hf => ?_
  have hl79 := slice_len (hM.dat (k := 1) rfl)
  refine q_ hf rfl rfl rfl (e_lenL hf (x := e33.Next) rfl Tryz.underlying77) fun a hf => ?_
  refine q_ hf rfl rfl rfl (e_move hf rfl) fun a hf => ?_
  refine pl_nil ?_
  refine then_n ?_
  refine wp_block ?_
  obtain ⟨x101, h102, h78⟩ := bind_some h78
  refine wp_loopM h102 (fun s a w => ∃ (ws : List NodeW) (mp80 : (List (Int × Int))) (xs83 : (List Node)) (xs86 : (List Int)) (n89 : Int) (b81 : Nat) (A84 : Option Addr) (c85 : Nat) (A87 : Option Addr) (c88 : Nat), (mp80, xs83, xs86, n89) = s ∧ ws.map NodeW.to = xs83 ∧ Has 67 a [(2, vP b8 (0)), (4, vP b16 (o17)), (9, vI ((p7.Nodes.length : Int))), (11, vL A87 (xs86) c88), (47, vL A42 (e33.Next) c43), (48, vI ((e33.Next.length : Int))), (49, vI (n89))] ∧ Mem C w (.row intRep A87 c88 2 xs86 true :: .row NodeWRep (some ⟨b52, 0, none⟩) 1 79 ([(⟨e33.Final, e33.Letters, none, 0, []⟩ : NodeW)] : (List NodeW)) true :: .box b45 [.bool (e33.Final), vS (e33.Letters), vL A42 (e33.Next) c43] 79 :: .box b4 [vM b81] 146 :: .obj b81 (mapO fI fI mp80) :: .box b8 [vL A84 (xs83) c85] 26 :: .row NodeWRep A84 c85 79 ws true :: nestO 2 ws) [.dat (sliceRep intRep) ([] : (List Int)) [vL none ([] : (List Int)) 0], .dat (sliceRep intRep) e33.Next [vL A42 e33.Next c43], .lit b38 (o39 + (k1 : Int).toNat * 3) [.bool (e33.Final), vS (e33.Letters), vL A42 (e33.Next) c43], .dat (mapRep fS fI) p11.register [vM b30], .dat (sliceRep NodeRep) p11.nodes [vL A27 p11.nodes c28], .lit b23 (o24) [vL A27 (p11.nodes) c28, vM b30], .dat (ptrRep makerRep) p11 [vP b23 o24], .lit b12 (o13) [vP b23 (o24)], .lit b16 (o17) [.func (.func 93) #[] #[vP b4 (0), vP b8 (0), vP b12 (o13), vP b16 (o17)]], .dat (ptrRep (ptrRep makerRep)) p11 [vP b12 o13]] ∧ MapR mp80 ∧ R64 n89) ?_ ?_
  ·exact ⟨wx, (putM p3 k1 (p7.Nodes.length : Int)), xs55, ([] : (List Int)), 0, b5, A57, c58, (some ⟨b65, 0, none⟩), 0, rfl, hxw, hf.keep ⟨rfl, rfl, rfl, rfl, rfl, rfl, rfl, trivial⟩, hM.pick [0, 1, 2, 3, 4, 5, 6, 7, 8, 9] rfl, (hp6.put (R64_len hl20)), (R64_lit rfl)⟩
  rintro s o103 a w91 ⟨ws, mp80, xs83, xs86, n89, b81, A84, c85, A87, c88, rfl, hw83, hf, hM, hv82, hv90⟩ h104 hd105
  replace h104 : m_impl_maker_numbered_1_l1 e33 rc p11 mp80 xs83 xs86 n89 = some o103 := h104
  unfold m_impl_maker_numbered_1_l1 at h104
  refine wp_seq ?_
  refine region_pl ?_
  refine q_ hf rfl rfl rfl (e_lt hf (x := n89) (y := (e33.Next.length : Int)) rfl rfl) fun a hf => ?_
  refine pl_nil ?_
  refine then_n ?_
  refine wp_seq ?_
  rcases cond_some h104 with ⟨hc106, h104⟩ | ⟨hc106, h104⟩
  ·refine cond_t hf rfl hc106 ?_
   refine wp_skip ?_
   refine then_n ?_
   refine wp_seq ?_
   refine wp_block ?_
   refine wp_seq ?_
   refine region_pl ?_
   obtain ⟨e107, hz108, h104⟩ := bind_some h104
   obtain ⟨b112, o113, _, hA114, h109, h110, hr111, hM⟩ := hM.elem (hM.dat (k := 1) rfl) (n := 1) rfl hz108
   obtain ⟨rfl, hv115⟩ := hr111
   refine q_ hf rfl rfl rfl (e_indexAddr (A := A42) (b := b112) (o := o113) (xs := e33.Next) (i := n89) hf hA114 rfl rfl Tryz.underlying77 Tryz.sizeOf2 h109 h110) fun a hf => ?_
   refine q_ hf rfl rfl rfl (e_load1 hf rfl Tryz.isAgg2 (hM.litCell (k := 0) (j := 0) rfl rfl rfl)) fun a hf => ?_
   refine q_ hf rfl rfl rfl (e_assign hf rfl) fun a hf => ?_
   refine pl_nil ?_
   refine then_n ?_
   refine region_pl ?_
   refine q_ hf rfl rfl rfl (e_move hf rfl) fun a hf => ?_
   refine q_ hf rfl rfl rfl (e_load1 hf rfl Tryz.isAgg113 (hM.litCell (k := 9) (j := 0) rfl rfl rfl)) fun a hf => ?_
   refine q_ hf rfl rfl rfl (e_move hf rfl) fun a hf => ?_
   have hM : Mem C _ ((.box b4 [vM b81] 146 :: .obj b81 (mapO fI fI mp80) :: .box b8 [vL A84 (xs83) c85] 26 :: .row NodeWRep A84 c85 79 ws true :: nestO 2 ws) ++ [.row intRep A87 c88 2 xs86 true, .row NodeWRep (some ⟨b52, 0, none⟩) 1 79 ([(⟨e33.Final, e33.Letters, none, 0, []⟩ : NodeW)] : (List NodeW)) true, .box b45 [.bool (e33.Final), vS (e33.Letters), vL A42 (e33.Next) c43] 79]) _ := hM.permP (List.perm_append_comm (l₁ := [Own.row intRep A87 c88 2 xs86 true, .row NodeWRep (some ⟨b52, 0, none⟩) 1 79 ([(⟨e33.Final, e33.Letters, none, 0, []⟩ : NodeW)] : (List NodeW)) true, .box b45 [.bool (e33.Final), vS (e33.Letters), vL A42 (e33.Next) c43] 79]))
   obtain ⟨y116, hz117, h104⟩ := bind_some h104
   refine pl_l hf rfl rfl rfl (w_callV hf (fk := 93) (fc := [vP b4 (0), vP b8 (0), vP b12 (o13), vP b16 (o17)]) rfl Tryz.call93 rfl (ih ⟨_, Sh C _ _, ownB _, hM.sh_lt, sub_dis, C.G, hM.g_lt, hM.g_own, hM.tabs⟩ e107 hv115 mp80 _ _ hv82 (⟨xs83⟩ : Dawg) _ _ _ ws hw83 p11 _ _ (hM.dat (k := 10) rfl) _ _ (hM.at_ (k := 9) rfl) hM.sub sub_dis _ hz117) ?_)
   rintro _ w123 ⟨b118, A120, c121, ws2, rfl, hM2, hw2, hv119, hv122⟩
   obtain ⟨hM, hup125⟩ := hM.backG hM2
   have hM : Mem C w123 (.row intRep A87 c88 2 xs86 true :: .row NodeWRep (some ⟨b52, 0, none⟩) 1 79 ([(⟨e33.Final, e33.Letters, none, 0, []⟩ : NodeW)] : (List NodeW)) true :: .box b45 [.bool (e33.Final), vS (e33.Letters), vL A42 (e33.Next) c43] 79 :: .box b4 [vM b118] 146 :: .obj b118 (mapO fI fI y116.2.1) :: .box b8 [vL A120 (y116.2.2.Nodes) c121] 26 :: .row NodeWRep A120 c121 79 ws2 true :: nestO 2 ws2) _ := hM.permP (List.perm_append_comm (l₂ := [Own.row intRep A87 c88 2 xs86 true, .row NodeWRep (some ⟨b52, 0, none⟩) 1 79 ([(⟨e33.Final, e33.Letters, none, 0, []⟩ : NodeW)] : (List NodeW)) true, .box b45 [.bool (e33.Final), vS (e33.Letters), vL A42 (e33.Next) c43] 79]))
   clear hM2
   refine ⟨_, rfl, fun a hf => ?_⟩
   refine pl_l hf rfl rfl rfl (w_slice hf hM (K := intRep) (xs := ([y116.1] : (List Int))) (os := [.tmp 56]) Tryz.underlying77 ei_2 rfl rfl rfl rfl rfl ⟨⟨[vI (y116.1)], rfl, ⟨rfl, hv122⟩⟩, trivial⟩ rfl fun b126 w127 hx128 hM a hf => ?_)
   obtain ⟨xs129, hz130, h104⟩ := bind_some h104
   refine pl_l hf rfl rfl rfl (w_append hf hM Tryz.underlying77 ei_2 rfl rfl rfl (k := 1) rfl (hM.srcRow (k := 0) rfl) hz130 fun A131 c132 w133 hM a hf => ?_)
   dsimp only [List.set] at hM
   refine q_ hf rfl rfl rfl (e_assign hf rfl) fun a hf => ?_
   refine pl_nil ?_
   refine blk_n ?_
   refine then_n ?_
   refine region_pl ?_
   obtain ⟨z136, hz137, h104⟩ := bind_some h104
   refine q_ hf rfl rfl rfl (e_add hf rfl rfl hz137) fun a hf => ?_
   refine q_ hf rfl rfl rfl (e_move hf rfl) fun a hf => ?_
   refine pl_nil ?_
   obtain rfl := some_inj h104
   refine then_n ⟨_, rfl, ?_⟩
   exact ⟨ws2, y116.2.1, y116.2.2.Nodes, xs129, z136, b118, A120, c121, A131, c132, rfl, hw2, hf.keep ⟨rfl, rfl, rfl, rfl, rfl, rfl, rfl, trivial⟩, (hM.drop (.cons _ (List.Sublist.refl _))).pick [1, 2, 3, 4, 5, 6, 7, 8, 9, 10] rfl, hv119, (chk_R hz137)⟩
  refine cond_f hf rfl hc106 ?_
  refine wp_exit ?_
  refine then_x ?_
  obtain rfl := some_inj h104
  obtain rfl := hd105 _ rfl
  try dsimp only at h78
  refine then_x ?_
  refine exit_hit ?_
  obtain rfl := some_inj h78
  refine then_n ?_
  exact ⟨ws, mp80, xs83, xs86, b81, A84, c85, A87, c88, rfl, hw83, hf.keep ⟨rfl, rfl, rfl, trivial⟩, hM.pick [0, 1, 2, 3, 4, 5, 6, 7, 8, 9] rfl, hv82⟩
 rintro a w143 ⟨ws, mp68, xs71, xs74, b69, A72, c73, A75, c76, rfl, hw71, hf, hM, hv70⟩
 try dsimp only at h
 refine wp_seq ?_
 refine region_pl ?_
 refine q_ hf rfl rfl rfl (e_field hf rfl Tryz.underlying26 rfl Tryz.sizeOf24 (o' := 0) rfl) fun a hf => ?_
 refine q_ hf rfl rfl rfl (e_load1 hf rfl Tryz.isAgg24 (hM.boxCell (k := 5) rfl rfl)) fun a hf => ?_
 iterate 2 refine q_ hf rfl rfl rfl (e_move hf rfl) fun a hf => ?_
 obtain ⟨e144, hz145, h⟩ := bind_some h
 obtain ⟨A153, c154, hzx⟩ := nest_get hw71 hz145
 have hlx : ws.length = xs71.length := by rw [← hw71, List.length_map]
 obtain ⟨b150, _, hA151, h146, h147, hr148, hcell149⟩ := hM.rowElemN (k := 6) rfl (n := 3) rfl hzx
 obtain ⟨rfl, hv152⟩ := hr148
 refine q_ hf rfl rfl rfl (e_indexAddr (A := A72) (b := b150) (o := 0) (xs := xs71) (i := (p7.Nodes.length : Int)) hf hA151 rfl rfl Tryz.underlying24 Tryz.sizeOf79 h146 (by rw [← hlx]; exact h147)) fun a hf => ?_
 refine q_ hf rfl rfl rfl (e_field hf rfl Tryz.underlying79 rfl Tryz.sizeOf77 (o' := (0 + ((p7.Nodes.length : Int) : Int).toNat * 3) + 2) rfl) fun a hf => ?_
 obtain ⟨xs157, hz158, h⟩ := bind_some h
 refine pl_0 hf rfl rfl (w_storePart hf hM (K := NodeWRep) (x := (⟨e144.Final, e144.Letters, A75, c76, xs74⟩ : NodeW)) (us := [vL A75 (xs74) c76]) (row := [.bool (e144.Final), vS (e144.Letters), vL A153 (e144.Next) c154]) (i := (p7.Nodes.length : Int)) (d := 2) rfl rfl rfl hA151 (k := 6) rfl rfl Tryz.sizeOf77 hcell149 ⟨rfl, hv152⟩ (setL_nest hzx) rfl rfl fun w156 hM => ?_)
 have hM := Mem.putNestP (pre := [Own.row NodeWRep (some ⟨b52, 0, none⟩) 1 79 ([(⟨e33.Final, e33.Letters, none, 0, []⟩ : NodeW)] : (List NodeW)) true, .box b45 [.bool (e33.Final), vS (e33.Letters), vL A42 (e33.Next) c43] 79, .box b4 [vM b69] 146, .obj b69 (mapO fI fI mp68), .box b8 [vL A72 (xs71) c73] 26, .row NodeWRep A72 c73 79 (ws.set (p7.Nodes.length : Int).toNat (⟨e144.Final, e144.Letters, A75, c76, xs74⟩ : NodeW)) true]) (x := .row intRep A75 c76 2 xs74 true) (E := 2) (ws := ws) (i := (p7.Nodes.length : Int).toNat) hM (getL_lt hzx).1
 rw [nestO_set (E := 2) (ws := ws) (i := (p7.Nodes.length : Int).toNat) (⟨e144.Final, e144.Letters, A75, c76, xs74⟩ : NodeW)] at hM
 have hwf := nest_to hw71 hz158 (y := (⟨e144.Final, e144.Letters, A75, c76, xs74⟩ : NodeW)) rfl
 generalize hwy : ws.set (p7.Nodes.length : Int).toNat (⟨e144.Final, e144.Letters, A75, c76, xs74⟩ : NodeW) = wy at hM hwf
 dsimp only [List.cons_append, List.nil_append] at hM
 have hf := hf.alter (d := 61) (v := vL A72 (xs157) c73) rfl (vL_len (setL_len hz158))
 rw [vL_len (A := A72) (c := c73) (setL_len hz158)] at hM
 refine pl_nil ?_
 refine then_n ?_
 refine wp_seq ?_
 refine region_pl ?_
 refine q_ hf rfl rfl rfl (e_move hf rfl) fun a hf => ?_
 refine q_ hf rfl rfl rfl (e_assign hf rfl) fun a hf => ?_
 refine pl_nil ?_
 refine then_n ?_
 refine wp_ret ?_
 obtain rfl := some_inj h
 have hM : Mem C _ (.box b4 [vM b69] 146 :: .obj b69 (mapO fI fI mp68) :: .box b8 [vL A72 (xs157) c73] 26 :: .row NodeWRep A72 c73 79 wy true :: nestO 2 wy) _ := hM.drop (.cons _ (.cons _ (List.Sublist.refl _)))
 exact leave1 hf rfl rfl ⟨b69, A72, c73, wy, rfl, hM.fin, hwf, hv70, (R64_len hl20)⟩
theorem r_impl_maker_numbered_1_n : ∀ n, Ct_impl_maker_numbered_1 (m_impl_maker_numbered_1_n n)
  | 0 => fun C k1 hp2 p3 b4 b5 hp6 p7 b8 A9 c10 ws hws p11 b12 o13 hp14 b16 o17 hp18 hO hd r h => by cases h
  | n + 1 => r_impl_maker_numbered_1_b _ (r_impl_maker_numbered_1_n n)
theorem r_impl_maker_numbered_1 : Ct_impl_maker_numbered_1 (m_impl_maker_numbered_1) := r_impl_maker_numbered_1_n fuelN
theorem r_impl_maker_numbered (C : Cx) (m1 : maker) (b2 : Nat) (o3 : Nat) (hp4 : (ptrRep makerRep).R C.w0 C.S0 m1 [vP b2 o3]) (root5 : Int) (hp6 : R64 root5) (r : Dawg) (h : m_impl_maker_numbered m1 root5 = some r) :
    Calls Tryz.prog 57 #[vP b2 (o3), vI (root5)] C.w0 fun e w => ∃ (A_1 : Option Addr), ∃ (c_1 : Nat), ∃ (ws_1 : List NodeW), e = .returned (.agg #[vL A_1 (r.Nodes) c_1]) ∧ Mem C w ((nestW A_1 c_1 79 2 ws_1)) [] ∧ ws_1.map NodeW.to = r.Nodes := by
 have hM := Mem.begin C [.dat (ptrRep makerRep) m1 [vP b2 o3]] ⟨hp4, trivial⟩
 refine enter Tryz.func57 rfl Tryz.ntmps57 rfl fun a hf => ?_
 unfold m_impl_maker_numbered at h
 refine wp_seq ?_
 refine region_pl ?_
 refine pl_l hf rfl rfl rfl (w_box hf hM (cs := [vP b2 (o3)]) rfl rfl fun b7 w8 hx9 hM a hf => ?_)
 refine pl_l hf rfl rfl rfl (w_alloc hM (cs := [vL none (([] : (List Node))) 0]) Tryz.zeroValue26 rfl fun b11 w12 hx13 hM a hf => ?_)
 refine pl_nil ?_
 refine then_n ?_
 refine wp_seq ?_
 refine region_pl ?_
 refine q_ hf rfl rfl rfl (e_build hf Tryz.zeroValue26 Tryz.underlying26 (bp_26 _ Tryz.underlying26.symm) rfl (cs := #[vL none (([] : (List Node))) 0]) (by kernel_rfl)) fun a hf => ?_
 refine pl_l hf rfl rfl rfl (w_makeMap fI fI hM fun b15 w16 hx17 hM a hf => ?_)
 refine pl_l hf rfl rfl rfl (w_alloc hM (cs := [vL none (([] : (List Node))) 0]) Tryz.zeroValue26 rfl fun b18 w19 hx20 hM a hf => ?_)
 refine pl_l hf rfl rfl rfl (w_alloc hM (cs := [.map none]) Tryz.zeroValue146 rfl fun b22 w23 hx24 hM a hf => ?_)
 refine pl_0 hf rfl rfl (w_store hf hM (us := [vL none (([] : (List Node))) 0]) (cs' := [vL none (([] : (List Node))) 0]) rfl rfl (k := 1) rfl rfl Tryz.sizeOf26 rfl rfl rfl fun w26 hM => ?_)
 dsimp only [List.set] at hM
 refine pl_0 hf rfl rfl (w_store hf hM (us := [vM b15]) (cs' := [vM b15]) rfl rfl (k := 0) rfl rfl Tryz.sizeOf146 rfl rfl rfl fun w29 hM => ?_)
 dsimp only [List.set] at hM
 refine pl_nil ?_
 refine then_n ?_
 refine wp_seq ?_
 refine region_pl ?_
 refine pl_l hf rfl rfl rfl (w_alloc hM (cs := [.nilFunc]) Tryz.zeroValue113 rfl fun b32 w33 hx34 hM a hf => ?_)
 refine pl_nil ?_
 refine then_n ?_
 refine wp_seq ?_
 refine region_pl ?_
 refine q_ hf rfl rfl rfl (w_makeFunc hf rfl) fun a hf => ?_
 refine pl_0 hf rfl rfl (w_store hf hM (us := [.func (.func 93) #[] #[vP b22 (0), vP b18 (0), vP b7 (0), vP b32 (0)]]) (cs' := [.func (.func 93) #[] #[vP b22 (0), vP b18 (0), vP b7 (0), vP b32 (0)]]) rfl rfl (k := 0) rfl rfl Tryz.sizeOf113 rfl rfl rfl fun w36 hM => ?_)
 dsimp only [List.set] at hM
 refine pl_nil ?_
 refine then_n ?_
 refine wp_seq ?_
 refine region_pl ?_
 refine q_ hf rfl rfl rfl (e_load1 hf rfl Tryz.isAgg113 (hM.boxCell (k := 0) rfl rfl)) fun a hf => ?_
 refine q_ hf rfl rfl rfl (e_move hf rfl) fun a hf => ?_
 have hM := hM.freezeBox (k := 0) rfl rfl
 dsimp only [List.eraseIdx] at hM
 have hM := hM.nilRow NodeWRep 79
 have hM := hM.freezeBox (k := 5) rfl rfl
 dsimp only [List.eraseIdx] at hM
 have hM := hM.front (k := 0) rfl
 dsimp only [List.eraseIdx] at hM
 have hM := hM.front (k := 2) rfl
 dsimp only [List.eraseIdx] at hM
 have hM := hM.front (k := 3) rfl
 dsimp only [List.eraseIdx] at hM
 have hM := hM.front (k := 3) rfl
 dsimp only [List.eraseIdx] at hM
 have hM : Mem C _ ((.box b22 [vM b15] 146 :: .obj b15 (mapO fI fI ([] : (List (Int × Int)))) :: .box b18 [vL none (([] : (List Node))) 0] 26 :: .row NodeWRep none 0 79 ([] : (List NodeW)) true :: nestO 2 ([] : List NodeW)) ++ [.box b11 [vL none (([] : (List Node))) 0] 26]) _ := hM
 obtain ⟨y39, hz40, h⟩ := bind_some h
 refine pl_l hf rfl rfl rfl (w_callV hf (fk := 93) (fc := [vP b22 (0), vP b18 (0), vP b7 (0), vP b32 (0)]) rfl Tryz.call93 rfl (r_impl_maker_numbered_1 ⟨_, Sh C _ _, ownB _, hM.sh_lt, sub_dis, C.G, hM.g_lt, hM.g_own, hM.tabs⟩ root5 hp6 ([] : (List (Int × Int))) _ _ MapR.nil (⟨([] : (List Node))⟩ : Dawg) _ _ _ ([] : List NodeW) rfl m1 _ _ (hM.litPtr (k := 0) (d := 0) (us := [vP b2 (o3)]) rfl rfl rfl (hM.dat (k := 2) rfl)) _ _ (hM.at_ (k := 1) rfl) hM.sub sub_dis _ hz40) ?_)
 rintro _ w46 ⟨b41, A43, c44, ws, rfl, hM2, hw, hv42, hv45⟩
 obtain ⟨hM, hup48⟩ := hM.backG hM2
 have hM : Mem C w46 (.box b11 [vL none (([] : (List Node))) 0] 26 :: .box b22 [vM b41] 146 :: .obj b41 (mapO fI fI y39.2.1) :: .box b18 [vL A43 (y39.2.2.Nodes) c44] 26 :: .row NodeWRep A43 c44 79 ws true :: nestO 2 ws) _ := hM.permP (List.perm_append_comm (l₂ := [Own.box b11 [vL none (([] : (List Node))) 0] 26]))
 clear hM2
 refine ⟨_, rfl, fun a hf => ?_⟩
 refine pl_nil ?_
 refine then_n ?_
 refine wp_seq ?_
 refine region_pl ?_
 refine q_ hf rfl rfl rfl (e_loadA hf (us := [vL A43 (y39.2.2.Nodes) c44]) rfl ⟨Tryz.isAgg26, Tryz.sizeOf26⟩ rfl (hM.boxSub (k := 3) (us := [vL A43 (y39.2.2.Nodes) c44]) (o := 0) rfl rfl)) fun a hf => ?_
 refine pl_0 hf rfl rfl (w_store hf hM (us := [vL A43 (y39.2.2.Nodes) c44]) (cs' := [vL A43 (y39.2.2.Nodes) c44]) rfl rfl (k := 0) rfl rfl Tryz.sizeOf26 rfl rfl rfl fun w49 hM => ?_)
 dsimp only [List.set] at hM
 refine pl_nil ?_
 refine then_n ?_
 refine wp_ret ?_
 obtain rfl := some_inj h
 have hres52 := leaveV1 (P := Tryz.prog) (w := w49) Tryz.results57 (res_agg hf rfl ⟨Tryz.isAgg26, Tryz.sizeOf26⟩ (us := [vL A43 (y39.2.2.Nodes) c44]) rfl (hM.boxSub (k := 0) (o := 0) rfl rfl))
 have hM : Mem C _ (nestW A43 c44 79 2 ws) _ := hM.drop (.cons _ (.cons _ (.cons _ (.cons _ (List.Sublist.refl _)))))
 exact bodyPost_ret hres52 hf.defers ⟨A43, c44, ws, rfl, hM.fin, hw⟩
theorem r_impl_dawgOf (C : Cx) (list1 : (List Str)) (A2 : Option Addr) (c3 : Nat) (hp4 : (sliceRep strRep).R C.w0 C.S0 list1 [vL A2 list1 c3]) (r : (Dawg × Int)) (h : m_impl_dawgOf list1 = some r) :
    Calls Tryz.prog 33 #[vL A2 (list1) c3] C.w0 fun e w => ∃ (A_1 : Option Addr), ∃ (c_1 : Nat), ∃ (ws_1 : List NodeW), e = .returned (.tuple #[.agg #[vL A_1 (r.1.Nodes) c_1], vI (r.2)]) ∧ Mem C w ((nestW A_1 c_1 79 2 ws_1)) [] ∧ ws_1.map NodeW.to = r.1.Nodes ∧ R64 r.2 := by
 have hM := Mem.begin C [.dat (sliceRep strRep) list1 [vL A2 list1 c3]] ⟨hp4, trivial⟩
 refine enter Tryz.func33 rfl Tryz.ntmps33 rfl fun a hf => ?_
 unfold m_impl_dawgOf at h
 refine wp_seq ?_
 refine region_pl ?_
 refine pl_l hf rfl rfl rfl (w_alloc hM (cs := [vL none (([] : (List Node))) 0]) Tryz.zeroValue26 rfl fun b5 w6 hx7 hM a hf => ?_)
 refine q_ hf rfl rfl rfl (e_assign hf rfl) fun a hf => ?_
 refine pl_nil ?_
 refine then_n ?_
 iterate 2 refine wp_seq ?_
 refine region_pl ?_
 refine q_ hf rfl rfl rfl (e_move hf rfl) fun a hf => ?_
 have hl9 := slice_len (hM.dat (k := 0) rfl)
 refine q_ hf rfl rfl rfl (e_lenL hf (x := list1) rfl Tryz.underlying30) fun a hf => ?_
 refine q_ hf rfl rfl rfl (e_gt hf (x := (list1.length : Int)) (y := 3000) rfl rfl) fun a hf => ?_
 refine pl_nil ?_
 refine then_n ?_
 rcases cond_some h with ⟨hc10, h⟩ | ⟨hc10, h⟩
 ·refine cond_t hf rfl hc10 ?_
  refine wp_seq ?_
  refine region_pl ?_
  refine q_ hf rfl rfl rfl (e_build hf Tryz.zeroValue26 Tryz.underlying26 (bp_26 _ Tryz.underlying26.symm) rfl (cs := #[vL none (([] : (List Node))) 0]) (by kernel_rfl)) fun a hf => ?_
  refine pl_0 hf rfl rfl (w_store hf hM (us := [vL none (([] : (List Node))) 0]) (cs' := [vL none (([] : (List Node))) 0]) rfl rfl (k := 0) rfl rfl Tryz.sizeOf26 rfl rfl rfl fun w11 hM => ?_)
  dsimp only [List.set] at hM
  refine q_ hf rfl rfl rfl (e_assign hf rfl) fun a hf => ?_
  refine pl_nil ?_
  refine then_n ?_
  refine wp_ret ?_
  refine then_r ?_
  obtain rfl := some_inj h
  have hres14 := leaveV2 (P := Tryz.prog) (w := w11) Tryz.results33 (res_agg hf rfl ⟨Tryz.isAgg26, Tryz.sizeOf26⟩ (us := [vL none (([] : (List Node))) 0]) rfl (hM.boxSub (k := 0) (o := 0) rfl rfl)) (res_tmp hf rfl)
  have hM := hM.nilNest 79 2
  have hM : Mem C _ (.box b5 [vL none (([] : (List Node))) 0] 26 :: (nestW none 0 79 2 ([] : List NodeW))) _ := hM
  have hM : Mem C _ ((nestW none 0 79 2 ([] : List NodeW))) _ := hM.drop (.cons _ (List.Sublist.refl _))
  exact bodyPost_ret hres14 hf.defers ⟨none, 0, ([] : List NodeW), rfl, hM.fin, rfl, (R64_lit rfl)⟩
 refine cond_f hf rfl hc10 ?_
 refine wp_skip ?_
 refine then_n ?_
 refine wp_seq ?_
 refine region_pl ?_
 refine pl_l hf rfl rfl rfl (w_makeMap fS fI hM fun b15 w16 hx17 hM a hf => ?_)
 refine q_ hf rfl rfl rfl (e_build hf Tryz.zeroValue100 Tryz.underlying100 (bp_100 _ Tryz.underlying100.symm) rfl (cs := #[vL none (([] : (List Node))) 0, vM b15]) (by kernel_rfl)) fun a hf => ?_
 refine pl_l hf rfl rfl rfl (w_box hf hM (cs := [vL none (([] : (List Node))) 0, vM b15]) rfl rfl fun b18 w19 hx20 hM a hf => ?_)
 refine q_ hf rfl rfl rfl (e_assign hf rfl) fun a hf => ?_
 refine pl_nil ?_
 refine then_n ?_
 refine wp_seq ?_
 refine region_pl ?_
 iterate 3 refine q_ hf rfl rfl rfl (e_move hf rfl) fun a hf => ?_
 have hM := hM.nilRow NodeRep 79
 have hM := hM.front (k := 2) rfl
 dsimp only [List.eraseIdx] at hM
 have hM := hM.front (k := 1) rfl
 dsimp only [List.eraseIdx] at hM
 have hM := hM.front (k := 2) rfl
 dsimp only [List.eraseIdx] at hM
 have hM : Mem C _ ([.box b18 [vL none (([] : (List Node))) 0, vM b15] 100, .row NodeRep none 0 79 ([] : (List Node)) true, .obj b15 (mapO fS fI ([] : (List (Str × Int))))] ++ [.box b5 [vL none (([] : (List Node))) 0] 26]) _ := hM
 obtain ⟨y22, hz23, h⟩ := bind_some h
 refine pl_l hf rfl rfl rfl (w_call hf Tryz.call58 rfl (r_impl_maker_build ⟨_, Sh C _ _, ownB _, hM.sh_lt, sub_dis, C.G, hM.g_lt, hM.g_own, hM.tabs⟩ (⟨([] : (List Node)), ([] : (List (Str × Int)))⟩ : maker) _ _ _ _ MapR.nil list1 _ _ (hM.dat (k := 0) rfl) 0 (R64_lit rfl) hM.sub sub_dis _ hz23) ?_)
 rintro _ w29 ⟨A24, c25, b26, rfl, hM2, hv27, hv28⟩
 obtain ⟨hM, hup31⟩ := hM.backG hM2
 dsimp only [List.cons_append, List.nil_append] at hM hup31
 clear hM2
 refine ⟨_, rfl, fun a hf => ?_⟩
 have hM := hM.freezeRow (k := 1) rfl rfl
 dsimp only [List.eraseIdx] at hM
 have hM := hM.freezeMap (k := 1) rfl
 dsimp only [List.eraseIdx] at hM
 have hM := hM.freezeBox (k := 0) rfl rfl
 dsimp only [List.eraseIdx] at hM
 obtain ⟨y32, hz33, h⟩ := bind_some h
 refine pl_l hf rfl rfl rfl (w_call hf Tryz.call57 rfl (r_impl_maker_numbered ⟨_, Sh C _ _, none_, hM.sh_lt, none_not, C.G, hM.g_lt, g_none, hM.tabs⟩ y22.2 _ _ (hM.litPtr (k := 0) (d := 0) (us := [vL A24 (y22.2.nodes) c25, vM b26]) rfl rfl rfl (makerRep_mk (x := y22.2) (hM.dat (k := 2) rfl) (hM.dat (k := 1) rfl))) y22.1 hv28 _ hz33) ?_)
 rintro _ w38 ⟨A34, c35, ws36, rfl, hM2, hw37⟩
 obtain ⟨hM, hx39, hup40⟩ := hM.back hM2
 try dsimp only [List.cons_append, List.nil_append] at hM hup40
 clear hM2
 have hM : Mem C _ (.box b5 [vL none (([] : (List Node))) 0] 26 :: (nestW A34 c35 79 2 ws36)) _ := Mem.perm (own := (nestW A34 c35 79 2 ws36) ++ [.box b5 [vL none (([] : (List Node))) 0] 26]) (own' := ([] ++ [.box b5 [vL none (([] : (List Node))) 0] 26]) ++ (nestW A34 c35 79 2 ws36)) hM (fun a => by simp only [List.count_append, List.count_nil]; omega)
 refine ⟨_, rfl, fun a hf => ?_⟩
 refine pl_l hf rfl rfl rfl (w_alloc hM (cs := [vL none (([] : (List Node))) 0]) Tryz.zeroValue26 rfl fun b41 w42 hx43 hM a hf => ?_)
 refine pl_0 hf rfl rfl (w_store hf hM (us := [vL A34 (y32.Nodes) c35]) (cs' := [vL A34 (y32.Nodes) c35]) rfl rfl (k := 0) rfl rfl Tryz.sizeOf26 rfl rfl rfl fun w45 hM => ?_)
 dsimp only [List.set] at hM
 refine pl_nil ?_
 refine then_n ?_
 iterate 2 refine wp_seq ?_
 refine region_pl ?_
 refine q_ hf rfl rfl rfl (e_field hf rfl Tryz.underlying26 rfl Tryz.sizeOf24 (o' := 0) rfl) fun a hf => ?_
 refine q_ hf rfl rfl rfl (e_load1 hf rfl Tryz.isAgg24 (hM.boxCell (k := 0) rfl rfl)) fun a hf => ?_
 have hl48 := slice_len (hM.lendNest (A := A34) (c := c35) (E := 79) (E2 := 2) (ws := ws36) (fun q hq => by simp [hq]) hw37)
 refine q_ hf rfl rfl rfl (e_lenL hf (x := y32.Nodes) rfl Tryz.underlying24) fun a hf => ?_
 refine q_ hf rfl rfl rfl (e_gt hf (x := (y32.Nodes.length : Int)) (y := 3000) rfl rfl) fun a hf => ?_
 refine pl_nil ?_
 refine then_n ?_
 rcases cond_some h with ⟨hc49, h⟩ | ⟨hc49, h⟩
 ·refine cond_t hf rfl hc49 ?_
  refine wp_seq ?_
  refine region_pl ?_
  refine q_ hf rfl rfl rfl (e_build hf Tryz.zeroValue26 Tryz.underlying26 (bp_26 _ Tryz.underlying26.symm) rfl (cs := #[vL none (([] : (List Node))) 0]) (by kernel_rfl)) fun a hf => ?_
  refine pl_0 hf rfl rfl (w_store hf hM (us := [vL none (([] : (List Node))) 0]) (cs' := [vL none (([] : (List Node))) 0]) rfl rfl (k := 1) rfl rfl Tryz.sizeOf26 rfl rfl rfl fun w50 hM => ?_)
  dsimp only [List.set] at hM
  refine q_ hf rfl rfl rfl (e_assign hf rfl) fun a hf => ?_
  refine pl_nil ?_
  refine then_n ?_
  refine wp_ret ?_
  refine then_r ?_
  obtain rfl := some_inj h
  have hres53 := leaveV2 (P := Tryz.prog) (w := w50) Tryz.results33 (res_agg hf rfl ⟨Tryz.isAgg26, Tryz.sizeOf26⟩ (us := [vL none (([] : (List Node))) 0]) rfl (hM.boxSub (k := 1) (o := 0) rfl rfl)) (res_tmp hf rfl)
  have hM := hM.nilNest 79 2
  have hM : Mem C _ (.box b41 [vL A34 (y32.Nodes) c35] 26 :: .box b5 [vL none (([] : (List Node))) 0] 26 :: ((nestW A34 c35 79 2 ws36) ++ nestW none 0 79 2 ([] : List NodeW))) _ := hM
  have hM : Mem C _ ((nestW A34 c35 79 2 ws36) ++ ([.box b41 [vL A34 (y32.Nodes) c35] 26, .box b5 [vL none (([] : (List Node))) 0] 26] ++ (nestW none 0 79 2 ([] : List NodeW)))) _ := Mem.perm (own := ([.box b41 [vL A34 (y32.Nodes) c35] 26, .box b5 [vL none (([] : (List Node))) 0] 26] ++ ((nestW A34 c35 79 2 ws36) ++ nestW none 0 79 2 ([] : List NodeW)))) hM (fun a => by simp only [List.count_append, List.count_nil]; omega)
  have hM := Mem.freezeNest (A := A34) (c := c35) (E := 79) (E2 := 2) (ws := ws36) hM hw37
  have hM : Mem C _ (.box b41 [vL A34 (y32.Nodes) c35] 26 :: .box b5 [vL none (([] : (List Node))) 0] 26 :: (nestW none 0 79 2 ([] : List NodeW))) _ := hM
  have hM : Mem C _ ((nestW none 0 79 2 ([] : List NodeW))) _ := hM.drop (.cons _ (.cons _ (List.Sublist.refl _)))
  exact bodyPost_ret hres53 hf.defers ⟨none, 0, ([] : List NodeW), rfl, hM.fin, rfl, (R64_lit rfl)⟩
 refine cond_f hf rfl hc49 ?_
 refine wp_skip ?_
 refine then_n ?_
 refine wp_seq ?_
 refine region_pl ?_
 refine q_ hf rfl rfl rfl (e_loadA hf (us := [vL A34 (y32.Nodes) c35]) rfl ⟨Tryz.isAgg26, Tryz.sizeOf26⟩ rfl (hM.boxSub (k := 0) (us := [vL A34 (y32.Nodes) c35]) (o := 0) rfl rfl)) fun a hf => ?_
 refine pl_0 hf rfl rfl (w_store hf hM (us := [vL A34 (y32.Nodes) c35]) (cs' := [vL A34 (y32.Nodes) c35]) rfl rfl (k := 1) rfl rfl Tryz.sizeOf26 rfl rfl rfl fun w54 hM => ?_)
 dsimp only [List.set] at hM
 refine q_ hf rfl rfl rfl (e_assign hf rfl) fun a hf => ?_
 refine pl_nil ?_
 refine then_n ?_
 refine wp_ret ?_
 obtain rfl := some_inj h
 have hres57 := leaveV2 (P := Tryz.prog) (w := w54) Tryz.results33 (res_agg hf rfl ⟨Tryz.isAgg26, Tryz.sizeOf26⟩ (us := [vL A34 (y32.Nodes) c35]) rfl (hM.boxSub (k := 1) (o := 0) rfl rfl)) (res_tmp hf rfl)
 have hM : Mem C _ ((nestW A34 c35 79 2 ws36)) _ := hM.drop (.cons _ (.cons _ (List.Sublist.refl _)))
 exact bodyPost_ret hres57 hf.defers ⟨A34, c35, ws36, rfl, hM.fin, hw37, (R64_lit rfl)⟩
theorem r_impl_combined (C : Cx) (a1 : Dawg) (A2 : Option Addr) (c3 : Nat) (hp4 : (sliceRep NodeRep).R C.w0 C.S0 a1.Nodes [vL A2 a1.Nodes c3]) (b5 : Dawg) (A6 : Option Addr) (c7 : Nat) (hp8 : (sliceRep NodeRep).R C.w0 C.S0 b5.Nodes [vL A6 b5.Nodes c7]) (of9 : (Str → Option Bool)) (fI10 : Value) (hI11 : ∃ T v, fI10 = .iface T v) (fk12 : FuncId) (fa13 : List Value) (hV14 : CallsAs Tryz.prog (.func (.method "loop.example/g00911/impl.has") #[fI10] #[]) fk12 fa13 []) (hfn15 : FnOk Tryz.prog C fk12 (FnC_Str_to_Bool fk12 fa13 [] of9)) (r : (Dawg × Int)) (h : m_impl_combined a1 b5 of9 = some r) :
    Calls Tryz.prog 26 #[.agg #[vL A2 (a1.Nodes) c3], .agg #[vL A6 (b5.Nodes) c7], fI10] C.w0 fun e w => ∃ (A_1 : Option Addr), ∃ (c_1 : Nat), ∃ (ws_1 : List NodeW), e = .returned (.tuple #[.agg #[vL A_1 (r.1.Nodes) c_1], vI (r.2)]) ∧ Mem C w ((nestW A_1 c_1 79 2 ws_1)) [] ∧ ws_1.map NodeW.to = r.1.Nodes ∧ R64 r.2 := by
 have hM := Mem.begin C [.dat (sliceRep NodeRep) b5.Nodes [vL A6 b5.Nodes c7], .dat (sliceRep NodeRep) a1.Nodes [vL A2 a1.Nodes c3]] ⟨hp8, hp4, trivial⟩
 refine enter Tryz.func26 rfl Tryz.ntmps26 rfl fun a hf => ?_
 unfold m_impl_combined at h
 refine wp_seq ?_
 refine region_pl ?_
 refine pl_l hf rfl rfl rfl (w_box hf hM (cs := [vL A2 (a1.Nodes) c3]) rfl rfl fun b16 w17 hx18 hM a hf => ?_)
 refine pl_l hf rfl rfl rfl (w_box hf hM (cs := [vL A6 (b5.Nodes) c7]) rfl rfl fun b20 w21 hx22 hM a hf => ?_)
 refine pl_l hf rfl rfl rfl (w_alloc hM (cs := [vL none (([] : (List Node))) 0]) Tryz.zeroValue26 rfl fun b24 w25 hx26 hM a hf => ?_)
 refine q_ hf rfl rfl rfl (e_assign hf rfl) fun a hf => ?_
 refine pl_nil ?_
 refine then_n ?_
 refine wp_seq ?_
 obtain ⟨x30, h31, h⟩ := bind_some h
 refine seq_join (fun a w => ∃ (t28 : Bool), t28 = x30 ∧ Has 24 a [(2, fI10), (3, vP b16 (0)), (4, vP b20 (0)), (6, vP b24 (0)), (15, .bool (t28))] ∧ Mem C w [.box b24 [vL none (([] : (List Node))) 0] 26, .box b20 [vL A6 (b5.Nodes) c7] 26, .box b16 [vL A2 (a1.Nodes) c3] 26] [.dat (sliceRep NodeRep) b5.Nodes [vL A6 b5.Nodes c7], .dat (sliceRep NodeRep) a1.Nodes [vL A2 a1.Nodes c3]]) ?_ ?_
 ·refine region_pl ?_
  refine q_ hf rfl rfl rfl (e_loadA hf (us := [vL A2 (a1.Nodes) c3]) rfl ⟨Tryz.isAgg26, Tryz.sizeOf26⟩ rfl (hM.boxSub (k := 2) (us := [vL A2 (a1.Nodes) c3]) (o := 0) rfl rfl)) fun a hf => ?_
  obtain ⟨y32, hz33, h31⟩ := bind_some h31
  refine pl_l hf rfl rfl rfl (w_call hf Tryz.call27 rfl (r_impl_ValidDawg ⟨_, Sh C _ _, none_, hM.sh_lt, none_not, C.G, hM.g_lt, g_none, hM.tabs⟩ a1 _ _ (hM.dat (k := 1) rfl) _ hz33) ?_)
  rintro _ w34 ⟨rfl, hM2⟩
  obtain ⟨hM, hx35, hup36⟩ := hM.back hM2
  dsimp only [List.cons_append, List.nil_append] at hM hup36
  clear hM2
  refine ⟨_, rfl, fun a hf => ?_⟩
  refine q_ hf rfl rfl rfl (e_not hf rfl) fun a hf => ?_
  refine q_ hf rfl rfl rfl (e_move hf rfl) fun a hf => ?_
  rcases cond_some h31 with ⟨hc37, h31⟩ | ⟨hc37, h31⟩
  ·iterate 3 refine pl_gs (wanted_f hf rfl rfl rfl rfl hc37) hf rfl rfl fun a hf => ?_
   refine q_ hf rfl rfl rfl (e_pick_t hf rfl hc37 rfl) fun a hf => ?_
   refine pl_nil ?_
   obtain rfl := some_inj h31
   refine then_n ?_
   exact ⟨true, rfl, hf.keep ⟨rfl, rfl, rfl, rfl, rfl, trivial⟩, hM.pick [0, 1] rfl⟩
  refine gq (wanted_t hf rfl rfl rfl rfl hc37) hf rfl rfl (e_loadA hf (us := [vL A6 (b5.Nodes) c7]) rfl ⟨Tryz.isAgg26, Tryz.sizeOf26⟩ rfl (hM.boxSub (k := 1) (us := [vL A6 (b5.Nodes) c7]) (o := 0) rfl rfl)) fun a hf => ?_
  obtain ⟨y39, hz40, h31⟩ := bind_some h31
  refine pl_gl (wanted_t hf rfl rfl rfl rfl hc37) hf rfl rfl (w_call hf Tryz.call27 rfl (r_impl_ValidDawg ⟨_, Sh C _ _, none_, hM.sh_lt, none_not, C.G, hM.g_lt, g_none, hM.tabs⟩ b5 _ _ (hM.dat (k := 0) rfl) _ hz40) ?_)
  rintro _ w41 ⟨rfl, hM2⟩
  obtain ⟨hM, hx42, hup43⟩ := hM.back hM2
  dsimp only [List.cons_append, List.nil_append] at hM hup43
  clear hM2
  refine ⟨_, rfl, fun a hf => ?_⟩
  refine gq (wanted_t hf rfl rfl rfl rfl hc37) hf rfl rfl (e_not hf rfl) fun a hf => ?_
  refine q_ hf rfl rfl rfl (e_pick_f hf rfl hc37 rfl) fun a hf => ?_
  refine pl_nil ?_
  obtain rfl := some_inj h31
  refine then_n ?_
  exact ⟨(!y39), rfl, hf.keep ⟨rfl, rfl, rfl, rfl, rfl, trivial⟩, hM.pick [0, 1] rfl⟩
 rintro a w45 ⟨t28, rfl, hf, hM⟩
 try dsimp only at h
 rcases cond_some h with ⟨hc46, h⟩ | ⟨hc46, h⟩
 ·refine cond_t hf rfl hc46 ?_
  refine wp_seq ?_
  refine region_pl ?_
  refine q_ hf rfl rfl rfl (e_build hf Tryz.zeroValue26 Tryz.underlying26 (bp_26 _ Tryz.underlying26.symm) rfl (cs := #[vL none (([] : (List Node))) 0]) (by kernel_rfl)) fun a hf => ?_
  refine pl_0 hf rfl rfl (w_store hf hM (us := [vL none (([] : (List Node))) 0]) (cs' := [vL none (([] : (List Node))) 0]) rfl rfl (k := 0) rfl rfl Tryz.sizeOf26 rfl rfl rfl fun w47 hM => ?_)
  dsimp only [List.set] at hM
  refine q_ hf rfl rfl rfl (e_assign hf rfl) fun a hf => ?_
  refine pl_nil ?_
  refine then_n ?_
  refine wp_ret ?_
  refine then_r ?_
  obtain rfl := some_inj h
  have hres50 := leaveV2 (P := Tryz.prog) (w := w47) Tryz.results26 (res_agg hf rfl ⟨Tryz.isAgg26, Tryz.sizeOf26⟩ (us := [vL none (([] : (List Node))) 0]) rfl (hM.boxSub (k := 0) (o := 0) rfl rfl)) (res_tmp hf rfl)
  have hM := hM.nilNest 79 2
  have hM : Mem C _ (.box b24 [vL none (([] : (List Node))) 0] 26 :: .box b20 [vL A6 (b5.Nodes) c7] 26 :: .box b16 [vL A2 (a1.Nodes) c3] 26 :: (nestW none 0 79 2 ([] : List NodeW))) _ := hM
  have hM : Mem C _ ((nestW none 0 79 2 ([] : List NodeW))) _ := hM.drop (.cons _ (.cons _ (.cons _ (List.Sublist.refl _))))
  exact bodyPost_ret hres50 hf.defers ⟨none, 0, ([] : List NodeW), rfl, hM.fin, rfl, (R64_lit rfl)⟩
 refine cond_f hf rfl hc46 ?_
 refine wp_skip ?_
 refine then_n ?_
 refine wp_seq ?_
 refine region_pl ?_
 refine q_ hf rfl rfl rfl (e_loadA hf (us := [vL A2 (a1.Nodes) c3]) rfl ⟨Tryz.isAgg26, Tryz.sizeOf26⟩ rfl (hM.boxSub (k := 2) (us := [vL A2 (a1.Nodes) c3]) (o := 0) rfl rfl)) fun a hf => ?_
 refine q_ hf rfl rfl rfl (e_loadA hf (us := [vL A6 (b5.Nodes) c7]) rfl ⟨Tryz.isAgg26, Tryz.sizeOf26⟩ rfl (hM.boxSub (k := 1) (us := [vL A6 (b5.Nodes) c7]) (o := 0) rfl rfl)) fun a hf => ?_
 refine q_ hf rfl rfl rfl (e_move hf rfl) fun a hf => ?_
 obtain ⟨y51, hz52, h⟩ := bind_some h
 refine pl_l hf rfl rfl rfl (w_call hf Tryz.call46 rfl (r_impl_chosen ⟨_, Sh C _ _, none_, hM.sh_lt, none_not, C.G, hM.g_lt, g_none, hM.tabs⟩ a1 _ _ (hM.dat (k := 1) rfl) b5 _ _ (hM.dat (k := 0) rfl) of9 _ hI11 _ _ hV14 (hfn15.to hM.sameS hM.s0sh) _ hz52) ?_)
 rintro _ w55 ⟨A53, c54, rfl, hM2⟩
 obtain ⟨hM, hx56, hup57⟩ := hM.back hM2
 dsimp only [List.cons_append, List.nil_append] at hM hup57
 clear hM2
 refine ⟨_, rfl, fun a hf => ?_⟩
 obtain ⟨y58, hz59, h⟩ := bind_some h
 refine pl_l hf rfl rfl rfl (w_call hf Tryz.call33 rfl (r_impl_dawgOf ⟨_, All C _ _, none_, hM.all_lt, none_not, C.G, hM.g_lt, g_none, hM.tabs⟩ y51 _ _ (hM.lendRow (k := 0) rfl) _ hz59) ?_)
 rintro _ w65 ⟨A60, c61, ws62, rfl, hM2, hw63, hv64⟩
 obtain ⟨hM, hx66⟩ := hM.backAL OFlat.nest hM2
 clear hM2
 have hM : Mem C _ (.row strRep A53 c54 9 y51 true :: .box b24 [vL none (([] : (List Node))) 0] 26 :: .box b20 [vL A6 (b5.Nodes) c7] 26 :: .box b16 [vL A2 (a1.Nodes) c3] 26 :: (nestW A60 c61 79 2 ws62)) _ := Mem.perm (own := (nestW A60 c61 79 2 ws62) ++ [.row strRep A53 c54 9 y51 true, .box b24 [vL none (([] : (List Node))) 0] 26, .box b20 [vL A6 (b5.Nodes) c7] 26, .box b16 [vL A2 (a1.Nodes) c3] 26]) (own' := ([] ++ [.row strRep A53 c54 9 y51 true, .box b24 [vL none (([] : (List Node))) 0] 26, .box b20 [vL A6 (b5.Nodes) c7] 26, .box b16 [vL A2 (a1.Nodes) c3] 26]) ++ (nestW A60 c61 79 2 ws62)) hM (fun a => by simp only [List.count_append, List.count_nil]; omega)
 refine ⟨_, rfl, fun a hf => ?_⟩
 iterate 2 refine q_ hf rfl rfl rfl (e_extract hf rfl rfl) fun a hf => ?_
 refine pl_0 hf rfl rfl (w_store hf hM (us := [vL A60 (y58.1.Nodes) c61]) (cs' := [vL A60 (y58.1.Nodes) c61]) rfl rfl (k := 1) rfl rfl Tryz.sizeOf26 rfl rfl rfl fun w68 hM => ?_)
 dsimp only [List.set] at hM
 refine q_ hf rfl rfl rfl (e_assign hf rfl) fun a hf => ?_
 refine pl_nil ?_
 refine then_n ?_
 refine wp_ret ?_
 obtain rfl := some_inj h
 have hres71 := leaveV2 (P := Tryz.prog) (w := w68) Tryz.results26 (res_agg hf rfl ⟨Tryz.isAgg26, Tryz.sizeOf26⟩ (us := [vL A60 (y58.1.Nodes) c61]) rfl (hM.boxSub (k := 1) (o := 0) rfl rfl)) (res_tmp hf rfl)
 have hM : Mem C _ ((nestW A60 c61 79 2 ws62)) _ := hM.drop (.cons _ (.cons _ (.cons _ (.cons _ (List.Sublist.refl _)))))
 exact bodyPost_ret hres71 hf.defers ⟨A60, c61, ws62, rfl, hM.fin, hw63, hv64⟩
theorem r_impl_Dawg_step (C : Cx) (d1 : Dawg) (A2 : Option Addr) (c3 : Nat) (hp4 : (sliceRep NodeRep).R C.w0 C.S0 d1.Nodes [vL A2 d1.Nodes c3]) (node5 : Int) (hp6 : R64 node5) (letter7 : UInt8) (r : Int) (h : m_impl_Dawg_step d1 node5 letter7 = some r) :
    Calls Tryz.prog 143 #[.agg #[vL A2 (d1.Nodes) c3], vI (node5), vB (letter7)] C.w0 fun e w => e = .returned (vI (r)) ∧ Mem C w [] [] ∧ R64 r := by
 have hM := Mem.begin C [.dat (sliceRep NodeRep) d1.Nodes [vL A2 d1.Nodes c3]] ⟨hp4, trivial⟩
 refine enter Tryz.func143 rfl Tryz.ntmps143 rfl fun a hf => ?_
 unfold m_impl_Dawg_step at h
 refine wp_seq ?_
 refine region_pl ?_
 refine pl_l hf rfl rfl rfl (w_box hf hM (cs := [vL A2 (d1.Nodes) c3]) rfl rfl fun b8 w9 hx10 hM a hf => ?_)
 refine q_ hf rfl rfl rfl (e_assign hf rfl) fun a hf => ?_
 refine pl_nil ?_
 refine then_n ?_
 iterate 2 refine wp_seq ?_
 refine region_pl ?_
 refine q_ hf rfl rfl rfl (e_move hf rfl) fun a hf => ?_
 refine q_ hf rfl rfl rfl (e_field hf rfl Tryz.underlying26 rfl Tryz.sizeOf24 (o' := 0) rfl) fun a hf => ?_
 refine q_ hf rfl rfl rfl (e_load1 hf rfl Tryz.isAgg24 (hM.boxCell (k := 0) rfl rfl)) fun a hf => ?_
 have hl12 := slice_len (hM.dat (k := 0) rfl)
 refine q_ hf rfl rfl rfl (e_lenL hf (x := d1.Nodes) rfl Tryz.underlying24) fun a hf => ?_
 obtain ⟨z13, hz14, h⟩ := bind_some h
 refine q_ hf rfl rfl rfl (e_sub hf rfl rfl hz14) fun a hf => ?_
 obtain ⟨y15, hz16, h⟩ := bind_some h
 refine pl_l hf rfl rfl rfl (w_call hf Tryz.call75 rfl (r_impl_within ⟨_, Sh C _ _, none_, hM.sh_lt, none_not, C.G, hM.g_lt, g_none, hM.tabs⟩ node5 hp6 0 (R64_lit rfl) z13 (chk_R hz14) _ hz16) ?_)
 rintro _ w17 ⟨rfl, hM2⟩
 obtain ⟨hM, hx18, hup19⟩ := hM.back hM2
 dsimp only [List.cons_append, List.nil_append] at hM hup19
 clear hM2
 refine ⟨_, rfl, fun a hf => ?_⟩
 refine q_ hf rfl rfl rfl (e_not hf rfl) fun a hf => ?_
 refine pl_nil ?_
 refine then_n ?_
 rcases cond_some h with ⟨hc20, h⟩ | ⟨hc20, h⟩
 ·refine cond_t hf rfl hc20 ?_
  refine wp_seq ?_
  refine region_pl ?_
  refine q_ hf rfl rfl rfl (e_assign hf rfl) fun a hf => ?_
  refine pl_nil ?_
  refine then_n ?_
  refine wp_ret ?_
  refine then_r ?_
  obtain rfl := some_inj h
  have hM := hM.outs (own' := []) 0 rfl
  exact leave1 hf rfl rfl ⟨rfl, hM.fin, (R64_lit rfl)⟩
 refine cond_f hf rfl hc20 ?_
 refine wp_skip ?_
 refine then_n ?_
 refine wp_seq ?_
 refine region_pl ?_
 refine q_ hf rfl rfl rfl (e_field hf rfl Tryz.underlying26 rfl Tryz.sizeOf24 (o' := 0) rfl) fun a hf => ?_
 refine q_ hf rfl rfl rfl (e_load1 hf rfl Tryz.isAgg24 (hM.boxCell (k := 0) rfl rfl)) fun a hf => ?_
 refine q_ hf rfl rfl rfl (e_move hf rfl) fun a hf => ?_
 obtain ⟨e21, hz22, h⟩ := bind_some h
 obtain ⟨b26, o27, _, hA28, h23, h24, hr25, hM⟩ := hM.elem (hM.dat (k := 0) rfl) (n := 3) rfl hz22
 obtain ⟨A30, c31, rfl, hv29, hv32⟩ := NodeRep_open hr25
 have hM := hM.add (y := .dat (sliceRep intRep) e21.Next [vL A30 e21.Next c31]) hv32
 refine q_ hf rfl rfl rfl (e_indexAddr (A := A2) (b := b26) (o := o27) (xs := d1.Nodes) (i := node5) hf hA28 rfl rfl Tryz.underlying24 Tryz.sizeOf79 h23 h24) fun a hf => ?_
 refine q_ hf rfl rfl rfl (e_loadA hf (us := [.bool (e21.Final), vS (e21.Letters), vL A30 (e21.Next) c31]) rfl ⟨Tryz.isAgg79, Tryz.sizeOf79⟩ rfl (hM.litSub (k := 1) (d := 0) (us := [.bool (e21.Final), vS (e21.Letters), vL A30 (e21.Next) c31]) rfl rfl rfl)) fun a hf => ?_
 refine pl_l hf rfl rfl rfl (w_alloc hM (cs := [.bool (false), vS (([] : Str)), vL none (([] : (List Int))) 0]) Tryz.zeroValue79 rfl fun b33 w34 hx35 hM a hf => ?_)
 refine pl_0 hf rfl rfl (w_store hf hM (us := [.bool (e21.Final), vS (e21.Letters), vL A30 (e21.Next) c31]) (cs' := [.bool (e21.Final), vS (e21.Letters), vL A30 (e21.Next) c31]) rfl rfl (k := 0) rfl rfl Tryz.sizeOf79 rfl rfl rfl fun w37 hM => ?_)
 dsimp only [List.set] at hM
 refine pl_nil ?_
 refine then_n ?_
 iterate 2 refine wp_seq ?_
 refine region_pl ?_
 refine q_ hf rfl rfl rfl (e_field hf rfl Tryz.underlying79 rfl Tryz.sizeOf9 (o' := 1) rfl) fun a hf => ?_
 refine q_ hf rfl rfl rfl (e_load1 hf rfl Tryz.isAgg9 (hM.boxCell (k := 0) rfl rfl)) fun a hf => ?_
 refine q_ hf rfl rfl rfl (e_move hf rfl) fun a hf => ?_
 obtain ⟨y40, hz41, h⟩ := bind_some h
 refine pl_l hf rfl rfl rfl (w_call hf Tryz.call144 rfl (r_strings_IndexByte ⟨_, Sh C _ _, none_, hM.sh_lt, none_not, C.G, hM.g_lt, g_none, hM.tabs⟩ e21.Letters hv29 letter7 _ hz41) ?_)
 rintro _ w43 ⟨rfl, hM2, hv42⟩
 obtain ⟨hM, hx44, hup45⟩ := hM.back hM2
 dsimp only [List.cons_append, List.nil_append] at hM hup45
 clear hM2
 refine ⟨_, rfl, fun a hf => ?_⟩
 refine q_ hf rfl rfl rfl (e_assign hf rfl) fun a hf => ?_
 refine pl_nil ?_
 refine then_n ?_
 refine wp_seq ?_
 refine region_pl ?_
 refine q_ hf rfl rfl rfl (e_move hf rfl) fun a hf => ?_
 refine q_ hf rfl rfl rfl (e_ge hf (x := y40) (y := 0) rfl rfl) fun a hf => ?_
 refine pl_nil ?_
 refine then_n ?_
 rcases cond_some h with ⟨hc46, h⟩ | ⟨hc46, h⟩
 ·refine cond_t hf rfl hc46 ?_
  refine wp_seq ?_
  refine region_pl ?_
  refine q_ hf rfl rfl rfl (e_field hf rfl Tryz.underlying79 rfl Tryz.sizeOf77 (o' := 2) rfl) fun a hf => ?_
  refine q_ hf rfl rfl rfl (e_load1 hf rfl Tryz.isAgg77 (hM.boxCell (k := 0) rfl rfl)) fun a hf => ?_
  refine q_ hf rfl rfl rfl (e_move hf rfl) fun a hf => ?_
  obtain ⟨e47, hz48, h⟩ := bind_some h
  obtain ⟨b52, o53, _, hA54, h49, h50, hr51, hM⟩ := hM.elem (hM.dat (k := 0) rfl) (n := 1) rfl hz48
  obtain ⟨rfl, hv55⟩ := hr51
  refine q_ hf rfl rfl rfl (e_indexAddr (A := A30) (b := b52) (o := o53) (xs := e21.Next) (i := y40) hf hA54 rfl rfl Tryz.underlying77 Tryz.sizeOf2 h49 h50) fun a hf => ?_
  refine q_ hf rfl rfl rfl (e_load1 hf rfl Tryz.isAgg2 (hM.litCell (k := 0) (j := 0) rfl rfl rfl)) fun a hf => ?_
  refine q_ hf rfl rfl rfl (e_assign hf rfl) fun a hf => ?_
  refine pl_nil ?_
  refine then_n ?_
  refine wp_ret ?_
  refine then_r ?_
  obtain rfl := some_inj h
  have hM := hM.outs (own' := []) 0 rfl
  exact leave1 hf rfl rfl ⟨rfl, hM.fin, hv55⟩
 refine cond_f hf rfl hc46 ?_
 refine wp_skip ?_
 refine then_n ?_
 refine wp_seq ?_
 refine region_pl ?_
 refine q_ hf rfl rfl rfl (e_assign hf rfl) fun a hf => ?_
 refine pl_nil ?_
 refine then_n ?_
 refine wp_ret ?_
 obtain rfl := some_inj h
 have hM := hM.outs (own' := []) 0 rfl
 exact leave1 hf rfl rfl ⟨rfl, hM.fin, (R64_lit rfl)⟩
theorem r_impl_Dawg_after (C : Cx) (d1 : Dawg) (A2 : Option Addr) (c3 : Nat) (hp4 : (sliceRep NodeRep).R C.w0 C.S0 d1.Nodes [vL A2 d1.Nodes c3]) (s5 : Str) (hp6 : s5.length ≤ maxLen) (r : Int) (h : m_impl_Dawg_after d1 s5 = some r) :
    Calls Tryz.prog 142 #[.agg #[vL A2 (d1.Nodes) c3], vS (s5)] C.w0 fun e w => e = .returned (vI (r)) ∧ Mem C w [] [] ∧ R64 r := by
 have hM := Mem.begin C [.dat (sliceRep NodeRep) d1.Nodes [vL A2 d1.Nodes c3]] ⟨hp4, trivial⟩
 refine enter Tryz.func142 rfl Tryz.ntmps142 rfl fun a hf => ?_
 unfold m_impl_Dawg_after at h
 refine wp_seq ?_
 refine region_pl ?_
 refine pl_l hf rfl rfl rfl (w_box hf hM (cs := [vL A2 (d1.Nodes) c3]) rfl rfl fun b7 w8 hx9 hM a hf => ?_)
 refine q_ hf rfl rfl rfl (e_assign hf rfl) fun a hf => ?_
 refine pl_nil ?_
 refine then_n ?_
 refine wp_seq ?_
 refine region_pl ?_
 refine q_ hf rfl rfl rfl (e_assign hf rfl) fun a hf => ?_
 refine pl_nil ?_
 refine then_n ?_
 obtain ⟨x13, h14, h⟩ := bind_some h
 refine seq_join (fun a w => ∃ (n11 : Int), n11 = x13 ∧ Has 24 a [(5, vI (n11))] ∧ Mem C w [.box b7 [vL A2 (d1.Nodes) c3] 26] [.dat (sliceRep NodeRep) d1.Nodes [vL A2 d1.Nodes c3]] ∧ R64 n11) ?_ ?_
 ·refine wp_seq ?_
  refine region_pl ?_
  refine q_ hf rfl rfl rfl (e_assign hf rfl) fun a hf => ?_
  refine pl_nil ?_
  refine then_n ?_
  refine wp_block ?_
  obtain ⟨x22, h23, h14⟩ := bind_some h14
  refine wp_loopM h23 (fun s a w => ∃ (n15 : Int) (n17 : Int), (n15, n17) = s ∧ Has 24 a [(1, vS (s5)), (2, vP b7 (0)), (5, vI (n15)), (6, vI (n17))] ∧ Mem C w [.box b7 [vL A2 (d1.Nodes) c3] 26] [.dat (sliceRep NodeRep) d1.Nodes [vL A2 d1.Nodes c3]] ∧ R64 n15 ∧ R64 n17) ?_ ?_
  ·exact ⟨0, 0, rfl, hf.keep ⟨rfl, rfl, rfl, rfl, trivial⟩, hM.pick [0] rfl, (R64_lit rfl), (R64_lit rfl)⟩
  rintro s o24 a w19 ⟨n15, n17, rfl, hf, hM, hv16, hv18⟩ h25 hd26
  replace h25 : m_impl_Dawg_after_l1 s5 d1 n15 n17 = some o24 := h25
  unfold m_impl_Dawg_after_l1 at h25
  refine wp_seq ?_
  obtain ⟨x29, h30, h25⟩ := bind_some h25
  refine seq_join (fun a w => ∃ (t27 : Bool), t27 = x29 ∧ Has 24 a [(1, vS (s5)), (2, vP b7 (0)), (5, vI (n15)), (6, vI (n17)), (14, .bool (t27))] ∧ Mem C w [.box b7 [vL A2 (d1.Nodes) c3] 26] [.dat (sliceRep NodeRep) d1.Nodes [vL A2 d1.Nodes c3]]) ?_ ?_
  ·refine region_pl ?_
   iterate 2 refine q_ hf rfl rfl rfl (e_move hf rfl) fun a hf => ?_
   refine q_ hf rfl rfl rfl (e_lenS hf (x := s5) rfl Tryz.underlying9) fun a hf => ?_
   refine q_ hf rfl rfl rfl (e_lt hf (x := n17) (y := (s5.length : Int)) rfl rfl) fun a hf => ?_
   refine q_ hf rfl rfl rfl (e_move hf rfl) fun a hf => ?_
   rcases cond_some h30 with ⟨hc31, h30⟩ | ⟨hc31, h30⟩
   ·refine gq (wanted_t hf rfl rfl rfl rfl hc31) hf rfl rfl (e_move hf rfl) fun a hf => ?_
    refine gq (wanted_t hf rfl rfl rfl rfl hc31) hf rfl rfl (e_ge hf (x := n15) (y := 0) rfl rfl) fun a hf => ?_
    refine q_ hf rfl rfl rfl (e_pick_t hf rfl hc31 rfl) fun a hf => ?_
    refine pl_nil ?_
    obtain rfl := some_inj h30
    refine then_n ?_
    exact ⟨(decide (0 ≤ n15)), rfl, hf.keep ⟨rfl, rfl, rfl, rfl, rfl, trivial⟩, hM.pick [0] rfl⟩
   iterate 2 refine pl_gs (wanted_f hf rfl rfl rfl rfl hc31) hf rfl rfl fun a hf => ?_
   refine q_ hf rfl rfl rfl (e_pick_f hf rfl hc31 rfl) fun a hf => ?_
   refine pl_nil ?_
   obtain rfl := some_inj h30
   refine then_n ?_
   exact ⟨false, rfl, hf.keep ⟨rfl, rfl, rfl, rfl, rfl, trivial⟩, hM.pick [0] rfl⟩
  rintro a w34 ⟨t27, rfl, hf, hM⟩
  try dsimp only at h25
  rcases cond_some h25 with ⟨hc35, h25⟩ | ⟨hc35, h25⟩
  ·refine cond_t hf rfl hc35 ?_
   refine wp_skip ?_
   refine then_n ?_
   refine wp_seq ?_
   refine wp_block ?_
   obtain ⟨w36, hw⟩ : ∃ x, x = w34.drew := ⟨_, rfl⟩
   refine region_pi (.q 0 (.q 1 (.q 2 (.q 3 (.q 4 (.l 5 (.q 6 (.nil)))))))) (Ext w36) rfl (by kernel_rfl) ?_
   have hM := hM.drew
   rw [← hw] at hM ⊢
   clear hw
   refine pi_q hf rfl rfl rfl rfl (Ext.refl _) (e_loadA hf (us := [vL A2 (d1.Nodes) c3]) rfl ⟨Tryz.isAgg26, Tryz.sizeOf26⟩ rfl (hM.boxSub (k := 0) (us := [vL A2 (d1.Nodes) c3]) (o := 0) rfl rfl)) fun a hf => ?_
   iterate 3 refine pi_q hf rfl rfl rfl rfl (Ext.refl _) (e_move hf rfl) fun a hf => ?_
   obtain ⟨c37, hz38, h25⟩ := bind_some h25
   refine pi_q hf rfl rfl rfl rfl (Ext.refl _) (e_indexS hf (x := s5) rfl rfl Tryz.underlying9 hz38) fun a hf => ?_
   refine pi_one ?_
   obtain ⟨y39, hz40, h25⟩ := bind_some h25
   refine pi_l hf rfl rfl rfl rfl (w_call hf Tryz.call143 rfl (r_impl_Dawg_step ⟨_, Sh C _ _, none_, hM.sh_lt, none_not, C.G, hM.g_lt, g_none, hM.tabs⟩ d1 _ _ (hM.dat (k := 0) rfl) n15 hv16 c37 _ hz40) ?_)
   rintro _ w42 ⟨rfl, hM2, hv41⟩
   obtain ⟨hM, hx43, hup44⟩ := hM.back hM2
   dsimp only [List.cons_append, List.nil_append] at hM hup44
   clear hM2
   refine ⟨_, rfl, Ext w42, fun _ h => Ext.trans hx43 h, Ext.refl _, fun a hf => ?_⟩
   refine pi_q hf rfl rfl rfl rfl (Ext.refl _) (e_assign hf rfl) fun a hf => ?_
   refine pi_nil ?_
   refine blk_n ?_
   refine then_n ?_
   refine region_pl ?_
   refine q_ hf rfl rfl rfl (e_move hf rfl) fun a hf => ?_
   obtain ⟨z45, hz46, h25⟩ := bind_some h25
   refine q_ hf rfl rfl rfl (e_add hf rfl rfl hz46) fun a hf => ?_
   refine q_ hf rfl rfl rfl (e_assign hf rfl) fun a hf => ?_
   refine pl_nil ?_
   obtain rfl := some_inj h25
   refine then_n ⟨_, rfl, ?_⟩
   exact ⟨y39, z45, rfl, hf.keep ⟨rfl, rfl, rfl, rfl, trivial⟩, hM.pick [0] rfl, hv41, (chk_R hz46)⟩
  refine cond_f hf rfl hc35 ?_
  refine wp_exit ?_
  refine then_x ?_
  obtain rfl := some_inj h25
  obtain rfl := hd26 _ rfl
  try dsimp only at h14
  refine then_x ?_
  refine exit_hit ?_
  obtain rfl := some_inj h14
  refine then_n ?_
  exact ⟨n15, rfl, hf.keep ⟨rfl, trivial⟩, hM.pick [0] rfl, hv16⟩
 rintro a w52 ⟨n11, rfl, hf, hM, hv12⟩
 try dsimp only at h
 refine wp_seq ?_
 refine region_pl ?_
 refine q_ hf rfl rfl rfl (e_move hf rfl) fun a hf => ?_
 refine q_ hf rfl rfl rfl (e_assign hf rfl) fun a hf => ?_
 refine pl_nil ?_
 refine then_n ?_
 refine wp_ret ?_
 obtain rfl := some_inj h
 have hM := hM.outs (own' := []) 0 rfl
 exact leave1 hf rfl rfl ⟨rfl, hM.fin, hv12⟩
theorem r_impl_Dawg_accepts (C : Cx) (d1 : Dawg) (A2 : Option Addr) (c3 : Nat) (hp4 : (sliceRep NodeRep).R C.w0 C.S0 d1.Nodes [vL A2 d1.Nodes c3]) (s5 : Str) (hp6 : s5.length ≤ maxLen) (r : Bool) (h : m_impl_Dawg_accepts d1 s5 = some r) :
    Calls Tryz.prog 140 #[.agg #[vL A2 (d1.Nodes) c3], vS (s5)] C.w0 fun e w => e = .returned (.bool (r)) ∧ Mem C w [] [] := by
 have hM := Mem.begin C [.dat (sliceRep NodeRep) d1.Nodes [vL A2 d1.Nodes c3]] ⟨hp4, trivial⟩
 refine enter Tryz.func140 rfl Tryz.ntmps140 rfl fun a hf => ?_
 unfold m_impl_Dawg_accepts at h
 refine wp_seq ?_
 refine region_pl ?_
 refine pl_l hf rfl rfl rfl (w_box hf hM (cs := [vL A2 (d1.Nodes) c3]) rfl rfl fun b7 w8 hx9 hM a hf => ?_)
 refine q_ hf rfl rfl rfl (e_assign hf rfl) fun a hf => ?_
 refine pl_nil ?_
 refine then_n ?_
 refine wp_seq ?_
 refine region_pl ?_
 refine q_ hf rfl rfl rfl (e_loadA hf (us := [vL A2 (d1.Nodes) c3]) rfl ⟨Tryz.isAgg26, Tryz.sizeOf26⟩ rfl (hM.boxSub (k := 0) (us := [vL A2 (d1.Nodes) c3]) (o := 0) rfl rfl)) fun a hf => ?_
 refine q_ hf rfl rfl rfl (e_move hf rfl) fun a hf => ?_
 obtain ⟨y11, hz12, h⟩ := bind_some h
 refine pl_l hf rfl rfl rfl (w_call hf Tryz.call142 rfl (r_impl_Dawg_after ⟨_, Sh C _ _, none_, hM.sh_lt, none_not, C.G, hM.g_lt, g_none, hM.tabs⟩ d1 _ _ (hM.dat (k := 0) rfl) s5 hp6 _ hz12) ?_)
 rintro _ w14 ⟨rfl, hM2, hv13⟩
 obtain ⟨hM, hx15, hup16⟩ := hM.back hM2
 dsimp only [List.cons_append, List.nil_append] at hM hup16
 clear hM2
 refine ⟨_, rfl, fun a hf => ?_⟩
 refine q_ hf rfl rfl rfl (e_assign hf rfl) fun a hf => ?_
 refine pl_nil ?_
 refine then_n ?_
 obtain ⟨x19, h20, h⟩ := bind_some h
 refine seq_join (fun a w => ∃ (t17 : Bool), t17 = x19 ∧ Has 19 a [(4, .bool (t17))] ∧ Mem C w [.box b7 [vL A2 (d1.Nodes) c3] 26] [.dat (sliceRep NodeRep) d1.Nodes [vL A2 d1.Nodes c3]]) ?_ ?_
 ·refine region_pl ?_
  refine q_ hf rfl rfl rfl (e_move hf rfl) fun a hf => ?_
  refine q_ hf rfl rfl rfl (e_ge hf (x := y11) (y := 0) rfl rfl) fun a hf => ?_
  refine q_ hf rfl rfl rfl (e_move hf rfl) fun a hf => ?_
  rcases cond_some h20 with ⟨hc21, h20⟩ | ⟨hc21, h20⟩
  ·refine gq (wanted_t hf rfl rfl rfl rfl hc21) hf rfl rfl (e_field hf rfl Tryz.underlying26 rfl Tryz.sizeOf24 (o' := 0) rfl) fun a hf => ?_
   refine gq (wanted_t hf rfl rfl rfl rfl hc21) hf rfl rfl (e_load1 hf rfl Tryz.isAgg24 (hM.boxCell (k := 0) rfl rfl)) fun a hf => ?_
   refine gq (wanted_t hf rfl rfl rfl rfl hc21) hf rfl rfl (e_move hf rfl) fun a hf => ?_
   obtain ⟨e22, hz23, h20⟩ := bind_some h20
   obtain ⟨b27, o28, _, hA29, h24, h25, hr26, hM⟩ := hM.elem (hM.dat (k := 0) rfl) (n := 3) rfl hz23
   obtain ⟨A31, c32, rfl, hv30, hv33⟩ := NodeRep_open hr26
   have hM := hM.add (y := .dat (sliceRep intRep) e22.Next [vL A31 e22.Next c32]) hv33
   refine gq (wanted_t hf rfl rfl rfl rfl hc21) hf rfl rfl (e_indexAddr (A := A2) (b := b27) (o := o28) (xs := d1.Nodes) (i := y11) hf hA29 rfl rfl Tryz.underlying24 Tryz.sizeOf79 h24 h25) fun a hf => ?_
   refine gq (wanted_t hf rfl rfl rfl rfl hc21) hf rfl rfl (e_field hf rfl Tryz.underlying79 rfl Tryz.sizeOf4 (o' := (o28 + (y11 : Int).toNat * 3) + 0) rfl) fun a hf => ?_
   refine gq (wanted_t hf rfl rfl rfl rfl hc21) hf rfl rfl (e_load1 hf rfl Tryz.isAgg4 (hM.litCell (k := 1) (j := 0) rfl rfl rfl)) fun a hf => ?_
   refine q_ hf rfl rfl rfl (e_pick_t hf rfl hc21 rfl) fun a hf => ?_
   refine q_ hf rfl rfl rfl (e_assign hf rfl) fun a hf => ?_
   refine pl_nil ?_
   obtain rfl := some_inj h20
   refine then_n ?_
   exact ⟨e22.Final, rfl, hf.keep ⟨rfl, trivial⟩, hM.pick [2] rfl⟩
  iterate 6 refine pl_gs (wanted_f hf rfl rfl rfl rfl hc21) hf rfl rfl fun a hf => ?_
  refine q_ hf rfl rfl rfl (e_pick_f hf rfl hc21 rfl) fun a hf => ?_
  refine q_ hf rfl rfl rfl (e_assign hf rfl) fun a hf => ?_
  refine pl_nil ?_
  obtain rfl := some_inj h20
  refine then_n ?_
  exact ⟨false, rfl, hf.keep ⟨rfl, trivial⟩, hM.pick [0] rfl⟩
 rintro a w36 ⟨t17, rfl, hf, hM⟩
 try dsimp only at h
 refine wp_ret ?_
 obtain rfl := some_inj h
 have hM := hM.outs (own' := []) 0 rfl
 exact leave1 hf rfl rfl ⟨rfl, hM.fin⟩
theorem r_impl_minus_has (C : Cx) (x1 : minus) (A2 : Option Addr) (c3 : Nat) (hp4 : (sliceRep NodeRep).R C.w0 C.S0 x1.a.Nodes [vL A2 x1.a.Nodes c3]) (A5 : Option Addr) (c6 : Nat) (hp7 : (sliceRep NodeRep).R C.w0 C.S0 x1.b.Nodes [vL A5 x1.b.Nodes c6]) (s8 : Str) (hp9 : s8.length ≤ maxLen) (r : Bool) (h : m_impl_minus_has x1 s8 = some r) :
    Calls Tryz.prog 148 #[.agg #[vL A2 (x1.a.Nodes) c3, vL A5 (x1.b.Nodes) c6], vS (s8)] C.w0 fun e w => e = .returned (.bool (r)) ∧ Mem C w [] [] := by
 have hM := Mem.begin C [.dat (sliceRep NodeRep) x1.b.Nodes [vL A5 x1.b.Nodes c6], .dat (sliceRep NodeRep) x1.a.Nodes [vL A2 x1.a.Nodes c3]] ⟨hp7, hp4, trivial⟩
 refine enter Tryz.func148 rfl Tryz.ntmps148 rfl fun a hf => ?_
 unfold m_impl_minus_has at h
 refine wp_seq ?_
 refine region_pl ?_
 refine pl_l hf rfl rfl rfl (w_box hf hM (cs := [vL A2 (x1.a.Nodes) c3, vL A5 (x1.b.Nodes) c6]) rfl rfl fun b10 w11 hx12 hM a hf => ?_)
 refine q_ hf rfl rfl rfl (e_assign hf rfl) fun a hf => ?_
 refine pl_nil ?_
 refine then_n ?_
 obtain ⟨x16, h17, h⟩ := bind_some h
 refine seq_join (fun a w => ∃ (t14 : Bool), t14 = x16 ∧ Has 16 a [(4, .bool (t14))] ∧ Mem C w [.box b10 [vL A2 (x1.a.Nodes) c3, vL A5 (x1.b.Nodes) c6] 49] [.dat (sliceRep NodeRep) x1.b.Nodes [vL A5 x1.b.Nodes c6], .dat (sliceRep NodeRep) x1.a.Nodes [vL A2 x1.a.Nodes c3]]) ?_ ?_
 ·refine region_pl ?_
  refine q_ hf rfl rfl rfl (e_field hf rfl Tryz.underlying49 rfl Tryz.sizeOf26 (o' := 0) rfl) fun a hf => ?_
  refine q_ hf rfl rfl rfl (e_loadA hf (us := [vL A2 (x1.a.Nodes) c3]) rfl ⟨Tryz.isAgg26, Tryz.sizeOf26⟩ rfl (hM.boxSub (k := 0) (us := [vL A2 (x1.a.Nodes) c3]) (o := 0) rfl rfl)) fun a hf => ?_
  refine q_ hf rfl rfl rfl (e_move hf rfl) fun a hf => ?_
  obtain ⟨y18, hz19, h17⟩ := bind_some h17
  refine pl_l hf rfl rfl rfl (w_call hf Tryz.call140 rfl (r_impl_Dawg_accepts ⟨_, Sh C _ _, none_, hM.sh_lt, none_not, C.G, hM.g_lt, g_none, hM.tabs⟩ x1.a _ _ (hM.dat (k := 1) rfl) s8 hp9 _ hz19) ?_)
  rintro _ w20 ⟨rfl, hM2⟩
  obtain ⟨hM, hx21, hup22⟩ := hM.back hM2
  dsimp only [List.cons_append, List.nil_append] at hM hup22
  clear hM2
  refine ⟨_, rfl, fun a hf => ?_⟩
  refine q_ hf rfl rfl rfl (e_move hf rfl) fun a hf => ?_
  rcases cond_some h17 with ⟨hc23, h17⟩ | ⟨hc23, h17⟩
  ·refine gq (wanted_t hf rfl rfl rfl rfl hc23) hf rfl rfl (e_field hf rfl Tryz.underlying49 rfl Tryz.sizeOf26 (o' := 1) rfl) fun a hf => ?_
   refine gq (wanted_t hf rfl rfl rfl rfl hc23) hf rfl rfl (e_loadA hf (us := [vL A5 (x1.b.Nodes) c6]) rfl ⟨Tryz.isAgg26, Tryz.sizeOf26⟩ rfl (hM.boxSub (k := 0) (us := [vL A5 (x1.b.Nodes) c6]) (o := 1) rfl rfl)) fun a hf => ?_
   refine gq (wanted_t hf rfl rfl rfl rfl hc23) hf rfl rfl (e_move hf rfl) fun a hf => ?_
   obtain ⟨y24, hz25, h17⟩ := bind_some h17
   refine pl_gl (wanted_t hf rfl rfl rfl rfl hc23) hf rfl rfl (w_call hf Tryz.call140 rfl (r_impl_Dawg_accepts ⟨_, Sh C _ _, none_, hM.sh_lt, none_not, C.G, hM.g_lt, g_none, hM.tabs⟩ x1.b _ _ (hM.dat (k := 0) rfl) s8 hp9 _ hz25) ?_)
   rintro _ w26 ⟨rfl, hM2⟩
   obtain ⟨hM, hx27, hup28⟩ := hM.back hM2
   dsimp only [List.cons_append, List.nil_append] at hM hup28
   clear hM2
   refine ⟨_, rfl, fun a hf => ?_⟩
   refine gq (wanted_t hf rfl rfl rfl rfl hc23) hf rfl rfl (e_not hf rfl) fun a hf => ?_
   refine q_ hf rfl rfl rfl (e_pick_t hf rfl hc23 rfl) fun a hf => ?_
   refine q_ hf rfl rfl rfl (e_assign hf rfl) fun a hf => ?_
   refine pl_nil ?_
   obtain rfl := some_inj h17
   refine then_n ?_
   exact ⟨(!y24), rfl, hf.keep ⟨rfl, trivial⟩, hM.pick [0, 1] rfl⟩
  iterate 5 refine pl_gs (wanted_f hf rfl rfl rfl rfl hc23) hf rfl rfl fun a hf => ?_
  refine q_ hf rfl rfl rfl (e_pick_f hf rfl hc23 rfl) fun a hf => ?_
  refine q_ hf rfl rfl rfl (e_assign hf rfl) fun a hf => ?_
  refine pl_nil ?_
  obtain rfl := some_inj h17
  refine then_n ?_
  exact ⟨false, rfl, hf.keep ⟨rfl, trivial⟩, hM.pick [0, 1] rfl⟩
 rintro a w31 ⟨t14, rfl, hf, hM⟩
 try dsimp only at h
 refine wp_ret ?_
 obtain rfl := some_inj h
 have hM := hM.outs (own' := []) 0 rfl
 exact leave1 hf rfl rfl ⟨rfl, hM.fin⟩
theorem r_impl_MinusDawg (C : Cx) (a1 : Dawg) (A2 : Option Addr) (c3 : Nat) (hp4 : (sliceRep NodeRep).R C.w0 C.S0 a1.Nodes [vL A2 a1.Nodes c3]) (b5 : Dawg) (A6 : Option Addr) (c7 : Nat) (hp8 : (sliceRep NodeRep).R C.w0 C.S0 b5.Nodes [vL A6 b5.Nodes c7]) (r : (Dawg × Int)) (h : m_impl_MinusDawg a1 b5 = some r) :
    Calls Tryz.prog 11 #[.agg #[vL A2 (a1.Nodes) c3], .agg #[vL A6 (b5.Nodes) c7]] C.w0 fun e w => ∃ (A_1 : Option Addr), ∃ (c_1 : Nat), ∃ (ws_1 : List NodeW), e = .returned (.tuple #[.agg #[vL A_1 (r.1.Nodes) c_1], vI (r.2)]) ∧ Mem C w ((nestW A_1 c_1 79 2 ws_1)) [] ∧ ws_1.map NodeW.to = r.1.Nodes ∧ R64 r.2 := by
 have hM := Mem.begin C [.dat (sliceRep NodeRep) b5.Nodes [vL A6 b5.Nodes c7], .dat (sliceRep NodeRep) a1.Nodes [vL A2 a1.Nodes c3]] ⟨hp8, hp4, trivial⟩
 refine enter Tryz.func11 rfl Tryz.ntmps11 rfl fun a hf => ?_
 unfold m_impl_MinusDawg at h
 refine wp_seq ?_
 refine region_pl ?_
 refine pl_l hf rfl rfl rfl (w_box hf hM (cs := [vL A2 (a1.Nodes) c3]) rfl rfl fun b9 w10 hx11 hM a hf => ?_)
 refine pl_l hf rfl rfl rfl (w_box hf hM (cs := [vL A6 (b5.Nodes) c7]) rfl rfl fun b13 w14 hx15 hM a hf => ?_)
 refine pl_l hf rfl rfl rfl (w_alloc hM (cs := [vL none (([] : (List Node))) 0]) Tryz.zeroValue26 rfl fun b17 w18 hx19 hM a hf => ?_)
 refine q_ hf rfl rfl rfl (e_assign hf rfl) fun a hf => ?_
 refine pl_nil ?_
 refine then_n ?_
 refine wp_seq ?_
 refine region_pl ?_
 refine q_ hf rfl rfl rfl (e_loadA hf (us := [vL A2 (a1.Nodes) c3]) rfl ⟨Tryz.isAgg26, Tryz.sizeOf26⟩ rfl (hM.boxSub (k := 2) (us := [vL A2 (a1.Nodes) c3]) (o := 0) rfl rfl)) fun a hf => ?_
 refine q_ hf rfl rfl rfl (e_loadA hf (us := [vL A6 (b5.Nodes) c7]) rfl ⟨Tryz.isAgg26, Tryz.sizeOf26⟩ rfl (hM.boxSub (k := 1) (us := [vL A6 (b5.Nodes) c7]) (o := 0) rfl rfl)) fun a hf => ?_
 refine q_ hf rfl rfl rfl (e_loadA hf (us := [vL A2 (a1.Nodes) c3]) rfl ⟨Tryz.isAgg26, Tryz.sizeOf26⟩ rfl (hM.boxSub (k := 2) (us := [vL A2 (a1.Nodes) c3]) (o := 0) rfl rfl)) fun a hf => ?_
 refine q_ hf rfl rfl rfl (e_loadA hf (us := [vL A6 (b5.Nodes) c7]) rfl ⟨Tryz.isAgg26, Tryz.sizeOf26⟩ rfl (hM.boxSub (k := 1) (us := [vL A6 (b5.Nodes) c7]) (o := 0) rfl rfl)) fun a hf => ?_
 refine q_ hf rfl rfl rfl (e_build hf Tryz.zeroValue49 Tryz.underlying49 (bp_49 _ Tryz.underlying49.symm) rfl (cs := #[vL A2 (a1.Nodes) c3, vL A6 (b5.Nodes) c7]) (by kernel_rfl)) fun a hf => ?_
 refine q_ hf rfl rfl rfl (e_makeIface hf rfl (by kernel_rfl)) fun a hf => ?_
 obtain ⟨y23, hz24, h⟩ := bind_some h
 refine pl_l hf rfl rfl rfl (w_call hf Tryz.call26 rfl (r_impl_combined ⟨_, Sh C _ _, none_, hM.sh_lt, none_not, C.G, hM.g_lt, g_none, hM.tabs⟩ a1 _ _ (hM.dat (k := 1) rfl) b5 _ _ (hM.dat (k := 0) rfl) (fun u21 => m_impl_minus_has (⟨⟨a1.Nodes⟩, ⟨b5.Nodes⟩⟩ : minus) u21) (.iface 49 (.agg #[vL A2 (a1.Nodes) c3, vL A6 (b5.Nodes) c7])) ⟨_, _, rfl⟩ 148 [.agg #[vL A2 (a1.Nodes) c3, vL A6 (b5.Nodes) c7]] (callsAs_method (meth_148 _) Tryz.call148) ⟨Tryz.call148, fun C1 hs hsub u21 hp22 r h => r_impl_minus_has C1 (⟨⟨a1.Nodes⟩, ⟨b5.Nodes⟩⟩ : minus) _ _ (Rep.to (hM.dat (k := 1) rfl) hs hsub) _ _ (Rep.to (hM.dat (k := 0) rfl) hs hsub) u21 hp22 r h⟩ _ hz24) ?_)
 rintro _ w30 ⟨A25, c26, ws27, rfl, hM2, hw28, hv29⟩
 obtain ⟨hM, hx31, hup32⟩ := hM.back hM2
 try dsimp only [List.cons_append, List.nil_append] at hM hup32
 clear hM2
 have hM : Mem C _ (.box b17 [vL none (([] : (List Node))) 0] 26 :: .box b13 [vL A6 (b5.Nodes) c7] 26 :: .box b9 [vL A2 (a1.Nodes) c3] 26 :: (nestW A25 c26 79 2 ws27)) _ := Mem.perm (own := (nestW A25 c26 79 2 ws27) ++ [.box b17 [vL none (([] : (List Node))) 0] 26, .box b13 [vL A6 (b5.Nodes) c7] 26, .box b9 [vL A2 (a1.Nodes) c3] 26]) (own' := ([] ++ [.box b17 [vL none (([] : (List Node))) 0] 26, .box b13 [vL A6 (b5.Nodes) c7] 26, .box b9 [vL A2 (a1.Nodes) c3] 26]) ++ (nestW A25 c26 79 2 ws27)) hM (fun a => by simp only [List.count_append, List.count_nil]; omega)
 refine ⟨_, rfl, fun a hf => ?_⟩
 iterate 2 refine q_ hf rfl rfl rfl (e_extract hf rfl rfl) fun a hf => ?_
 refine pl_0 hf rfl rfl (w_store hf hM (us := [vL A25 (y23.1.Nodes) c26]) (cs' := [vL A25 (y23.1.Nodes) c26]) rfl rfl (k := 0) rfl rfl Tryz.sizeOf26 rfl rfl rfl fun w33 hM => ?_)
 dsimp only [List.set] at hM
 refine q_ hf rfl rfl rfl (e_assign hf rfl) fun a hf => ?_
 refine pl_nil ?_
 refine then_n ?_
 refine wp_ret ?_
 obtain rfl := some_inj h
 have hres36 := leaveV2 (P := Tryz.prog) (w := w33) Tryz.results11 (res_agg hf rfl ⟨Tryz.isAgg26, Tryz.sizeOf26⟩ (us := [vL A25 (y23.1.Nodes) c26]) rfl (hM.boxSub (k := 0) (o := 0) rfl rfl)) (res_tmp hf rfl)
 have hM : Mem C _ ((nestW A25 c26 79 2 ws27)) _ := hM.drop (.cons _ (.cons _ (.cons _ (List.Sublist.refl _))))
 exact bodyPost_ret hres36 hf.defers ⟨A25, c26, ws27, rfl, hM.fin, hw28, hv29⟩
theorem r_laws_eqInt64S (C : Cx) (a1 : (List Int)) (A2 : Option Addr) (c3 : Nat) (hp4 : (sliceRep intRep).R C.w0 C.S0 a1 [vL A2 a1 c3]) (b5 : (List Int)) (A6 : Option Addr) (c7 : Nat) (hp8 : (sliceRep intRep).R C.w0 C.S0 b5 [vL A6 b5 c7]) (r : Bool) (h : m_laws_eqInt64S a1 b5 = some r) :
    Calls Tryz.prog 98 #[vL A2 (a1) c3, vL A6 (b5) c7] C.w0 fun e w => e = .returned (.bool (r)) ∧ Mem C w [] [] := by
 have hM := Mem.begin C [.dat (sliceRep intRep) b5 [vL A6 b5 c7], .dat (sliceRep intRep) a1 [vL A2 a1 c3]] ⟨hp8, hp4, trivial⟩
 refine enter Tryz.func98 rfl Tryz.ntmps98 rfl fun a hf => ?_
 unfold m_laws_eqInt64S at h
 refine wp_seq ?_
 refine region_pl ?_
 refine q_ hf rfl rfl rfl (e_assign hf rfl) fun a hf => ?_
 refine pl_nil ?_
 refine then_n ?_
 iterate 2 refine wp_seq ?_
 refine region_pl ?_
 refine q_ hf rfl rfl rfl (e_move hf rfl) fun a hf => ?_
 have hl9 := slice_len (hM.dat (k := 1) rfl)
 refine q_ hf rfl rfl rfl (e_lenL hf (x := a1) rfl Tryz.underlying77) fun a hf => ?_
 refine q_ hf rfl rfl rfl (e_move hf rfl) fun a hf => ?_
 have hl10 := slice_len (hM.dat (k := 0) rfl)
 refine q_ hf rfl rfl rfl (e_lenL hf (x := b5) rfl Tryz.underlying77) fun a hf => ?_
 refine q_ hf rfl rfl rfl (e_ne hf (x := (a1.length : Int)) (y := (b5.length : Int)) rfl rfl) fun a hf => ?_
 refine pl_nil ?_
 refine then_n ?_
 rcases cond_some h with ⟨hc11, h⟩ | ⟨hc11, h⟩
 ·refine cond_t hf rfl hc11 ?_
  refine wp_seq ?_
  refine region_pl ?_
  refine q_ hf rfl rfl rfl (e_assign hf rfl) fun a hf => ?_
  refine pl_nil ?_
  refine then_n ?_
  refine wp_ret ?_
  refine then_r ?_
  obtain rfl := some_inj h
  exact leave1 hf rfl rfl ⟨rfl, hM.fin⟩
 refine cond_f hf rfl hc11 ?_
 refine wp_skip ?_
 refine then_n ?_
 obtain ⟨x12, h13, h⟩ := bind_some h
 refine seq_join (fun a w => (.inl ()) = x12 ∧ Has 26 a [] ∧ Mem C w [] [.dat (sliceRep intRep) b5 [vL A6 b5 c7], .dat (sliceRep intRep) a1 [vL A2 a1 c3]]) ?_ ?_
 ·refine wp_seq ?_
  refine region_pl ?_
  refine q_ hf rfl rfl rfl (e_assign hf rfl) fun a hf => ?_
  refine pl_nil ?_
  refine then_n ?_
  refine wp_block ?_
  obtain ⟨x17, h18, h13⟩ := bind_some h13
  refine wp_loopM h18 (fun s a w => ∃ (n14 : Int), n14 = s ∧ Has 26 a [(0, vL A2 (a1) c3), (1, vL A6 (b5) c7), (5, vI (n14))] ∧ Mem C w [] [.dat (sliceRep intRep) b5 [vL A6 b5 c7], .dat (sliceRep intRep) a1 [vL A2 a1 c3]] ∧ R64 n14) ?_ ?_
  ·exact ⟨0, rfl, hf.keep ⟨rfl, rfl, rfl, trivial⟩, hM.pick [0, 1] rfl, (R64_lit rfl)⟩
  rintro s o19 a w16 ⟨n14, rfl, hf, hM, hv15⟩ h20 hd21
  replace h20 : m_laws_eqInt64S_l1 a1 b5 n14 = some o19 := h20
  unfold m_laws_eqInt64S_l1 at h20
  iterate 2 refine wp_seq ?_
  refine region_pl ?_
  iterate 2 refine q_ hf rfl rfl rfl (e_move hf rfl) fun a hf => ?_
  have hl22 := slice_len (hM.dat (k := 1) rfl)
  refine q_ hf rfl rfl rfl (e_lenL hf (x := a1) rfl Tryz.underlying77) fun a hf => ?_
  refine q_ hf rfl rfl rfl (e_lt hf (x := n14) (y := (a1.length : Int)) rfl rfl) fun a hf => ?_
  refine pl_nil ?_
  refine then_n ?_
  rcases cond_some h20 with ⟨hc23, h20⟩ | ⟨hc23, h20⟩
  ·refine cond_t hf rfl hc23 ?_
   refine wp_skip ?_
   refine then_n ?_
   refine wp_seq ?_
   refine wp_block ?_
   refine wp_seq ?_
   obtain ⟨w24, hw⟩ : ∃ x, x = w16.drew := ⟨_, rfl⟩
   refine region_pi (.q 0 (.q 1 (.q 2 (.q 3 (.q 4 (.q 5 (.q 6 (.q 7 (.q 8 (.nil)))))))))) (Ext w24) rfl (by kernel_rfl) ?_
   have hM := hM.drew
   rw [← hw] at hM ⊢
   clear hw
   iterate 2 refine pi_q hf rfl rfl rfl rfl (Ext.refl _) (e_move hf rfl) fun a hf => ?_
   obtain ⟨e25, hz26, h20⟩ := bind_some h20
   obtain ⟨b30, o31, _, hA32, h27, h28, hr29, hM⟩ := hM.elem (hM.dat (k := 1) rfl) (n := 1) rfl hz26
   obtain ⟨rfl, hv33⟩ := hr29
   refine pi_q hf rfl rfl rfl rfl (Ext.refl _) (e_indexAddr (A := A2) (b := b30) (o := o31) (xs := a1) (i := n14) hf hA32 rfl rfl Tryz.underlying77 Tryz.sizeOf2 h27 h28) fun a hf => ?_
   refine pi_q hf rfl rfl rfl rfl (Ext.refl _) (e_load1 hf rfl Tryz.isAgg2 (hM.litCell (k := 0) (j := 0) rfl rfl rfl)) fun a hf => ?_
   iterate 2 refine pi_q hf rfl rfl rfl rfl (Ext.refl _) (e_move hf rfl) fun a hf => ?_
   obtain ⟨e34, hz35, h20⟩ := bind_some h20
   obtain ⟨b39, o40, _, hA41, h36, h37, hr38, hM⟩ := hM.elem (hM.dat (k := 1) rfl) (n := 1) rfl hz35
   obtain ⟨rfl, hv42⟩ := hr38
   refine pi_q hf rfl rfl rfl rfl (Ext.refl _) (e_indexAddr (A := A6) (b := b39) (o := o40) (xs := b5) (i := n14) hf hA41 rfl rfl Tryz.underlying77 Tryz.sizeOf2 h36 h37) fun a hf => ?_
   refine pi_q hf rfl rfl rfl rfl (Ext.refl _) (e_load1 hf rfl Tryz.isAgg2 (hM.litCell (k := 0) (j := 0) rfl rfl rfl)) fun a hf => ?_
   refine pi_q hf rfl rfl rfl rfl (Ext.refl _) (e_ne hf (x := e25) (y := e34) rfl rfl) fun a hf => ?_
   refine pi_nil ?_
   refine then_n ?_
   rcases cond_some h20 with ⟨hc43, h20⟩ | ⟨hc43, h20⟩
   ·refine cond_t hf rfl hc43 ?_
    refine wp_seq ?_
    refine region_pl ?_
    refine q_ hf rfl rfl rfl (e_assign hf rfl) fun a hf => ?_
    refine pl_nil ?_
    refine then_n ?_
    refine wp_ret ?_
    refine blk_r ?_
    refine then_r ?_
    obtain rfl := some_inj h20
    obtain rfl := hd21 _ rfl
    try dsimp only at h13
    refine then_r ?_
    refine blk_r ?_
    obtain rfl := some_inj h13
    try dsimp only at h
    refine then_r ?_
    obtain rfl := some_inj h
    exact leave1 hf rfl rfl ⟨rfl, hM.fin⟩
   refine cond_f hf rfl hc43 ?_
   refine wp_skip ?_
   refine blk_n ?_
   refine then_n ?_
   refine region_pl ?_
   refine q_ hf rfl rfl rfl (e_move hf rfl) fun a hf => ?_
   obtain ⟨z44, hz45, h20⟩ := bind_some h20
   refine q_ hf rfl rfl rfl (e_add hf rfl rfl hz45) fun a hf => ?_
   refine q_ hf rfl rfl rfl (e_assign hf rfl) fun a hf => ?_
   refine pl_nil ?_
   obtain rfl := some_inj h20
   refine then_n ⟨_, rfl, ?_⟩
   exact ⟨z44, rfl, hf.keep ⟨rfl, rfl, rfl, trivial⟩, hM.pick [2, 3] rfl, (chk_R hz45)⟩
  refine cond_f hf rfl hc23 ?_
  refine wp_exit ?_
  refine then_x ?_
  obtain rfl := some_inj h20
  obtain rfl := hd21 _ rfl
  try dsimp only at h13
  refine then_x ?_
  refine exit_hit ?_
  obtain rfl := some_inj h13
  refine then_n ?_
  exact ⟨rfl, hf.keep trivial, hM.pick [0, 1] rfl⟩
 rintro a w52 ⟨rfl, hf, hM⟩
 try dsimp only at h
 refine wp_seq ?_
 refine region_pl ?_
 refine q_ hf rfl rfl rfl (e_assign hf rfl) fun a hf => ?_
 refine pl_nil ?_
 refine then_n ?_
 refine wp_ret ?_
 obtain rfl := some_inj h
 exact leave1 hf rfl rfl ⟨rfl, hM.fin⟩
theorem r_laws_eqNode (C : Cx) (a1 : Node) (hp2 : a1.Letters.length ≤ maxLen) (A3 : Option Addr) (c4 : Nat) (hp5 : (sliceRep intRep).R C.w0 C.S0 a1.Next [vL A3 a1.Next c4]) (b6 : Node) (hp7 : b6.Letters.length ≤ maxLen) (A8 : Option Addr) (c9 : Nat) (hp10 : (sliceRep intRep).R C.w0 C.S0 b6.Next [vL A8 b6.Next c9]) (r : Bool) (h : m_laws_eqNode a1 b6 = some r) :
    Calls Tryz.prog 63 #[.agg #[.bool (a1.Final), vS (a1.Letters), vL A3 (a1.Next) c4], .agg #[.bool (b6.Final), vS (b6.Letters), vL A8 (b6.Next) c9]] C.w0 fun e w => e = .returned (.bool (r)) ∧ Mem C w [] [] := by
 have hM := Mem.begin C [.dat (sliceRep intRep) b6.Next [vL A8 b6.Next c9], .dat (sliceRep intRep) a1.Next [vL A3 a1.Next c4]] ⟨hp10, hp5, trivial⟩
 refine enter Tryz.func63 rfl Tryz.ntmps63 rfl fun a hf => ?_
 unfold m_laws_eqNode at h
 refine wp_seq ?_
 refine region_pl ?_
 refine pl_l hf rfl rfl rfl (w_box hf hM (cs := [.bool (a1.Final), vS (a1.Letters), vL A3 (a1.Next) c4]) rfl rfl fun b11 w12 hx13 hM a hf => ?_)
 refine pl_l hf rfl rfl rfl (w_box hf hM (cs := [.bool (b6.Final), vS (b6.Letters), vL A8 (b6.Next) c9]) rfl rfl fun b15 w16 hx17 hM a hf => ?_)
 refine q_ hf rfl rfl rfl (e_assign hf rfl) fun a hf => ?_
 refine pl_nil ?_
 refine then_n ?_
 iterate 2 refine wp_seq ?_
 refine region_pl ?_
 refine q_ hf rfl rfl rfl (e_field hf rfl Tryz.underlying79 rfl Tryz.sizeOf4 (o' := 0) rfl) fun a hf => ?_
 refine q_ hf rfl rfl rfl (e_load1 hf rfl Tryz.isAgg4 (hM.boxCell (k := 1) rfl rfl)) fun a hf => ?_
 refine q_ hf rfl rfl rfl (e_field hf rfl Tryz.underlying79 rfl Tryz.sizeOf4 (o' := 0) rfl) fun a hf => ?_
 refine q_ hf rfl rfl rfl (e_load1 hf rfl Tryz.isAgg4 (hM.boxCell (k := 0) rfl rfl)) fun a hf => ?_
 refine q_ hf rfl rfl rfl (e_neT hf rfl rfl Tryz.underlying4) fun a hf => ?_
 refine pl_nil ?_
 refine then_n ?_
 rcases cond_some h with ⟨hc19, h⟩ | ⟨hc19, h⟩
 ·refine cond_t hf rfl hc19 ?_
  refine wp_seq ?_
  refine region_pl ?_
  refine q_ hf rfl rfl rfl (e_assign hf rfl) fun a hf => ?_
  refine pl_nil ?_
  refine then_n ?_
  refine wp_ret ?_
  refine then_r ?_
  obtain rfl := some_inj h
  have hM := hM.outs (own' := []) 0 rfl
  exact leave1 hf rfl rfl ⟨rfl, hM.fin⟩
 refine cond_f hf rfl hc19 ?_
 refine wp_skip ?_
 refine then_n ?_
 iterate 2 refine wp_seq ?_
 refine region_pl ?_
 refine q_ hf rfl rfl rfl (e_field hf rfl Tryz.underlying79 rfl Tryz.sizeOf9 (o' := 1) rfl) fun a hf => ?_
 refine q_ hf rfl rfl rfl (e_load1 hf rfl Tryz.isAgg9 (hM.boxCell (k := 1) rfl rfl)) fun a hf => ?_
 refine q_ hf rfl rfl rfl (e_field hf rfl Tryz.underlying79 rfl Tryz.sizeOf9 (o' := 1) rfl) fun a hf => ?_
 refine q_ hf rfl rfl rfl (e_load1 hf rfl Tryz.isAgg9 (hM.boxCell (k := 0) rfl rfl)) fun a hf => ?_
 refine q_ hf rfl rfl rfl (e_neS hf (x := a1.Letters) (y := b6.Letters) rfl rfl) fun a hf => ?_
 refine pl_nil ?_
 refine then_n ?_
 rcases cond_some h with ⟨hc20, h⟩ | ⟨hc20, h⟩
 ·refine cond_t hf rfl hc20 ?_
  refine wp_seq ?_
  refine region_pl ?_
  refine q_ hf rfl rfl rfl (e_assign hf rfl) fun a hf => ?_
  refine pl_nil ?_
  refine then_n ?_
  refine wp_ret ?_
  refine then_r ?_
  obtain rfl := some_inj h
  have hM := hM.outs (own' := []) 0 rfl
  exact leave1 hf rfl rfl ⟨rfl, hM.fin⟩
 refine cond_f hf rfl hc20 ?_
 refine wp_skip ?_
 refine then_n ?_
 iterate 2 refine wp_seq ?_
 refine region_pl ?_
 refine q_ hf rfl rfl rfl (e_field hf rfl Tryz.underlying79 rfl Tryz.sizeOf77 (o' := 2) rfl) fun a hf => ?_
 refine q_ hf rfl rfl rfl (e_load1 hf rfl Tryz.isAgg77 (hM.boxCell (k := 1) rfl rfl)) fun a hf => ?_
 refine q_ hf rfl rfl rfl (e_field hf rfl Tryz.underlying79 rfl Tryz.sizeOf77 (o' := 2) rfl) fun a hf => ?_
 refine q_ hf rfl rfl rfl (e_load1 hf rfl Tryz.isAgg77 (hM.boxCell (k := 0) rfl rfl)) fun a hf => ?_
 obtain ⟨y21, hz22, h⟩ := bind_some h
 refine pl_l hf rfl rfl rfl (w_call hf Tryz.call98 rfl (r_laws_eqInt64S ⟨_, Sh C _ _, none_, hM.sh_lt, none_not, C.G, hM.g_lt, g_none, hM.tabs⟩ a1.Next _ _ (hM.dat (k := 1) rfl) b6.Next _ _ (hM.dat (k := 0) rfl) _ hz22) ?_)
 rintro _ w23 ⟨rfl, hM2⟩
 obtain ⟨hM, hx24, hup25⟩ := hM.back hM2
 dsimp only [List.cons_append, List.nil_append] at hM hup25
 clear hM2
 refine ⟨_, rfl, fun a hf => ?_⟩
 refine q_ hf rfl rfl rfl (e_not hf rfl) fun a hf => ?_
 refine pl_nil ?_
 refine then_n ?_
 rcases cond_some h with ⟨hc26, h⟩ | ⟨hc26, h⟩
 ·refine cond_t hf rfl hc26 ?_
  refine wp_seq ?_
  refine region_pl ?_
  refine q_ hf rfl rfl rfl (e_assign hf rfl) fun a hf => ?_
  refine pl_nil ?_
  refine then_n ?_
  refine wp_ret ?_
  refine then_r ?_
  obtain rfl := some_inj h
  have hM := hM.outs (own' := []) 0 rfl
  exact leave1 hf rfl rfl ⟨rfl, hM.fin⟩
 refine cond_f hf rfl hc26 ?_
 refine wp_skip ?_
 refine then_n ?_
 refine wp_seq ?_
 refine region_pl ?_
 refine q_ hf rfl rfl rfl (e_assign hf rfl) fun a hf => ?_
 refine pl_nil ?_
 refine then_n ?_
 refine wp_ret ?_
 obtain rfl := some_inj h
 have hM := hM.outs (own' := []) 0 rfl
 exact leave1 hf rfl rfl ⟨rfl, hM.fin⟩
theorem r_laws_eqNodeS (C : Cx) (a1 : (List Node)) (A2 : Option Addr) (c3 : Nat) (hp4 : (sliceRep NodeRep).R C.w0 C.S0 a1 [vL A2 a1 c3]) (b5 : (List Node)) (A6 : Option Addr) (c7 : Nat) (hp8 : (sliceRep NodeRep).R C.w0 C.S0 b5 [vL A6 b5 c7]) (r : Bool) (h : m_laws_eqNodeS a1 b5 = some r) :
    Calls Tryz.prog 40 #[vL A2 (a1) c3, vL A6 (b5) c7] C.w0 fun e w => e = .returned (.bool (r)) ∧ Mem C w [] [] := by
 have hM := Mem.begin C [.dat (sliceRep NodeRep) b5 [vL A6 b5 c7], .dat (sliceRep NodeRep) a1 [vL A2 a1 c3]] ⟨hp8, hp4, trivial⟩
 refine enter Tryz.func40 rfl Tryz.ntmps40 rfl fun a hf => ?_
 unfold m_laws_eqNodeS at h
 refine wp_seq ?_
 refine region_pl ?_
 refine q_ hf rfl rfl rfl (e_assign hf rfl) fun a hf => ?_
 refine pl_nil ?_
 refine then_n ?_
 iterate 2 refine wp_seq ?_
 refine region_pl ?_
 refine q_ hf rfl rfl rfl (e_move hf rfl) fun a hf => ?_
 have hl9 := slice_len (hM.dat (k := 1) rfl)
 refine q_ hf rfl rfl rfl (e_lenL hf (x := a1) rfl Tryz.underlying24) fun a hf => ?_
 refine q_ hf rfl rfl rfl (e_move hf rfl) fun a hf => ?_
 have hl10 := slice_len (hM.dat (k := 0) rfl)
 refine q_ hf rfl rfl rfl (e_lenL hf (x := b5) rfl Tryz.underlying24) fun a hf => ?_
 refine q_ hf rfl rfl rfl (e_ne hf (x := (a1.length : Int)) (y := (b5.length : Int)) rfl rfl) fun a hf => ?_
 refine pl_nil ?_
 refine then_n ?_
 rcases cond_some h with ⟨hc11, h⟩ | ⟨hc11, h⟩
 ·refine cond_t hf rfl hc11 ?_
  refine wp_seq ?_
  refine region_pl ?_
  refine q_ hf rfl rfl rfl (e_assign hf rfl) fun a hf => ?_
  refine pl_nil ?_
  refine then_n ?_
  refine wp_ret ?_
  refine then_r ?_
  obtain rfl := some_inj h
  exact leave1 hf rfl rfl ⟨rfl, hM.fin⟩
 refine cond_f hf rfl hc11 ?_
 refine wp_skip ?_
 refine then_n ?_
 obtain ⟨x12, h13, h⟩ := bind_some h
 refine seq_join (fun a w => (.inl ()) = x12 ∧ Has 27 a [] ∧ Mem C w [] [.dat (sliceRep NodeRep) b5 [vL A6 b5 c7], .dat (sliceRep NodeRep) a1 [vL A2 a1 c3]]) ?_ ?_
 ·refine wp_seq ?_
  refine region_pl ?_
  refine q_ hf rfl rfl rfl (e_assign hf rfl) fun a hf => ?_
  refine pl_nil ?_
  refine then_n ?_
  refine wp_block ?_
  obtain ⟨x17, h18, h13⟩ := bind_some h13
  refine wp_loopM h18 (fun s a w => ∃ (n14 : Int), n14 = s ∧ Has 27 a [(0, vL A2 (a1) c3), (1, vL A6 (b5) c7), (5, vI (n14))] ∧ Mem C w [] [.dat (sliceRep NodeRep) b5 [vL A6 b5 c7], .dat (sliceRep NodeRep) a1 [vL A2 a1 c3]] ∧ R64 n14) ?_ ?_
  ·exact ⟨0, rfl, hf.keep ⟨rfl, rfl, rfl, trivial⟩, hM.pick [0, 1] rfl, (R64_lit rfl)⟩
  rintro s o19 a w16 ⟨n14, rfl, hf, hM, hv15⟩ h20 hd21
  replace h20 : m_laws_eqNodeS_l1 a1 b5 n14 = some o19 := h20
  unfold m_laws_eqNodeS_l1 at h20
  iterate 2 refine wp_seq ?_
  refine region_pl ?_
  iterate 2 refine q_ hf rfl rfl rfl (e_move hf rfl) fun a hf => ?_
  have hl22 := slice_len (hM.dat (k := 1) rfl)
  refine q_ hf rfl rfl rfl (e_lenL hf (x := a1) rfl Tryz.underlying24) fun a hf => ?_
  refine q_ hf rfl rfl rfl (e_lt hf (x := n14) (y := (a1.length : Int)) rfl rfl) fun a hf => ?_
  refine pl_nil ?_
  refine then_n ?_
  rcases cond_some h20 with ⟨hc23, h20⟩ | ⟨hc23, h20⟩
  ·refine cond_t hf rfl hc23 ?_
   refine wp_skip ?_
   refine then_n ?_
   refine wp_seq ?_
   refine wp_block ?_
   refine wp_seq ?_
   obtain ⟨w24, hw⟩ : ∃ x, x = w16.drew := ⟨_, rfl⟩
   refine region_pi (.q 0 (.q 1 (.q 2 (.q 3 (.q 4 (.q 5 (.q 6 (.q 7 (.l 8 (.q 9 (.nil))))))))))) (Ext w24) rfl (by kernel_rfl) ?_
   have hM := hM.drew
   rw [← hw] at hM ⊢
   clear hw
   iterate 2 refine pi_q hf rfl rfl rfl rfl (Ext.refl _) (e_move hf rfl) fun a hf => ?_
   obtain ⟨e25, hz26, h20⟩ := bind_some h20
   obtain ⟨b30, o31, _, hA32, h27, h28, hr29, hM⟩ := hM.elem (hM.dat (k := 1) rfl) (n := 3) rfl hz26
   obtain ⟨A34, c35, rfl, hv33, hv36⟩ := NodeRep_open hr29
   have hM := hM.add (y := .dat (sliceRep intRep) e25.Next [vL A34 e25.Next c35]) hv36
   refine pi_q hf rfl rfl rfl rfl (Ext.refl _) (e_indexAddr (A := A2) (b := b30) (o := o31) (xs := a1) (i := n14) hf hA32 rfl rfl Tryz.underlying24 Tryz.sizeOf79 h27 h28) fun a hf => ?_
   refine pi_q hf rfl rfl rfl rfl (Ext.refl _) (e_loadA hf (us := [.bool (e25.Final), vS (e25.Letters), vL A34 (e25.Next) c35]) rfl ⟨Tryz.isAgg79, Tryz.sizeOf79⟩ rfl (hM.litSub (k := 1) (d := 0) (us := [.bool (e25.Final), vS (e25.Letters), vL A34 (e25.Next) c35]) rfl rfl rfl)) fun a hf => ?_
   iterate 2 refine pi_q hf rfl rfl rfl rfl (Ext.refl _) (e_move hf rfl) fun a hf => ?_
   obtain ⟨e37, hz38, h20⟩ := bind_some h20
   obtain ⟨b42, o43, _, hA44, h39, h40, hr41, hM⟩ := hM.elem (hM.dat (k := 2) rfl) (n := 3) rfl hz38
   obtain ⟨A46, c47, rfl, hv45, hv48⟩ := NodeRep_open hr41
   have hM := hM.add (y := .dat (sliceRep intRep) e37.Next [vL A46 e37.Next c47]) hv48
   refine pi_q hf rfl rfl rfl rfl (Ext.refl _) (e_indexAddr (A := A6) (b := b42) (o := o43) (xs := b5) (i := n14) hf hA44 rfl rfl Tryz.underlying24 Tryz.sizeOf79 h39 h40) fun a hf => ?_
   refine pi_q hf rfl rfl rfl rfl (Ext.refl _) (e_loadA hf (us := [.bool (e37.Final), vS (e37.Letters), vL A46 (e37.Next) c47]) rfl ⟨Tryz.isAgg79, Tryz.sizeOf79⟩ rfl (hM.litSub (k := 1) (d := 0) (us := [.bool (e37.Final), vS (e37.Letters), vL A46 (e37.Next) c47]) rfl rfl rfl)) fun a hf => ?_
   refine pi_one ?_
   obtain ⟨y49, hz50, h20⟩ := bind_some h20
   refine pi_l hf rfl rfl rfl rfl (w_call hf Tryz.call63 rfl (r_laws_eqNode ⟨_, Sh C _ _, none_, hM.sh_lt, none_not, C.G, hM.g_lt, g_none, hM.tabs⟩ e25 hv33 _ _ (hM.dat (k := 2) rfl) e37 hv45 _ _ (hM.dat (k := 0) rfl) _ hz50) ?_)
   rintro _ w51 ⟨rfl, hM2⟩
   obtain ⟨hM, hx52, hup53⟩ := hM.back hM2
   dsimp only [List.cons_append, List.nil_append] at hM hup53
   clear hM2
   refine ⟨_, rfl, Ext w51, fun _ h => Ext.trans hx52 h, Ext.refl _, fun a hf => ?_⟩
   refine pi_q hf rfl rfl rfl rfl (Ext.refl _) (e_not hf rfl) fun a hf => ?_
   refine pi_nil ?_
   refine then_n ?_
   rcases cond_some h20 with ⟨hc54, h20⟩ | ⟨hc54, h20⟩
   ·refine cond_t hf rfl hc54 ?_
    refine wp_seq ?_
    refine region_pl ?_
    refine q_ hf rfl rfl rfl (e_assign hf rfl) fun a hf => ?_
    refine pl_nil ?_
    refine then_n ?_
    refine wp_ret ?_
    refine blk_r ?_
    refine then_r ?_
    obtain rfl := some_inj h20
    obtain rfl := hd21 _ rfl
    try dsimp only at h13
    refine then_r ?_
    refine blk_r ?_
    obtain rfl := some_inj h13
    try dsimp only at h
    refine then_r ?_
    obtain rfl := some_inj h
    exact leave1 hf rfl rfl ⟨rfl, hM.fin⟩
   refine cond_f hf rfl hc54 ?_
   refine wp_skip ?_
   refine blk_n ?_
   refine then_n ?_
   refine region_pl ?_
   refine q_ hf rfl rfl rfl (e_move hf rfl) fun a hf => ?_
   obtain ⟨z55, hz56, h20⟩ := bind_some h20
   refine q_ hf rfl rfl rfl (e_add hf rfl rfl hz56) fun a hf => ?_
   refine q_ hf rfl rfl rfl (e_assign hf rfl) fun a hf => ?_
   refine pl_nil ?_
   obtain rfl := some_inj h20
   refine then_n ⟨_, rfl, ?_⟩
   exact ⟨z55, rfl, hf.keep ⟨rfl, rfl, rfl, trivial⟩, hM.pick [4, 5] rfl, (chk_R hz56)⟩
  refine cond_f hf rfl hc23 ?_
  refine wp_exit ?_
  refine then_x ?_
  obtain rfl := some_inj h20
  obtain rfl := hd21 _ rfl
  try dsimp only at h13
  refine then_x ?_
  refine exit_hit ?_
  obtain rfl := some_inj h13
  refine then_n ?_
  exact ⟨rfl, hf.keep trivial, hM.pick [0, 1] rfl⟩
 rintro a w63 ⟨rfl, hf, hM⟩
 try dsimp only at h
 refine wp_seq ?_
 refine region_pl ?_
 refine q_ hf rfl rfl rfl (e_assign hf rfl) fun a hf => ?_
 refine pl_nil ?_
 refine then_n ?_
 refine wp_ret ?_
 obtain rfl := some_inj h
 exact leave1 hf rfl rfl ⟨rfl, hM.fin⟩
theorem r_laws_eqDawg (C : Cx) (a1 : Dawg) (A2 : Option Addr) (c3 : Nat) (hp4 : (sliceRep NodeRep).R C.w0 C.S0 a1.Nodes [vL A2 a1.Nodes c3]) (b5 : Dawg) (A6 : Option Addr) (c7 : Nat) (hp8 : (sliceRep NodeRep).R C.w0 C.S0 b5.Nodes [vL A6 b5.Nodes c7]) (r : Bool) (h : m_laws_eqDawg a1 b5 = some r) :
    Calls Tryz.prog 19 #[.agg #[vL A2 (a1.Nodes) c3], .agg #[vL A6 (b5.Nodes) c7]] C.w0 fun e w => e = .returned (.bool (r)) ∧ Mem C w [] [] := by
 have hM := Mem.begin C [.dat (sliceRep NodeRep) b5.Nodes [vL A6 b5.Nodes c7], .dat (sliceRep NodeRep) a1.Nodes [vL A2 a1.Nodes c3]] ⟨hp8, hp4, trivial⟩
 refine enter Tryz.func19 rfl Tryz.ntmps19 rfl fun a hf => ?_
 unfold m_laws_eqDawg at h
 refine wp_seq ?_
 refine region_pl ?_
 refine pl_l hf rfl rfl rfl (w_box hf hM (cs := [vL A2 (a1.Nodes) c3]) rfl rfl fun b9 w10 hx11 hM a hf => ?_)
 refine pl_l hf rfl rfl rfl (w_box hf hM (cs := [vL A6 (b5.Nodes) c7]) rfl rfl fun b13 w14 hx15 hM a hf => ?_)
 refine q_ hf rfl rfl rfl (e_assign hf rfl) fun a hf => ?_
 refine pl_nil ?_
 refine then_n ?_
 iterate 2 refine wp_seq ?_
 refine region_pl ?_
 refine q_ hf rfl rfl rfl (e_field hf rfl Tryz.underlying26 rfl Tryz.sizeOf24 (o' := 0) rfl) fun a hf => ?_
 refine q_ hf rfl rfl rfl (e_load1 hf rfl Tryz.isAgg24 (hM.boxCell (k := 1) rfl rfl)) fun a hf => ?_
 refine q_ hf rfl rfl rfl (e_field hf rfl Tryz.underlying26 rfl Tryz.sizeOf24 (o' := 0) rfl) fun a hf => ?_
 refine q_ hf rfl rfl rfl (e_load1 hf rfl Tryz.isAgg24 (hM.boxCell (k := 0) rfl rfl)) fun a hf => ?_
 obtain ⟨y17, hz18, h⟩ := bind_some h
 refine pl_l hf rfl rfl rfl (w_call hf Tryz.call40 rfl (r_laws_eqNodeS ⟨_, Sh C _ _, none_, hM.sh_lt, none_not, C.G, hM.g_lt, g_none, hM.tabs⟩ a1.Nodes _ _ (hM.dat (k := 1) rfl) b5.Nodes _ _ (hM.dat (k := 0) rfl) _ hz18) ?_)
 rintro _ w19 ⟨rfl, hM2⟩
 obtain ⟨hM, hx20, hup21⟩ := hM.back hM2
 dsimp only [List.cons_append, List.nil_append] at hM hup21
 clear hM2
 refine ⟨_, rfl, fun a hf => ?_⟩
 refine q_ hf rfl rfl rfl (e_not hf rfl) fun a hf => ?_
 refine pl_nil ?_
 refine then_n ?_
 rcases cond_some h with ⟨hc22, h⟩ | ⟨hc22, h⟩
 ·refine cond_t hf rfl hc22 ?_
  refine wp_seq ?_
  refine region_pl ?_
  refine q_ hf rfl rfl rfl (e_assign hf rfl) fun a hf => ?_
  refine pl_nil ?_
  refine then_n ?_
  refine wp_ret ?_
  refine then_r ?_
  obtain rfl := some_inj h
  have hM := hM.outs (own' := []) 0 rfl
  exact leave1 hf rfl rfl ⟨rfl, hM.fin⟩
 refine cond_f hf rfl hc22 ?_
 refine wp_skip ?_
 refine then_n ?_
 refine wp_seq ?_
 refine region_pl ?_
 refine q_ hf rfl rfl rfl (e_assign hf rfl) fun a hf => ?_
 refine pl_nil ?_
 refine then_n ?_
 refine wp_ret ?_
 obtain rfl := some_inj h
 have hM := hM.outs (own' := []) 0 rfl
 exact leave1 hf rfl rfl ⟨rfl, hM.fin⟩
theorem r_laws_markText (C : Cx) (k1 : Int) (hp2 : R64 k1) (r : Str) (h : m_laws_markText k1 = some r) :
    Calls Tryz.prog 64 #[vI (k1)] C.w0 fun e w => e = .returned (vS (r)) ∧ Mem C w [] [] ∧ r.length ≤ maxLen := by
 have hM := Mem.begin C [] trivial
 refine enter Tryz.func64 rfl Tryz.ntmps64 rfl fun a hf => ?_
 unfold m_laws_markText at h
 refine wp_seq ?_
 refine region_pl ?_
 refine q_ hf rfl rfl rfl (e_assign hf rfl) fun a hf => ?_
 refine pl_nil ?_
 refine then_n ?_
 iterate 2 refine wp_seq ?_
 refine region_pl ?_
 refine q_ hf rfl rfl rfl (e_move hf rfl) fun a hf => ?_
 refine q_ hf rfl rfl rfl (e_le hf (x := k1) (y := 0) rfl rfl) fun a hf => ?_
 refine pl_nil ?_
 refine then_n ?_
 rcases cond_some h with ⟨hc3, h⟩ | ⟨hc3, h⟩
 ·refine cond_t hf rfl hc3 ?_
  refine wp_seq ?_
  refine region_pl ?_
  refine q_ hf rfl rfl rfl (e_assign hf rfl) fun a hf => ?_
  refine pl_nil ?_
  refine then_n ?_
  refine wp_ret ?_
  refine then_r ?_
  obtain rfl := some_inj h
  exact leave1 hf rfl rfl ⟨rfl, hM.fin, (lit_len rfl)⟩
 refine cond_f hf rfl hc3 ?_
 refine wp_skip ?_
 refine then_n ?_
 refine wp_seq ?_
 refine region_pl ?_
 refine q_ hf rfl rfl rfl (e_assign hf rfl) fun a hf => ?_
 refine pl_nil ?_
 refine then_n ?_
 obtain ⟨x6, h7, h⟩ := bind_some h
 refine seq_join (fun a w => ∃ (s4 : Str), s4 = x6 ∧ Has 20 a [(3, vS (s4))] ∧ Mem C w [] [] ∧ s4.length ≤ maxLen) ?_ ?_
 ·refine wp_block ?_
  obtain ⟨x15, h16, h7⟩ := bind_some h7
  refine wp_loopM h16 (fun s a w => ∃ (k8 : Int) (s10 : Str), (k8, s10) = s ∧ Has 20 a [(0, vI (k8)), (3, vS (s10))] ∧ Mem C w [] [] ∧ R64 k8 ∧ s10.length ≤ maxLen) ?_ ?_
  ·exact ⟨k1, ([] : Str), rfl, hf.keep ⟨rfl, rfl, trivial⟩, hM.pick [] rfl, hp2, (lit_len rfl)⟩
  rintro s o17 a w12 ⟨k8, s10, rfl, hf, hM, hv9, hv11⟩ h18 hd19
  replace h18 : m_laws_markText_l1 k8 s10 = some o17 := h18
  unfold m_laws_markText_l1 at h18
  iterate 2 refine wp_seq ?_
  refine region_pl ?_
  refine q_ hf rfl rfl rfl (e_move hf rfl) fun a hf => ?_
  refine q_ hf rfl rfl rfl (e_gt hf (x := k8) (y := 0) rfl rfl) fun a hf => ?_
  refine pl_nil ?_
  refine then_n ?_
  rcases cond_some h18 with ⟨hc20, h18⟩ | ⟨hc20, h18⟩
  ·refine cond_t hf rfl hc20 ?_
   refine wp_skip ?_
   refine then_n ?_
   refine wp_block ?_
   refine wp_seq ?_
   refine region_pl ?_
   refine q_ hf rfl rfl rfl (e_move hf rfl) fun a hf => ?_
   obtain ⟨z21, hz22, h18⟩ := bind_some h18
   refine q_ hf rfl rfl rfl (e_rem hf rfl rfl hz22) fun a hf => ?_
   obtain ⟨z23, hz24, h18⟩ := bind_some h18
   refine q_ hf rfl rfl rfl (e_add hf rfl rfl hz24) fun a hf => ?_
   refine q_ hf rfl rfl rfl (e_convIB hf rfl Tryz.underlying3 Tryz.underlying5) fun a hf => ?_
   refine pl_l hf rfl rfl rfl (w_slice hf hM (K := byteRep) (xs := ([UInt8.ofNat (z23 % 256).toNat] : Str)) (os := [.tmp 11]) Tryz.underlying22 ei_5 rfl rfl rfl rfl rfl ⟨⟨[vB (UInt8.ofNat (z23 % 256).toNat)], rfl, rfl⟩, trivial⟩ rfl fun b25 w26 hx27 hM a hf => ?_)
   have hl28 := row_len (hM.ownAt (k := 0) rfl)
   refine q_ hf rfl rfl rfl (e_bytesStr hf (xs := ([UInt8.ofNat (z23 % 256).toNat] : Str)) rfl Tryz.underlying22 Tryz.underlying5 Tryz.underlying9 (hM.lendRow (k := 0) rfl)) fun a hf => ?_
   refine q_ hf rfl rfl rfl (e_move hf rfl) fun a hf => ?_
   obtain ⟨s29, hz30, h18⟩ := bind_some h18
   refine q_ hf rfl rfl rfl (e_cat hf (x := ([UInt8.ofNat (z23 % 256).toNat] : Str)) (y := s10) rfl rfl hz30) fun a hf => ?_
   refine q_ hf rfl rfl rfl (e_assign hf rfl) fun a hf => ?_
   refine pl_nil ?_
   refine then_n ?_
   refine region_pl ?_
   refine q_ hf rfl rfl rfl (e_move hf rfl) fun a hf => ?_
   obtain ⟨z31, hz32, h18⟩ := bind_some h18
   refine q_ hf rfl rfl rfl (e_quo hf rfl rfl hz32) fun a hf => ?_
   refine q_ hf rfl rfl rfl (e_assign hf rfl) fun a hf => ?_
   refine pl_nil ?_
   refine blk_n ?_
   obtain rfl := some_inj h18
   refine then_n ⟨_, rfl, ?_⟩
   exact ⟨z31, s29, rfl, hf.keep ⟨rfl, rfl, trivial⟩, (hM.drop (.cons _ .slnil)).pick [] rfl, (quoI_R hz32), (cat_len hz30)⟩
  refine cond_f hf rfl hc20 ?_
  refine wp_exit ?_
  refine then_x ?_
  obtain rfl := some_inj h18
  obtain rfl := hd19 _ rfl
  try dsimp only at h7
  refine then_x ?_
  refine exit_hit ?_
  obtain rfl := some_inj h7
  refine then_n ?_
  exact ⟨s10, rfl, hf.keep ⟨rfl, trivial⟩, hM.pick [] rfl, hv11⟩
 rintro a w38 ⟨s4, rfl, hf, hM, hv5⟩
 try dsimp only at h
 refine wp_seq ?_
 refine region_pl ?_
 refine q_ hf rfl rfl rfl (e_move hf rfl) fun a hf => ?_
 obtain ⟨s39, hz40, h⟩ := bind_some h
 refine q_ hf rfl rfl rfl (e_cat hf (x := ([109] : Str)) (y := s4) rfl rfl hz40) fun a hf => ?_
 refine q_ hf rfl rfl rfl (e_assign hf rfl) fun a hf => ?_
 refine pl_nil ?_
 refine then_n ?_
 refine wp_ret ?_
 obtain rfl := some_inj h
 exact leave1 hf rfl rfl ⟨rfl, hM.fin, (cat_len hz40)⟩
theorem r_laws_markInt64S (C : Cx) (a1 : (List Int)) (A2 : Option Addr) (c3 : Nat) (k4 : Int) (hp5 : R64 k4) (hO : Mem C C.w0 [.row intRep A2 c3 2 a1 true] []) (hd : ∀ b, C.S0 b → ¬ ownB [.row intRep A2 c3 2 a1 true] b) (r : (Int × (List Int))) (h : m_laws_markInt64S a1 k4 = some r) :
    Calls Tryz.prog 65 #[vL A2 (a1) c3, vI (k4)] C.w0 fun e w => e = .returned (vI (r.1)) ∧ Mem C w [.row intRep A2 c3 2 r.2 true] [] ∧ r.2.length = a1.length ∧ R64 r.1 := by
 have hM := hO
 refine enter Tryz.func65 rfl Tryz.ntmps65 rfl fun a hf => ?_
 unfold m_laws_markInt64S at h
 refine wp_seq ?_
 refine region_pl ?_
 refine q_ hf rfl rfl rfl (e_assign hf rfl) fun a hf => ?_
 refine pl_nil ?_
 refine then_n ?_
 obtain ⟨x10, h11, h⟩ := bind_some h
 refine seq_join (fun a w => ∃ (xs6 : (List Int)) (k8 : Int), (xs6, k8) = x10 ∧ Has 19 a [(1, vI (k8))] ∧ Mem C w [.row intRep A2 c3 2 xs6 true] [] ∧ xs6.length = a1.length ∧ R64 k8) ?_ ?_
 ·refine wp_seq ?_
  refine region_pl ?_
  refine q_ hf rfl rfl rfl (e_assign hf rfl) fun a hf => ?_
  refine pl_nil ?_
  refine then_n ?_
  refine wp_block ?_
  obtain ⟨x23, h24, h11⟩ := bind_some h11
  refine wp_loopM h24 (fun s a w => ∃ (xs12 : (List Int)) (k14 : Int) (n16 : Int), (xs12, k14, n16) = s ∧ Has 19 a [(0, vL A2 (xs12) c3), (1, vI (k14)), (5, vI (n16))] ∧ Mem C w [.row intRep A2 c3 2 xs12 true] [] ∧ xs12.length = a1.length ∧ R64 k14 ∧ R64 n16) ?_ ?_
  ·exact ⟨a1, k4, 0, rfl, hf.keep ⟨rfl, rfl, rfl, trivial⟩, hM.pick [] rfl, rfl, hp5, (R64_lit rfl)⟩
  rintro s o25 a w18 ⟨xs12, k14, n16, rfl, hf, hM, hl13, hv15, hv17⟩ h26 hd27
  replace h26 : m_laws_markInt64S_l1 xs12 k14 n16 = some o25 := h26
  unfold m_laws_markInt64S_l1 at h26
  iterate 2 refine wp_seq ?_
  refine region_pl ?_
  iterate 2 refine q_ hf rfl rfl rfl (e_move hf rfl) fun a hf => ?_
  have hl28 := row_len (hM.ownAt (k := 0) rfl)
  refine q_ hf rfl rfl rfl (e_lenL hf (x := xs12) rfl Tryz.underlying77) fun a hf => ?_
  refine q_ hf rfl rfl rfl (e_lt hf (x := n16) (y := (xs12.length : Int)) rfl rfl) fun a hf => ?_
  refine pl_nil ?_
  refine then_n ?_
  rcases cond_some h26 with ⟨hc29, h26⟩ | ⟨hc29, h26⟩
  ·refine cond_t hf rfl hc29 ?_
   refine wp_skip ?_
   refine then_n ?_
   refine wp_seq ?_
   refine wp_block ?_
   refine wp_seq ?_
   refine region_pl ?_
   iterate 3 refine q_ hf rfl rfl rfl (e_move hf rfl) fun a hf => ?_
   obtain ⟨e30, hz31, h26⟩ := bind_some h26
   obtain ⟨b36, _, hA37, h32, h33, hr34, hcell35⟩ := hM.rowElemN (k := 0) rfl (n := 1) rfl hz31
   obtain ⟨rfl, hv38⟩ := hr34
   refine q_ hf rfl rfl rfl (e_indexAddr (A := A2) (b := b36) (o := 0) (xs := xs12) (i := n16) hf hA37 rfl rfl Tryz.underlying77 Tryz.sizeOf2 h32 h33) fun a hf => ?_
   obtain ⟨xs40, hz41, h26⟩ := bind_some h26
   refine pl_0 hf rfl rfl (w_storeElem hf hM (x := k14) (row := [vI (k14)]) (i := n16) rfl rfl rfl hA37 (k := 0) rfl rfl Tryz.sizeOf2 ⟨rfl, hv15⟩ hz41 fun w39 hM => ?_)
   dsimp only [List.set] at hM
   have hf := hf.alter (d := 0) (v := vL A2 (xs40) c3) rfl (vL_len (setL_len hz41))
   have hf := hf.alter (d := 7) (v := vL A2 (xs40) c3) rfl (vL_len (setL_len hz41))
   have hf := hf.alter (d := 12) (v := vL A2 (xs40) c3) rfl (vL_len (setL_len hz41))
   refine pl_nil ?_
   refine then_n ?_
   refine region_pl ?_
   refine q_ hf rfl rfl rfl (e_move hf rfl) fun a hf => ?_
   obtain ⟨z44, hz45, h26⟩ := bind_some h26
   refine q_ hf rfl rfl rfl (e_add hf rfl rfl hz45) fun a hf => ?_
   refine q_ hf rfl rfl rfl (e_assign hf rfl) fun a hf => ?_
   refine pl_nil ?_
   refine blk_n ?_
   refine then_n ?_
   refine region_pl ?_
   refine q_ hf rfl rfl rfl (e_move hf rfl) fun a hf => ?_
   obtain ⟨z46, hz47, h26⟩ := bind_some h26
   refine q_ hf rfl rfl rfl (e_add hf rfl rfl hz47) fun a hf => ?_
   refine q_ hf rfl rfl rfl (e_assign hf rfl) fun a hf => ?_
   refine pl_nil ?_
   obtain rfl := some_inj h26
   refine then_n ⟨_, rfl, ?_⟩
   exact ⟨xs40, z44, z46, rfl, hf.keep ⟨rfl, rfl, rfl, trivial⟩, hM.pick [] rfl, ((setL_len hz41).trans hl13), (chk_R hz45), (chk_R hz47)⟩
  refine cond_f hf rfl hc29 ?_
  refine wp_exit ?_
  refine then_x ?_
  obtain rfl := some_inj h26
  obtain rfl := hd27 _ rfl
  try dsimp only at h11
  refine then_x ?_
  refine exit_hit ?_
  obtain rfl := some_inj h11
  refine then_n ?_
  exact ⟨xs12, k14, rfl, hf.keep ⟨rfl, trivial⟩, hM.pick [] rfl, hl13, hv15⟩
 rintro a w53 ⟨xs6, k8, rfl, hf, hM, hl7, hv9⟩
 try dsimp only at h
 refine wp_seq ?_
 refine region_pl ?_
 refine q_ hf rfl rfl rfl (e_move hf rfl) fun a hf => ?_
 refine q_ hf rfl rfl rfl (e_assign hf rfl) fun a hf => ?_
 refine pl_nil ?_
 refine then_n ?_
 refine wp_ret ?_
 obtain rfl := some_inj h
 exact leave1 hf rfl rfl ⟨rfl, hM.fin, hl7, hv9⟩
theorem r_laws_markNodeS (C : Cx) (a1 : (List Node)) (A2 : Option Addr) (c3 : Nat) (ws0 : List NodeW) (hw0 : ws0.map NodeW.to = a1) (k4 : Int) (hp5 : R64 k4) (hO : Mem C C.w0 ((nestW A2 c3 79 2 ws0)) []) (hd : ∀ b, C.S0 b → ¬ ownB ((nestW A2 c3 79 2 ws0)) b) (r : (Int × (List Node))) (h : m_laws_markNodeS a1 k4 = some r) :
    Calls Tryz.prog 41 #[vL A2 (a1) c3, vI (k4)] C.w0 fun e w => ∃ (ws_1 : List NodeW), e = .returned (vI (r.1)) ∧ Mem C w ((nestW A2 c3 79 2 ws_1)) [] ∧ ws_1.map NodeW.to = r.2 ∧ r.2.length = a1.length ∧ R64 r.1 := by
 have hM : Mem C C.w0 (.row NodeWRep A2 c3 79 ws0 true :: nestO 2 ws0) [] := hO
 refine enter Tryz.func41 rfl Tryz.ntmps41 rfl fun a hf => ?_
 unfold m_laws_markNodeS at h
 refine wp_seq ?_
 refine region_pl ?_
 refine q_ hf rfl rfl rfl (e_assign hf rfl) fun a hf => ?_
 refine pl_nil ?_
 refine then_n ?_
 obtain ⟨x10, h11, h⟩ := bind_some h
 refine seq_join (fun a w => ∃ (xs6 : (List Node)) (ws : List NodeW) (k8 : Int), (xs6, k8) = x10 ∧ ws.map NodeW.to = xs6 ∧ Has 37 a [(1, vI (k8))] ∧ Mem C w (.row NodeWRep A2 c3 79 ws true :: nestO 2 ws) [] ∧ xs6.length = a1.length ∧ R64 k8) ?_ ?_
 ·refine wp_seq ?_
  refine region_pl ?_
  refine q_ hf rfl rfl rfl (e_assign hf rfl) fun a hf => ?_
  refine pl_nil ?_
  refine then_n ?_
  refine wp_block ?_
  refine wp_loopM h11 (fun s a w => ∃ (xs12 : (List Node)) (ws : List NodeW) (k14 : Int) (n16 : Int), (xs12, k14, n16) = s ∧ ws.map NodeW.to = xs12 ∧ Has 37 a [(0, vL A2 (xs12) c3), (1, vI (k14)), (5, vI (n16))] ∧ Mem C w (.row NodeWRep A2 c3 79 ws true :: nestO 2 ws) [] ∧ xs12.length = a1.length ∧ R64 k14 ∧ R64 n16) ?_ ?_
  ·exact ⟨a1, ws0, k4, 0, rfl, hw0, hf.keep ⟨rfl, rfl, rfl, trivial⟩, hM.pick [] rfl, rfl, hp5, (R64_lit rfl)⟩
  rintro s o25 a w18 ⟨xs12, ws, k14, n16, rfl, hw, hf, hM, hl13, hv15, hv17⟩ h26 hd27
  replace h26 : m_laws_markNodeS_l1 xs12 k14 n16 = some o25 := h26
  unfold m_laws_markNodeS_l1 at h26
  have hlx : ws.length = xs12.length := by rw [← hw, List.length_map]
  iterate 2 refine wp_seq ?_
  refine region_pl ?_
  iterate 2 refine q_ hf rfl rfl rfl (e_move hf rfl) fun a hf => ?_
  have hl28 := row_len (hM.ownAt (k := 0) rfl)
  rw [hlx] at hl28
  refine q_ hf rfl rfl rfl (e_lenL hf (x := xs12) rfl Tryz.underlying24) fun a hf => ?_
  refine q_ hf rfl rfl rfl (e_lt hf (x := n16) (y := (xs12.length : Int)) rfl rfl) fun a hf => ?_
  refine pl_nil ?_
  refine then_n ?_
  rcases cond_some h26 with ⟨hc29, h26⟩ | ⟨hc29, h26⟩
  ·refine cond_t hf rfl hc29 ?_
   refine wp_skip ?_
   refine then_n ?_
   refine wp_seq ?_
   refine wp_block ?_
   refine wp_seq ?_
   refine region_pl ?_
   iterate 3 refine q_ hf rfl rfl rfl (e_move hf rfl) fun a hf => ?_
   obtain ⟨z, hz, h26⟩ := bind_some h26
   refine q_ hf rfl rfl rfl (e_rem hf rfl rfl hz) fun a hf => ?_
   refine q_ hf rfl rfl rfl (e_eq hf (x := z) (y := 0) rfl rfl) fun a hf => ?_
   obtain ⟨e30, hz31, h26⟩ := bind_some h26
   obtain ⟨A35, c36, hzx⟩ := nest_get hw hz31
   obtain ⟨b37, _, hA38, h32, h33, hr34, hcell35⟩ := hM.rowElemN (k := 0) rfl (n := 3) rfl hzx
   obtain ⟨rfl, hv39⟩ := hr34
   refine q_ hf rfl rfl rfl (e_indexAddr (A := A2) (b := b37) (o := 0) (xs := xs12) (i := n16) hf hA38 rfl rfl Tryz.underlying24 Tryz.sizeOf79 h32 (by rw [← hlx]; exact h33)) fun a hf => ?_
   refine q_ hf rfl rfl rfl (e_field hf rfl Tryz.underlying79 rfl Tryz.sizeOf4 (o' := (0 + (n16 : Int).toNat * 3) + 0) rfl) fun a hf => ?_
   obtain ⟨xs1, hz1, h26⟩ := bind_some h26
   refine pl_0 hf rfl rfl (w_storePart hf hM (K := NodeWRep) (x := (⟨z == 0, e30.Letters, A35, c36, e30.Next⟩ : NodeW)) (us := [.bool (z == 0)]) (row := [.bool (e30.Final), vS (e30.Letters), vL A35 (e30.Next) c36]) (i := n16) (d := 0) rfl rfl rfl hA38 (k := 0) rfl rfl Tryz.sizeOf4 hcell35 ⟨rfl, hv39⟩ (setL_nest hzx) rfl rfl fun w40 hM => ?_)
   have hM : Mem C w40 (.row NodeWRep A2 c3 79 (ws.set n16.toNat ⟨z == 0, e30.Letters, A35, c36, e30.Next⟩) true :: nestO 2 ws) _ := hM
   rw [← nest_keep (E := 2) (y := (⟨z == 0, e30.Letters, A35, c36, e30.Next⟩ : NodeW)) hzx rfl rfl rfl] at hM
   have hw1 := nest_to hw hz1 (y := (⟨z == 0, e30.Letters, A35, c36, e30.Next⟩ : NodeW)) rfl
   generalize hws1 : ws.set n16.toNat (⟨z == 0, e30.Letters, A35, c36, e30.Next⟩ : NodeW) = ws1 at hM hw1
   have hl1 : xs1.length = xs12.length := setL_len hz1
   have hlx1 : ws1.length = xs1.length := by rw [← hw1, List.length_map]
   have hf := hf.alter (d := 0) (v := vL A2 (xs1) c3) rfl (vL_len (setL_len hz1))
   refine pl_nil ?_
   refine then_n ?_
   refine wp_seq ?_
   refine region_pl ?_
   refine q_ hf rfl rfl rfl (e_move hf rfl) fun a hf => ?_
   obtain ⟨k1, hk1, h26⟩ := bind_some h26
   refine q_ hf rfl rfl rfl (e_add hf rfl rfl hk1) fun a hf => ?_
   refine q_ hf rfl rfl rfl (e_assign hf rfl) fun a hf => ?_
   refine pl_nil ?_
   refine then_n ?_
   refine wp_seq ?_
   refine region_pl ?_
   iterate 3 refine q_ hf rfl rfl rfl (e_move hf rfl) fun a hf => ?_
   obtain ⟨t108, hz109, h26⟩ := bind_some h26
   refine pl_l hf rfl rfl rfl (w_call hf Tryz.call64 rfl (r_laws_markText ⟨_, Sh C _ _, none_, hM.sh_lt, none_not, C.G, hM.g_lt, g_none, hM.tabs⟩ k1 (chk_R hk1) _ hz109) ?_)
   rintro _ w111 ⟨rfl, hM2, hv110⟩
   obtain ⟨hM, hx112, hup113⟩ := hM.back hM2
   dsimp only [List.cons_append, List.nil_append] at hM hup113
   clear hM2
   refine ⟨_, rfl, fun a hf => ?_⟩
   obtain ⟨e50, hz51, h26⟩ := bind_some h26
   obtain ⟨A55, c56, hzx1⟩ := nest_get hw1 hz51
   obtain ⟨b57, _, hA58, h52, h53, hr54, hcell55⟩ := hM.rowElemN (k := 0) rfl (n := 3) rfl hzx1
   obtain ⟨rfl, hv59⟩ := hr54
   refine q_ hf rfl rfl rfl (e_indexAddr (A := A2) (b := b57) (o := 0) (xs := xs1) (i := n16) hf hA58 rfl rfl Tryz.underlying24 Tryz.sizeOf79 h52 (by rw [← hlx1]; exact h53)) fun a hf => ?_
   refine q_ hf rfl rfl rfl (e_field hf rfl Tryz.underlying79 rfl Tryz.sizeOf9 (o' := (0 + (n16 : Int).toNat * 3) + 1) rfl) fun a hf => ?_
   obtain ⟨xs2, hz2, h26⟩ := bind_some h26
   refine pl_0 hf rfl rfl (w_storePart hf hM (K := NodeWRep) (x := (⟨e50.Final, t108, A55, c56, e50.Next⟩ : NodeW)) (us := [vS (t108)]) (row := [.bool (e50.Final), vS (e50.Letters), vL A55 (e50.Next) c56]) (i := n16) (d := 1) rfl rfl rfl hA58 (k := 0) rfl rfl Tryz.sizeOf9 hcell55 ⟨rfl, hv110⟩ (setL_nest hzx1) rfl rfl fun w60 hM => ?_)
   have hM : Mem C w60 (.row NodeWRep A2 c3 79 (ws1.set n16.toNat ⟨e50.Final, t108, A55, c56, e50.Next⟩) true :: nestO 2 ws1) _ := hM
   rw [← nest_keep (E := 2) (y := (⟨e50.Final, t108, A55, c56, e50.Next⟩ : NodeW)) hzx1 rfl rfl rfl] at hM
   have hw2 := nest_to hw1 hz2 (y := (⟨e50.Final, t108, A55, c56, e50.Next⟩ : NodeW)) rfl
   generalize hws2 : ws1.set n16.toNat (⟨e50.Final, t108, A55, c56, e50.Next⟩ : NodeW) = ws2 at hM hw2
   have hl2 : xs2.length = xs1.length := setL_len hz2
   have hlx2 : ws2.length = xs2.length := by rw [← hw2, List.length_map]
   have hf := hf.alter (d := 0) (v := vL A2 (xs2) c3) rfl (vL_len (setL_len hz2))
   refine pl_nil ?_
   refine then_n ?_
   refine wp_seq ?_
   refine region_pl ?_
   refine q_ hf rfl rfl rfl (e_move hf rfl) fun a hf => ?_
   obtain ⟨k2, hk2, h26⟩ := bind_some h26
   refine q_ hf rfl rfl rfl (e_add hf rfl rfl hk2) fun a hf => ?_
   refine q_ hf rfl rfl rfl (e_assign hf rfl) fun a hf => ?_
   refine pl_nil ?_
   refine then_n ?_
   refine region_pl ?_
   iterate 2 refine q_ hf rfl rfl rfl (e_move hf rfl) fun a hf => ?_
   obtain ⟨e70, hz71, h26⟩ := bind_some h26
   obtain ⟨A75, c76, hzx2⟩ := nest_get hw2 hz71
   obtain ⟨b77, _, hA78, h72, h73, hr74, hcell75⟩ := hM.rowElemN (k := 0) rfl (n := 3) rfl hzx2
   obtain ⟨rfl, hv79⟩ := hr74
   refine q_ hf rfl rfl rfl (e_indexAddr (A := A2) (b := b77) (o := 0) (xs := xs2) (i := n16) hf hA78 rfl rfl Tryz.underlying24 Tryz.sizeOf79 h72 (by rw [← hlx2]; exact h73)) fun a hf => ?_
   refine q_ hf rfl rfl rfl (e_field hf rfl Tryz.underlying79 rfl Tryz.sizeOf77 (o' := (0 + (n16 : Int).toNat * 3) + 2) rfl) fun a hf => ?_
   refine q_ hf rfl rfl rfl (e_load1 hf rfl Tryz.isAgg77 (hcell75 2 _ rfl)) fun a hf => ?_
   refine q_ hf rfl rfl rfl (e_move hf rfl) fun a hf => ?_
   have hat := nest_at 2 [Own.row NodeWRep A2 c3 79 ws2 true] hzx2
   have hkl : 1 + n16.toNat < ([Own.row NodeWRep A2 c3 79 ws2 true] ++ nestO 2 ws2).length := (List.getElem?_eq_some_iff.1 hat).1
   have hM : Mem C w60 ([Own.row NodeWRep A2 c3 79 ws2 true] ++ nestO 2 ws2) _ := hM
   have hM := hM.front (k := 1 + n16.toNat) hat
   have hM : Mem C w60 ([Own.row intRep A75 c76 2 e70.Next true] ++ ([Own.row NodeWRep A2 c3 79 ws2 true] ++ nestO 2 ws2).eraseIdx (1 + n16.toNat)) _ := hM
   obtain ⟨y80, hz81, h26⟩ := bind_some h26
   refine pl_l hf rfl rfl rfl (w_call hf Tryz.call65 rfl (r_laws_markInt64S ⟨_, Sh C _ _, ownB _, hM.sh_lt, sub_dis, C.G, hM.g_lt, hM.g_own, hM.tabs⟩ e70.Next _ _ k2 (chk_R hk2) hM.sub sub_dis _ hz81) ?_)
   rintro _ w82 ⟨rfl, hM2, hl83, hv84⟩
   obtain ⟨hM, hup85⟩ := hM.backG hM2
   clear hM2
   have hM := Mem.backAt (own := [Own.row NodeWRep A2 c3 79 ws2 true] ++ nestO 2 ws2) (k := 1 + n16.toNat) (y := .row intRep A75 c76 2 y80.2 true) hkl hM
   have hM : Mem C w82 ([Own.row NodeWRep A2 c3 79 ws2 true] ++ nestO 2 (ws2.set n16.toNat ⟨e70.Final, e70.Letters, A75, c76, y80.2⟩)) _ := (nest_set 2 [Own.row NodeWRep A2 c3 79 ws2 true] (ws := ws2) (i := n16) (⟨e70.Final, e70.Letters, A75, c76, y80.2⟩ : NodeW)) ▸ hM
   have hM := Mem.rerow (y := (⟨e70.Final, e70.Letters, A75, c76, y80.2⟩ : NodeW)) (own := nestO 2 (ws2.set n16.toNat ⟨e70.Final, e70.Letters, A75, c76, y80.2⟩)) hM hzx2 rfl rfl rfl rfl hl83
   refine ⟨_, rfl, fun a hf => ?_⟩
   refine q_ hf rfl rfl rfl (e_assign hf rfl) fun a hf => ?_
   refine pl_nil ?_
   refine blk_n ?_
   refine then_n ?_
   refine region_pl ?_
   refine q_ hf rfl rfl rfl (e_move hf rfl) fun a hf => ?_
   obtain ⟨xs3, hz3, h26⟩ := bind_some h26
   have hf := hf.alter (d := 0) (v := vL A2 (xs3) c3) rfl (vL_len (setL_len hz3))
   obtain ⟨z44, hz45, h26⟩ := bind_some h26
   refine q_ hf rfl rfl rfl (e_add hf rfl rfl hz45) fun a hf => ?_
   refine q_ hf rfl rfl rfl (e_assign hf rfl) fun a hf => ?_
   refine pl_nil ?_
   obtain rfl := some_inj h26
   refine then_n ⟨_, rfl, ?_⟩
   exact ⟨xs3, _, y80.1, z44, rfl, nest_to hw2 hz3 rfl, hf.keep ⟨rfl, rfl, rfl, trivial⟩, hM.pick [] rfl, (((setL_len hz3).trans hl2).trans hl1).trans hl13, hv84, (chk_R hz45)⟩
  refine cond_f hf rfl hc29 ?_
  refine wp_exit ?_
  refine then_x ?_
  obtain rfl := some_inj h26
  obtain rfl := hd27 _ rfl
  refine then_x ?_
  refine exit_hit ?_
  refine then_n ?_
  exact ⟨xs12, ws, k14, rfl, hw, hf.keep ⟨rfl, trivial⟩, hM.pick [] rfl, hl13, hv15⟩
 rintro a w51 ⟨xs6, ws, k8, rfl, hw6, hf, hM, hl7, hv9⟩
 try dsimp only at h
 refine wp_seq ?_
 refine region_pl ?_
 refine q_ hf rfl rfl rfl (e_move hf rfl) fun a hf => ?_
 refine q_ hf rfl rfl rfl (e_assign hf rfl) fun a hf => ?_
 refine pl_nil ?_
 refine then_n ?_
 refine wp_ret ?_
 obtain rfl := some_inj h
 exact leave1 hf rfl rfl ⟨ws, rfl, hM.fin, hw6, hl7, hv9⟩
theorem r_laws_markDawg (C : Cx) (a1 : Dawg) (A2 : Option Addr) (c3 : Nat) (ws0 : List NodeW) (hw0 : ws0.map NodeW.to = a1.Nodes) (k4 : Int) (hp5 : R64 k4) (hO : Mem C C.w0 ((nestW A2 c3 79 2 ws0)) []) (hd : ∀ b, C.S0 b → ¬ ownB ((nestW A2 c3 79 2 ws0)) b) (r : (Int × (List Node))) (h : m_laws_markDawg a1 k4 = some r) :
    Calls Tryz.prog 20 #[.agg #[vL A2 (a1.Nodes) c3], vI (k4)] C.w0 fun e w => ∃ (ws_1 : List NodeW), e = .returned (vI (r.1)) ∧ Mem C w ((nestW A2 c3 79 2 ws_1)) [] ∧ ws_1.map NodeW.to = r.2 ∧ r.2.length = a1.Nodes.length ∧ R64 r.1 := by
 have hM := hO
 refine enter Tryz.func20 rfl Tryz.ntmps20 rfl fun a hf => ?_
 unfold m_laws_markDawg at h
 refine wp_seq ?_
 refine region_pl ?_
 refine pl_l hf rfl rfl rfl (w_box hf hM (cs := [vL A2 (a1.Nodes) c3]) rfl rfl fun b6 w7 hx8 hM a hf => ?_)
 refine q_ hf rfl rfl rfl (e_assign hf rfl) fun a hf => ?_
 refine pl_nil ?_
 refine then_n ?_
 refine wp_seq ?_
 refine region_pl ?_
 refine q_ hf rfl rfl rfl (e_field hf rfl Tryz.underlying26 rfl Tryz.sizeOf24 (o' := 0) rfl) fun a hf => ?_
 refine q_ hf rfl rfl rfl (e_load1 hf rfl Tryz.isAgg24 (hM.boxCell (k := 0) rfl rfl)) fun a hf => ?_
 refine q_ hf rfl rfl rfl (e_move hf rfl) fun a hf => ?_
 have hM : Mem C w7 (nestW A2 c3 79 2 ws0 ++ [.box b6 [vL A2 (a1.Nodes) c3] 26]) _ := hM.permP (List.perm_append_comm (l₁ := [Own.box b6 [vL A2 (a1.Nodes) c3] 26]))
 obtain ⟨y9, hz10, h⟩ := bind_some h
 refine pl_l hf rfl rfl rfl (w_call hf Tryz.call41 rfl (r_laws_markNodeS ⟨_, Sh C _ _, ownB _, hM.sh_lt, sub_dis, C.G, hM.g_lt, hM.g_own, hM.tabs⟩ a1.Nodes _ _ _ hw0 k4 hp5 hM.sub sub_dis _ hz10) ?_)
 rintro _ w11 ⟨ws1, rfl, hM2, hw1, hl1, hv12⟩
 obtain ⟨hM, hup13⟩ := hM.backG hM2
 clear hM2
 refine ⟨_, rfl, fun a hf => ?_⟩
 refine q_ hf rfl rfl rfl (e_assign hf rfl) fun a hf => ?_
 refine pl_nil ?_
 refine then_n ?_
 refine wp_seq ?_
 refine region_pl ?_
 refine q_ hf rfl rfl rfl (e_move hf rfl) fun a hf => ?_
 refine q_ hf rfl rfl rfl (e_assign hf rfl) fun a hf => ?_
 refine pl_nil ?_
 refine then_n ?_
 refine wp_ret ?_
 obtain rfl := some_inj h
 exact leave1 hf rfl rfl ⟨ws1, rfl, (hM.drop (List.sublist_append_left _ _)).fin, hw1, hl1, hv12⟩
theorem r_laws_heldInt64S (C : Cx) (a1 : (List Int)) (A2 : Option Addr) (c3 : Nat) (hp4 : (sliceRep intRep).R C.w0 C.S0 a1 [vL A2 a1 c3]) (k5 : Int) (hp6 : R64 k5) (r : Int) (h : m_laws_heldInt64S a1 k5 = some r) :
    Calls Tryz.prog 66 #[vL A2 (a1) c3, vI (k5)] C.w0 fun e w => e = .returned (vI (r)) ∧ Mem C w [] [] ∧ R64 r := by
 have hM := Mem.begin C [.dat (sliceRep intRep) a1 [vL A2 a1 c3]] ⟨hp4, trivial⟩
 refine enter Tryz.func66 rfl Tryz.ntmps66 rfl fun a hf => ?_
 unfold m_laws_heldInt64S at h
 refine wp_seq ?_
 refine region_pl ?_
 refine q_ hf rfl rfl rfl (e_assign hf rfl) fun a hf => ?_
 refine pl_nil ?_
 refine then_n ?_
 obtain ⟨x9, h10, h⟩ := bind_some h
 refine seq_join (fun a w => ∃ (k7 : Int), (.inl k7) = x9 ∧ Has 21 a [(1, vI (k7))] ∧ Mem C w [] [.dat (sliceRep intRep) a1 [vL A2 a1 c3]] ∧ R64 k7) ?_ ?_
 ·refine wp_seq ?_
  refine region_pl ?_
  refine q_ hf rfl rfl rfl (e_assign hf rfl) fun a hf => ?_
  refine pl_nil ?_
  refine then_n ?_
  refine wp_block ?_
  obtain ⟨x18, h19, h10⟩ := bind_some h10
  refine wp_loopM h19 (fun s a w => ∃ (k11 : Int) (n13 : Int), (k11, n13) = s ∧ Has 21 a [(0, vL A2 (a1) c3), (1, vI (k11)), (5, vI (n13))] ∧ Mem C w [] [.dat (sliceRep intRep) a1 [vL A2 a1 c3]] ∧ R64 k11 ∧ R64 n13) ?_ ?_
  ·exact ⟨k5, 0, rfl, hf.keep ⟨rfl, rfl, rfl, trivial⟩, hM.pick [0] rfl, hp6, (R64_lit rfl)⟩
  rintro s o20 a w15 ⟨k11, n13, rfl, hf, hM, hv12, hv14⟩ h21 hd22
  replace h21 : m_laws_heldInt64S_l1 a1 k11 n13 = some o20 := h21
  unfold m_laws_heldInt64S_l1 at h21
  iterate 2 refine wp_seq ?_
  refine region_pl ?_
  iterate 2 refine q_ hf rfl rfl rfl (e_move hf rfl) fun a hf => ?_
  have hl23 := slice_len (hM.dat (k := 0) rfl)
  refine q_ hf rfl rfl rfl (e_lenL hf (x := a1) rfl Tryz.underlying77) fun a hf => ?_
  refine q_ hf rfl rfl rfl (e_lt hf (x := n13) (y := (a1.length : Int)) rfl rfl) fun a hf => ?_
  refine pl_nil ?_
  refine then_n ?_
  rcases cond_some h21 with ⟨hc24, h21⟩ | ⟨hc24, h21⟩
  ·refine cond_t hf rfl hc24 ?_
   refine wp_skip ?_
   refine then_n ?_
   refine wp_seq ?_
   refine wp_block ?_
   iterate 2 refine wp_seq ?_
   refine region_pl ?_
   iterate 2 refine q_ hf rfl rfl rfl (e_move hf rfl) fun a hf => ?_
   obtain ⟨e25, hz26, h21⟩ := bind_some h21
   obtain ⟨b30, o31, _, hA32, h27, h28, hr29, hM⟩ := hM.elem (hM.dat (k := 0) rfl) (n := 1) rfl hz26
   obtain ⟨rfl, hv33⟩ := hr29
   refine q_ hf rfl rfl rfl (e_indexAddr (A := A2) (b := b30) (o := o31) (xs := a1) (i := n13) hf hA32 rfl rfl Tryz.underlying77 Tryz.sizeOf2 h27 h28) fun a hf => ?_
   refine q_ hf rfl rfl rfl (e_load1 hf rfl Tryz.isAgg2 (hM.litCell (k := 0) (j := 0) rfl rfl rfl)) fun a hf => ?_
   refine q_ hf rfl rfl rfl (e_move hf rfl) fun a hf => ?_
   refine q_ hf rfl rfl rfl (e_ne hf (x := e25) (y := k11) rfl rfl) fun a hf => ?_
   refine pl_nil ?_
   refine then_n ?_
   rcases cond_some h21 with ⟨hc34, h21⟩ | ⟨hc34, h21⟩
   ·refine cond_t hf rfl hc34 ?_
    refine wp_seq ?_
    refine region_pl ?_
    refine q_ hf rfl rfl rfl (e_assign hf rfl) fun a hf => ?_
    refine pl_nil ?_
    refine then_n ?_
    refine wp_ret ?_
    refine then_r ?_
    refine blk_r ?_
    refine then_r ?_
    obtain rfl := some_inj h21
    obtain rfl := hd22 _ rfl
    try dsimp only at h10
    refine then_r ?_
    refine blk_r ?_
    obtain rfl := some_inj h10
    try dsimp only at h
    refine then_r ?_
    obtain rfl := some_inj h
    exact leave1 hf rfl rfl ⟨rfl, hM.fin, (R64_lit rfl)⟩
   refine cond_f hf rfl hc34 ?_
   refine wp_skip ?_
   refine then_n ?_
   refine region_pl ?_
   refine q_ hf rfl rfl rfl (e_move hf rfl) fun a hf => ?_
   obtain ⟨z35, hz36, h21⟩ := bind_some h21
   refine q_ hf rfl rfl rfl (e_add hf rfl rfl hz36) fun a hf => ?_
   refine q_ hf rfl rfl rfl (e_assign hf rfl) fun a hf => ?_
   refine pl_nil ?_
   refine blk_n ?_
   refine then_n ?_
   refine region_pl ?_
   refine q_ hf rfl rfl rfl (e_move hf rfl) fun a hf => ?_
   obtain ⟨z37, hz38, h21⟩ := bind_some h21
   refine q_ hf rfl rfl rfl (e_add hf rfl rfl hz38) fun a hf => ?_
   refine q_ hf rfl rfl rfl (e_assign hf rfl) fun a hf => ?_
   refine pl_nil ?_
   obtain rfl := some_inj h21
   refine then_n ⟨_, rfl, ?_⟩
   exact ⟨z35, z37, rfl, hf.keep ⟨rfl, rfl, rfl, trivial⟩, hM.pick [1] rfl, (chk_R hz36), (chk_R hz38)⟩
  refine cond_f hf rfl hc24 ?_
  refine wp_exit ?_
  refine then_x ?_
  obtain rfl := some_inj h21
  obtain rfl := hd22 _ rfl
  try dsimp only at h10
  refine then_x ?_
  refine exit_hit ?_
  obtain rfl := some_inj h10
  refine then_n ?_
  exact ⟨k11, rfl, hf.keep ⟨rfl, trivial⟩, hM.pick [0] rfl, hv12⟩
 rintro a w45 ⟨k7, rfl, hf, hM, hv8⟩
 try dsimp only at h
 refine wp_seq ?_
 refine region_pl ?_
 refine q_ hf rfl rfl rfl (e_move hf rfl) fun a hf => ?_
 refine q_ hf rfl rfl rfl (e_assign hf rfl) fun a hf => ?_
 refine pl_nil ?_
 refine then_n ?_
 refine wp_ret ?_
 obtain rfl := some_inj h
 exact leave1 hf rfl rfl ⟨rfl, hM.fin, hv8⟩
theorem r_laws_heldNodeS (C : Cx) (a1 : (List Node)) (A2 : Option Addr) (c3 : Nat) (hp4 : (sliceRep NodeRep).R C.w0 C.S0 a1 [vL A2 a1 c3]) (k5 : Int) (hp6 : R64 k5) (r : Int) (h : m_laws_heldNodeS a1 k5 = some r) :
    Calls Tryz.prog 42 #[vL A2 (a1) c3, vI (k5)] C.w0 fun e w => e = .returned (vI (r)) ∧ Mem C w [] [] ∧ R64 r := by
 have hM := Mem.begin C [.dat (sliceRep NodeRep) a1 [vL A2 a1 c3]] ⟨hp4, trivial⟩
 refine enter Tryz.func42 rfl Tryz.ntmps42 rfl fun a hf => ?_
 unfold m_laws_heldNodeS at h
 refine wp_seq ?_
 refine region_pl ?_
 refine q_ hf rfl rfl rfl (e_assign hf rfl) fun a hf => ?_
 refine pl_nil ?_
 refine then_n ?_
 obtain ⟨x9, h10, h⟩ := bind_some h
 refine seq_join (fun a w => ∃ (k7 : Int), (.inl k7) = x9 ∧ Has 43 a [(1, vI (k7))] ∧ Mem C w [] [.dat (sliceRep NodeRep) a1 [vL A2 a1 c3]] ∧ R64 k7) ?_ ?_
 ·refine wp_seq ?_
  refine region_pl ?_
  refine q_ hf rfl rfl rfl (e_assign hf rfl) fun a hf => ?_
  refine pl_nil ?_
  refine then_n ?_
  refine wp_block ?_
  obtain ⟨x18, h19, h10⟩ := bind_some h10
  refine wp_loopM h19 (fun s a w => ∃ (k11 : Int) (n13 : Int), (k11, n13) = s ∧ Has 43 a [(0, vL A2 (a1) c3), (1, vI (k11)), (5, vI (n13))] ∧ Mem C w [] [.dat (sliceRep NodeRep) a1 [vL A2 a1 c3]] ∧ R64 k11 ∧ R64 n13) ?_ ?_
  ·exact ⟨k5, 0, rfl, hf.keep ⟨rfl, rfl, rfl, trivial⟩, hM.pick [0] rfl, hp6, (R64_lit rfl)⟩
  rintro s o20 a w15 ⟨k11, n13, rfl, hf, hM, hv12, hv14⟩ h21 hd22
  replace h21 : m_laws_heldNodeS_l1 a1 k11 n13 = some o20 := h21
  unfold m_laws_heldNodeS_l1 at h21
  iterate 2 refine wp_seq ?_
  refine region_pl ?_
  iterate 2 refine q_ hf rfl rfl rfl (e_move hf rfl) fun a hf => ?_
  have hl23 := slice_len (hM.dat (k := 0) rfl)
  refine q_ hf rfl rfl rfl (e_lenL hf (x := a1) rfl Tryz.underlying24) fun a hf => ?_
  refine q_ hf rfl rfl rfl (e_lt hf (x := n13) (y := (a1.length : Int)) rfl rfl) fun a hf => ?_
  refine pl_nil ?_
  refine then_n ?_
  rcases cond_some h21 with ⟨hc24, h21⟩ | ⟨hc24, h21⟩
  ·refine cond_t hf rfl hc24 ?_
   refine wp_skip ?_
   refine then_n ?_
   refine wp_seq ?_
   refine wp_block ?_
   iterate 2 refine wp_seq ?_
   refine region_pl ?_
   iterate 2 refine q_ hf rfl rfl rfl (e_move hf rfl) fun a hf => ?_
   obtain ⟨e25, hz26, h21⟩ := bind_some h21
   obtain ⟨b30, o31, _, hA32, h27, h28, hr29, hM⟩ := hM.elem (hM.dat (k := 0) rfl) (n := 3) rfl hz26
   obtain ⟨A34, c35, rfl, hv33, hv36⟩ := NodeRep_open hr29
   have hM := hM.add (y := .dat (sliceRep intRep) e25.Next [vL A34 e25.Next c35]) hv36
   refine q_ hf rfl rfl rfl (e_indexAddr (A := A2) (b := b30) (o := o31) (xs := a1) (i := n13) hf hA32 rfl rfl Tryz.underlying24 Tryz.sizeOf79 h27 h28) fun a hf => ?_
   refine q_ hf rfl rfl rfl (e_field hf rfl Tryz.underlying79 rfl Tryz.sizeOf4 (o' := (o31 + (n13 : Int).toNat * 3) + 0) rfl) fun a hf => ?_
   refine q_ hf rfl rfl rfl (e_load1 hf rfl Tryz.isAgg4 (hM.litCell (k := 1) (j := 0) rfl rfl rfl)) fun a hf => ?_
   refine q_ hf rfl rfl rfl (e_move hf rfl) fun a hf => ?_
   obtain ⟨z37, hz38, h21⟩ := bind_some h21
   refine q_ hf rfl rfl rfl (e_rem hf rfl rfl hz38) fun a hf => ?_
   refine q_ hf rfl rfl rfl (e_eq hf (x := z37) (y := 0) rfl rfl) fun a hf => ?_
   refine q_ hf rfl rfl rfl (e_neT hf rfl rfl Tryz.underlying4) fun a hf => ?_
   refine pl_nil ?_
   refine then_n ?_
   rcases cond_some h21 with ⟨hc39, h21⟩ | ⟨hc39, h21⟩
   ·refine cond_t hf rfl hc39 ?_
    refine wp_seq ?_
    refine region_pl ?_
    refine q_ hf rfl rfl rfl (e_assign hf rfl) fun a hf => ?_
    refine pl_nil ?_
    refine then_n ?_
    refine wp_ret ?_
    refine then_r ?_
    refine blk_r ?_
    refine then_r ?_
    obtain rfl := some_inj h21
    obtain rfl := hd22 _ rfl
    try dsimp only at h10
    refine then_r ?_
    refine blk_r ?_
    obtain rfl := some_inj h10
    try dsimp only at h
    refine then_r ?_
    obtain rfl := some_inj h
    exact leave1 hf rfl rfl ⟨rfl, hM.fin, (R64_lit rfl)⟩
   refine cond_f hf rfl hc39 ?_
   refine wp_skip ?_
   refine then_n ?_
   refine wp_seq ?_
   refine region_pl ?_
   refine q_ hf rfl rfl rfl (e_move hf rfl) fun a hf => ?_
   obtain ⟨z40, hz41, h21⟩ := bind_some h21
   refine q_ hf rfl rfl rfl (e_add hf rfl rfl hz41) fun a hf => ?_
   refine q_ hf rfl rfl rfl (e_assign hf rfl) fun a hf => ?_
   refine pl_nil ?_
   refine then_n ?_
   iterate 2 refine wp_seq ?_
   obtain ⟨w42, hw⟩ : ∃ x, x = w15.drew := ⟨_, rfl⟩
   refine region_pi (.q 0 (.q 1 (.q 2 (.q 3 (.q 4 (.q 5 (.l 6 (.q 7 (.nil))))))))) (Ext w42) rfl (by kernel_rfl) ?_
   have hM := hM.drew
   rw [← hw] at hM ⊢
   clear hw
   iterate 2 refine pi_q hf rfl rfl rfl rfl (Ext.refl _) (e_move hf rfl) fun a hf => ?_
   obtain ⟨e43, hz44, h21⟩ := bind_some h21
   obtain ⟨b48, o49, _, hA50, h45, h46, hr47, hM⟩ := hM.elem (hM.dat (k := 2) rfl) (n := 3) rfl hz44
   obtain ⟨A52, c53, rfl, hv51, hv54⟩ := NodeRep_open hr47
   have hM := hM.add (y := .dat (sliceRep intRep) e43.Next [vL A52 e43.Next c53]) hv54
   refine pi_q hf rfl rfl rfl rfl (Ext.refl _) (e_indexAddr (A := A2) (b := b48) (o := o49) (xs := a1) (i := n13) hf hA50 rfl rfl Tryz.underlying24 Tryz.sizeOf79 h45 h46) fun a hf => ?_
   refine pi_q hf rfl rfl rfl rfl (Ext.refl _) (e_field hf rfl Tryz.underlying79 rfl Tryz.sizeOf9 (o' := (o49 + (n13 : Int).toNat * 3) + 1) rfl) fun a hf => ?_
   refine pi_q hf rfl rfl rfl rfl (Ext.refl _) (e_load1 hf rfl Tryz.isAgg9 (hM.litCell (k := 1) (j := 1) rfl rfl rfl)) fun a hf => ?_
   refine pi_q hf rfl rfl rfl rfl (Ext.refl _) (e_move hf rfl) fun a hf => ?_
   refine pi_one ?_
   obtain ⟨y55, hz56, h21⟩ := bind_some h21
   refine pi_l hf rfl rfl rfl rfl (w_call hf Tryz.call64 rfl (r_laws_markText ⟨_, Sh C _ _, none_, hM.sh_lt, none_not, C.G, hM.g_lt, g_none, hM.tabs⟩ z40 (chk_R hz41) _ hz56) ?_)
   rintro _ w58 ⟨rfl, hM2, hv57⟩
   obtain ⟨hM, hx59, hup60⟩ := hM.back hM2
   dsimp only [List.cons_append, List.nil_append] at hM hup60
   clear hM2
   refine ⟨_, rfl, Ext w58, fun _ h => Ext.trans hx59 h, Ext.refl _, fun a hf => ?_⟩
   refine pi_q hf rfl rfl rfl rfl (Ext.refl _) (e_neS hf (x := e43.Letters) (y := y55) rfl rfl) fun a hf => ?_
   refine pi_nil ?_
   refine then_n ?_
   rcases cond_some h21 with ⟨hc61, h21⟩ | ⟨hc61, h21⟩
   ·refine cond_t hf rfl hc61 ?_
    refine wp_seq ?_
    refine region_pl ?_
    refine q_ hf rfl rfl rfl (e_assign hf rfl) fun a hf => ?_
    refine pl_nil ?_
    refine then_n ?_
    refine wp_ret ?_
    refine then_r ?_
    refine blk_r ?_
    refine then_r ?_
    obtain rfl := some_inj h21
    obtain rfl := hd22 _ rfl
    try dsimp only at h10
    refine then_r ?_
    refine blk_r ?_
    obtain rfl := some_inj h10
    try dsimp only at h
    refine then_r ?_
    obtain rfl := some_inj h
    exact leave1 hf rfl rfl ⟨rfl, hM.fin, (R64_lit rfl)⟩
   refine cond_f hf rfl hc61 ?_
   refine wp_skip ?_
   refine then_n ?_
   refine wp_seq ?_
   refine region_pl ?_
   refine q_ hf rfl rfl rfl (e_move hf rfl) fun a hf => ?_
   obtain ⟨z62, hz63, h21⟩ := bind_some h21
   refine q_ hf rfl rfl rfl (e_add hf rfl rfl hz63) fun a hf => ?_
   refine q_ hf rfl rfl rfl (e_assign hf rfl) fun a hf => ?_
   refine pl_nil ?_
   refine then_n ?_
   refine wp_seq ?_
   refine region_pl ?_
   iterate 2 refine q_ hf rfl rfl rfl (e_move hf rfl) fun a hf => ?_
   obtain ⟨e64, hz65, h21⟩ := bind_some h21
   obtain ⟨b69, o70, _, hA71, h66, h67, hr68, hM⟩ := hM.elem (hM.dat (k := 4) rfl) (n := 3) rfl hz65
   obtain ⟨A73, c74, rfl, hv72, hv75⟩ := NodeRep_open hr68
   have hM := hM.add (y := .dat (sliceRep intRep) e64.Next [vL A73 e64.Next c74]) hv75
   refine q_ hf rfl rfl rfl (e_indexAddr (A := A2) (b := b69) (o := o70) (xs := a1) (i := n13) hf hA71 rfl rfl Tryz.underlying24 Tryz.sizeOf79 h66 h67) fun a hf => ?_
   refine q_ hf rfl rfl rfl (e_field hf rfl Tryz.underlying79 rfl Tryz.sizeOf77 (o' := (o70 + (n13 : Int).toNat * 3) + 2) rfl) fun a hf => ?_
   refine q_ hf rfl rfl rfl (e_load1 hf rfl Tryz.isAgg77 (hM.litCell (k := 1) (j := 2) rfl rfl rfl)) fun a hf => ?_
   refine q_ hf rfl rfl rfl (e_move hf rfl) fun a hf => ?_
   obtain ⟨y76, hz77, h21⟩ := bind_some h21
   refine pl_l hf rfl rfl rfl (w_call hf Tryz.call66 rfl (r_laws_heldInt64S ⟨_, Sh C _ _, none_, hM.sh_lt, none_not, C.G, hM.g_lt, g_none, hM.tabs⟩ e64.Next _ _ (hM.dat (k := 0) rfl) z62 (chk_R hz63) _ hz77) ?_)
   rintro _ w79 ⟨rfl, hM2, hv78⟩
   obtain ⟨hM, hx80, hup81⟩ := hM.back hM2
   dsimp only [List.cons_append, List.nil_append] at hM hup81
   clear hM2
   refine ⟨_, rfl, fun a hf => ?_⟩
   refine q_ hf rfl rfl rfl (e_assign hf rfl) fun a hf => ?_
   refine pl_nil ?_
   refine then_n ?_
   refine wp_seq ?_
   refine region_pl ?_
   refine q_ hf rfl rfl rfl (e_move hf rfl) fun a hf => ?_
   refine q_ hf rfl rfl rfl (e_lt hf (x := y76) (y := 0) rfl rfl) fun a hf => ?_
   refine pl_nil ?_
   refine then_n ?_
   rcases cond_some h21 with ⟨hc82, h21⟩ | ⟨hc82, h21⟩
   ·refine cond_t hf rfl hc82 ?_
    refine wp_seq ?_
    refine region_pl ?_
    refine q_ hf rfl rfl rfl (e_assign hf rfl) fun a hf => ?_
    refine pl_nil ?_
    refine then_n ?_
    refine wp_ret ?_
    refine blk_r ?_
    refine then_r ?_
    obtain rfl := some_inj h21
    obtain rfl := hd22 _ rfl
    try dsimp only at h10
    refine then_r ?_
    refine blk_r ?_
    obtain rfl := some_inj h10
    try dsimp only at h
    refine then_r ?_
    obtain rfl := some_inj h
    exact leave1 hf rfl rfl ⟨rfl, hM.fin, (R64_lit rfl)⟩
   refine cond_f hf rfl hc82 ?_
   refine wp_skip ?_
   refine blk_n ?_
   refine then_n ?_
   refine region_pl ?_
   refine q_ hf rfl rfl rfl (e_move hf rfl) fun a hf => ?_
   obtain ⟨z83, hz84, h21⟩ := bind_some h21
   refine q_ hf rfl rfl rfl (e_add hf rfl rfl hz84) fun a hf => ?_
   refine q_ hf rfl rfl rfl (e_assign hf rfl) fun a hf => ?_
   refine pl_nil ?_
   obtain rfl := some_inj h21
   refine then_n ⟨_, rfl, ?_⟩
   exact ⟨y76, z83, rfl, hf.keep ⟨rfl, rfl, rfl, trivial⟩, hM.pick [6] rfl, hv78, (chk_R hz84)⟩
  refine cond_f hf rfl hc24 ?_
  refine wp_exit ?_
  refine then_x ?_
  obtain rfl := some_inj h21
  obtain rfl := hd22 _ rfl
  try dsimp only at h10
  refine then_x ?_
  refine exit_hit ?_
  obtain rfl := some_inj h10
  refine then_n ?_
  exact ⟨k11, rfl, hf.keep ⟨rfl, trivial⟩, hM.pick [0] rfl, hv12⟩
 rintro a w91 ⟨k7, rfl, hf, hM, hv8⟩
 try dsimp only at h
 refine wp_seq ?_
 refine region_pl ?_
 refine q_ hf rfl rfl rfl (e_move hf rfl) fun a hf => ?_
 refine q_ hf rfl rfl rfl (e_assign hf rfl) fun a hf => ?_
 refine pl_nil ?_
 refine then_n ?_
 refine wp_ret ?_
 obtain rfl := some_inj h
 exact leave1 hf rfl rfl ⟨rfl, hM.fin, hv8⟩
theorem r_laws_heldDawg (C : Cx) (a1 : Dawg) (A2 : Option Addr) (c3 : Nat) (hp4 : (sliceRep NodeRep).R C.w0 C.S0 a1.Nodes [vL A2 a1.Nodes c3]) (k5 : Int) (hp6 : R64 k5) (r : Int) (h : m_laws_heldDawg a1 k5 = some r) :
    Calls Tryz.prog 21 #[.agg #[vL A2 (a1.Nodes) c3], vI (k5)] C.w0 fun e w => e = .returned (vI (r)) ∧ Mem C w [] [] ∧ R64 r := by
 have hM := Mem.begin C [.dat (sliceRep NodeRep) a1.Nodes [vL A2 a1.Nodes c3]] ⟨hp4, trivial⟩
 refine enter Tryz.func21 rfl Tryz.ntmps21 rfl fun a hf => ?_
 unfold m_laws_heldDawg at h
 refine wp_seq ?_
 refine region_pl ?_
 refine pl_l hf rfl rfl rfl (w_box hf hM (cs := [vL A2 (a1.Nodes) c3]) rfl rfl fun b7 w8 hx9 hM a hf => ?_)
 refine q_ hf rfl rfl rfl (e_assign hf rfl) fun a hf => ?_
 refine pl_nil ?_
 refine then_n ?_
 refine wp_seq ?_
 refine region_pl ?_
 refine q_ hf rfl rfl rfl (e_field hf rfl Tryz.underlying26 rfl Tryz.sizeOf24 (o' := 0) rfl) fun a hf => ?_
 refine q_ hf rfl rfl rfl (e_load1 hf rfl Tryz.isAgg24 (hM.boxCell (k := 0) rfl rfl)) fun a hf => ?_
 refine q_ hf rfl rfl rfl (e_move hf rfl) fun a hf => ?_
 obtain ⟨y11, hz12, h⟩ := bind_some h
 refine pl_l hf rfl rfl rfl (w_call hf Tryz.call42 rfl (r_laws_heldNodeS ⟨_, Sh C _ _, none_, hM.sh_lt, none_not, C.G, hM.g_lt, g_none, hM.tabs⟩ a1.Nodes _ _ (hM.dat (k := 0) rfl) k5 hp6 _ hz12) ?_)
 rintro _ w14 ⟨rfl, hM2, hv13⟩
 obtain ⟨hM, hx15, hup16⟩ := hM.back hM2
 dsimp only [List.cons_append, List.nil_append] at hM hup16
 clear hM2
 refine ⟨_, rfl, fun a hf => ?_⟩
 refine q_ hf rfl rfl rfl (e_assign hf rfl) fun a hf => ?_
 refine pl_nil ?_
 refine then_n ?_
 iterate 2 refine wp_seq ?_
 refine region_pl ?_
 refine q_ hf rfl rfl rfl (e_move hf rfl) fun a hf => ?_
 refine q_ hf rfl rfl rfl (e_lt hf (x := y11) (y := 0) rfl rfl) fun a hf => ?_
 refine pl_nil ?_
 refine then_n ?_
 rcases cond_some h with ⟨hc17, h⟩ | ⟨hc17, h⟩
 ·refine cond_t hf rfl hc17 ?_
  refine wp_seq ?_
  refine region_pl ?_
  refine q_ hf rfl rfl rfl (e_assign hf rfl) fun a hf => ?_
  refine pl_nil ?_
  refine then_n ?_
  refine wp_ret ?_
  refine then_r ?_
  obtain rfl := some_inj h
  have hM := hM.outs (own' := []) 0 rfl
  exact leave1 hf rfl rfl ⟨rfl, hM.fin, (R64_lit rfl)⟩
 refine cond_f hf rfl hc17 ?_
 refine wp_skip ?_
 refine then_n ?_
 refine wp_seq ?_
 refine region_pl ?_
 refine q_ hf rfl rfl rfl (e_move hf rfl) fun a hf => ?_
 refine q_ hf rfl rfl rfl (e_assign hf rfl) fun a hf => ?_
 refine pl_nil ?_
 refine then_n ?_
 refine wp_ret ?_
 obtain rfl := some_inj h
 have hM := hM.outs (own' := []) 0 rfl
 exact leave1 hf rfl rfl ⟨rfl, hM.fin, hv13⟩
end Go.Proofs.YtccoeheoifbpcaaGreatDoor
