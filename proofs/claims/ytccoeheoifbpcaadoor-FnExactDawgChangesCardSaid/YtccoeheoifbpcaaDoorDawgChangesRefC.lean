/- The functions that this law reaches do what their models say. Printed by gen.py. -/
import Derived.Test.YtccoeheoifbpcaaDoorMod
import Derived.Test.YtccoeheoifbpcaaDoorLib
import Derived.Test.YtccoeheoifbpcaaDoorDawgChangesRefB
namespace Go.Proofs.YtccoeheoifbpcaaDoor
open Go Go.RowKit
set_option linter.unusedSimpArgs false
set_option linter.unusedVariables false

def Ct_impl_Dawg_words_1 (rc : Int → Dawg → (List Str) → Str → Option ((List Str) × Str)) : Prop := ∀ (C : Cx) (node1 : Int) (hp2 : R64 node1) (p3 : Dawg) (b4 : Nat) (o5 : Nat) (hp6 : (ptrRep DawgRep).R C.w0 C.S0 p3 [vP b4 o5]) (p7 : (List Str)) (b8 : Nat) (A9 : Option Addr) (c10 : Nat) (p11 : Str) (b12 : Nat) (A13 : Option Addr) (c14 : Nat) (b16 : Nat) (o17 : Nat) (hp18 : Shr.good C.w0 C.S0 (.lit b16 (o17) [.func (.func 55) #[] #[vP b4 (o5), vP b8 (0), vP b12 (0), vP b16 (o17)]])) (hO : Mem C C.w0 [.box b8 [vL A9 (p7) c10] 26, .row strRep A9 c10 9 p7 true, .box b12 [vL A13 (p11) c14] 79, .row byteRep A13 c14 5 p11 true] []) (hd : ∀ b, C.S0 b → ¬ ownB [.box b8 [vL A9 (p7) c10] 26, .row strRep A9 c10 9 p7 true, .box b12 [vL A13 (p11) c14] 79, .row byteRep A13 c14 5 p11 true] b) (r : ((List Str) × Str)) (h : rc node1 p3 p7 p11 = some r),
    Calls Tryd.prog 55 #[vI (node1), vP b4 (o5), vP b8 (0), vP b12 (0), vP b16 (o17)] C.w0 fun e w => ∃ (A_1 : Option Addr), ∃ (c_1 : Nat), ∃ (A_2 : Option Addr), ∃ (c_2 : Nat), e = .returned (.tuple #[]) ∧ Mem C w [.box b8 [vL A_1 (r.1) c_1] 26, .row strRep A_1 c_1 9 r.1 true, .box b12 [vL A_2 (r.2) c_2] 79, .row byteRep A_2 c_2 5 r.2 true] []

set_option maxRecDepth 100000 in
set_option maxHeartbeats 4000000 in
theorem r_impl_Dawg_words_1_b (rc : Int → Dawg → (List Str) → Str → Option ((List Str) × Str)) (ih : Ct_impl_Dawg_words_1 rc) : Ct_impl_Dawg_words_1 (m_impl_Dawg_words_1_b rc) := by
 intro C node1 hp2 p3 b4 o5 hp6 p7 b8 A9 c10 p11 b12 A13 c14 b16 o17 hp18 hO hd r h
 have hM := hO
 have hM := hM.addIn hd (y := .dat (ptrRep DawgRep) p3 [vP b4 o5]) hp6
 have hM := hM.addIn hd (y := .lit b16 (o17) [.func (.func 55) #[] #[vP b4 (o5), vP b8 (0), vP b12 (0), vP b16 (o17)]]) hp18
 refine enter Tryd.func55 rfl Tryd.ntmps55 rfl fun a hf => ?_
 unfold m_impl_Dawg_words_1_b at h
 refine wp_seq ?_
 refine region_pl ?_
 obtain ⟨_, hr19, hM⟩ := hM.deref (hM.dat (k := 1) rfl)
 obtain ⟨A20, c21, rfl, hv22⟩ := DawgRep_open hr19
 have hM := hM.add (y := .dat (sliceRep NodeRep) p3.Nodes [vL A20 p3.Nodes c21]) hv22
 refine q_ hf rfl rfl rfl (e_field hf rfl Tryd.underlying31 rfl Tryd.sizeOf29 (o' := o5 + 0) rfl) fun a hf => ?_
 refine q_ hf rfl rfl rfl (e_load1 hf rfl Tryd.isAgg29 (hM.litCell (k := 1) (j := 0) rfl rfl rfl)) fun a hf => ?_
 refine q_ hf rfl rfl rfl (e_move hf rfl) fun a hf => ?_
 obtain ⟨e23, hz24, h⟩ := bind_some h
 obtain ⟨b28, o29, _, hA30, h25, h26, hr27, hM⟩ := hM.elem (hM.dat (k := 0) rfl) (n := 3) rfl hz24
 obtain ⟨A32, c33, rfl, hv31, hv34⟩ := NodeRep_open hr27
 have hM := hM.add (y := .dat (sliceRep intRep) e23.Next [vL A32 e23.Next c33]) hv34
 refine q_ hf rfl rfl rfl (e_indexAddr (A := A20) (b := b28) (o := o29) (xs := p3.Nodes) (i := node1) hf hA30 rfl rfl Tryd.underlying29 Tryd.sizeOf55 h25 h26) fun a hf => ?_
 refine q_ hf rfl rfl rfl (e_loadA hf (us := [.bool (e23.Final), vS (e23.Letters), vL A32 (e23.Next) c33]) rfl ⟨Tryd.isAgg55, Tryd.sizeOf55⟩ rfl (hM.litSub (k := 1) (d := 0) (us := [.bool (e23.Final), vS (e23.Letters), vL A32 (e23.Next) c33]) rfl rfl rfl)) fun a hf => ?_
 refine pl_l hf rfl rfl rfl (w_alloc hM (cs := [.bool (false), vS (([] : Str)), vL none (([] : (List Int))) 0]) Tryd.zeroValue55 rfl fun b35 w36 hx37 hM a hf => ?_)
 refine pl_0 hf rfl rfl (w_store hf hM (us := [.bool (e23.Final), vS (e23.Letters), vL A32 (e23.Next) c33]) (cs' := [.bool (e23.Final), vS (e23.Letters), vL A32 (e23.Next) c33]) rfl rfl (k := 0) rfl rfl Tryd.sizeOf55 rfl rfl rfl fun w39 hM => ?_)
 dsimp only [List.set] at hM
 refine pl_nil ?_
 refine then_n ?_
 obtain ⟨x45, h46, h⟩ := bind_some h
 refine seq_join (fun a w => ∃ (xs42 : (List Str)) (A43 : Option Addr) (c44 : Nat), xs42 = x45 ∧ Has 45 a [(3, vP b12 (0)), (4, vP b16 (o17)), (6, vP b35 (0))] ∧ Mem C w [.box b35 [.bool (e23.Final), vS (e23.Letters), vL A32 (e23.Next) c33] 55, .box b8 [vL A43 (xs42) c44] 26, .row strRep A43 c44 9 xs42 true, .box b12 [vL A13 (p11) c14] 79, .row byteRep A13 c14 5 p11 true] [.dat (sliceRep intRep) e23.Next [vL A32 e23.Next c33], .lit b28 (o29 + (node1 : Int).toNat * 3) [.bool (e23.Final), vS (e23.Letters), vL A32 (e23.Next) c33], .dat (sliceRep NodeRep) p3.Nodes [vL A20 p3.Nodes c21], .lit b4 (o5) [vL A20 (p3.Nodes) c21], .lit b16 (o17) [.func (.func 55) #[] #[vP b4 (o5), vP b8 (0), vP b12 (0), vP b16 (o17)]], .dat (ptrRep DawgRep) p3 [vP b4 o5]]) ?_ ?_
 ·refine wp_seq ?_
  refine region_pl ?_
  refine q_ hf rfl rfl rfl (e_field hf rfl Tryd.underlying55 rfl Tryd.sizeOf4 (o' := 0) rfl) fun a hf => ?_
  refine q_ hf rfl rfl rfl (e_load1 hf rfl Tryd.isAgg4 (hM.boxCell (k := 0) rfl rfl)) fun a hf => ?_
  refine pl_nil ?_
  refine then_n ?_
  rcases cond_some h46 with ⟨hc47, h46⟩ | ⟨hc47, h46⟩
  ·refine cond_t hf rfl hc47 ?_
   refine region_pl ?_
   refine q_ hf rfl rfl rfl (e_load1 hf rfl Tryd.isAgg26 (hM.boxCell (k := 1) rfl rfl)) fun a hf => ?_
   refine q_ hf rfl rfl rfl (e_load1 hf rfl Tryd.isAgg79 (hM.boxCell (k := 3) rfl rfl)) fun a hf => ?_
   have hl48 := row_len (hM.ownAt (k := 4) rfl)
   refine q_ hf rfl rfl rfl (e_bytesStr hf (xs := p11) rfl Tryd.underlying79 Tryd.underlying5 Tryd.underlying9 (hM.lendRow (k := 4) rfl)) fun a hf => ?_
   refine pl_l hf rfl rfl rfl (w_slice hf hM (K := strRep) (xs := ([p11] : (List Str))) (os := [.tmp 18]) Tryd.underlying26 ei_9 rfl rfl rfl rfl rfl ⟨⟨[vS (p11)], rfl, ⟨rfl, hl48⟩⟩, trivial⟩ rfl fun b49 w50 hx51 hM a hf => ?_)
   obtain ⟨xs52, hz53, h46⟩ := bind_some h46
   refine pl_l hf rfl rfl rfl (w_append hf hM Tryd.underlying26 ei_9 rfl rfl rfl (k := 3) rfl (hM.srcRow (k := 0) rfl) hz53 fun A54 c55 w56 hM a hf => ?_)
   dsimp only [List.set] at hM
   refine pl_0 hf rfl rfl (w_store hf hM (us := [vL A54 (xs52) c55]) (cs' := [vL A54 (xs52) c55]) rfl rfl (k := 2) rfl rfl Tryd.sizeOf26 rfl rfl rfl fun w59 hM => ?_)
   dsimp only [List.set] at hM
   refine pl_nil ?_
   obtain rfl := some_inj h46
   refine then_n ?_
   exact ⟨xs52, A54, c55, rfl, hf.keep ⟨rfl, rfl, rfl, trivial⟩, (hM.drop (.cons _ (.cons_cons _ (.cons_cons _ (.cons_cons _ (.cons_cons _ (.cons_cons _ .slnil))))))).pick [0, 1, 2, 3, 4, 5] rfl⟩
  refine cond_f hf rfl hc47 ?_
  refine wp_skip ?_
  obtain rfl := some_inj h46
  refine then_n ?_
  exact ⟨p7, A9, c10, rfl, hf.keep ⟨rfl, rfl, rfl, trivial⟩, hM.pick [0, 1, 2, 3, 4, 5] rfl⟩
 rintro a w64 ⟨xs42, A43, c44, rfl, hf, hM⟩
 try dsimp only at h
 refine wp_seq ?_
 refine region_pl ?_
 refine q_ hf rfl rfl rfl (e_field hf rfl Tryd.underlying55 rfl Tryd.sizeOf52 (o' := 2) rfl) fun a hf => ?_
 refine q_ hf rfl rfl rfl (e_load1 hf rfl Tryd.isAgg52 (hM.boxCell (k := 0) rfl rfl)) fun a hf => ?_
 have hl65 := slice_len (hM.dat (k := 0) rfl)
 refine q_ hf rfl rfl rfl (e_lenL hf (x := e23.Next) rfl Tryd.underlying52) fun a hf => ?_
 refine q_ hf rfl rfl rfl (e_move hf rfl) fun a hf => ?_
 refine pl_nil ?_
 refine then_n ?_
 refine wp_block ?_
 obtain ⟨x81, h82, h⟩ := bind_some h
 refine wp_loopM h82 (fun s a w => ∃ (xs66 : (List Str)) (xs69 : Str) (n72 : Int) (A67 : Option Addr) (c68 : Nat) (A70 : Option Addr) (c71 : Nat), (xs66, xs69, n72) = s ∧ Has 45 a [(3, vP b12 (0)), (4, vP b16 (o17)), (6, vP b35 (0)), (22, vL A32 (e23.Next) c33), (23, vI ((e23.Next.length : Int))), (24, vI (n72))] ∧ Mem C w [.box b35 [.bool (e23.Final), vS (e23.Letters), vL A32 (e23.Next) c33] 55, .box b8 [vL A67 (xs66) c68] 26, .row strRep A67 c68 9 xs66 true, .box b12 [vL A70 (xs69) c71] 79, .row byteRep A70 c71 5 xs69 true] [.dat (sliceRep intRep) e23.Next [vL A32 e23.Next c33], .lit b28 (o29 + (node1 : Int).toNat * 3) [.bool (e23.Final), vS (e23.Letters), vL A32 (e23.Next) c33], .dat (sliceRep NodeRep) p3.Nodes [vL A20 p3.Nodes c21], .lit b4 (o5) [vL A20 (p3.Nodes) c21], .lit b16 (o17) [.func (.func 55) #[] #[vP b4 (o5), vP b8 (0), vP b12 (0), vP b16 (o17)]], .dat (ptrRep DawgRep) p3 [vP b4 o5]] ∧ R64 n72) ?_ ?_
 ·exact ⟨xs42, p11, 0, A43, c44, A13, c14, rfl, hf.keep ⟨rfl, rfl, rfl, rfl, rfl, rfl, trivial⟩, hM.pick [0, 1, 2, 3, 4, 5] rfl, (R64_lit rfl)⟩
 rintro s o83 a w74 ⟨xs66, xs69, n72, A67, c68, A70, c71, rfl, hf, hM, hv73⟩ h84 hd85
 replace h84 : m_impl_Dawg_words_1_l1 e23 rc p3 xs66 xs69 n72 = some o83 := h84
 unfold m_impl_Dawg_words_1_l1 at h84
 refine wp_seq ?_
 refine region_pl ?_
 refine q_ hf rfl rfl rfl (e_lt hf (x := n72) (y := (e23.Next.length : Int)) rfl rfl) fun a hf => ?_
 refine pl_nil ?_
 refine then_n ?_
 refine wp_seq ?_
 rcases cond_some h84 with ⟨hc86, h84⟩ | ⟨hc86, h84⟩
 ·refine cond_t hf rfl hc86 ?_
  refine wp_skip ?_
  refine then_n ?_
  refine wp_seq ?_
  refine wp_block ?_
  refine wp_seq ?_
  refine region_pl ?_
  refine q_ hf rfl rfl rfl (e_move hf rfl) fun a hf => ?_
  obtain ⟨e87, hz88, h84⟩ := bind_some h84
  obtain ⟨b92, o93, _, hA94, h89, h90, hr91, hM⟩ := hM.elem (hM.dat (k := 0) rfl) (n := 1) rfl hz88
  obtain ⟨rfl, hv95⟩ := hr91
  refine q_ hf rfl rfl rfl (e_indexAddr (A := A32) (b := b92) (o := o93) (xs := e23.Next) (i := n72) hf hA94 rfl rfl Tryd.underlying52 Tryd.sizeOf2 h89 h90) fun a hf => ?_
  refine q_ hf rfl rfl rfl (e_load1 hf rfl Tryd.isAgg2 (hM.litCell (k := 0) (j := 0) rfl rfl rfl)) fun a hf => ?_
  iterate 2 refine q_ hf rfl rfl rfl (e_assign hf rfl) fun a hf => ?_
  refine pl_nil ?_
  refine then_n ?_
  refine wp_seq ?_
  obtain ⟨w96, hw⟩ : ∃ x, x = w74.drew := ⟨_, rfl⟩
  refine region_pi (.q 0 (.q 1 (.q 2 (.q 3 (.q 4 (.l 5 (.l 6 (.l 7 (.nil))))))))) (Ext w96) rfl (by kernel_rfl) ?_
  have hM := hM.drew
  rw [← hw] at hM ⊢
  clear hw
  refine pi_q hf rfl rfl rfl rfl (Ext.refl _) (e_load1 hf rfl Tryd.isAgg79 (hM.boxCell (k := 3) rfl rfl)) fun a hf => ?_
  refine pi_q hf rfl rfl rfl rfl (Ext.refl _) (e_field hf rfl Tryd.underlying55 rfl Tryd.sizeOf9 (o' := 1) rfl) fun a hf => ?_
  refine pi_q hf rfl rfl rfl rfl (Ext.refl _) (e_load1 hf rfl Tryd.isAgg9 (hM.boxCell (k := 0) rfl rfl)) fun a hf => ?_
  refine pi_q hf rfl rfl rfl rfl (Ext.refl _) (e_move hf rfl) fun a hf => ?_
  obtain ⟨c97, hz98, h84⟩ := bind_some h84
  refine pi_q hf rfl rfl rfl rfl (Ext.refl _) (e_indexS hf (x := e23.Letters) rfl rfl Tryd.underlying9 hz98) fun a hf => ?_
  refine pi_one ?_
  refine pi_l hf rfl rfl rfl rfl (w_slice hf hM (K := byteRep) (xs := ([c97] : Str)) (os := [.tmp 33]) Tryd.underlying79 ei_5 rfl rfl rfl rfl rfl ⟨⟨[vB (c97)], rfl, rfl⟩, trivial⟩ rfl fun b99 w100 hx101 hM => ⟨Ext w100, fun _ h => Ext.trans hx101 h, Ext.refl _, fun a hf => ?_⟩)
  refine pi_one ?_
  obtain ⟨xs102, hz103, h84⟩ := bind_some h84
  refine pi_z hf rfl rfl rfl rfl (by kernel_rfl) (w_append hf hM Tryd.underlying79 ei_5 rfl rfl rfl (k := 5) rfl (hM.srcRow (k := 0) rfl) hz103 fun A104 c105 w106 hM a hf => ?_)
  dsimp only [List.set] at hM
  refine pi_one ?_
  refine pi_z0 hf rfl rfl rfl (by kernel_rfl) (w_store hf hM (us := [vL A104 (xs102) c105]) (cs' := [vL A104 (xs102) c105]) rfl rfl (k := 4) rfl rfl Tryd.sizeOf79 rfl rfl rfl fun w109 hM => ?_)
  dsimp only [List.set] at hM
  refine pi_nil ?_
  refine then_n ?_
  refine wp_seq ?_
  refine region_pl ?_
  refine q_ hf rfl rfl rfl (e_load1 hf rfl Tryd.isAgg105 (hM.litCell (k := 5) (j := 0) rfl rfl rfl)) fun a hf => ?_
  refine q_ hf rfl rfl rfl (e_move hf rfl) fun a hf => ?_
  have hM := hM.front (k := 5) rfl
  dsimp only [List.eraseIdx] at hM
  have hM := hM.front (k := 5) rfl
  dsimp only [List.eraseIdx] at hM
  have hM := hM.front (k := 5) rfl
  dsimp only [List.eraseIdx] at hM
  have hM := hM.front (k := 5) rfl
  dsimp only [List.eraseIdx] at hM
  have hM : Mem C _ ([.box b8 [vL A67 (xs66) c68] 26, .row strRep A67 c68 9 xs66 true, .box b12 [vL A104 (xs102) c105] 79, .row byteRep A104 c105 5 xs102 true] ++ [.row byteRep (some ⟨b99, 0, none⟩) 1 5 ([c97] : Str) true, .box b35 [.bool (e23.Final), vS (e23.Letters), vL A32 (e23.Next) c33] 55]) _ := hM
  obtain ⟨y112, hz113, h84⟩ := bind_some h84
  refine pl_l hf rfl rfl rfl (w_callV hf (fk := 55) (fc := [vP b4 (o5), vP b8 (0), vP b12 (0), vP b16 (o17)]) rfl Tryd.call55 rfl (ih ⟨_, Sh C _ _, ownB _, hM.sh_lt, sub_dis, C.G, hM.g_lt, hM.g_own, hM.tabs⟩ e87 hv95 p3 _ _ (hM.dat (k := 6) rfl) xs66 _ _ _ xs102 _ _ _ _ _ (hM.at_ (k := 5) rfl) hM.sub sub_dis _ hz113) ?_)
  rintro _ w118 ⟨A114, c115, A116, c117, rfl, hM2⟩
  obtain ⟨hM, hup120⟩ := hM.backG hM2
  dsimp only [List.cons_append, List.nil_append] at hM hup120
  clear hM2
  refine ⟨_, rfl, fun a hf => ?_⟩
  refine pl_nil ?_
  refine then_n ?_
  refine region_pl ?_
  iterate 2 refine q_ hf rfl rfl rfl (e_load1 hf rfl Tryd.isAgg79 (hM.boxCell (k := 2) rfl rfl)) fun a hf => ?_
  have hl121 := row_len (hM.ownAt (k := 3) rfl)
  refine q_ hf rfl rfl rfl (e_lenL hf (x := y112.2) rfl Tryd.underlying79) fun a hf => ?_
  obtain ⟨z122, hz123, h84⟩ := bind_some h84
  refine q_ hf rfl rfl rfl (e_sub hf rfl rfl hz123) fun a hf => ?_
  obtain ⟨l124, hz125, h84⟩ := bind_some h84
  have hr126 := hM.rowForm (k := 3) rfl
  have hM := hM.truncRow (k := 3) rfl hz125
  dsimp only [List.set] at hM
  refine q_ hf rfl rfl rfl (e_trunc hf (xs := y112.2) rfl rfl Tryd.underlying79 Tryd.sizeOf5 hr126 hz125) fun a hf => ?_
  refine pl_0 hf rfl rfl (w_store hf hM (us := [vL A116 (l124) c117]) (cs' := [vL A116 (l124) c117]) rfl rfl (k := 2) rfl rfl Tryd.sizeOf79 rfl rfl rfl fun w127 hM => ?_)
  dsimp only [List.set] at hM
  refine pl_nil ?_
  refine blk_n ?_
  refine then_n ?_
  refine region_pl ?_
  obtain ⟨z130, hz131, h84⟩ := bind_some h84
  refine q_ hf rfl rfl rfl (e_add hf rfl rfl hz131) fun a hf => ?_
  refine q_ hf rfl rfl rfl (e_move hf rfl) fun a hf => ?_
  refine pl_nil ?_
  obtain rfl := some_inj h84
  refine then_n ⟨_, rfl, ?_⟩
  have hM := hM.front (k := 3) rfl
  dsimp only [List.eraseIdx] at hM
  have hM := hM.front (k := 3) rfl
  dsimp only [List.eraseIdx] at hM
  have hM := hM.front (k := 3) rfl
  dsimp only [List.eraseIdx] at hM
  have hM := hM.front (k := 3) rfl
  dsimp only [List.eraseIdx] at hM
  have hM := hM.front (k := 5) rfl
  dsimp only [List.eraseIdx] at hM
  exact ⟨y112.1, l124, z130, A114, c115, A116, c117, rfl, hf.keep ⟨rfl, rfl, rfl, rfl, rfl, rfl, trivial⟩, (hM.drop (.cons_cons _ (.cons_cons _ (.cons_cons _ (.cons_cons _ (.cons_cons _ (.cons _ .slnil))))))).pick [1, 2, 3, 4, 5, 6] rfl, (chk_R hz131)⟩
 refine cond_f hf rfl hc86 ?_
 refine wp_exit ?_
 refine then_x ?_
 obtain rfl := some_inj h84
 obtain rfl := hd85 _ rfl
 try dsimp only at h
 refine then_x ?_
 refine exit_hit ?_
 obtain rfl := some_inj h
 have hM := hM.front (k := 4) rfl
 dsimp only [List.eraseIdx] at hM
 have hM := hM.front (k := 4) rfl
 dsimp only [List.eraseIdx] at hM
 have hM := hM.front (k := 4) rfl
 dsimp only [List.eraseIdx] at hM
 have hM := hM.front (k := 4) rfl
 dsimp only [List.eraseIdx] at hM
 have hM := hM.outs (own' := [.box b8 [vL A67 (xs66) c68] 26, .row strRep A67 c68 9 xs66 true, .box b12 [vL A70 (xs69) c71] 79, .row byteRep A70 c71 5 xs69 true]) 4 rfl
 exact leave0n hf rfl ⟨A67, c68, A70, c71, rfl, hM.fin⟩

theorem r_impl_Dawg_words_1_n : ∀ n, Ct_impl_Dawg_words_1 (m_impl_Dawg_words_1_n n)
  | 0 => fun C node1 hp2 p3 b4 o5 hp6 p7 b8 A9 c10 p11 b12 A13 c14 b16 o17 hp18 hO hd r h => by cases h
  | n + 1 => r_impl_Dawg_words_1_b _ (r_impl_Dawg_words_1_n n)

theorem r_impl_Dawg_words_1 : Ct_impl_Dawg_words_1 (m_impl_Dawg_words_1) := r_impl_Dawg_words_1_n fuelN

set_option maxRecDepth 100000 in
set_option maxHeartbeats 4000000 in
theorem r_impl_Dawg_words (C : Cx) (d1 : Dawg) (A2 : Option Addr) (c3 : Nat) (hp4 : (sliceRep NodeRep).R C.w0 C.S0 d1.Nodes [vL A2 d1.Nodes c3]) (r : (List Str)) (h : m_impl_Dawg_words d1 = some r) :
    Calls Tryd.prog 34 #[.agg #[vL A2 (d1.Nodes) c3]] C.w0 fun e w => ∃ (A_1 : Option Addr), ∃ (c_1 : Nat), e = .returned (vL A_1 (r) c_1) ∧ Mem C w [.row strRep A_1 c_1 9 r true] [] := by
 have hM := Mem.begin C [.dat (sliceRep NodeRep) d1.Nodes [vL A2 d1.Nodes c3]] ⟨hp4, trivial⟩
 refine enter Tryd.func34 rfl Tryd.ntmps34 rfl fun a hf => ?_
 unfold m_impl_Dawg_words at h
 refine wp_seq ?_
 refine region_pl ?_
 refine pl_l hf rfl rfl rfl (w_box hf hM (cs := [vL A2 (d1.Nodes) c3]) rfl rfl fun b5 w6 hx7 hM a hf => ?_)
 refine q_ hf rfl rfl rfl (e_assign hf rfl) fun a hf => ?_
 refine pl_nil ?_
 refine then_n ?_
 refine wp_seq ?_
 refine region_pl ?_
 refine pl_l hf rfl rfl rfl (w_slice0 (K := strRep) hM Tryd.underlying26 ei_9 fun b9 w10 hx11 hM a hf => ?_)
 refine pl_l hf rfl rfl rfl (w_slice0 (K := byteRep) hM Tryd.underlying79 ei_5 fun b12 w13 hx14 hM a hf => ?_)
 refine pl_l hf rfl rfl rfl (w_alloc hM (cs := [vL none (([] : (List Str))) 0]) Tryd.zeroValue26 rfl fun b15 w16 hx17 hM a hf => ?_)
 refine pl_l hf rfl rfl rfl (w_alloc hM (cs := [vL none (([] : Str)) 0]) Tryd.zeroValue79 rfl fun b19 w20 hx21 hM a hf => ?_)
 refine pl_0 hf rfl rfl (w_store hf hM (us := [vL (some ⟨b9, 0, none⟩) (([] : (List Str))) 0]) (cs' := [vL (some ⟨b9, 0, none⟩) (([] : (List Str))) 0]) rfl rfl (k := 1) rfl rfl Tryd.sizeOf26 rfl rfl rfl fun w23 hM => ?_)
 dsimp only [List.set] at hM
 refine pl_0 hf rfl rfl (w_store hf hM (us := [vL (some ⟨b12, 0, none⟩) (([] : Str)) 0]) (cs' := [vL (some ⟨b12, 0, none⟩) (([] : Str)) 0]) rfl rfl (k := 0) rfl rfl Tryd.sizeOf79 rfl rfl rfl fun w26 hM => ?_)
 dsimp only [List.set] at hM
 refine pl_nil ?_
 refine then_n ?_
 refine wp_seq ?_
 refine region_pl ?_
 refine pl_l hf rfl rfl rfl (w_alloc hM (cs := [.nilFunc]) Tryd.zeroValue105 rfl fun b29 w30 hx31 hM a hf => ?_)
 refine pl_nil ?_
 refine then_n ?_
 refine wp_seq ?_
 refine region_pl ?_
 refine q_ hf rfl rfl rfl (w_makeFunc hf rfl) fun a hf => ?_
 refine pl_0 hf rfl rfl (w_store hf hM (us := [.func (.func 55) #[] #[vP b5 (0), vP b15 (0), vP b19 (0), vP b29 (0)]]) (cs' := [.func (.func 55) #[] #[vP b5 (0), vP b15 (0), vP b19 (0), vP b29 (0)]]) rfl rfl (k := 0) rfl rfl Tryd.sizeOf105 rfl rfl rfl fun w33 hM => ?_)
 dsimp only [List.set] at hM
 refine pl_nil ?_
 refine then_n ?_
 refine wp_seq ?_
 refine region_pl ?_
 refine q_ hf rfl rfl rfl (e_load1 hf rfl Tryd.isAgg105 (hM.boxCell (k := 0) rfl rfl)) fun a hf => ?_
 have hM := hM.freezeBox (k := 0) rfl rfl
 dsimp only [List.eraseIdx] at hM
 have hM := hM.freezeBox (k := 4) rfl rfl
 dsimp only [List.eraseIdx] at hM
 have hM := hM.front (k := 2) rfl
 dsimp only [List.eraseIdx] at hM
 have hM := hM.front (k := 1) rfl
 dsimp only [List.eraseIdx] at hM
 have hM := hM.front (k := 3) rfl
 dsimp only [List.eraseIdx] at hM
 have hM := hM.front (k := 3) rfl
 dsimp only [List.eraseIdx] at hM
 have hM : Mem C _ ([.box b15 [vL (some ⟨b9, 0, none⟩) (([] : (List Str))) 0] 26, .row strRep (some ⟨b9, 0, none⟩) 0 9 ([] : (List Str)) true, .box b19 [vL (some ⟨b12, 0, none⟩) (([] : Str)) 0] 79, .row byteRep (some ⟨b12, 0, none⟩) 0 5 ([] : Str) true] ++ []) _ := hM
 obtain ⟨y36, hz37, h⟩ := bind_some h
 refine pl_l hf rfl rfl rfl (w_callV hf (fk := 55) (fc := [vP b5 (0), vP b15 (0), vP b19 (0), vP b29 (0)]) rfl Tryd.call55 rfl (r_impl_Dawg_words_1 ⟨_, Sh C _ _, ownB _, hM.sh_lt, sub_dis, C.G, hM.g_lt, hM.g_own, hM.tabs⟩ 0 (R64_lit rfl) d1 _ _ (hM.litPtr (k := 0) (d := 0) (us := [vL A2 (d1.Nodes) c3]) rfl rfl rfl (DawgRep_mk (x := d1) (hM.dat (k := 2) rfl))) ([] : (List Str)) _ _ _ ([] : Str) _ _ _ _ _ (hM.at_ (k := 1) rfl) hM.sub sub_dis _ hz37) ?_)
 rintro _ w42 ⟨A38, c39, A40, c41, rfl, hM2⟩
 obtain ⟨hM, hup44⟩ := hM.backG hM2
 dsimp only [List.cons_append, List.nil_append] at hM hup44
 clear hM2
 refine ⟨_, rfl, fun a hf => ?_⟩
 refine pl_nil ?_
 refine then_n ?_
 refine wp_seq ?_
 refine region_pl ?_
 refine q_ hf rfl rfl rfl (e_load1 hf rfl Tryd.isAgg26 (hM.boxCell (k := 0) rfl rfl)) fun a hf => ?_
 refine q_ hf rfl rfl rfl (e_assign hf rfl) fun a hf => ?_
 refine pl_nil ?_
 refine then_n ?_
 refine wp_ret ?_
 obtain rfl := some_inj h
 have hM := hM.front (k := 1) rfl
 dsimp only [List.eraseIdx] at hM
 have hM := hM.outs (own' := [.row strRep A38 c39 9 y36.1 true]) 1 rfl
 exact leave1 hf rfl rfl ⟨A38, c39, rfl, hM.fin⟩

set_option maxRecDepth 100000 in
set_option maxHeartbeats 4000000 in
theorem r_impl_selected_string (C : Cx) (list1 : (List Str)) (A2 : Option Addr) (c3 : Nat) (hp4 : (sliceRep strRep).R C.w0 C.S0 list1 [vL A2 list1 c3]) (is5 : (Str → Option Bool)) (fV6 : Value) (fk7 : FuncId) (fa8 : List Value) (fc9 : List Value) (hV10 : CallsAs Tryd.prog fV6 fk7 fa8 fc9) (hfn11 : FnOk Tryd.prog C fk7 (FnC_Str_to_Bool fk7 fa8 fc9 is5)) (r : (List Str)) (h : m_impl_selected_string list1 is5 = some r) :
    Calls Tryd.prog 36 #[vL A2 (list1) c3, fV6] C.w0 fun e w => ∃ (A_1 : Option Addr), ∃ (c_1 : Nat), e = .returned (vL A_1 (r) c_1) ∧ Mem C w [.row strRep A_1 c_1 9 r true] [] := by
 have hM := Mem.begin C [.dat (sliceRep strRep) list1 [vL A2 list1 c3]] ⟨hp4, trivial⟩
 refine enter Tryd.func36 rfl Tryd.ntmps36 rfl fun a hf => ?_
 unfold m_impl_selected_string at h
 refine wp_seq ?_
 refine region_pl ?_
 refine q_ hf rfl rfl rfl (e_assign hf rfl) fun a hf => ?_
 refine pl_nil ?_
 refine then_n ?_
 refine wp_seq ?_
 refine region_pl ?_
 refine pl_l hf rfl rfl rfl (w_slice0 (K := strRep) hM Tryd.underlying26 ei_9 fun b12 w13 hx14 hM a hf => ?_)
 refine q_ hf rfl rfl rfl (e_assign hf rfl) fun a hf => ?_
 refine pl_nil ?_
 refine then_n ?_
 obtain ⟨x18, h19, h⟩ := bind_some h
 refine seq_join (fun a w => ∃ (xs15 : (List Str)) (A16 : Option Addr) (c17 : Nat), xs15 = x18 ∧ Has 24 a [(5, vL A16 (xs15) c17)] ∧ Mem C w [.row strRep A16 c17 9 xs15 true] [.dat (sliceRep strRep) list1 [vL A2 list1 c3]]) ?_ ?_
 ·refine wp_seq ?_
  refine region_pl ?_
  refine q_ hf rfl rfl rfl (e_move hf rfl) fun a hf => ?_
  have hl20 := slice_len (hM.dat (k := 0) rfl)
  refine q_ hf rfl rfl rfl (e_lenL hf (x := list1) rfl Tryd.underlying26) fun a hf => ?_
  refine q_ hf rfl rfl rfl (e_move hf rfl) fun a hf => ?_
  refine pl_nil ?_
  refine then_n ?_
  refine wp_block ?_
  obtain ⟨x30, h31, h19⟩ := bind_some h19
  refine wp_loopM h31 (fun s a w => ∃ (xs21 : (List Str)) (n24 : Int) (A22 : Option Addr) (c23 : Nat), (xs21, n24) = s ∧ Has 24 a [(1, fV6), (5, vL A22 (xs21) c23), (9, vL A2 (list1) c3), (10, vI ((list1.length : Int))), (11, vI (n24))] ∧ Mem C w [.row strRep A22 c23 9 xs21 true] [.dat (sliceRep strRep) list1 [vL A2 list1 c3]] ∧ R64 n24) ?_ ?_
  ·exact ⟨([] : (List Str)), 0, (some ⟨b12, 0, none⟩), 0, rfl, hf.keep ⟨rfl, rfl, rfl, rfl, rfl, trivial⟩, hM.pick [0] rfl, (R64_lit rfl)⟩
  rintro s o32 a w26 ⟨xs21, n24, A22, c23, rfl, hf, hM, hv25⟩ h33 hd34
  replace h33 : m_impl_selected_string_l1 list1 is5 xs21 n24 = some o32 := h33
  unfold m_impl_selected_string_l1 at h33
  refine wp_seq ?_
  refine region_pl ?_
  refine q_ hf rfl rfl rfl (e_lt hf (x := n24) (y := (list1.length : Int)) rfl rfl) fun a hf => ?_
  refine pl_nil ?_
  refine then_n ?_
  refine wp_seq ?_
  rcases cond_some h33 with ⟨hc35, h33⟩ | ⟨hc35, h33⟩
  ·refine cond_t hf rfl hc35 ?_
   refine wp_skip ?_
   refine then_n ?_
   obtain ⟨x39, h40, h33⟩ := bind_some h33
   refine seq_join (fun a w => ∃ (xs36 : (List Str)) (A37 : Option Addr) (c38 : Nat), xs36 = x39 ∧ Has 24 a [(1, fV6), (5, vL A37 (xs36) c38), (9, vL A2 (list1) c3), (10, vI ((list1.length : Int))), (11, vI (n24))] ∧ Mem C w [.row strRep A37 c38 9 xs36 true] [.dat (sliceRep strRep) list1 [vL A2 list1 c3]]) ?_ ?_
   ·refine wp_block ?_
    refine wp_seq ?_
    refine region_pl ?_
    obtain ⟨e41, hz42, h40⟩ := bind_some h40
    obtain ⟨b46, o47, _, hA48, h43, h44, hr45, hM⟩ := hM.elem (hM.dat (k := 0) rfl) (n := 1) rfl hz42
    obtain ⟨rfl, hv49⟩ := hr45
    refine q_ hf rfl rfl rfl (e_indexAddr (A := A2) (b := b46) (o := o47) (xs := list1) (i := n24) hf hA48 rfl rfl Tryd.underlying26 Tryd.sizeOf9 h43 h44) fun a hf => ?_
    refine q_ hf rfl rfl rfl (e_load1 hf rfl Tryd.isAgg9 (hM.litCell (k := 0) (j := 0) rfl rfl rfl)) fun a hf => ?_
    refine q_ hf rfl rfl rfl (e_assign hf rfl) fun a hf => ?_
    refine pl_nil ?_
    refine then_n ?_
    refine wp_seq ?_
    refine region_pl ?_
    iterate 2 refine q_ hf rfl rfl rfl (e_move hf rfl) fun a hf => ?_
    obtain ⟨y50, hz51, h40⟩ := bind_some h40
    refine pl_l hf rfl rfl rfl (w_callF hf hV10 rfl rfl (hfn11.2 ⟨_, Sh C _ _, none_, hM.sh_lt, none_not, C.G, hM.g_lt, g_none, hM.tabs⟩ hM.sameS hM.s0sh e41 hv49 _ hz51) ?_)
    rintro _ w52 ⟨rfl, hM2⟩
    obtain ⟨hM, hx53, hup54⟩ := hM.back hM2
    dsimp only [List.cons_append, List.nil_append] at hM hup54
    clear hM2
    refine ⟨_, rfl, fun a hf => ?_⟩
    refine pl_nil ?_
    refine then_n ?_
    rcases cond_some h40 with ⟨hc55, h40⟩ | ⟨hc55, h40⟩
    ·refine cond_t hf rfl hc55 ?_
     refine region_pl ?_
     iterate 2 refine q_ hf rfl rfl rfl (e_move hf rfl) fun a hf => ?_
     refine pl_l hf rfl rfl rfl (w_slice hf hM (K := strRep) (xs := ([e41] : (List Str))) (os := [.tmp 19]) Tryd.underlying26 ei_9 rfl rfl rfl rfl rfl ⟨⟨[vS (e41)], rfl, ⟨rfl, hv49⟩⟩, trivial⟩ rfl fun b56 w57 hx58 hM a hf => ?_)
     obtain ⟨xs59, hz60, h40⟩ := bind_some h40
     refine pl_l hf rfl rfl rfl (w_append hf hM Tryd.underlying26 ei_9 rfl rfl rfl (k := 1) rfl (hM.srcRow (k := 0) rfl) hz60 fun A61 c62 w63 hM a hf => ?_)
     dsimp only [List.set] at hM
     refine q_ hf rfl rfl rfl (e_assign hf rfl) fun a hf => ?_
     refine pl_nil ?_
     refine blk_n ?_
     obtain rfl := some_inj h40
     refine then_n ?_
     exact ⟨xs59, A61, c62, rfl, hf.keep ⟨rfl, rfl, rfl, rfl, rfl, trivial⟩, (hM.drop (.cons _ (.cons_cons _ .slnil))).pick [1] rfl⟩
    refine cond_f hf rfl hc55 ?_
    refine wp_skip ?_
    refine blk_n ?_
    obtain rfl := some_inj h40
    refine then_n ?_
    exact ⟨xs21, A22, c23, rfl, hf.keep ⟨rfl, rfl, rfl, rfl, rfl, trivial⟩, hM.pick [1] rfl⟩
   rintro a w68 ⟨xs36, A37, c38, rfl, hf, hM⟩
   try dsimp only at h33
   refine region_pl ?_
   obtain ⟨z69, hz70, h33⟩ := bind_some h33
   refine q_ hf rfl rfl rfl (e_add hf rfl rfl hz70) fun a hf => ?_
   refine q_ hf rfl rfl rfl (e_move hf rfl) fun a hf => ?_
   refine pl_nil ?_
   obtain rfl := some_inj h33
   refine then_n ⟨_, rfl, ?_⟩
   exact ⟨xs36, z69, A37, c38, rfl, hf.keep ⟨rfl, rfl, rfl, rfl, rfl, trivial⟩, hM.pick [0] rfl, (chk_R hz70)⟩
  refine cond_f hf rfl hc35 ?_
  refine wp_exit ?_
  refine then_x ?_
  obtain rfl := some_inj h33
  obtain rfl := hd34 _ rfl
  try dsimp only at h19
  refine then_x ?_
  refine exit_hit ?_
  obtain rfl := some_inj h19
  refine then_n ?_
  exact ⟨xs21, A22, c23, rfl, hf.keep ⟨rfl, trivial⟩, hM.pick [0] rfl⟩
 rintro a w76 ⟨xs15, A16, c17, rfl, hf, hM⟩
 try dsimp only at h
 refine wp_seq ?_
 refine region_pl ?_
 refine q_ hf rfl rfl rfl (e_move hf rfl) fun a hf => ?_
 refine q_ hf rfl rfl rfl (e_assign hf rfl) fun a hf => ?_
 refine pl_nil ?_
 refine then_n ?_
 refine wp_ret ?_
 obtain rfl := some_inj h
 exact leave1 hf rfl rfl ⟨A16, c17, rfl, hM.fin⟩

set_option maxRecDepth 100000 in
set_option maxHeartbeats 4000000 in
theorem r_impl_chosen (C : Cx) (a1 : Dawg) (A2 : Option Addr) (c3 : Nat) (hp4 : (sliceRep NodeRep).R C.w0 C.S0 a1.Nodes [vL A2 a1.Nodes c3]) (b5 : Dawg) (A6 : Option Addr) (c7 : Nat) (hp8 : (sliceRep NodeRep).R C.w0 C.S0 b5.Nodes [vL A6 b5.Nodes c7]) (of9 : (Str → Option Bool)) (fI10 : Value) (hI11 : ∃ T v, fI10 = .iface T v) (fk12 : FuncId) (fa13 : List Value) (hV14 : CallsAs Tryd.prog (.func (.method "loop.example/g00911/impl.has") #[fI10] #[]) fk12 fa13 []) (hfn15 : FnOk Tryd.prog C fk12 (FnC_Str_to_Bool fk12 fa13 [] of9)) (r : (List Str)) (h : m_impl_chosen a1 b5 of9 = some r) :
    Calls Tryd.prog 19 #[.agg #[vL A2 (a1.Nodes) c3], .agg #[vL A6 (b5.Nodes) c7], fI10] C.w0 fun e w => ∃ (A_1 : Option Addr), ∃ (c_1 : Nat), e = .returned (vL A_1 (r) c_1) ∧ Mem C w [.row strRep A_1 c_1 9 r true] [] := by
 have hM := Mem.begin C [.dat (sliceRep NodeRep) b5.Nodes [vL A6 b5.Nodes c7], .dat (sliceRep NodeRep) a1.Nodes [vL A2 a1.Nodes c3]] ⟨hp8, hp4, trivial⟩
 refine enter Tryd.func19 rfl Tryd.ntmps19 rfl fun a hf => ?_
 unfold m_impl_chosen at h
 refine wp_seq ?_
 refine region_pl ?_
 refine pl_l hf rfl rfl rfl (w_box hf hM (cs := [vL A2 (a1.Nodes) c3]) rfl rfl fun b16 w17 hx18 hM a hf => ?_)
 refine pl_l hf rfl rfl rfl (w_box hf hM (cs := [vL A6 (b5.Nodes) c7]) rfl rfl fun b20 w21 hx22 hM a hf => ?_)
 refine q_ hf rfl rfl rfl (e_assign hf rfl) fun a hf => ?_
 refine pl_nil ?_
 refine then_n ?_
 refine wp_seq ?_
 obtain ⟨w24, hw⟩ : ∃ x, x = w21.drew := ⟨_, rfl⟩
 refine region_pi (.q 0 (.q 2 (.l 1 (.l 3 (.l 4 (.q 5 (.nil))))))) (Ext w24) rfl (by kernel_rfl) ?_
 have hM := hM.drew
 rw [← hw] at hM ⊢
 clear hw
 refine pi_q hf rfl rfl rfl rfl (Ext.refl _) (e_loadA hf (us := [vL A2 (a1.Nodes) c3]) rfl ⟨Tryd.isAgg31, Tryd.sizeOf31⟩ rfl (hM.boxSub (k := 1) (us := [vL A2 (a1.Nodes) c3]) (o := 0) rfl rfl)) fun a hf => ?_
 refine pi_q hf rfl rfl rfl rfl (Ext.refl _) (e_loadA hf (us := [vL A6 (b5.Nodes) c7]) rfl ⟨Tryd.isAgg31, Tryd.sizeOf31⟩ rfl (hM.boxSub (k := 0) (us := [vL A6 (b5.Nodes) c7]) (o := 0) rfl rfl)) fun a hf => ?_
 refine pi_one ?_
 obtain ⟨y25, hz26, h⟩ := bind_some h
 refine pi_l hf rfl rfl rfl rfl (w_call hf Tryd.call34 rfl (r_impl_Dawg_words ⟨_, Sh C _ _, none_, hM.sh_lt, none_not, C.G, hM.g_lt, g_none, hM.tabs⟩ a1 _ _ (hM.dat (k := 1) rfl) _ hz26) ?_)
 rintro _ w29 ⟨A27, c28, rfl, hM2⟩
 obtain ⟨hM, hx30, hup31⟩ := hM.back hM2
 dsimp only [List.cons_append, List.nil_append] at hM hup31
 clear hM2
 refine ⟨_, rfl, Ext w29, fun _ h => Ext.trans hx30 h, Ext.refl _, fun a hf => ?_⟩
 refine pi_one ?_
 obtain ⟨y32, hz33, h⟩ := bind_some h
 refine pi_l hf rfl rfl rfl rfl (w_call hf Tryd.call34 rfl (r_impl_Dawg_words ⟨_, Sh C _ _, none_, hM.sh_lt, none_not, C.G, hM.g_lt, g_none, hM.tabs⟩ b5 _ _ (hM.dat (k := 0) rfl) _ hz33) ?_)
 rintro _ w36 ⟨A34, c35, rfl, hM2⟩
 obtain ⟨hM, hx37, hup38⟩ := hM.back hM2
 dsimp only [List.cons_append, List.nil_append] at hM hup38
 clear hM2
 refine ⟨_, rfl, Ext w36, fun _ h => Ext.trans hx37 h, Ext.refl _, fun a hf => ?_⟩
 refine pi_one ?_
 have hM := hM.freezeRow (k := 0) rfl rfl
 dsimp only [List.eraseIdx] at hM
 obtain ⟨xs39, hz40, h⟩ := bind_some h
 refine pi_z hf rfl rfl rfl rfl (by kernel_rfl) (w_appendD hf hM Tryd.underlying26 ei_9 rfl rfl rfl (k := 0) rfl (hM.dat (k := 0) rfl) hz40 fun A41 c42 w43 hM a hf => ?_)
 dsimp only [List.set] at hM
 refine pi_q hf rfl rfl rfl rfl (Ext.refl _) (e_assign hf rfl) fun a hf => ?_
 refine pi_nil ?_
 refine then_n ?_
 refine wp_seq ?_
 refine region_pl ?_
 refine q_ hf rfl rfl rfl (e_move hf rfl) fun a hf => ?_
 have hM : Mem C _ ([.row strRep A41 c42 9 xs39 true] ++ [.box b20 [vL A6 (b5.Nodes) c7] 31, .box b16 [vL A2 (a1.Nodes) c3] 31]) _ := hM
 obtain ⟨y46, hz47, h⟩ := bind_some h
 refine pl_l hf rfl rfl rfl (w_call hf Tryd.call35 rfl (r_slices_Sort_string_string ⟨_, Sh C _ _, ownB _, hM.sh_lt, sub_dis, C.G, hM.g_lt, hM.g_own, hM.tabs⟩ xs39 _ _ hM.sub sub_dis _ hz47) ?_)
 rintro _ w49 ⟨rfl, hM2, hl48⟩
 obtain ⟨hM, hup51⟩ := hM.backG hM2
 dsimp only [List.cons_append, List.nil_append] at hM hup51
 clear hM2
 refine ⟨_, rfl, fun a hf => ?_⟩
 have hf := hf.alter (d := 12) (v := vL A41 (y46) c42) rfl (vL_len hl48)
 have hf := hf.alter (d := 7) (v := vL A41 (y46) c42) rfl (vL_len hl48)
 have hf := hf.alter (d := 13) (v := vL A41 (y46) c42) rfl (vL_len hl48)
 refine pl_nil ?_
 refine then_n ?_
 refine wp_seq ?_
 obtain ⟨w52, hw⟩ : ∃ x, x = w49.drew := ⟨_, rfl⟩
 refine region_pi (.q 0 (.q 2 (.q 3 (.q 4 (.l 1 (.l 5 (.q 6 (.nil)))))))) (ExtM [A41.map (·.block)] w52) rfl (by kernel_rfl) ?_
 have hM := hM.drew
 rw [← hw] at hM ⊢
 clear hw
 iterate 2 refine pi_q hf rfl rfl rfl rfl (ExtM.refl _ _) (e_move hf rfl) fun a hf => ?_
 refine pi_q hf rfl rfl rfl rfl (ExtM.refl _ _) (e_nilI hf rfl hI11) fun a hf => ?_
 refine pi_q hf rfl rfl rfl rfl (ExtM.refl _ _) (e_methodVal hf rfl) fun a hf => ?_
 refine pi_one ?_
 have hM : Mem C _ ([.row strRep A41 c42 9 y46 true] ++ [.box b20 [vL A6 (b5.Nodes) c7] 31, .box b16 [vL A2 (a1.Nodes) c3] 31]) _ := hM
 obtain ⟨y53, hz54, h⟩ := bind_some h
 refine pi_l hf rfl rfl rfl rfl (w_call hf Tryd.call37 rfl (r_slices_Compact_string_string ⟨_, Sh C _ _, ownB _, hM.sh_lt, sub_dis, C.G, hM.g_lt, hM.g_own, hM.tabs⟩ y46 _ _ hM.sub sub_dis _ hz54) ?_)
 rintro _ w57 ⟨A55, c56, rfl, hM2⟩
 have hxm60 := ExtM.ofChg (bs := [A41.map (·.block)]) hM2.chg ⟨List.mem_of_getElem? (i := 0) rfl, trivial⟩
 have hsz61 := hM2.chg.size
 obtain ⟨hM, hup59⟩ := hM.backG hM2
 dsimp only [List.cons_append, List.nil_append] at hM hup59
 clear hM2
 refine ⟨_, rfl, Ext w57, fun _ h => ExtM.last hxm60 hsz61 h, Ext.refl _, fun a hf => ?_⟩
 refine pi_one ?_
 obtain ⟨y62, hz63, h⟩ := bind_some h
 refine pi_l hf rfl rfl rfl rfl (w_call hf Tryd.call36 rfl (r_impl_selected_string ⟨_, All C _ _, none_, hM.all_lt, none_not, C.G, hM.g_lt, g_none, hM.tabs⟩ y53 _ _ (hM.lendRow (k := 0) rfl) of9 _ _ _ _ hV14 (hfn15.to hM.sameS (fun b hb => .inl (hM.s0sh b hb))) _ hz63) ?_)
 rintro _ w66 ⟨A64, c65, rfl, hM2⟩
 obtain ⟨hM, hx67⟩ := hM.backAF strRep_flat hM2
 clear hM2
 refine ⟨_, rfl, Ext w66, fun _ h => Ext.trans hx67 h, Ext.refl _, fun a hf => ?_⟩
 refine pi_q hf rfl rfl rfl rfl (Ext.refl _) (e_assign hf rfl) fun a hf => ?_
 refine pi_nil ?_
 refine then_n ?_
 refine wp_ret ?_
 obtain rfl := some_inj h
 have hM := hM.outs (own' := [.row strRep A64 c65 9 y62 true]) 1 rfl
 exact leave1 hf rfl rfl ⟨A64, c65, rfl, hM.fin⟩

set_option maxRecDepth 100000 in
set_option maxHeartbeats 4000000 in
theorem r_impl_Dawg_step (C : Cx) (d1 : Dawg) (A2 : Option Addr) (c3 : Nat) (hp4 : (sliceRep NodeRep).R C.w0 C.S0 d1.Nodes [vL A2 d1.Nodes c3]) (node5 : Int) (hp6 : R64 node5) (letter7 : UInt8) (r : Int) (h : m_impl_Dawg_step d1 node5 letter7 = some r) :
    Calls Tryd.prog 113 #[.agg #[vL A2 (d1.Nodes) c3], vI (node5), vB (letter7)] C.w0 fun e w => e = .returned (vI (r)) ∧ Mem C w [] [] ∧ R64 r := by
 have hM := Mem.begin C [.dat (sliceRep NodeRep) d1.Nodes [vL A2 d1.Nodes c3]] ⟨hp4, trivial⟩
 refine enter Tryd.func113 rfl Tryd.ntmps113 rfl fun a hf => ?_
 unfold m_impl_Dawg_step at h
 refine wp_seq ?_
 refine region_pl ?_
 refine pl_l hf rfl rfl rfl (w_box hf hM (cs := [vL A2 (d1.Nodes) c3]) rfl rfl fun b8 w9 hx10 hM a hf => ?_)
 refine q_ hf rfl rfl rfl (e_assign hf rfl) fun a hf => ?_
 refine pl_nil ?_
 refine then_n ?_
 iterate 2 refine wp_seq ?_
 refine region_pl ?_
 refine q_ hf rfl rfl rfl (e_move hf rfl) fun a hf => ?_
 refine q_ hf rfl rfl rfl (e_field hf rfl Tryd.underlying31 rfl Tryd.sizeOf29 (o' := 0) rfl) fun a hf => ?_
 refine q_ hf rfl rfl rfl (e_load1 hf rfl Tryd.isAgg29 (hM.boxCell (k := 0) rfl rfl)) fun a hf => ?_
 have hl12 := slice_len (hM.dat (k := 0) rfl)
 refine q_ hf rfl rfl rfl (e_lenL hf (x := d1.Nodes) rfl Tryd.underlying29) fun a hf => ?_
 obtain ⟨z13, hz14, h⟩ := bind_some h
 refine q_ hf rfl rfl rfl (e_sub hf rfl rfl hz14) fun a hf => ?_
 obtain ⟨y15, hz16, h⟩ := bind_some h
 refine pl_l hf rfl rfl rfl (w_call hf Tryd.call50 rfl (r_impl_within ⟨_, Sh C _ _, none_, hM.sh_lt, none_not, C.G, hM.g_lt, g_none, hM.tabs⟩ node5 hp6 0 (R64_lit rfl) z13 (chk_R hz14) _ hz16) ?_)
 rintro _ w17 ⟨rfl, hM2⟩
 obtain ⟨hM, hx18, hup19⟩ := hM.back hM2
 dsimp only [List.cons_append, List.nil_append] at hM hup19
 clear hM2
 refine ⟨_, rfl, fun a hf => ?_⟩
 refine q_ hf rfl rfl rfl (e_not hf rfl) fun a hf => ?_
 refine pl_nil ?_
 refine then_n ?_
 rcases cond_some h with ⟨hc20, h⟩ | ⟨hc20, h⟩
 ·refine cond_t hf rfl hc20 ?_
  refine wp_seq ?_
  refine region_pl ?_
  refine q_ hf rfl rfl rfl (e_assign hf rfl) fun a hf => ?_
  refine pl_nil ?_
  refine then_n ?_
  refine wp_ret ?_
  refine then_r ?_
  obtain rfl := some_inj h
  have hM := hM.outs (own' := []) 0 rfl
  exact leave1 hf rfl rfl ⟨rfl, hM.fin, (R64_lit rfl)⟩
 refine cond_f hf rfl hc20 ?_
 refine wp_skip ?_
 refine then_n ?_
 refine wp_seq ?_
 refine region_pl ?_
 refine q_ hf rfl rfl rfl (e_field hf rfl Tryd.underlying31 rfl Tryd.sizeOf29 (o' := 0) rfl) fun a hf => ?_
 refine q_ hf rfl rfl rfl (e_load1 hf rfl Tryd.isAgg29 (hM.boxCell (k := 0) rfl rfl)) fun a hf => ?_
 refine q_ hf rfl rfl rfl (e_move hf rfl) fun a hf => ?_
 obtain ⟨e21, hz22, h⟩ := bind_some h
 obtain ⟨b26, o27, _, hA28, h23, h24, hr25, hM⟩ := hM.elem (hM.dat (k := 0) rfl) (n := 3) rfl hz22
 obtain ⟨A30, c31, rfl, hv29, hv32⟩ := NodeRep_open hr25
 have hM := hM.add (y := .dat (sliceRep intRep) e21.Next [vL A30 e21.Next c31]) hv32
 refine q_ hf rfl rfl rfl (e_indexAddr (A := A2) (b := b26) (o := o27) (xs := d1.Nodes) (i := node5) hf hA28 rfl rfl Tryd.underlying29 Tryd.sizeOf55 h23 h24) fun a hf => ?_
 refine q_ hf rfl rfl rfl (e_loadA hf (us := [.bool (e21.Final), vS (e21.Letters), vL A30 (e21.Next) c31]) rfl ⟨Tryd.isAgg55, Tryd.sizeOf55⟩ rfl (hM.litSub (k := 1) (d := 0) (us := [.bool (e21.Final), vS (e21.Letters), vL A30 (e21.Next) c31]) rfl rfl rfl)) fun a hf => ?_
 refine pl_l hf rfl rfl rfl (w_alloc hM (cs := [.bool (false), vS (([] : Str)), vL none (([] : (List Int))) 0]) Tryd.zeroValue55 rfl fun b33 w34 hx35 hM a hf => ?_)
 refine pl_0 hf rfl rfl (w_store hf hM (us := [.bool (e21.Final), vS (e21.Letters), vL A30 (e21.Next) c31]) (cs' := [.bool (e21.Final), vS (e21.Letters), vL A30 (e21.Next) c31]) rfl rfl (k := 0) rfl rfl Tryd.sizeOf55 rfl rfl rfl fun w37 hM => ?_)
 dsimp only [List.set] at hM
 refine pl_nil ?_
 refine then_n ?_
 iterate 2 refine wp_seq ?_
 refine region_pl ?_
 refine q_ hf rfl rfl rfl (e_field hf rfl Tryd.underlying55 rfl Tryd.sizeOf9 (o' := 1) rfl) fun a hf => ?_
 refine q_ hf rfl rfl rfl (e_load1 hf rfl Tryd.isAgg9 (hM.boxCell (k := 0) rfl rfl)) fun a hf => ?_
 refine q_ hf rfl rfl rfl (e_move hf rfl) fun a hf => ?_
 obtain ⟨y40, hz41, h⟩ := bind_some h
 refine pl_l hf rfl rfl rfl (w_call hf Tryd.call114 rfl (r_strings_IndexByte ⟨_, Sh C _ _, none_, hM.sh_lt, none_not, C.G, hM.g_lt, g_none, hM.tabs⟩ e21.Letters hv29 letter7 _ hz41) ?_)
 rintro _ w43 ⟨rfl, hM2, hv42⟩
 obtain ⟨hM, hx44, hup45⟩ := hM.back hM2
 dsimp only [List.cons_append, List.nil_append] at hM hup45
 clear hM2
 refine ⟨_, rfl, fun a hf => ?_⟩
 refine q_ hf rfl rfl rfl (e_assign hf rfl) fun a hf => ?_
 refine pl_nil ?_
 refine then_n ?_
 refine wp_seq ?_
 refine region_pl ?_
 refine q_ hf rfl rfl rfl (e_move hf rfl) fun a hf => ?_
 refine q_ hf rfl rfl rfl (e_ge hf (x := y40) (y := 0) rfl rfl) fun a hf => ?_
 refine pl_nil ?_
 refine then_n ?_
 rcases cond_some h with ⟨hc46, h⟩ | ⟨hc46, h⟩
 ·refine cond_t hf rfl hc46 ?_
  refine wp_seq ?_
  refine region_pl ?_
  refine q_ hf rfl rfl rfl (e_field hf rfl Tryd.underlying55 rfl Tryd.sizeOf52 (o' := 2) rfl) fun a hf => ?_
  refine q_ hf rfl rfl rfl (e_load1 hf rfl Tryd.isAgg52 (hM.boxCell (k := 0) rfl rfl)) fun a hf => ?_
  refine q_ hf rfl rfl rfl (e_move hf rfl) fun a hf => ?_
  obtain ⟨e47, hz48, h⟩ := bind_some h
  obtain ⟨b52, o53, _, hA54, h49, h50, hr51, hM⟩ := hM.elem (hM.dat (k := 0) rfl) (n := 1) rfl hz48
  obtain ⟨rfl, hv55⟩ := hr51
  refine q_ hf rfl rfl rfl (e_indexAddr (A := A30) (b := b52) (o := o53) (xs := e21.Next) (i := y40) hf hA54 rfl rfl Tryd.underlying52 Tryd.sizeOf2 h49 h50) fun a hf => ?_
  refine q_ hf rfl rfl rfl (e_load1 hf rfl Tryd.isAgg2 (hM.litCell (k := 0) (j := 0) rfl rfl rfl)) fun a hf => ?_
  refine q_ hf rfl rfl rfl (e_assign hf rfl) fun a hf => ?_
  refine pl_nil ?_
  refine then_n ?_
  refine wp_ret ?_
  refine then_r ?_
  obtain rfl := some_inj h
  have hM := hM.outs (own' := []) 0 rfl
  exact leave1 hf rfl rfl ⟨rfl, hM.fin, hv55⟩
 refine cond_f hf rfl hc46 ?_
 refine wp_skip ?_
 refine then_n ?_
 refine wp_seq ?_
 refine region_pl ?_
 refine q_ hf rfl rfl rfl (e_assign hf rfl) fun a hf => ?_
 refine pl_nil ?_
 refine then_n ?_
 refine wp_ret ?_
 obtain rfl := some_inj h
 have hM := hM.outs (own' := []) 0 rfl
 exact leave1 hf rfl rfl ⟨rfl, hM.fin, (R64_lit rfl)⟩

set_option maxRecDepth 100000 in
set_option maxHeartbeats 4000000 in
theorem r_impl_Dawg_after (C : Cx) (d1 : Dawg) (A2 : Option Addr) (c3 : Nat) (hp4 : (sliceRep NodeRep).R C.w0 C.S0 d1.Nodes [vL A2 d1.Nodes c3]) (s5 : Str) (hp6 : s5.length ≤ maxLen) (r : Int) (h : m_impl_Dawg_after d1 s5 = some r) :
    Calls Tryd.prog 112 #[.agg #[vL A2 (d1.Nodes) c3], vS (s5)] C.w0 fun e w => e = .returned (vI (r)) ∧ Mem C w [] [] ∧ R64 r := by
 have hM := Mem.begin C [.dat (sliceRep NodeRep) d1.Nodes [vL A2 d1.Nodes c3]] ⟨hp4, trivial⟩
 refine enter Tryd.func112 rfl Tryd.ntmps112 rfl fun a hf => ?_
 unfold m_impl_Dawg_after at h
 refine wp_seq ?_
 refine region_pl ?_
 refine pl_l hf rfl rfl rfl (w_box hf hM (cs := [vL A2 (d1.Nodes) c3]) rfl rfl fun b7 w8 hx9 hM a hf => ?_)
 refine q_ hf rfl rfl rfl (e_assign hf rfl) fun a hf => ?_
 refine pl_nil ?_
 refine then_n ?_
 refine wp_seq ?_
 refine region_pl ?_
 refine q_ hf rfl rfl rfl (e_assign hf rfl) fun a hf => ?_
 refine pl_nil ?_
 refine then_n ?_
 obtain ⟨x13, h14, h⟩ := bind_some h
 refine seq_join (fun a w => ∃ (n11 : Int), n11 = x13 ∧ Has 24 a [(5, vI (n11))] ∧ Mem C w [.box b7 [vL A2 (d1.Nodes) c3] 31] [.dat (sliceRep NodeRep) d1.Nodes [vL A2 d1.Nodes c3]] ∧ R64 n11) ?_ ?_
 ·refine wp_seq ?_
  refine region_pl ?_
  refine q_ hf rfl rfl rfl (e_assign hf rfl) fun a hf => ?_
  refine pl_nil ?_
  refine then_n ?_
  refine wp_block ?_
  obtain ⟨x22, h23, h14⟩ := bind_some h14
  refine wp_loopM h23 (fun s a w => ∃ (n15 : Int) (n17 : Int), (n15, n17) = s ∧ Has 24 a [(1, vS (s5)), (2, vP b7 (0)), (5, vI (n15)), (6, vI (n17))] ∧ Mem C w [.box b7 [vL A2 (d1.Nodes) c3] 31] [.dat (sliceRep NodeRep) d1.Nodes [vL A2 d1.Nodes c3]] ∧ R64 n15 ∧ R64 n17) ?_ ?_
  ·exact ⟨0, 0, rfl, hf.keep ⟨rfl, rfl, rfl, rfl, trivial⟩, hM.pick [0] rfl, (R64_lit rfl), (R64_lit rfl)⟩
  rintro s o24 a w19 ⟨n15, n17, rfl, hf, hM, hv16, hv18⟩ h25 hd26
  replace h25 : m_impl_Dawg_after_l1 s5 d1 n15 n17 = some o24 := h25
  unfold m_impl_Dawg_after_l1 at h25
  refine wp_seq ?_
  obtain ⟨x29, h30, h25⟩ := bind_some h25
  refine seq_join (fun a w => ∃ (t27 : Bool), t27 = x29 ∧ Has 24 a [(1, vS (s5)), (2, vP b7 (0)), (5, vI (n15)), (6, vI (n17)), (14, .bool (t27))] ∧ Mem C w [.box b7 [vL A2 (d1.Nodes) c3] 31] [.dat (sliceRep NodeRep) d1.Nodes [vL A2 d1.Nodes c3]]) ?_ ?_
  ·refine region_pl ?_
   iterate 2 refine q_ hf rfl rfl rfl (e_move hf rfl) fun a hf => ?_
   refine q_ hf rfl rfl rfl (e_lenS hf (x := s5) rfl Tryd.underlying9) fun a hf => ?_
   refine q_ hf rfl rfl rfl (e_lt hf (x := n17) (y := (s5.length : Int)) rfl rfl) fun a hf => ?_
   refine q_ hf rfl rfl rfl (e_move hf rfl) fun a hf => ?_
   rcases cond_some h30 with ⟨hc31, h30⟩ | ⟨hc31, h30⟩
   ·refine gq (wanted_t hf rfl rfl rfl rfl hc31) hf rfl rfl (e_move hf rfl) fun a hf => ?_
    refine gq (wanted_t hf rfl rfl rfl rfl hc31) hf rfl rfl (e_ge hf (x := n15) (y := 0) rfl rfl) fun a hf => ?_
    refine q_ hf rfl rfl rfl (e_pick_t hf rfl hc31 rfl) fun a hf => ?_
    refine pl_nil ?_
    obtain rfl := some_inj h30
    refine then_n ?_
    exact ⟨(decide (0 ≤ n15)), rfl, hf.keep ⟨rfl, rfl, rfl, rfl, rfl, trivial⟩, hM.pick [0] rfl⟩
   iterate 2 refine pl_gs (wanted_f hf rfl rfl rfl rfl hc31) hf rfl rfl fun a hf => ?_
   refine q_ hf rfl rfl rfl (e_pick_f hf rfl hc31 rfl) fun a hf => ?_
   refine pl_nil ?_
   obtain rfl := some_inj h30
   refine then_n ?_
   exact ⟨false, rfl, hf.keep ⟨rfl, rfl, rfl, rfl, rfl, trivial⟩, hM.pick [0] rfl⟩
  rintro a w34 ⟨t27, rfl, hf, hM⟩
  try dsimp only at h25
  rcases cond_some h25 with ⟨hc35, h25⟩ | ⟨hc35, h25⟩
  ·refine cond_t hf rfl hc35 ?_
   refine wp_skip ?_
   refine then_n ?_
   refine wp_seq ?_
   refine wp_block ?_
   obtain ⟨w36, hw⟩ : ∃ x, x = w34.drew := ⟨_, rfl⟩
   refine region_pi (.q 0 (.q 1 (.q 2 (.q 3 (.q 4 (.l 5 (.q 6 (.nil)))))))) (Ext w36) rfl (by kernel_rfl) ?_
   have hM := hM.drew
   rw [← hw] at hM ⊢
   clear hw
   refine pi_q hf rfl rfl rfl rfl (Ext.refl _) (e_loadA hf (us := [vL A2 (d1.Nodes) c3]) rfl ⟨Tryd.isAgg31, Tryd.sizeOf31⟩ rfl (hM.boxSub (k := 0) (us := [vL A2 (d1.Nodes) c3]) (o := 0) rfl rfl)) fun a hf => ?_
   iterate 3 refine pi_q hf rfl rfl rfl rfl (Ext.refl _) (e_move hf rfl) fun a hf => ?_
   obtain ⟨c37, hz38, h25⟩ := bind_some h25
   refine pi_q hf rfl rfl rfl rfl (Ext.refl _) (e_indexS hf (x := s5) rfl rfl Tryd.underlying9 hz38) fun a hf => ?_
   refine pi_one ?_
   obtain ⟨y39, hz40, h25⟩ := bind_some h25
   refine pi_l hf rfl rfl rfl rfl (w_call hf Tryd.call113 rfl (r_impl_Dawg_step ⟨_, Sh C _ _, none_, hM.sh_lt, none_not, C.G, hM.g_lt, g_none, hM.tabs⟩ d1 _ _ (hM.dat (k := 0) rfl) n15 hv16 c37 _ hz40) ?_)
   rintro _ w42 ⟨rfl, hM2, hv41⟩
   obtain ⟨hM, hx43, hup44⟩ := hM.back hM2
   dsimp only [List.cons_append, List.nil_append] at hM hup44
   clear hM2
   refine ⟨_, rfl, Ext w42, fun _ h => Ext.trans hx43 h, Ext.refl _, fun a hf => ?_⟩
   refine pi_q hf rfl rfl rfl rfl (Ext.refl _) (e_assign hf rfl) fun a hf => ?_
   refine pi_nil ?_
   refine blk_n ?_
   refine then_n ?_
   refine region_pl ?_
   refine q_ hf rfl rfl rfl (e_move hf rfl) fun a hf => ?_
   obtain ⟨z45, hz46, h25⟩ := bind_some h25
   refine q_ hf rfl rfl rfl (e_add hf rfl rfl hz46) fun a hf => ?_
   refine q_ hf rfl rfl rfl (e_assign hf rfl) fun a hf => ?_
   refine pl_nil ?_
   obtain rfl := some_inj h25
   refine then_n ⟨_, rfl, ?_⟩
   exact ⟨y39, z45, rfl, hf.keep ⟨rfl, rfl, rfl, rfl, trivial⟩, hM.pick [0] rfl, hv41, (chk_R hz46)⟩
  refine cond_f hf rfl hc35 ?_
  refine wp_exit ?_
  refine then_x ?_
  obtain rfl := some_inj h25
  obtain rfl := hd26 _ rfl
  try dsimp only at h14
  refine then_x ?_
  refine exit_hit ?_
  obtain rfl := some_inj h14
  refine then_n ?_
  exact ⟨n15, rfl, hf.keep ⟨rfl, trivial⟩, hM.pick [0] rfl, hv16⟩
 rintro a w52 ⟨n11, rfl, hf, hM, hv12⟩
 try dsimp only at h
 refine wp_seq ?_
 refine region_pl ?_
 refine q_ hf rfl rfl rfl (e_move hf rfl) fun a hf => ?_
 refine q_ hf rfl rfl rfl (e_assign hf rfl) fun a hf => ?_
 refine pl_nil ?_
 refine then_n ?_
 refine wp_ret ?_
 obtain rfl := some_inj h
 have hM := hM.outs (own' := []) 0 rfl
 exact leave1 hf rfl rfl ⟨rfl, hM.fin, hv12⟩

set_option maxRecDepth 100000 in
set_option maxHeartbeats 4000000 in
theorem r_impl_Dawg_accepts (C : Cx) (d1 : Dawg) (A2 : Option Addr) (c3 : Nat) (hp4 : (sliceRep NodeRep).R C.w0 C.S0 d1.Nodes [vL A2 d1.Nodes c3]) (s5 : Str) (hp6 : s5.length ≤ maxLen) (r : Bool) (h : m_impl_Dawg_accepts d1 s5 = some r) :
    Calls Tryd.prog 110 #[.agg #[vL A2 (d1.Nodes) c3], vS (s5)] C.w0 fun e w => e = .returned (.bool (r)) ∧ Mem C w [] [] := by
 have hM := Mem.begin C [.dat (sliceRep NodeRep) d1.Nodes [vL A2 d1.Nodes c3]] ⟨hp4, trivial⟩
 refine enter Tryd.func110 rfl Tryd.ntmps110 rfl fun a hf => ?_
 unfold m_impl_Dawg_accepts at h
 refine wp_seq ?_
 refine region_pl ?_
 refine pl_l hf rfl rfl rfl (w_box hf hM (cs := [vL A2 (d1.Nodes) c3]) rfl rfl fun b7 w8 hx9 hM a hf => ?_)
 refine q_ hf rfl rfl rfl (e_assign hf rfl) fun a hf => ?_
 refine pl_nil ?_
 refine then_n ?_
 refine wp_seq ?_
 refine region_pl ?_
 refine q_ hf rfl rfl rfl (e_loadA hf (us := [vL A2 (d1.Nodes) c3]) rfl ⟨Tryd.isAgg31, Tryd.sizeOf31⟩ rfl (hM.boxSub (k := 0) (us := [vL A2 (d1.Nodes) c3]) (o := 0) rfl rfl)) fun a hf => ?_
 refine q_ hf rfl rfl rfl (e_move hf rfl) fun a hf => ?_
 obtain ⟨y11, hz12, h⟩ := bind_some h
 refine pl_l hf rfl rfl rfl (w_call hf Tryd.call112 rfl (r_impl_Dawg_after ⟨_, Sh C _ _, none_, hM.sh_lt, none_not, C.G, hM.g_lt, g_none, hM.tabs⟩ d1 _ _ (hM.dat (k := 0) rfl) s5 hp6 _ hz12) ?_)
 rintro _ w14 ⟨rfl, hM2, hv13⟩
 obtain ⟨hM, hx15, hup16⟩ := hM.back hM2
 dsimp only [List.cons_append, List.nil_append] at hM hup16
 clear hM2
 refine ⟨_, rfl, fun a hf => ?_⟩
 refine q_ hf rfl rfl rfl (e_assign hf rfl) fun a hf => ?_
 refine pl_nil ?_
 refine then_n ?_
 obtain ⟨x19, h20, h⟩ := bind_some h
 refine seq_join (fun a w => ∃ (t17 : Bool), t17 = x19 ∧ Has 19 a [(4, .bool (t17))] ∧ Mem C w [.box b7 [vL A2 (d1.Nodes) c3] 31] [.dat (sliceRep NodeRep) d1.Nodes [vL A2 d1.Nodes c3]]) ?_ ?_
 ·refine region_pl ?_
  refine q_ hf rfl rfl rfl (e_move hf rfl) fun a hf => ?_
  refine q_ hf rfl rfl rfl (e_ge hf (x := y11) (y := 0) rfl rfl) fun a hf => ?_
  refine q_ hf rfl rfl rfl (e_move hf rfl) fun a hf => ?_
  rcases cond_some h20 with ⟨hc21, h20⟩ | ⟨hc21, h20⟩
  ·refine gq (wanted_t hf rfl rfl rfl rfl hc21) hf rfl rfl (e_field hf rfl Tryd.underlying31 rfl Tryd.sizeOf29 (o' := 0) rfl) fun a hf => ?_
   refine gq (wanted_t hf rfl rfl rfl rfl hc21) hf rfl rfl (e_load1 hf rfl Tryd.isAgg29 (hM.boxCell (k := 0) rfl rfl)) fun a hf => ?_
   refine gq (wanted_t hf rfl rfl rfl rfl hc21) hf rfl rfl (e_move hf rfl) fun a hf => ?_
   obtain ⟨e22, hz23, h20⟩ := bind_some h20
   obtain ⟨b27, o28, _, hA29, h24, h25, hr26, hM⟩ := hM.elem (hM.dat (k := 0) rfl) (n := 3) rfl hz23
   obtain ⟨A31, c32, rfl, hv30, hv33⟩ := NodeRep_open hr26
   have hM := hM.add (y := .dat (sliceRep intRep) e22.Next [vL A31 e22.Next c32]) hv33
   refine gq (wanted_t hf rfl rfl rfl rfl hc21) hf rfl rfl (e_indexAddr (A := A2) (b := b27) (o := o28) (xs := d1.Nodes) (i := y11) hf hA29 rfl rfl Tryd.underlying29 Tryd.sizeOf55 h24 h25) fun a hf => ?_
   refine gq (wanted_t hf rfl rfl rfl rfl hc21) hf rfl rfl (e_field hf rfl Tryd.underlying55 rfl Tryd.sizeOf4 (o' := (o28 + (y11 : Int).toNat * 3) + 0) rfl) fun a hf => ?_
   refine gq (wanted_t hf rfl rfl rfl rfl hc21) hf rfl rfl (e_load1 hf rfl Tryd.isAgg4 (hM.litCell (k := 1) (j := 0) rfl rfl rfl)) fun a hf => ?_
   refine q_ hf rfl rfl rfl (e_pick_t hf rfl hc21 rfl) fun a hf => ?_
   refine q_ hf rfl rfl rfl (e_assign hf rfl) fun a hf => ?_
   refine pl_nil ?_
   obtain rfl := some_inj h20
   refine then_n ?_
   exact ⟨e22.Final, rfl, hf.keep ⟨rfl, trivial⟩, hM.pick [2] rfl⟩
  iterate 6 refine pl_gs (wanted_f hf rfl rfl rfl rfl hc21) hf rfl rfl fun a hf => ?_
  refine q_ hf rfl rfl rfl (e_pick_f hf rfl hc21 rfl) fun a hf => ?_
  refine q_ hf rfl rfl rfl (e_assign hf rfl) fun a hf => ?_
  refine pl_nil ?_
  obtain rfl := some_inj h20
  refine then_n ?_
  exact ⟨false, rfl, hf.keep ⟨rfl, trivial⟩, hM.pick [0] rfl⟩
 rintro a w36 ⟨t17, rfl, hf, hM⟩
 try dsimp only at h
 refine wp_ret ?_
 obtain rfl := some_inj h
 have hM := hM.outs (own' := []) 0 rfl
 exact leave1 hf rfl rfl ⟨rfl, hM.fin⟩

set_option maxRecDepth 100000 in
set_option maxHeartbeats 4000000 in
theorem r_impl_minus_has (C : Cx) (x1 : minus) (A2 : Option Addr) (c3 : Nat) (hp4 : (sliceRep NodeRep).R C.w0 C.S0 x1.a.Nodes [vL A2 x1.a.Nodes c3]) (A5 : Option Addr) (c6 : Nat) (hp7 : (sliceRep NodeRep).R C.w0 C.S0 x1.b.Nodes [vL A5 x1.b.Nodes c6]) (s8 : Str) (hp9 : s8.length ≤ maxLen) (r : Bool) (h : m_impl_minus_has x1 s8 = some r) :
    Calls Tryd.prog 111 #[.agg #[vL A2 (x1.a.Nodes) c3, vL A5 (x1.b.Nodes) c6], vS (s8)] C.w0 fun e w => e = .returned (.bool (r)) ∧ Mem C w [] [] := by
 have hM := Mem.begin C [.dat (sliceRep NodeRep) x1.b.Nodes [vL A5 x1.b.Nodes c6], .dat (sliceRep NodeRep) x1.a.Nodes [vL A2 x1.a.Nodes c3]] ⟨hp7, hp4, trivial⟩
 refine enter Tryd.func111 rfl Tryd.ntmps111 rfl fun a hf => ?_
 unfold m_impl_minus_has at h
 refine wp_seq ?_
 refine region_pl ?_
 refine pl_l hf rfl rfl rfl (w_box hf hM (cs := [vL A2 (x1.a.Nodes) c3, vL A5 (x1.b.Nodes) c6]) rfl rfl fun b10 w11 hx12 hM a hf => ?_)
 refine q_ hf rfl rfl rfl (e_assign hf rfl) fun a hf => ?_
 refine pl_nil ?_
 refine then_n ?_
 obtain ⟨x16, h17, h⟩ := bind_some h
 refine seq_join (fun a w => ∃ (t14 : Bool), t14 = x16 ∧ Has 16 a [(4, .bool (t14))] ∧ Mem C w [.box b10 [vL A2 (x1.a.Nodes) c3, vL A5 (x1.b.Nodes) c6] 47] [.dat (sliceRep NodeRep) x1.b.Nodes [vL A5 x1.b.Nodes c6], .dat (sliceRep NodeRep) x1.a.Nodes [vL A2 x1.a.Nodes c3]]) ?_ ?_
 ·refine region_pl ?_
  refine q_ hf rfl rfl rfl (e_field hf rfl Tryd.underlying47 rfl Tryd.sizeOf31 (o' := 0) rfl) fun a hf => ?_
  refine q_ hf rfl rfl rfl (e_loadA hf (us := [vL A2 (x1.a.Nodes) c3]) rfl ⟨Tryd.isAgg31, Tryd.sizeOf31⟩ rfl (hM.boxSub (k := 0) (us := [vL A2 (x1.a.Nodes) c3]) (o := 0) rfl rfl)) fun a hf => ?_
  refine q_ hf rfl rfl rfl (e_move hf rfl) fun a hf => ?_
  obtain ⟨y18, hz19, h17⟩ := bind_some h17
  refine pl_l hf rfl rfl rfl (w_call hf Tryd.call110 rfl (r_impl_Dawg_accepts ⟨_, Sh C _ _, none_, hM.sh_lt, none_not, C.G, hM.g_lt, g_none, hM.tabs⟩ x1.a _ _ (hM.dat (k := 1) rfl) s8 hp9 _ hz19) ?_)
  rintro _ w20 ⟨rfl, hM2⟩
  obtain ⟨hM, hx21, hup22⟩ := hM.back hM2
  dsimp only [List.cons_append, List.nil_append] at hM hup22
  clear hM2
  refine ⟨_, rfl, fun a hf => ?_⟩
  refine q_ hf rfl rfl rfl (e_move hf rfl) fun a hf => ?_
  rcases cond_some h17 with ⟨hc23, h17⟩ | ⟨hc23, h17⟩
  ·refine gq (wanted_t hf rfl rfl rfl rfl hc23) hf rfl rfl (e_field hf rfl Tryd.underlying47 rfl Tryd.sizeOf31 (o' := 1) rfl) fun a hf => ?_
   refine gq (wanted_t hf rfl rfl rfl rfl hc23) hf rfl rfl (e_loadA hf (us := [vL A5 (x1.b.Nodes) c6]) rfl ⟨Tryd.isAgg31, Tryd.sizeOf31⟩ rfl (hM.boxSub (k := 0) (us := [vL A5 (x1.b.Nodes) c6]) (o := 1) rfl rfl)) fun a hf => ?_
   refine gq (wanted_t hf rfl rfl rfl rfl hc23) hf rfl rfl (e_move hf rfl) fun a hf => ?_
   obtain ⟨y24, hz25, h17⟩ := bind_some h17
   refine pl_gl (wanted_t hf rfl rfl rfl rfl hc23) hf rfl rfl (w_call hf Tryd.call110 rfl (r_impl_Dawg_accepts ⟨_, Sh C _ _, none_, hM.sh_lt, none_not, C.G, hM.g_lt, g_none, hM.tabs⟩ x1.b _ _ (hM.dat (k := 0) rfl) s8 hp9 _ hz25) ?_)
   rintro _ w26 ⟨rfl, hM2⟩
   obtain ⟨hM, hx27, hup28⟩ := hM.back hM2
   dsimp only [List.cons_append, List.nil_append] at hM hup28
   clear hM2
   refine ⟨_, rfl, fun a hf => ?_⟩
   refine gq (wanted_t hf rfl rfl rfl rfl hc23) hf rfl rfl (e_not hf rfl) fun a hf => ?_
   refine q_ hf rfl rfl rfl (e_pick_t hf rfl hc23 rfl) fun a hf => ?_
   refine q_ hf rfl rfl rfl (e_assign hf rfl) fun a hf => ?_
   refine pl_nil ?_
   obtain rfl := some_inj h17
   refine then_n ?_
   exact ⟨(!y24), rfl, hf.keep ⟨rfl, trivial⟩, hM.pick [0, 1] rfl⟩
  iterate 5 refine pl_gs (wanted_f hf rfl rfl rfl rfl hc23) hf rfl rfl fun a hf => ?_
  refine q_ hf rfl rfl rfl (e_pick_f hf rfl hc23 rfl) fun a hf => ?_
  refine q_ hf rfl rfl rfl (e_assign hf rfl) fun a hf => ?_
  refine pl_nil ?_
  obtain rfl := some_inj h17
  refine then_n ?_
  exact ⟨false, rfl, hf.keep ⟨rfl, trivial⟩, hM.pick [0, 1] rfl⟩
 rintro a w31 ⟨t14, rfl, hf, hM⟩
 try dsimp only at h
 refine wp_ret ?_
 obtain rfl := some_inj h
 have hM := hM.outs (own' := []) 0 rfl
 exact leave1 hf rfl rfl ⟨rfl, hM.fin⟩

set_option maxRecDepth 100000 in
set_option maxHeartbeats 4000000 in
theorem r_impl_DawgChanges (C : Cx) (a1 : Dawg) (A2 : Option Addr) (c3 : Nat) (hp4 : (sliceRep NodeRep).R C.w0 C.S0 a1.Nodes [vL A2 a1.Nodes c3]) (b5 : Dawg) (A6 : Option Addr) (c7 : Nat) (hp8 : (sliceRep NodeRep).R C.w0 C.S0 b5.Nodes [vL A6 b5.Nodes c7]) (r : ((List Str) × (List Str) × Int)) (h : m_impl_DawgChanges a1 b5 = some r) :
    Calls Tryd.prog 7 #[.agg #[vL A2 (a1.Nodes) c3], .agg #[vL A6 (b5.Nodes) c7]] C.w0 fun e w => ∃ (A_1 : Option Addr), ∃ (c_1 : Nat), ∃ (A_2 : Option Addr), ∃ (c_2 : Nat), e = .returned (.tuple #[vL A_1 (r.1) c_1, vL A_2 (r.2.1) c_2, vI (r.2.2)]) ∧ Mem C w [.row strRep A_1 c_1 9 r.1 true, .row strRep A_2 c_2 9 r.2.1 true] [] ∧ R64 r.2.2 := by
 have hM := Mem.begin C [.dat (sliceRep NodeRep) b5.Nodes [vL A6 b5.Nodes c7], .dat (sliceRep NodeRep) a1.Nodes [vL A2 a1.Nodes c3]] ⟨hp8, hp4, trivial⟩
 refine enter Tryd.func7 rfl Tryd.ntmps7 rfl fun a hf => ?_
 unfold m_impl_DawgChanges at h
 refine wp_seq ?_
 refine region_pl ?_
 refine pl_l hf rfl rfl rfl (w_box hf hM (cs := [vL A2 (a1.Nodes) c3]) rfl rfl fun b9 w10 hx11 hM a hf => ?_)
 refine pl_l hf rfl rfl rfl (w_box hf hM (cs := [vL A6 (b5.Nodes) c7]) rfl rfl fun b13 w14 hx15 hM a hf => ?_)
 iterate 3 refine q_ hf rfl rfl rfl (e_assign hf rfl) fun a hf => ?_
 refine pl_nil ?_
 refine then_n ?_
 refine wp_seq ?_
 obtain ⟨x19, h20, h⟩ := bind_some h
 refine seq_join (fun a w => ∃ (t17 : Bool), t17 = x19 ∧ Has 29 a [(2, vP b9 (0)), (3, vP b13 (0)), (14, .bool (t17))] ∧ Mem C w [.box b13 [vL A6 (b5.Nodes) c7] 31, .box b9 [vL A2 (a1.Nodes) c3] 31] [.dat (sliceRep NodeRep) b5.Nodes [vL A6 b5.Nodes c7], .dat (sliceRep NodeRep) a1.Nodes [vL A2 a1.Nodes c3]]) ?_ ?_
 ·refine region_pl ?_
  refine q_ hf rfl rfl rfl (e_loadA hf (us := [vL A2 (a1.Nodes) c3]) rfl ⟨Tryd.isAgg31, Tryd.sizeOf31⟩ rfl (hM.boxSub (k := 1) (us := [vL A2 (a1.Nodes) c3]) (o := 0) rfl rfl)) fun a hf => ?_
  obtain ⟨y21, hz22, h20⟩ := bind_some h20
  refine pl_l hf rfl rfl rfl (w_call hf Tryd.call18 rfl (r_impl_ValidDawg ⟨_, Sh C _ _, none_, hM.sh_lt, none_not, C.G, hM.g_lt, g_none, hM.tabs⟩ a1 _ _ (hM.dat (k := 1) rfl) _ hz22) ?_)
  rintro _ w23 ⟨rfl, hM2⟩
  obtain ⟨hM, hx24, hup25⟩ := hM.back hM2
  dsimp only [List.cons_append, List.nil_append] at hM hup25
  clear hM2
  refine ⟨_, rfl, fun a hf => ?_⟩
  refine q_ hf rfl rfl rfl (e_not hf rfl) fun a hf => ?_
  refine q_ hf rfl rfl rfl (e_move hf rfl) fun a hf => ?_
  rcases cond_some h20 with ⟨hc26, h20⟩ | ⟨hc26, h20⟩
  ·iterate 3 refine pl_gs (wanted_f hf rfl rfl rfl rfl hc26) hf rfl rfl fun a hf => ?_
   refine q_ hf rfl rfl rfl (e_pick_t hf rfl hc26 rfl) fun a hf => ?_
   refine pl_nil ?_
   obtain rfl := some_inj h20
   refine then_n ?_
   exact ⟨true, rfl, hf.keep ⟨rfl, rfl, rfl, trivial⟩, hM.pick [0, 1] rfl⟩
  refine gq (wanted_t hf rfl rfl rfl rfl hc26) hf rfl rfl (e_loadA hf (us := [vL A6 (b5.Nodes) c7]) rfl ⟨Tryd.isAgg31, Tryd.sizeOf31⟩ rfl (hM.boxSub (k := 0) (us := [vL A6 (b5.Nodes) c7]) (o := 0) rfl rfl)) fun a hf => ?_
  obtain ⟨y28, hz29, h20⟩ := bind_some h20
  refine pl_gl (wanted_t hf rfl rfl rfl rfl hc26) hf rfl rfl (w_call hf Tryd.call18 rfl (r_impl_ValidDawg ⟨_, Sh C _ _, none_, hM.sh_lt, none_not, C.G, hM.g_lt, g_none, hM.tabs⟩ b5 _ _ (hM.dat (k := 0) rfl) _ hz29) ?_)
  rintro _ w30 ⟨rfl, hM2⟩
  obtain ⟨hM, hx31, hup32⟩ := hM.back hM2
  dsimp only [List.cons_append, List.nil_append] at hM hup32
  clear hM2
  refine ⟨_, rfl, fun a hf => ?_⟩
  refine gq (wanted_t hf rfl rfl rfl rfl hc26) hf rfl rfl (e_not hf rfl) fun a hf => ?_
  refine q_ hf rfl rfl rfl (e_pick_f hf rfl hc26 rfl) fun a hf => ?_
  refine pl_nil ?_
  obtain rfl := some_inj h20
  refine then_n ?_
  exact ⟨(!y28), rfl, hf.keep ⟨rfl, rfl, rfl, trivial⟩, hM.pick [0, 1] rfl⟩
 rintro a w34 ⟨t17, rfl, hf, hM⟩
 try dsimp only at h
 rcases cond_some h with ⟨hc35, h⟩ | ⟨hc35, h⟩
 ·refine cond_t hf rfl hc35 ?_
  refine wp_seq ?_
  refine region_pl ?_
  iterate 3 refine q_ hf rfl rfl rfl (e_assign hf rfl) fun a hf => ?_
  refine pl_nil ?_
  refine then_n ?_
  refine wp_ret ?_
  refine then_r ?_
  obtain rfl := some_inj h
  have hres36 := leaveV3 (P := Tryd.prog) (w := w34) Tryd.results7 (res_tmp hf rfl) (res_tmp hf rfl) (res_tmp hf rfl)
  iterate 2 have hM := hM.nilRow strRep 9
  have hM := hM.front (k := 0) rfl
  dsimp only [List.eraseIdx] at hM
  have hM := hM.front (k := 1) rfl
  dsimp only [List.eraseIdx] at hM
  have hM := hM.outs (own' := [.row strRep none 0 9 ([] : (List Str)) true, .row strRep none 0 9 ([] : (List Str)) true]) 2 rfl
  exact bodyPost_ret hres36 hf.defers ⟨none, 0, none, 0, rfl, hM.fin, (R64_lit rfl)⟩
 refine cond_f hf rfl hc35 ?_
 refine wp_skip ?_
 refine then_n ?_
 refine wp_seq ?_
 obtain ⟨w37, hw⟩ : ∃ x, x = w34.drew := ⟨_, rfl⟩
 refine region_pi (.q 0 (.q 1 (.q 2 (.q 3 (.q 4 (.q 5 (.q 7 (.q 8 (.q 9 (.q 10 (.q 11 (.q 12 (.l 6 (.l 13 (.q 14 (.q 15 (.q 16 (.nil)))))))))))))))))) (Ext w37) rfl (by kernel_rfl) ?_
 have hM := hM.drew
 rw [← hw] at hM ⊢
 clear hw
 refine pi_q hf rfl rfl rfl rfl (Ext.refl _) (e_loadA hf (us := [vL A2 (a1.Nodes) c3]) rfl ⟨Tryd.isAgg31, Tryd.sizeOf31⟩ rfl (hM.boxSub (k := 1) (us := [vL A2 (a1.Nodes) c3]) (o := 0) rfl rfl)) fun a hf => ?_
 refine pi_q hf rfl rfl rfl rfl (Ext.refl _) (e_loadA hf (us := [vL A6 (b5.Nodes) c7]) rfl ⟨Tryd.isAgg31, Tryd.sizeOf31⟩ rfl (hM.boxSub (k := 0) (us := [vL A6 (b5.Nodes) c7]) (o := 0) rfl rfl)) fun a hf => ?_
 refine pi_q hf rfl rfl rfl rfl (Ext.refl _) (e_loadA hf (us := [vL A2 (a1.Nodes) c3]) rfl ⟨Tryd.isAgg31, Tryd.sizeOf31⟩ rfl (hM.boxSub (k := 1) (us := [vL A2 (a1.Nodes) c3]) (o := 0) rfl rfl)) fun a hf => ?_
 refine pi_q hf rfl rfl rfl rfl (Ext.refl _) (e_loadA hf (us := [vL A6 (b5.Nodes) c7]) rfl ⟨Tryd.isAgg31, Tryd.sizeOf31⟩ rfl (hM.boxSub (k := 0) (us := [vL A6 (b5.Nodes) c7]) (o := 0) rfl rfl)) fun a hf => ?_
 refine pi_q hf rfl rfl rfl rfl (Ext.refl _) (e_build hf Tryd.zeroValue47 Tryd.underlying47 (bp_47 _ Tryd.underlying47.symm) rfl (cs := #[vL A2 (a1.Nodes) c3, vL A6 (b5.Nodes) c7]) (by kernel_rfl)) fun a hf => ?_
 refine pi_q hf rfl rfl rfl rfl (Ext.refl _) (e_makeIface hf rfl (by kernel_rfl)) fun a hf => ?_
 refine pi_q hf rfl rfl rfl rfl (Ext.refl _) (e_loadA hf (us := [vL A2 (a1.Nodes) c3]) rfl ⟨Tryd.isAgg31, Tryd.sizeOf31⟩ rfl (hM.boxSub (k := 1) (us := [vL A2 (a1.Nodes) c3]) (o := 0) rfl rfl)) fun a hf => ?_
 iterate 2 refine pi_q hf rfl rfl rfl rfl (Ext.refl _) (e_loadA hf (us := [vL A6 (b5.Nodes) c7]) rfl ⟨Tryd.isAgg31, Tryd.sizeOf31⟩ rfl (hM.boxSub (k := 0) (us := [vL A6 (b5.Nodes) c7]) (o := 0) rfl rfl)) fun a hf => ?_
 refine pi_q hf rfl rfl rfl rfl (Ext.refl _) (e_loadA hf (us := [vL A2 (a1.Nodes) c3]) rfl ⟨Tryd.isAgg31, Tryd.sizeOf31⟩ rfl (hM.boxSub (k := 1) (us := [vL A2 (a1.Nodes) c3]) (o := 0) rfl rfl)) fun a hf => ?_
 refine pi_q hf rfl rfl rfl rfl (Ext.refl _) (e_build hf Tryd.zeroValue47 Tryd.underlying47 (bp_47 _ Tryd.underlying47.symm) rfl (cs := #[vL A6 (b5.Nodes) c7, vL A2 (a1.Nodes) c3]) (by kernel_rfl)) fun a hf => ?_
 refine pi_q hf rfl rfl rfl rfl (Ext.refl _) (e_makeIface hf rfl (by kernel_rfl)) fun a hf => ?_
 refine pi_one ?_
 obtain ⟨y40, hz41, h⟩ := bind_some h
 refine pi_l hf rfl rfl rfl rfl (w_call hf Tryd.call19 rfl (r_impl_chosen ⟨_, Sh C _ _, none_, hM.sh_lt, none_not, C.G, hM.g_lt, g_none, hM.tabs⟩ a1 _ _ (hM.dat (k := 1) rfl) b5 _ _ (hM.dat (k := 0) rfl) (fun u38 => m_impl_minus_has (⟨⟨a1.Nodes⟩, ⟨b5.Nodes⟩⟩ : minus) u38) (.iface 47 (.agg #[vL A2 (a1.Nodes) c3, vL A6 (b5.Nodes) c7])) ⟨_, _, rfl⟩ 111 [.agg #[vL A2 (a1.Nodes) c3, vL A6 (b5.Nodes) c7]] (callsAs_method (meth_111 _) Tryd.call111) ⟨Tryd.call111, fun C1 hs hsub u38 hp39 r h => r_impl_minus_has C1 (⟨⟨a1.Nodes⟩, ⟨b5.Nodes⟩⟩ : minus) _ _ (Rep.to (hM.dat (k := 1) rfl) hs hsub) _ _ (Rep.to (hM.dat (k := 0) rfl) hs hsub) u38 hp39 r h⟩ _ hz41) ?_)
 rintro _ w44 ⟨A42, c43, rfl, hM2⟩
 obtain ⟨hM, hx45, hup46⟩ := hM.back hM2
 dsimp only [List.cons_append, List.nil_append] at hM hup46
 clear hM2
 refine ⟨_, rfl, Ext w44, fun _ h => Ext.trans hx45 h, Ext.refl _, fun a hf => ?_⟩
 refine pi_one ?_
 obtain ⟨y49, hz50, h⟩ := bind_some h
 refine pi_l hf rfl rfl rfl rfl (w_call hf Tryd.call19 rfl (r_impl_chosen ⟨_, Sh C _ _, none_, hM.sh_lt, none_not, C.G, hM.g_lt, g_none, hM.tabs⟩ a1 _ _ (hM.dat (k := 1) rfl) b5 _ _ (hM.dat (k := 0) rfl) (fun u47 => m_impl_minus_has (⟨⟨b5.Nodes⟩, ⟨a1.Nodes⟩⟩ : minus) u47) (.iface 47 (.agg #[vL A6 (b5.Nodes) c7, vL A2 (a1.Nodes) c3])) ⟨_, _, rfl⟩ 111 [.agg #[vL A6 (b5.Nodes) c7, vL A2 (a1.Nodes) c3]] (callsAs_method (meth_111 _) Tryd.call111) ⟨Tryd.call111, fun C1 hs hsub u47 hp48 r h => r_impl_minus_has C1 (⟨⟨b5.Nodes⟩, ⟨a1.Nodes⟩⟩ : minus) _ _ (Rep.to (hM.dat (k := 0) rfl) hs hsub) _ _ (Rep.to (hM.dat (k := 1) rfl) hs hsub) u47 hp48 r h⟩ _ hz50) ?_)
 rintro _ w53 ⟨A51, c52, rfl, hM2⟩
 obtain ⟨hM, hx54, hup55⟩ := hM.back hM2
 dsimp only [List.cons_append, List.nil_append] at hM hup55
 clear hM2
 refine ⟨_, rfl, Ext w53, fun _ h => Ext.trans hx54 h, Ext.refl _, fun a hf => ?_⟩
 iterate 3 refine pi_q hf rfl rfl rfl rfl (Ext.refl _) (e_assign hf rfl) fun a hf => ?_
 refine pi_nil ?_
 refine then_n ?_
 refine wp_ret ?_
 obtain rfl := some_inj h
 have hres56 := leaveV3 (P := Tryd.prog) (w := w53) Tryd.results7 (res_tmp hf rfl) (res_tmp hf rfl) (res_tmp hf rfl)
 have hM := hM.front (k := 0) rfl
 dsimp only [List.eraseIdx] at hM
 have hM := hM.front (k := 1) rfl
 dsimp only [List.eraseIdx] at hM
 have hM := hM.outs (own' := [.row strRep A42 c43 9 y40 true, .row strRep A51 c52 9 y49 true]) 2 rfl
 exact bodyPost_ret hres56 hf.defers ⟨A42, c43, A51, c52, rfl, hM.fin, (R64_lit rfl)⟩

set_option maxRecDepth 100000 in
set_option maxHeartbeats 4000000 in
theorem r_laws_eqStringS (C : Cx) (a1 : (List Str)) (A2 : Option Addr) (c3 : Nat) (hp4 : (sliceRep strRep).R C.w0 C.S0 a1 [vL A2 a1 c3]) (b5 : (List Str)) (A6 : Option Addr) (c7 : Nat) (hp8 : (sliceRep strRep).R C.w0 C.S0 b5 [vL A6 b5 c7]) (r : Bool) (h : m_laws_eqStringS a1 b5 = some r) :
    Calls Tryd.prog 8 #[vL A2 (a1) c3, vL A6 (b5) c7] C.w0 fun e w => e = .returned (.bool (r)) ∧ Mem C w [] [] := by
 have hM := Mem.begin C [.dat (sliceRep strRep) b5 [vL A6 b5 c7], .dat (sliceRep strRep) a1 [vL A2 a1 c3]] ⟨hp8, hp4, trivial⟩
 refine enter Tryd.func8 rfl Tryd.ntmps8 rfl fun a hf => ?_
 unfold m_laws_eqStringS at h
 refine wp_seq ?_
 refine region_pl ?_
 refine q_ hf rfl rfl rfl (e_assign hf rfl) fun a hf => ?_
 refine pl_nil ?_
 refine then_n ?_
 iterate 2 refine wp_seq ?_
 refine region_pl ?_
 refine q_ hf rfl rfl rfl (e_move hf rfl) fun a hf => ?_
 have hl9 := slice_len (hM.dat (k := 1) rfl)
 refine q_ hf rfl rfl rfl (e_lenL hf (x := a1) rfl Tryd.underlying26) fun a hf => ?_
 refine q_ hf rfl rfl rfl (e_move hf rfl) fun a hf => ?_
 have hl10 := slice_len (hM.dat (k := 0) rfl)
 refine q_ hf rfl rfl rfl (e_lenL hf (x := b5) rfl Tryd.underlying26) fun a hf => ?_
 refine q_ hf rfl rfl rfl (e_ne hf (x := (a1.length : Int)) (y := (b5.length : Int)) rfl rfl) fun a hf => ?_
 refine pl_nil ?_
 refine then_n ?_
 rcases cond_some h with ⟨hc11, h⟩ | ⟨hc11, h⟩
 ·refine cond_t hf rfl hc11 ?_
  refine wp_seq ?_
  refine region_pl ?_
  refine q_ hf rfl rfl rfl (e_assign hf rfl) fun a hf => ?_
  refine pl_nil ?_
  refine then_n ?_
  refine wp_ret ?_
  refine then_r ?_
  obtain rfl := some_inj h
  exact leave1 hf rfl rfl ⟨rfl, hM.fin⟩
 refine cond_f hf rfl hc11 ?_
 refine wp_skip ?_
 refine then_n ?_
 obtain ⟨x12, h13, h⟩ := bind_some h
 refine seq_join (fun a w => (.inl ()) = x12 ∧ Has 26 a [] ∧ Mem C w [] [.dat (sliceRep strRep) b5 [vL A6 b5 c7], .dat (sliceRep strRep) a1 [vL A2 a1 c3]]) ?_ ?_
 ·refine wp_seq ?_
  refine region_pl ?_
  refine q_ hf rfl rfl rfl (e_assign hf rfl) fun a hf => ?_
  refine pl_nil ?_
  refine then_n ?_
  refine wp_block ?_
  obtain ⟨x17, h18, h13⟩ := bind_some h13
  refine wp_loopM h18 (fun s a w => ∃ (n14 : Int), n14 = s ∧ Has 26 a [(0, vL A2 (a1) c3), (1, vL A6 (b5) c7), (5, vI (n14))] ∧ Mem C w [] [.dat (sliceRep strRep) b5 [vL A6 b5 c7], .dat (sliceRep strRep) a1 [vL A2 a1 c3]] ∧ R64 n14) ?_ ?_
  ·exact ⟨0, rfl, hf.keep ⟨rfl, rfl, rfl, trivial⟩, hM.pick [0, 1] rfl, (R64_lit rfl)⟩
  rintro s o19 a w16 ⟨n14, rfl, hf, hM, hv15⟩ h20 hd21
  replace h20 : m_laws_eqStringS_l1 a1 b5 n14 = some o19 := h20
  unfold m_laws_eqStringS_l1 at h20
  iterate 2 refine wp_seq ?_
  refine region_pl ?_
  iterate 2 refine q_ hf rfl rfl rfl (e_move hf rfl) fun a hf => ?_
  have hl22 := slice_len (hM.dat (k := 1) rfl)
  refine q_ hf rfl rfl rfl (e_lenL hf (x := a1) rfl Tryd.underlying26) fun a hf => ?_
  refine q_ hf rfl rfl rfl (e_lt hf (x := n14) (y := (a1.length : Int)) rfl rfl) fun a hf => ?_
  refine pl_nil ?_
  refine then_n ?_
  rcases cond_some h20 with ⟨hc23, h20⟩ | ⟨hc23, h20⟩
  ·refine cond_t hf rfl hc23 ?_
   refine wp_skip ?_
   refine then_n ?_
   refine wp_seq ?_
   refine wp_block ?_
   refine wp_seq ?_
   obtain ⟨w24, hw⟩ : ∃ x, x = w16.drew := ⟨_, rfl⟩
   refine region_pi (.q 0 (.q 1 (.q 2 (.q 3 (.q 4 (.q 5 (.q 6 (.q 7 (.q 8 (.nil)))))))))) (Ext w24) rfl (by kernel_rfl) ?_
   have hM := hM.drew
   rw [← hw] at hM ⊢
   clear hw
   iterate 2 refine pi_q hf rfl rfl rfl rfl (Ext.refl _) (e_move hf rfl) fun a hf => ?_
   obtain ⟨e25, hz26, h20⟩ := bind_some h20
   obtain ⟨b30, o31, _, hA32, h27, h28, hr29, hM⟩ := hM.elem (hM.dat (k := 1) rfl) (n := 1) rfl hz26
   obtain ⟨rfl, hv33⟩ := hr29
   refine pi_q hf rfl rfl rfl rfl (Ext.refl _) (e_indexAddr (A := A2) (b := b30) (o := o31) (xs := a1) (i := n14) hf hA32 rfl rfl Tryd.underlying26 Tryd.sizeOf9 h27 h28) fun a hf => ?_
   refine pi_q hf rfl rfl rfl rfl (Ext.refl _) (e_load1 hf rfl Tryd.isAgg9 (hM.litCell (k := 0) (j := 0) rfl rfl rfl)) fun a hf => ?_
   iterate 2 refine pi_q hf rfl rfl rfl rfl (Ext.refl _) (e_move hf rfl) fun a hf => ?_
   obtain ⟨e34, hz35, h20⟩ := bind_some h20
   obtain ⟨b39, o40, _, hA41, h36, h37, hr38, hM⟩ := hM.elem (hM.dat (k := 1) rfl) (n := 1) rfl hz35
   obtain ⟨rfl, hv42⟩ := hr38
   refine pi_q hf rfl rfl rfl rfl (Ext.refl _) (e_indexAddr (A := A6) (b := b39) (o := o40) (xs := b5) (i := n14) hf hA41 rfl rfl Tryd.underlying26 Tryd.sizeOf9 h36 h37) fun a hf => ?_
   refine pi_q hf rfl rfl rfl rfl (Ext.refl _) (e_load1 hf rfl Tryd.isAgg9 (hM.litCell (k := 0) (j := 0) rfl rfl rfl)) fun a hf => ?_
   refine pi_q hf rfl rfl rfl rfl (Ext.refl _) (e_neS hf (x := e25) (y := e34) rfl rfl) fun a hf => ?_
   refine pi_nil ?_
   refine then_n ?_
   rcases cond_some h20 with ⟨hc43, h20⟩ | ⟨hc43, h20⟩
   ·refine cond_t hf rfl hc43 ?_
    refine wp_seq ?_
    refine region_pl ?_
    refine q_ hf rfl rfl rfl (e_assign hf rfl) fun a hf => ?_
    refine pl_nil ?_
    refine then_n ?_
    refine wp_ret ?_
    refine blk_r ?_
    refine then_r ?_
    obtain rfl := some_inj h20
    obtain rfl := hd21 _ rfl
    try dsimp only at h13
    refine then_r ?_
    refine blk_r ?_
    obtain rfl := some_inj h13
    try dsimp only at h
    refine then_r ?_
    obtain rfl := some_inj h
    exact leave1 hf rfl rfl ⟨rfl, hM.fin⟩
   refine cond_f hf rfl hc43 ?_
   refine wp_skip ?_
   refine blk_n ?_
   refine then_n ?_
   refine region_pl ?_
   refine q_ hf rfl rfl rfl (e_move hf rfl) fun a hf => ?_
   obtain ⟨z44, hz45, h20⟩ := bind_some h20
   refine q_ hf rfl rfl rfl (e_add hf rfl rfl hz45) fun a hf => ?_
   refine q_ hf rfl rfl rfl (e_assign hf rfl) fun a hf => ?_
   refine pl_nil ?_
   obtain rfl := some_inj h20
   refine then_n ⟨_, rfl, ?_⟩
   exact ⟨z44, rfl, hf.keep ⟨rfl, rfl, rfl, trivial⟩, hM.pick [2, 3] rfl, (chk_R hz45)⟩
  refine cond_f hf rfl hc23 ?_
  refine wp_exit ?_
  refine then_x ?_
  obtain rfl := some_inj h20
  obtain rfl := hd21 _ rfl
  try dsimp only at h13
  refine then_x ?_
  refine exit_hit ?_
  obtain rfl := some_inj h13
  refine then_n ?_
  exact ⟨rfl, hf.keep trivial, hM.pick [0, 1] rfl⟩
 rintro a w52 ⟨rfl, hf, hM⟩
 try dsimp only at h
 refine wp_seq ?_
 refine region_pl ?_
 refine q_ hf rfl rfl rfl (e_assign hf rfl) fun a hf => ?_
 refine pl_nil ?_
 refine then_n ?_
 refine wp_ret ?_
 obtain rfl := some_inj h
 exact leave1 hf rfl rfl ⟨rfl, hM.fin⟩

set_option maxRecDepth 100000 in
set_option maxHeartbeats 4000000 in
theorem r_laws_eqInt64S (C : Cx) (a1 : (List Int)) (A2 : Option Addr) (c3 : Nat) (hp4 : (sliceRep intRep).R C.w0 C.S0 a1 [vL A2 a1 c3]) (b5 : (List Int)) (A6 : Option Addr) (c7 : Nat) (hp8 : (sliceRep intRep).R C.w0 C.S0 b5 [vL A6 b5 c7]) (r : Bool) (h : m_laws_eqInt64S a1 b5 = some r) :
    Calls Tryd.prog 58 #[vL A2 (a1) c3, vL A6 (b5) c7] C.w0 fun e w => e = .returned (.bool (r)) ∧ Mem C w [] [] := by
 have hM := Mem.begin C [.dat (sliceRep intRep) b5 [vL A6 b5 c7], .dat (sliceRep intRep) a1 [vL A2 a1 c3]] ⟨hp8, hp4, trivial⟩
 refine enter Tryd.func58 rfl Tryd.ntmps58 rfl fun a hf => ?_
 unfold m_laws_eqInt64S at h
 refine wp_seq ?_
 refine region_pl ?_
 refine q_ hf rfl rfl rfl (e_assign hf rfl) fun a hf => ?_
 refine pl_nil ?_
 refine then_n ?_
 iterate 2 refine wp_seq ?_
 refine region_pl ?_
 refine q_ hf rfl rfl rfl (e_move hf rfl) fun a hf => ?_
 have hl9 := slice_len (hM.dat (k := 1) rfl)
 refine q_ hf rfl rfl rfl (e_lenL hf (x := a1) rfl Tryd.underlying52) fun a hf => ?_
 refine q_ hf rfl rfl rfl (e_move hf rfl) fun a hf => ?_
 have hl10 := slice_len (hM.dat (k := 0) rfl)
 refine q_ hf rfl rfl rfl (e_lenL hf (x := b5) rfl Tryd.underlying52) fun a hf => ?_
 refine q_ hf rfl rfl rfl (e_ne hf (x := (a1.length : Int)) (y := (b5.length : Int)) rfl rfl) fun a hf => ?_
 refine pl_nil ?_
 refine then_n ?_
 rcases cond_some h with ⟨hc11, h⟩ | ⟨hc11, h⟩
 ·refine cond_t hf rfl hc11 ?_
  refine wp_seq ?_
  refine region_pl ?_
  refine q_ hf rfl rfl rfl (e_assign hf rfl) fun a hf => ?_
  refine pl_nil ?_
  refine then_n ?_
  refine wp_ret ?_
  refine then_r ?_
  obtain rfl := some_inj h
  exact leave1 hf rfl rfl ⟨rfl, hM.fin⟩
 refine cond_f hf rfl hc11 ?_
 refine wp_skip ?_
 refine then_n ?_
 obtain ⟨x12, h13, h⟩ := bind_some h
 refine seq_join (fun a w => (.inl ()) = x12 ∧ Has 26 a [] ∧ Mem C w [] [.dat (sliceRep intRep) b5 [vL A6 b5 c7], .dat (sliceRep intRep) a1 [vL A2 a1 c3]]) ?_ ?_
 ·refine wp_seq ?_
  refine region_pl ?_
  refine q_ hf rfl rfl rfl (e_assign hf rfl) fun a hf => ?_
  refine pl_nil ?_
  refine then_n ?_
  refine wp_block ?_
  obtain ⟨x17, h18, h13⟩ := bind_some h13
  refine wp_loopM h18 (fun s a w => ∃ (n14 : Int), n14 = s ∧ Has 26 a [(0, vL A2 (a1) c3), (1, vL A6 (b5) c7), (5, vI (n14))] ∧ Mem C w [] [.dat (sliceRep intRep) b5 [vL A6 b5 c7], .dat (sliceRep intRep) a1 [vL A2 a1 c3]] ∧ R64 n14) ?_ ?_
  ·exact ⟨0, rfl, hf.keep ⟨rfl, rfl, rfl, trivial⟩, hM.pick [0, 1] rfl, (R64_lit rfl)⟩
  rintro s o19 a w16 ⟨n14, rfl, hf, hM, hv15⟩ h20 hd21
  replace h20 : m_laws_eqInt64S_l1 a1 b5 n14 = some o19 := h20
  unfold m_laws_eqInt64S_l1 at h20
  iterate 2 refine wp_seq ?_
  refine region_pl ?_
  iterate 2 refine q_ hf rfl rfl rfl (e_move hf rfl) fun a hf => ?_
  have hl22 := slice_len (hM.dat (k := 1) rfl)
  refine q_ hf rfl rfl rfl (e_lenL hf (x := a1) rfl Tryd.underlying52) fun a hf => ?_
  refine q_ hf rfl rfl rfl (e_lt hf (x := n14) (y := (a1.length : Int)) rfl rfl) fun a hf => ?_
  refine pl_nil ?_
  refine then_n ?_
  rcases cond_some h20 with ⟨hc23, h20⟩ | ⟨hc23, h20⟩
  ·refine cond_t hf rfl hc23 ?_
   refine wp_skip ?_
   refine then_n ?_
   refine wp_seq ?_
   refine wp_block ?_
   refine wp_seq ?_
   obtain ⟨w24, hw⟩ : ∃ x, x = w16.drew := ⟨_, rfl⟩
   refine region_pi (.q 0 (.q 1 (.q 2 (.q 3 (.q 4 (.q 5 (.q 6 (.q 7 (.q 8 (.nil)))))))))) (Ext w24) rfl (by kernel_rfl) ?_
   have hM := hM.drew
   rw [← hw] at hM ⊢
   clear hw
   iterate 2 refine pi_q hf rfl rfl rfl rfl (Ext.refl _) (e_move hf rfl) fun a hf => ?_
   obtain ⟨e25, hz26, h20⟩ := bind_some h20
   obtain ⟨b30, o31, _, hA32, h27, h28, hr29, hM⟩ := hM.elem (hM.dat (k := 1) rfl) (n := 1) rfl hz26
   obtain ⟨rfl, hv33⟩ := hr29
   refine pi_q hf rfl rfl rfl rfl (Ext.refl _) (e_indexAddr (A := A2) (b := b30) (o := o31) (xs := a1) (i := n14) hf hA32 rfl rfl Tryd.underlying52 Tryd.sizeOf2 h27 h28) fun a hf => ?_
   refine pi_q hf rfl rfl rfl rfl (Ext.refl _) (e_load1 hf rfl Tryd.isAgg2 (hM.litCell (k := 0) (j := 0) rfl rfl rfl)) fun a hf => ?_
   iterate 2 refine pi_q hf rfl rfl rfl rfl (Ext.refl _) (e_move hf rfl) fun a hf => ?_
   obtain ⟨e34, hz35, h20⟩ := bind_some h20
   obtain ⟨b39, o40, _, hA41, h36, h37, hr38, hM⟩ := hM.elem (hM.dat (k := 1) rfl) (n := 1) rfl hz35
   obtain ⟨rfl, hv42⟩ := hr38
   refine pi_q hf rfl rfl rfl rfl (Ext.refl _) (e_indexAddr (A := A6) (b := b39) (o := o40) (xs := b5) (i := n14) hf hA41 rfl rfl Tryd.underlying52 Tryd.sizeOf2 h36 h37) fun a hf => ?_
   refine pi_q hf rfl rfl rfl rfl (Ext.refl _) (e_load1 hf rfl Tryd.isAgg2 (hM.litCell (k := 0) (j := 0) rfl rfl rfl)) fun a hf => ?_
   refine pi_q hf rfl rfl rfl rfl (Ext.refl _) (e_ne hf (x := e25) (y := e34) rfl rfl) fun a hf => ?_
   refine pi_nil ?_
   refine then_n ?_
   rcases cond_some h20 with ⟨hc43, h20⟩ | ⟨hc43, h20⟩
   ·refine cond_t hf rfl hc43 ?_
    refine wp_seq ?_
    refine region_pl ?_
    refine q_ hf rfl rfl rfl (e_assign hf rfl) fun a hf => ?_
    refine pl_nil ?_
    refine then_n ?_
    refine wp_ret ?_
    refine blk_r ?_
    refine then_r ?_
    obtain rfl := some_inj h20
    obtain rfl := hd21 _ rfl
    try dsimp only at h13
    refine then_r ?_
    refine blk_r ?_
    obtain rfl := some_inj h13
    try dsimp only at h
    refine then_r ?_
    obtain rfl := some_inj h
    exact leave1 hf rfl rfl ⟨rfl, hM.fin⟩
   refine cond_f hf rfl hc43 ?_
   refine wp_skip ?_
   refine blk_n ?_
   refine then_n ?_
   refine region_pl ?_
   refine q_ hf rfl rfl rfl (e_move hf rfl) fun a hf => ?_
   obtain ⟨z44, hz45, h20⟩ := bind_some h20
   refine q_ hf rfl rfl rfl (e_add hf rfl rfl hz45) fun a hf => ?_
   refine q_ hf rfl rfl rfl (e_assign hf rfl) fun a hf => ?_
   refine pl_nil ?_
   obtain rfl := some_inj h20
   refine then_n ⟨_, rfl, ?_⟩
   exact ⟨z44, rfl, hf.keep ⟨rfl, rfl, rfl, trivial⟩, hM.pick [2, 3] rfl, (chk_R hz45)⟩
  refine cond_f hf rfl hc23 ?_
  refine wp_exit ?_
  refine then_x ?_
  obtain rfl := some_inj h20
  obtain rfl := hd21 _ rfl
  try dsimp only at h13
  refine then_x ?_
  refine exit_hit ?_
  obtain rfl := some_inj h13
  refine then_n ?_
  exact ⟨rfl, hf.keep trivial, hM.pick [0, 1] rfl⟩
 rintro a w52 ⟨rfl, hf, hM⟩
 try dsimp only at h
 refine wp_seq ?_
 refine region_pl ?_
 refine q_ hf rfl rfl rfl (e_assign hf rfl) fun a hf => ?_
 refine pl_nil ?_
 refine then_n ?_
 refine wp_ret ?_
 obtain rfl := some_inj h
 exact leave1 hf rfl rfl ⟨rfl, hM.fin⟩

set_option maxRecDepth 100000 in
set_option maxHeartbeats 4000000 in
theorem r_laws_eqNode (C : Cx) (a1 : Node) (hp2 : a1.Letters.length ≤ maxLen) (A3 : Option Addr) (c4 : Nat) (hp5 : (sliceRep intRep).R C.w0 C.S0 a1.Next [vL A3 a1.Next c4]) (b6 : Node) (hp7 : b6.Letters.length ≤ maxLen) (A8 : Option Addr) (c9 : Nat) (hp10 : (sliceRep intRep).R C.w0 C.S0 b6.Next [vL A8 b6.Next c9]) (r : Bool) (h : m_laws_eqNode a1 b6 = some r) :
    Calls Tryd.prog 38 #[.agg #[.bool (a1.Final), vS (a1.Letters), vL A3 (a1.Next) c4], .agg #[.bool (b6.Final), vS (b6.Letters), vL A8 (b6.Next) c9]] C.w0 fun e w => e = .returned (.bool (r)) ∧ Mem C w [] [] := by
 have hM := Mem.begin C [.dat (sliceRep intRep) b6.Next [vL A8 b6.Next c9], .dat (sliceRep intRep) a1.Next [vL A3 a1.Next c4]] ⟨hp10, hp5, trivial⟩
 refine enter Tryd.func38 rfl Tryd.ntmps38 rfl fun a hf => ?_
 unfold m_laws_eqNode at h
 refine wp_seq ?_
 refine region_pl ?_
 refine pl_l hf rfl rfl rfl (w_box hf hM (cs := [.bool (a1.Final), vS (a1.Letters), vL A3 (a1.Next) c4]) rfl rfl fun b11 w12 hx13 hM a hf => ?_)
 refine pl_l hf rfl rfl rfl (w_box hf hM (cs := [.bool (b6.Final), vS (b6.Letters), vL A8 (b6.Next) c9]) rfl rfl fun b15 w16 hx17 hM a hf => ?_)
 refine q_ hf rfl rfl rfl (e_assign hf rfl) fun a hf => ?_
 refine pl_nil ?_
 refine then_n ?_
 iterate 2 refine wp_seq ?_
 refine region_pl ?_
 refine q_ hf rfl rfl rfl (e_field hf rfl Tryd.underlying55 rfl Tryd.sizeOf4 (o' := 0) rfl) fun a hf => ?_
 refine q_ hf rfl rfl rfl (e_load1 hf rfl Tryd.isAgg4 (hM.boxCell (k := 1) rfl rfl)) fun a hf => ?_
 refine q_ hf rfl rfl rfl (e_field hf rfl Tryd.underlying55 rfl Tryd.sizeOf4 (o' := 0) rfl) fun a hf => ?_
 refine q_ hf rfl rfl rfl (e_load1 hf rfl Tryd.isAgg4 (hM.boxCell (k := 0) rfl rfl)) fun a hf => ?_
 refine q_ hf rfl rfl rfl (e_neT hf rfl rfl Tryd.underlying4) fun a hf => ?_
 refine pl_nil ?_
 refine then_n ?_
 rcases cond_some h with ⟨hc19, h⟩ | ⟨hc19, h⟩
 ·refine cond_t hf rfl hc19 ?_
  refine wp_seq ?_
  refine region_pl ?_
  refine q_ hf rfl rfl rfl (e_assign hf rfl) fun a hf => ?_
  refine pl_nil ?_
  refine then_n ?_
  refine wp_ret ?_
  refine then_r ?_
  obtain rfl := some_inj h
  have hM := hM.outs (own' := []) 0 rfl
  exact leave1 hf rfl rfl ⟨rfl, hM.fin⟩
 refine cond_f hf rfl hc19 ?_
 refine wp_skip ?_
 refine then_n ?_
 iterate 2 refine wp_seq ?_
 refine region_pl ?_
 refine q_ hf rfl rfl rfl (e_field hf rfl Tryd.underlying55 rfl Tryd.sizeOf9 (o' := 1) rfl) fun a hf => ?_
 refine q_ hf rfl rfl rfl (e_load1 hf rfl Tryd.isAgg9 (hM.boxCell (k := 1) rfl rfl)) fun a hf => ?_
 refine q_ hf rfl rfl rfl (e_field hf rfl Tryd.underlying55 rfl Tryd.sizeOf9 (o' := 1) rfl) fun a hf => ?_
 refine q_ hf rfl rfl rfl (e_load1 hf rfl Tryd.isAgg9 (hM.boxCell (k := 0) rfl rfl)) fun a hf => ?_
 refine q_ hf rfl rfl rfl (e_neS hf (x := a1.Letters) (y := b6.Letters) rfl rfl) fun a hf => ?_
 refine pl_nil ?_
 refine then_n ?_
 rcases cond_some h with ⟨hc20, h⟩ | ⟨hc20, h⟩
 ·refine cond_t hf rfl hc20 ?_
  refine wp_seq ?_
  refine region_pl ?_
  refine q_ hf rfl rfl rfl (e_assign hf rfl) fun a hf => ?_
  refine pl_nil ?_
  refine then_n ?_
  refine wp_ret ?_
  refine then_r ?_
  obtain rfl := some_inj h
  have hM := hM.outs (own' := []) 0 rfl
  exact leave1 hf rfl rfl ⟨rfl, hM.fin⟩
 refine cond_f hf rfl hc20 ?_
 refine wp_skip ?_
 refine then_n ?_
 iterate 2 refine wp_seq ?_
 refine region_pl ?_
 refine q_ hf rfl rfl rfl (e_field hf rfl Tryd.underlying55 rfl Tryd.sizeOf52 (o' := 2) rfl) fun a hf => ?_
 refine q_ hf rfl rfl rfl (e_load1 hf rfl Tryd.isAgg52 (hM.boxCell (k := 1) rfl rfl)) fun a hf => ?_
 refine q_ hf rfl rfl rfl (e_field hf rfl Tryd.underlying55 rfl Tryd.sizeOf52 (o' := 2) rfl) fun a hf => ?_
 refine q_ hf rfl rfl rfl (e_load1 hf rfl Tryd.isAgg52 (hM.boxCell (k := 0) rfl rfl)) fun a hf => ?_
 obtain ⟨y21, hz22, h⟩ := bind_some h
 refine pl_l hf rfl rfl rfl (w_call hf Tryd.call58 rfl (r_laws_eqInt64S ⟨_, Sh C _ _, none_, hM.sh_lt, none_not, C.G, hM.g_lt, g_none, hM.tabs⟩ a1.Next _ _ (hM.dat (k := 1) rfl) b6.Next _ _ (hM.dat (k := 0) rfl) _ hz22) ?_)
 rintro _ w23 ⟨rfl, hM2⟩
 obtain ⟨hM, hx24, hup25⟩ := hM.back hM2
 dsimp only [List.cons_append, List.nil_append] at hM hup25
 clear hM2
 refine ⟨_, rfl, fun a hf => ?_⟩
 refine q_ hf rfl rfl rfl (e_not hf rfl) fun a hf => ?_
 refine pl_nil ?_
 refine then_n ?_
 rcases cond_some h with ⟨hc26, h⟩ | ⟨hc26, h⟩
 ·refine cond_t hf rfl hc26 ?_
  refine wp_seq ?_
  refine region_pl ?_
  refine q_ hf rfl rfl rfl (e_assign hf rfl) fun a hf => ?_
  refine pl_nil ?_
  refine then_n ?_
  refine wp_ret ?_
  refine then_r ?_
  obtain rfl := some_inj h
  have hM := hM.outs (own' := []) 0 rfl
  exact leave1 hf rfl rfl ⟨rfl, hM.fin⟩
 refine cond_f hf rfl hc26 ?_
 refine wp_skip ?_
 refine then_n ?_
 refine wp_seq ?_
 refine region_pl ?_
 refine q_ hf rfl rfl rfl (e_assign hf rfl) fun a hf => ?_
 refine pl_nil ?_
 refine then_n ?_
 refine wp_ret ?_
 obtain rfl := some_inj h
 have hM := hM.outs (own' := []) 0 rfl
 exact leave1 hf rfl rfl ⟨rfl, hM.fin⟩

set_option maxRecDepth 100000 in
set_option maxHeartbeats 4000000 in
theorem r_laws_eqNodeS (C : Cx) (a1 : (List Node)) (A2 : Option Addr) (c3 : Nat) (hp4 : (sliceRep NodeRep).R C.w0 C.S0 a1 [vL A2 a1 c3]) (b5 : (List Node)) (A6 : Option Addr) (c7 : Nat) (hp8 : (sliceRep NodeRep).R C.w0 C.S0 b5 [vL A6 b5 c7]) (r : Bool) (h : m_laws_eqNodeS a1 b5 = some r) :
    Calls Tryd.prog 20 #[vL A2 (a1) c3, vL A6 (b5) c7] C.w0 fun e w => e = .returned (.bool (r)) ∧ Mem C w [] [] := by
 have hM := Mem.begin C [.dat (sliceRep NodeRep) b5 [vL A6 b5 c7], .dat (sliceRep NodeRep) a1 [vL A2 a1 c3]] ⟨hp8, hp4, trivial⟩
 refine enter Tryd.func20 rfl Tryd.ntmps20 rfl fun a hf => ?_
 unfold m_laws_eqNodeS at h
 refine wp_seq ?_
 refine region_pl ?_
 refine q_ hf rfl rfl rfl (e_assign hf rfl) fun a hf => ?_
 refine pl_nil ?_
 refine then_n ?_
 iterate 2 refine wp_seq ?_
 refine region_pl ?_
 refine q_ hf rfl rfl rfl (e_move hf rfl) fun a hf => ?_
 have hl9 := slice_len (hM.dat (k := 1) rfl)
 refine q_ hf rfl rfl rfl (e_lenL hf (x := a1) rfl Tryd.underlying29) fun a hf => ?_
 refine q_ hf rfl rfl rfl (e_move hf rfl) fun a hf => ?_
 have hl10 := slice_len (hM.dat (k := 0) rfl)
 refine q_ hf rfl rfl rfl (e_lenL hf (x := b5) rfl Tryd.underlying29) fun a hf => ?_
 refine q_ hf rfl rfl rfl (e_ne hf (x := (a1.length : Int)) (y := (b5.length : Int)) rfl rfl) fun a hf => ?_
 refine pl_nil ?_
 refine then_n ?_
 rcases cond_some h with ⟨hc11, h⟩ | ⟨hc11, h⟩
 ·refine cond_t hf rfl hc11 ?_
  refine wp_seq ?_
  refine region_pl ?_
  refine q_ hf rfl rfl rfl (e_assign hf rfl) fun a hf => ?_
  refine pl_nil ?_
  refine then_n ?_
  refine wp_ret ?_
  refine then_r ?_
  obtain rfl := some_inj h
  exact leave1 hf rfl rfl ⟨rfl, hM.fin⟩
 refine cond_f hf rfl hc11 ?_
 refine wp_skip ?_
 refine then_n ?_
 obtain ⟨x12, h13, h⟩ := bind_some h
 refine seq_join (fun a w => (.inl ()) = x12 ∧ Has 27 a [] ∧ Mem C w [] [.dat (sliceRep NodeRep) b5 [vL A6 b5 c7], .dat (sliceRep NodeRep) a1 [vL A2 a1 c3]]) ?_ ?_
 ·refine wp_seq ?_
  refine region_pl ?_
  refine q_ hf rfl rfl rfl (e_assign hf rfl) fun a hf => ?_
  refine pl_nil ?_
  refine then_n ?_
  refine wp_block ?_
  obtain ⟨x17, h18, h13⟩ := bind_some h13
  refine wp_loopM h18 (fun s a w => ∃ (n14 : Int), n14 = s ∧ Has 27 a [(0, vL A2 (a1) c3), (1, vL A6 (b5) c7), (5, vI (n14))] ∧ Mem C w [] [.dat (sliceRep NodeRep) b5 [vL A6 b5 c7], .dat (sliceRep NodeRep) a1 [vL A2 a1 c3]] ∧ R64 n14) ?_ ?_
  ·exact ⟨0, rfl, hf.keep ⟨rfl, rfl, rfl, trivial⟩, hM.pick [0, 1] rfl, (R64_lit rfl)⟩
  rintro s o19 a w16 ⟨n14, rfl, hf, hM, hv15⟩ h20 hd21
  replace h20 : m_laws_eqNodeS_l1 a1 b5 n14 = some o19 := h20
  unfold m_laws_eqNodeS_l1 at h20
  iterate 2 refine wp_seq ?_
  refine region_pl ?_
  iterate 2 refine q_ hf rfl rfl rfl (e_move hf rfl) fun a hf => ?_
  have hl22 := slice_len (hM.dat (k := 1) rfl)
  refine q_ hf rfl rfl rfl (e_lenL hf (x := a1) rfl Tryd.underlying29) fun a hf => ?_
  refine q_ hf rfl rfl rfl (e_lt hf (x := n14) (y := (a1.length : Int)) rfl rfl) fun a hf => ?_
  refine pl_nil ?_
  refine then_n ?_
  rcases cond_some h20 with ⟨hc23, h20⟩ | ⟨hc23, h20⟩
  ·refine cond_t hf rfl hc23 ?_
   refine wp_skip ?_
   refine then_n ?_
   refine wp_seq ?_
   refine wp_block ?_
   refine wp_seq ?_
   obtain ⟨w24, hw⟩ : ∃ x, x = w16.drew := ⟨_, rfl⟩
   refine region_pi (.q 0 (.q 1 (.q 2 (.q 3 (.q 4 (.q 5 (.q 6 (.q 7 (.l 8 (.q 9 (.nil))))))))))) (Ext w24) rfl (by kernel_rfl) ?_
   have hM := hM.drew
   rw [← hw] at hM ⊢
   clear hw
   iterate 2 refine pi_q hf rfl rfl rfl rfl (Ext.refl _) (e_move hf rfl) fun a hf => ?_
   obtain ⟨e25, hz26, h20⟩ := bind_some h20
   obtain ⟨b30, o31, _, hA32, h27, h28, hr29, hM⟩ := hM.elem (hM.dat (k := 1) rfl) (n := 3) rfl hz26
   obtain ⟨A34, c35, rfl, hv33, hv36⟩ := NodeRep_open hr29
   have hM := hM.add (y := .dat (sliceRep intRep) e25.Next [vL A34 e25.Next c35]) hv36
   refine pi_q hf rfl rfl rfl rfl (Ext.refl _) (e_indexAddr (A := A2) (b := b30) (o := o31) (xs := a1) (i := n14) hf hA32 rfl rfl Tryd.underlying29 Tryd.sizeOf55 h27 h28) fun a hf => ?_
   refine pi_q hf rfl rfl rfl rfl (Ext.refl _) (e_loadA hf (us := [.bool (e25.Final), vS (e25.Letters), vL A34 (e25.Next) c35]) rfl ⟨Tryd.isAgg55, Tryd.sizeOf55⟩ rfl (hM.litSub (k := 1) (d := 0) (us := [.bool (e25.Final), vS (e25.Letters), vL A34 (e25.Next) c35]) rfl rfl rfl)) fun a hf => ?_
   iterate 2 refine pi_q hf rfl rfl rfl rfl (Ext.refl _) (e_move hf rfl) fun a hf => ?_
   obtain ⟨e37, hz38, h20⟩ := bind_some h20
   obtain ⟨b42, o43, _, hA44, h39, h40, hr41, hM⟩ := hM.elem (hM.dat (k := 2) rfl) (n := 3) rfl hz38
   obtain ⟨A46, c47, rfl, hv45, hv48⟩ := NodeRep_open hr41
   have hM := hM.add (y := .dat (sliceRep intRep) e37.Next [vL A46 e37.Next c47]) hv48
   refine pi_q hf rfl rfl rfl rfl (Ext.refl _) (e_indexAddr (A := A6) (b := b42) (o := o43) (xs := b5) (i := n14) hf hA44 rfl rfl Tryd.underlying29 Tryd.sizeOf55 h39 h40) fun a hf => ?_
   refine pi_q hf rfl rfl rfl rfl (Ext.refl _) (e_loadA hf (us := [.bool (e37.Final), vS (e37.Letters), vL A46 (e37.Next) c47]) rfl ⟨Tryd.isAgg55, Tryd.sizeOf55⟩ rfl (hM.litSub (k := 1) (d := 0) (us := [.bool (e37.Final), vS (e37.Letters), vL A46 (e37.Next) c47]) rfl rfl rfl)) fun a hf => ?_
   refine pi_one ?_
   obtain ⟨y49, hz50, h20⟩ := bind_some h20
   refine pi_l hf rfl rfl rfl rfl (w_call hf Tryd.call38 rfl (r_laws_eqNode ⟨_, Sh C _ _, none_, hM.sh_lt, none_not, C.G, hM.g_lt, g_none, hM.tabs⟩ e25 hv33 _ _ (hM.dat (k := 2) rfl) e37 hv45 _ _ (hM.dat (k := 0) rfl) _ hz50) ?_)
   rintro _ w51 ⟨rfl, hM2⟩
   obtain ⟨hM, hx52, hup53⟩ := hM.back hM2
   dsimp only [List.cons_append, List.nil_append] at hM hup53
   clear hM2
   refine ⟨_, rfl, Ext w51, fun _ h => Ext.trans hx52 h, Ext.refl _, fun a hf => ?_⟩
   refine pi_q hf rfl rfl rfl rfl (Ext.refl _) (e_not hf rfl) fun a hf => ?_
   refine pi_nil ?_
   refine then_n ?_
   rcases cond_some h20 with ⟨hc54, h20⟩ | ⟨hc54, h20⟩
   ·refine cond_t hf rfl hc54 ?_
    refine wp_seq ?_
    refine region_pl ?_
    refine q_ hf rfl rfl rfl (e_assign hf rfl) fun a hf => ?_
    refine pl_nil ?_
    refine then_n ?_
    refine wp_ret ?_
    refine blk_r ?_
    refine then_r ?_
    obtain rfl := some_inj h20
    obtain rfl := hd21 _ rfl
    try dsimp only at h13
    refine then_r ?_
    refine blk_r ?_
    obtain rfl := some_inj h13
    try dsimp only at h
    refine then_r ?_
    obtain rfl := some_inj h
    exact leave1 hf rfl rfl ⟨rfl, hM.fin⟩
   refine cond_f hf rfl hc54 ?_
   refine wp_skip ?_
   refine blk_n ?_
   refine then_n ?_
   refine region_pl ?_
   refine q_ hf rfl rfl rfl (e_move hf rfl) fun a hf => ?_
   obtain ⟨z55, hz56, h20⟩ := bind_some h20
   refine q_ hf rfl rfl rfl (e_add hf rfl rfl hz56) fun a hf => ?_
   refine q_ hf rfl rfl rfl (e_assign hf rfl) fun a hf => ?_
   refine pl_nil ?_
   obtain rfl := some_inj h20
   refine then_n ⟨_, rfl, ?_⟩
   exact ⟨z55, rfl, hf.keep ⟨rfl, rfl, rfl, trivial⟩, hM.pick [4, 5] rfl, (chk_R hz56)⟩
  refine cond_f hf rfl hc23 ?_
  refine wp_exit ?_
  refine then_x ?_
  obtain rfl := some_inj h20
  obtain rfl := hd21 _ rfl
  try dsimp only at h13
  refine then_x ?_
  refine exit_hit ?_
  obtain rfl := some_inj h13
  refine then_n ?_
  exact ⟨rfl, hf.keep trivial, hM.pick [0, 1] rfl⟩
 rintro a w63 ⟨rfl, hf, hM⟩
 try dsimp only at h
 refine wp_seq ?_
 refine region_pl ?_
 refine q_ hf rfl rfl rfl (e_assign hf rfl) fun a hf => ?_
 refine pl_nil ?_
 refine then_n ?_
 refine wp_ret ?_
 obtain rfl := some_inj h
 exact leave1 hf rfl rfl ⟨rfl, hM.fin⟩

set_option maxRecDepth 100000 in
set_option maxHeartbeats 4000000 in
theorem r_laws_eqDawg (C : Cx) (a1 : Dawg) (A2 : Option Addr) (c3 : Nat) (hp4 : (sliceRep NodeRep).R C.w0 C.S0 a1.Nodes [vL A2 a1.Nodes c3]) (b5 : Dawg) (A6 : Option Addr) (c7 : Nat) (hp8 : (sliceRep NodeRep).R C.w0 C.S0 b5.Nodes [vL A6 b5.Nodes c7]) (r : Bool) (h : m_laws_eqDawg a1 b5 = some r) :
    Calls Tryd.prog 9 #[.agg #[vL A2 (a1.Nodes) c3], .agg #[vL A6 (b5.Nodes) c7]] C.w0 fun e w => e = .returned (.bool (r)) ∧ Mem C w [] [] := by
 have hM := Mem.begin C [.dat (sliceRep NodeRep) b5.Nodes [vL A6 b5.Nodes c7], .dat (sliceRep NodeRep) a1.Nodes [vL A2 a1.Nodes c3]] ⟨hp8, hp4, trivial⟩
 refine enter Tryd.func9 rfl Tryd.ntmps9 rfl fun a hf => ?_
 unfold m_laws_eqDawg at h
 refine wp_seq ?_
 refine region_pl ?_
 refine pl_l hf rfl rfl rfl (w_box hf hM (cs := [vL A2 (a1.Nodes) c3]) rfl rfl fun b9 w10 hx11 hM a hf => ?_)
 refine pl_l hf rfl rfl rfl (w_box hf hM (cs := [vL A6 (b5.Nodes) c7]) rfl rfl fun b13 w14 hx15 hM a hf => ?_)
 refine q_ hf rfl rfl rfl (e_assign hf rfl) fun a hf => ?_
 refine pl_nil ?_
 refine then_n ?_
 iterate 2 refine wp_seq ?_
 refine region_pl ?_
 refine q_ hf rfl rfl rfl (e_field hf rfl Tryd.underlying31 rfl Tryd.sizeOf29 (o' := 0) rfl) fun a hf => ?_
 refine q_ hf rfl rfl rfl (e_load1 hf rfl Tryd.isAgg29 (hM.boxCell (k := 1) rfl rfl)) fun a hf => ?_
 refine q_ hf rfl rfl rfl (e_field hf rfl Tryd.underlying31 rfl Tryd.sizeOf29 (o' := 0) rfl) fun a hf => ?_
 refine q_ hf rfl rfl rfl (e_load1 hf rfl Tryd.isAgg29 (hM.boxCell (k := 0) rfl rfl)) fun a hf => ?_
 obtain ⟨y17, hz18, h⟩ := bind_some h
 refine pl_l hf rfl rfl rfl (w_call hf Tryd.call20 rfl (r_laws_eqNodeS ⟨_, Sh C _ _, none_, hM.sh_lt, none_not, C.G, hM.g_lt, g_none, hM.tabs⟩ a1.Nodes _ _ (hM.dat (k := 1) rfl) b5.Nodes _ _ (hM.dat (k := 0) rfl) _ hz18) ?_)
 rintro _ w19 ⟨rfl, hM2⟩
 obtain ⟨hM, hx20, hup21⟩ := hM.back hM2
 dsimp only [List.cons_append, List.nil_append] at hM hup21
 clear hM2
 refine ⟨_, rfl, fun a hf => ?_⟩
 refine q_ hf rfl rfl rfl (e_not hf rfl) fun a hf => ?_
 refine pl_nil ?_
 refine then_n ?_
 rcases cond_some h with ⟨hc22, h⟩ | ⟨hc22, h⟩
 ·refine cond_t hf rfl hc22 ?_
  refine wp_seq ?_
  refine region_pl ?_
  refine q_ hf rfl rfl rfl (e_assign hf rfl) fun a hf => ?_
  refine pl_nil ?_
  refine then_n ?_
  refine wp_ret ?_
  refine then_r ?_
  obtain rfl := some_inj h
  have hM := hM.outs (own' := []) 0 rfl
  exact leave1 hf rfl rfl ⟨rfl, hM.fin⟩
 refine cond_f hf rfl hc22 ?_
 refine wp_skip ?_
 refine then_n ?_
 refine wp_seq ?_
 refine region_pl ?_
 refine q_ hf rfl rfl rfl (e_assign hf rfl) fun a hf => ?_
 refine pl_nil ?_
 refine then_n ?_
 refine wp_ret ?_
 obtain rfl := some_inj h
 have hM := hM.outs (own' := []) 0 rfl
 exact leave1 hf rfl rfl ⟨rfl, hM.fin⟩

set_option maxRecDepth 100000 in
set_option maxHeartbeats 4000000 in
theorem r_laws_markText (C : Cx) (k1 : Int) (hp2 : R64 k1) (r : Str) (h : m_laws_markText k1 = some r) :
    Calls Tryd.prog 22 #[vI (k1)] C.w0 fun e w => e = .returned (vS (r)) ∧ Mem C w [] [] ∧ r.length ≤ maxLen := by
 have hM := Mem.begin C [] trivial
 refine enter Tryd.func22 rfl Tryd.ntmps22 rfl fun a hf => ?_
 unfold m_laws_markText at h
 refine wp_seq ?_
 refine region_pl ?_
 refine q_ hf rfl rfl rfl (e_assign hf rfl) fun a hf => ?_
 refine pl_nil ?_
 refine then_n ?_
 iterate 2 refine wp_seq ?_
 refine region_pl ?_
 refine q_ hf rfl rfl rfl (e_move hf rfl) fun a hf => ?_
 refine q_ hf rfl rfl rfl (e_le hf (x := k1) (y := 0) rfl rfl) fun a hf => ?_
 refine pl_nil ?_
 refine then_n ?_
 rcases cond_some h with ⟨hc3, h⟩ | ⟨hc3, h⟩
 ·refine cond_t hf rfl hc3 ?_
  refine wp_seq ?_
  refine region_pl ?_
  refine q_ hf rfl rfl rfl (e_assign hf rfl) fun a hf => ?_
  refine pl_nil ?_
  refine then_n ?_
  refine wp_ret ?_
  refine then_r ?_
  obtain rfl := some_inj h
  exact leave1 hf rfl rfl ⟨rfl, hM.fin, (lit_len rfl)⟩
 refine cond_f hf rfl hc3 ?_
 refine wp_skip ?_
 refine then_n ?_
 refine wp_seq ?_
 refine region_pl ?_
 refine q_ hf rfl rfl rfl (e_assign hf rfl) fun a hf => ?_
 refine pl_nil ?_
 refine then_n ?_
 obtain ⟨x6, h7, h⟩ := bind_some h
 refine seq_join (fun a w => ∃ (s4 : Str), s4 = x6 ∧ Has 20 a [(3, vS (s4))] ∧ Mem C w [] [] ∧ s4.length ≤ maxLen) ?_ ?_
 ·refine wp_block ?_
  obtain ⟨x15, h16, h7⟩ := bind_some h7
  refine wp_loopM h16 (fun s a w => ∃ (k8 : Int) (s10 : Str), (k8, s10) = s ∧ Has 20 a [(0, vI (k8)), (3, vS (s10))] ∧ Mem C w [] [] ∧ R64 k8 ∧ s10.length ≤ maxLen) ?_ ?_
  ·exact ⟨k1, ([] : Str), rfl, hf.keep ⟨rfl, rfl, trivial⟩, hM.pick [] rfl, hp2, (lit_len rfl)⟩
  rintro s o17 a w12 ⟨k8, s10, rfl, hf, hM, hv9, hv11⟩ h18 hd19
  replace h18 : m_laws_markText_l1 k8 s10 = some o17 := h18
  unfold m_laws_markText_l1 at h18
  iterate 2 refine wp_seq ?_
  refine region_pl ?_
  refine q_ hf rfl rfl rfl (e_move hf rfl) fun a hf => ?_
  refine q_ hf rfl rfl rfl (e_gt hf (x := k8) (y := 0) rfl rfl) fun a hf => ?_
  refine pl_nil ?_
  refine then_n ?_
  rcases cond_some h18 with ⟨hc20, h18⟩ | ⟨hc20, h18⟩
  ·refine cond_t hf rfl hc20 ?_
   refine wp_skip ?_
   refine then_n ?_
   refine wp_block ?_
   refine wp_seq ?_
   refine region_pl ?_
   refine q_ hf rfl rfl rfl (e_move hf rfl) fun a hf => ?_
   obtain ⟨z21, hz22, h18⟩ := bind_some h18
   refine q_ hf rfl rfl rfl (e_rem hf rfl rfl hz22) fun a hf => ?_
   obtain ⟨z23, hz24, h18⟩ := bind_some h18
   refine q_ hf rfl rfl rfl (e_add hf rfl rfl hz24) fun a hf => ?_
   refine q_ hf rfl rfl rfl (e_convIB hf rfl Tryd.underlying3 Tryd.underlying5) fun a hf => ?_
   refine pl_l hf rfl rfl rfl (w_slice hf hM (K := byteRep) (xs := ([UInt8.ofNat (z23 % 256).toNat] : Str)) (os := [.tmp 11]) Tryd.underlying79 ei_5 rfl rfl rfl rfl rfl ⟨⟨[vB (UInt8.ofNat (z23 % 256).toNat)], rfl, rfl⟩, trivial⟩ rfl fun b25 w26 hx27 hM a hf => ?_)
   have hl28 := row_len (hM.ownAt (k := 0) rfl)
   refine q_ hf rfl rfl rfl (e_bytesStr hf (xs := ([UInt8.ofNat (z23 % 256).toNat] : Str)) rfl Tryd.underlying79 Tryd.underlying5 Tryd.underlying9 (hM.lendRow (k := 0) rfl)) fun a hf => ?_
   refine q_ hf rfl rfl rfl (e_move hf rfl) fun a hf => ?_
   obtain ⟨s29, hz30, h18⟩ := bind_some h18
   refine q_ hf rfl rfl rfl (e_cat hf (x := ([UInt8.ofNat (z23 % 256).toNat] : Str)) (y := s10) rfl rfl hz30) fun a hf => ?_
   refine q_ hf rfl rfl rfl (e_assign hf rfl) fun a hf => ?_
   refine pl_nil ?_
   refine then_n ?_
   refine region_pl ?_
   refine q_ hf rfl rfl rfl (e_move hf rfl) fun a hf => ?_
   obtain ⟨z31, hz32, h18⟩ := bind_some h18
   refine q_ hf rfl rfl rfl (e_quo hf rfl rfl hz32) fun a hf => ?_
   refine q_ hf rfl rfl rfl (e_assign hf rfl) fun a hf => ?_
   refine pl_nil ?_
   refine blk_n ?_
   obtain rfl := some_inj h18
   refine then_n ⟨_, rfl, ?_⟩
   exact ⟨z31, s29, rfl, hf.keep ⟨rfl, rfl, trivial⟩, (hM.drop (.cons _ .slnil)).pick [] rfl, (quoI_R hz32), (cat_len hz30)⟩
  refine cond_f hf rfl hc20 ?_
  refine wp_exit ?_
  refine then_x ?_
  obtain rfl := some_inj h18
  obtain rfl := hd19 _ rfl
  try dsimp only at h7
  refine then_x ?_
  refine exit_hit ?_
  obtain rfl := some_inj h7
  refine then_n ?_
  exact ⟨s10, rfl, hf.keep ⟨rfl, trivial⟩, hM.pick [] rfl, hv11⟩
 rintro a w38 ⟨s4, rfl, hf, hM, hv5⟩
 try dsimp only at h
 refine wp_seq ?_
 refine region_pl ?_
 refine q_ hf rfl rfl rfl (e_move hf rfl) fun a hf => ?_
 obtain ⟨s39, hz40, h⟩ := bind_some h
 refine q_ hf rfl rfl rfl (e_cat hf (x := ([109] : Str)) (y := s4) rfl rfl hz40) fun a hf => ?_
 refine q_ hf rfl rfl rfl (e_assign hf rfl) fun a hf => ?_
 refine pl_nil ?_
 refine then_n ?_
 refine wp_ret ?_
 obtain rfl := some_inj h
 exact leave1 hf rfl rfl ⟨rfl, hM.fin, (cat_len hz40)⟩

set_option maxRecDepth 100000 in
set_option maxHeartbeats 4000000 in
theorem r_laws_markInt64S (C : Cx) (a1 : (List Int)) (A2 : Option Addr) (c3 : Nat) (k4 : Int) (hp5 : R64 k4) (hO : Mem C C.w0 [.row intRep A2 c3 2 a1 true] []) (hd : ∀ b, C.S0 b → ¬ ownB [.row intRep A2 c3 2 a1 true] b) (r : (Int × (List Int))) (h : m_laws_markInt64S a1 k4 = some r) :
    Calls Tryd.prog 39 #[vL A2 (a1) c3, vI (k4)] C.w0 fun e w => e = .returned (vI (r.1)) ∧ Mem C w [.row intRep A2 c3 2 r.2 true] [] ∧ r.2.length = a1.length ∧ R64 r.1 := by
 have hM := hO
 refine enter Tryd.func39 rfl Tryd.ntmps39 rfl fun a hf => ?_
 unfold m_laws_markInt64S at h
 refine wp_seq ?_
 refine region_pl ?_
 refine q_ hf rfl rfl rfl (e_assign hf rfl) fun a hf => ?_
 refine pl_nil ?_
 refine then_n ?_
 obtain ⟨x10, h11, h⟩ := bind_some h
 refine seq_join (fun a w => ∃ (xs6 : (List Int)) (k8 : Int), (xs6, k8) = x10 ∧ Has 19 a [(1, vI (k8))] ∧ Mem C w [.row intRep A2 c3 2 xs6 true] [] ∧ xs6.length = a1.length ∧ R64 k8) ?_ ?_
 ·refine wp_seq ?_
  refine region_pl ?_
  refine q_ hf rfl rfl rfl (e_assign hf rfl) fun a hf => ?_
  refine pl_nil ?_
  refine then_n ?_
  refine wp_block ?_
  obtain ⟨x23, h24, h11⟩ := bind_some h11
  refine wp_loopM h24 (fun s a w => ∃ (xs12 : (List Int)) (k14 : Int) (n16 : Int), (xs12, k14, n16) = s ∧ Has 19 a [(0, vL A2 (xs12) c3), (1, vI (k14)), (5, vI (n16))] ∧ Mem C w [.row intRep A2 c3 2 xs12 true] [] ∧ xs12.length = a1.length ∧ R64 k14 ∧ R64 n16) ?_ ?_
  ·exact ⟨a1, k4, 0, rfl, hf.keep ⟨rfl, rfl, rfl, trivial⟩, hM.pick [] rfl, rfl, hp5, (R64_lit rfl)⟩
  rintro s o25 a w18 ⟨xs12, k14, n16, rfl, hf, hM, hl13, hv15, hv17⟩ h26 hd27
  replace h26 : m_laws_markInt64S_l1 xs12 k14 n16 = some o25 := h26
  unfold m_laws_markInt64S_l1 at h26
  iterate 2 refine wp_seq ?_
  refine region_pl ?_
  iterate 2 refine q_ hf rfl rfl rfl (e_move hf rfl) fun a hf => ?_
  have hl28 := row_len (hM.ownAt (k := 0) rfl)
  refine q_ hf rfl rfl rfl (e_lenL hf (x := xs12) rfl Tryd.underlying52) fun a hf => ?_
  refine q_ hf rfl rfl rfl (e_lt hf (x := n16) (y := (xs12.length : Int)) rfl rfl) fun a hf => ?_
  refine pl_nil ?_
  refine then_n ?_
  rcases cond_some h26 with ⟨hc29, h26⟩ | ⟨hc29, h26⟩
  ·refine cond_t hf rfl hc29 ?_
   refine wp_skip ?_
   refine then_n ?_
   refine wp_seq ?_
   refine wp_block ?_
   refine wp_seq ?_
   refine region_pl ?_
   iterate 3 refine q_ hf rfl rfl rfl (e_move hf rfl) fun a hf => ?_
   obtain ⟨e30, hz31, h26⟩ := bind_some h26
   obtain ⟨b36, _, hA37, h32, h33, hr34, hcell35⟩ := hM.rowElemN (k := 0) rfl (n := 1) rfl hz31
   obtain ⟨rfl, hv38⟩ := hr34
   refine q_ hf rfl rfl rfl (e_indexAddr (A := A2) (b := b36) (o := 0) (xs := xs12) (i := n16) hf hA37 rfl rfl Tryd.underlying52 Tryd.sizeOf2 h32 h33) fun a hf => ?_
   obtain ⟨xs40, hz41, h26⟩ := bind_some h26
   refine pl_0 hf rfl rfl (w_storeElem hf hM (x := k14) (row := [vI (k14)]) (i := n16) rfl rfl rfl hA37 (k := 0) rfl rfl Tryd.sizeOf2 ⟨rfl, hv15⟩ hz41 fun w39 hM => ?_)
   dsimp only [List.set] at hM
   have hf := hf.alter (d := 0) (v := vL A2 (xs40) c3) rfl (vL_len (setL_len hz41))
   have hf := hf.alter (d := 7) (v := vL A2 (xs40) c3) rfl (vL_len (setL_len hz41))
   have hf := hf.alter (d := 12) (v := vL A2 (xs40) c3) rfl (vL_len (setL_len hz41))
   refine pl_nil ?_
   refine then_n ?_
   refine region_pl ?_
   refine q_ hf rfl rfl rfl (e_move hf rfl) fun a hf => ?_
   obtain ⟨z42, hz43, h26⟩ := bind_some h26
   refine q_ hf rfl rfl rfl (e_add hf rfl rfl hz43) fun a hf => ?_
   refine q_ hf rfl rfl rfl (e_assign hf rfl) fun a hf => ?_
   refine pl_nil ?_
   refine blk_n ?_
   refine then_n ?_
   refine region_pl ?_
   refine q_ hf rfl rfl rfl (e_move hf rfl) fun a hf => ?_
   obtain ⟨z44, hz45, h26⟩ := bind_some h26
   refine q_ hf rfl rfl rfl (e_add hf rfl rfl hz45) fun a hf => ?_
   refine q_ hf rfl rfl rfl (e_assign hf rfl) fun a hf => ?_
   refine pl_nil ?_
   obtain rfl := some_inj h26
   refine then_n ⟨_, rfl, ?_⟩
   exact ⟨xs40, z42, z44, rfl, hf.keep ⟨rfl, rfl, rfl, trivial⟩, hM.pick [] rfl, ((setL_len hz41).trans hl13), (chk_R hz43), (chk_R hz45)⟩
  refine cond_f hf rfl hc29 ?_
  refine wp_exit ?_
  refine then_x ?_
  obtain rfl := some_inj h26
  obtain rfl := hd27 _ rfl
  try dsimp only at h11
  refine then_x ?_
  refine exit_hit ?_
  obtain rfl := some_inj h11
  refine then_n ?_
  exact ⟨xs12, k14, rfl, hf.keep ⟨rfl, trivial⟩, hM.pick [] rfl, hl13, hv15⟩
 rintro a w51 ⟨xs6, k8, rfl, hf, hM, hl7, hv9⟩
 try dsimp only at h
 refine wp_seq ?_
 refine region_pl ?_
 refine q_ hf rfl rfl rfl (e_move hf rfl) fun a hf => ?_
 refine q_ hf rfl rfl rfl (e_assign hf rfl) fun a hf => ?_
 refine pl_nil ?_
 refine then_n ?_
 refine wp_ret ?_
 obtain rfl := some_inj h
 exact leave1 hf rfl rfl ⟨rfl, hM.fin, hl7, hv9⟩

set_option maxRecDepth 100000 in
set_option maxHeartbeats 4000000 in
theorem r_laws_markNodeS (C : Cx) (a1 : (List Node)) (A2 : Option Addr) (c3 : Nat) (ws0 : List NodeW) (hw0 : ws0.map NodeW.to = a1) (k4 : Int) (hp5 : R64 k4) (hO : Mem C C.w0 ((nestW A2 c3 55 2 ws0)) []) (hd : ∀ b, C.S0 b → ¬ ownB ((nestW A2 c3 55 2 ws0)) b) (r : (Int × (List Node))) (h : m_laws_markNodeS a1 k4 = some r) :
    Calls Tryd.prog 21 #[vL A2 (a1) c3, vI (k4)] C.w0 fun e w => ∃ (ws_1 : List NodeW), e = .returned (vI (r.1)) ∧ Mem C w ((nestW A2 c3 55 2 ws_1)) [] ∧ ws_1.map NodeW.to = r.2 ∧ r.2.length = a1.length ∧ R64 r.1 := by
 have hM : Mem C C.w0 (.row NodeWRep A2 c3 55 ws0 true :: nestO 2 ws0) [] := hO
 refine enter Tryd.func21 rfl Tryd.ntmps21 rfl fun a hf => ?_
 unfold m_laws_markNodeS at h
 refine wp_seq ?_
 refine region_pl ?_
 refine q_ hf rfl rfl rfl (e_assign hf rfl) fun a hf => ?_
 refine pl_nil ?_
 refine then_n ?_
 obtain ⟨x10, h11, h⟩ := bind_some h
 refine seq_join (fun a w => ∃ (xs6 : (List Node)) (ws : List NodeW) (k8 : Int), (xs6, k8) = x10 ∧ ws.map NodeW.to = xs6 ∧ Has 37 a [(1, vI (k8))] ∧ Mem C w (.row NodeWRep A2 c3 55 ws true :: nestO 2 ws) [] ∧ xs6.length = a1.length ∧ R64 k8) ?_ ?_
 ·refine wp_seq ?_
  refine region_pl ?_
  refine q_ hf rfl rfl rfl (e_assign hf rfl) fun a hf => ?_
  refine pl_nil ?_
  refine then_n ?_
  refine wp_block ?_
  refine wp_loopM h11 (fun s a w => ∃ (xs12 : (List Node)) (ws : List NodeW) (k14 : Int) (n16 : Int), (xs12, k14, n16) = s ∧ ws.map NodeW.to = xs12 ∧ Has 37 a [(0, vL A2 (xs12) c3), (1, vI (k14)), (5, vI (n16))] ∧ Mem C w (.row NodeWRep A2 c3 55 ws true :: nestO 2 ws) [] ∧ xs12.length = a1.length ∧ R64 k14 ∧ R64 n16) ?_ ?_
  ·exact ⟨a1, ws0, k4, 0, rfl, hw0, hf.keep ⟨rfl, rfl, rfl, trivial⟩, hM.pick [] rfl, rfl, hp5, (R64_lit rfl)⟩
  rintro s o25 a w18 ⟨xs12, ws, k14, n16, rfl, hw, hf, hM, hl13, hv15, hv17⟩ h26 hd27
  replace h26 : m_laws_markNodeS_l1 xs12 k14 n16 = some o25 := h26
  unfold m_laws_markNodeS_l1 at h26
  have hlx : ws.length = xs12.length := by rw [← hw, List.length_map]
  iterate 2 refine wp_seq ?_
  refine region_pl ?_
  iterate 2 refine q_ hf rfl rfl rfl (e_move hf rfl) fun a hf => ?_
  have hl28 := row_len (hM.ownAt (k := 0) rfl)
  rw [hlx] at hl28
  refine q_ hf rfl rfl rfl (e_lenL hf (x := xs12) rfl Tryd.underlying29) fun a hf => ?_
  refine q_ hf rfl rfl rfl (e_lt hf (x := n16) (y := (xs12.length : Int)) rfl rfl) fun a hf => ?_
  refine pl_nil ?_
  refine then_n ?_
  rcases cond_some h26 with ⟨hc29, h26⟩ | ⟨hc29, h26⟩
  ·refine cond_t hf rfl hc29 ?_
   refine wp_skip ?_
   refine then_n ?_
   refine wp_seq ?_
   refine wp_block ?_
   refine wp_seq ?_
   refine region_pl ?_
   iterate 3 refine q_ hf rfl rfl rfl (e_move hf rfl) fun a hf => ?_
   obtain ⟨z, hz, h26⟩ := bind_some h26
   refine q_ hf rfl rfl rfl (e_rem hf rfl rfl hz) fun a hf => ?_
   refine q_ hf rfl rfl rfl (e_eq hf (x := z) (y := 0) rfl rfl) fun a hf => ?_
   obtain ⟨e30, hz31, h26⟩ := bind_some h26
   obtain ⟨A35, c36, hzx⟩ := nest_get hw hz31
   obtain ⟨b37, _, hA38, h32, h33, hr34, hcell35⟩ := hM.rowElemN (k := 0) rfl (n := 3) rfl hzx
   obtain ⟨rfl, hv39⟩ := hr34
   refine q_ hf rfl rfl rfl (e_indexAddr (A := A2) (b := b37) (o := 0) (xs := xs12) (i := n16) hf hA38 rfl rfl Tryd.underlying29 Tryd.sizeOf55 h32 (by rw [← hlx]; exact h33)) fun a hf => ?_
   refine q_ hf rfl rfl rfl (e_field hf rfl Tryd.underlying55 rfl Tryd.sizeOf4 (o' := (0 + (n16 : Int).toNat * 3) + 0) rfl) fun a hf => ?_
   obtain ⟨xs1, hz1, h26⟩ := bind_some h26
   refine pl_0 hf rfl rfl (w_storePart hf hM (K := NodeWRep) (x := (⟨z == 0, e30.Letters, A35, c36, e30.Next⟩ : NodeW)) (us := [.bool (z == 0)]) (row := [.bool (e30.Final), vS (e30.Letters), vL A35 (e30.Next) c36]) (i := n16) (d := 0) rfl rfl rfl hA38 (k := 0) rfl rfl Tryd.sizeOf4 hcell35 ⟨rfl, hv39⟩ (setL_nest hzx) rfl rfl fun w40 hM => ?_)
   have hM : Mem C w40 (.row NodeWRep A2 c3 55 (ws.set n16.toNat ⟨z == 0, e30.Letters, A35, c36, e30.Next⟩) true :: nestO 2 ws) _ := hM
   rw [← nest_keep (E := 2) (y := (⟨z == 0, e30.Letters, A35, c36, e30.Next⟩ : NodeW)) hzx rfl rfl rfl] at hM
   have hw1 := nest_to hw hz1 (y := (⟨z == 0, e30.Letters, A35, c36, e30.Next⟩ : NodeW)) rfl
   generalize hws1 : ws.set n16.toNat (⟨z == 0, e30.Letters, A35, c36, e30.Next⟩ : NodeW) = ws1 at hM hw1
   have hl1 : xs1.length = xs12.length := setL_len hz1
   have hlx1 : ws1.length = xs1.length := by rw [← hw1, List.length_map]
   have hf := hf.alter (d := 0) (v := vL A2 (xs1) c3) rfl (vL_len (setL_len hz1))
   refine pl_nil ?_
   refine then_n ?_
   refine wp_seq ?_
   refine region_pl ?_
   refine q_ hf rfl rfl rfl (e_move hf rfl) fun a hf => ?_
   obtain ⟨k1, hk1, h26⟩ := bind_some h26
   refine q_ hf rfl rfl rfl (e_add hf rfl rfl hk1) fun a hf => ?_
   refine q_ hf rfl rfl rfl (e_assign hf rfl) fun a hf => ?_
   refine pl_nil ?_
   refine then_n ?_
   refine wp_seq ?_
   refine region_pl ?_
   iterate 3 refine q_ hf rfl rfl rfl (e_move hf rfl) fun a hf => ?_
   obtain ⟨t108, hz109, h26⟩ := bind_some h26
   refine pl_l hf rfl rfl rfl (w_call hf Tryd.call22 rfl (r_laws_markText ⟨_, Sh C _ _, none_, hM.sh_lt, none_not, C.G, hM.g_lt, g_none, hM.tabs⟩ k1 (chk_R hk1) _ hz109) ?_)
   rintro _ w111 ⟨rfl, hM2, hv110⟩
   obtain ⟨hM, hx112, hup113⟩ := hM.back hM2
   dsimp only [List.cons_append, List.nil_append] at hM hup113
   clear hM2
   refine ⟨_, rfl, fun a hf => ?_⟩
   obtain ⟨e50, hz51, h26⟩ := bind_some h26
   obtain ⟨A55, c56, hzx1⟩ := nest_get hw1 hz51
   obtain ⟨b57, _, hA58, h52, h53, hr54, hcell55⟩ := hM.rowElemN (k := 0) rfl (n := 3) rfl hzx1
   obtain ⟨rfl, hv59⟩ := hr54
   refine q_ hf rfl rfl rfl (e_indexAddr (A := A2) (b := b57) (o := 0) (xs := xs1) (i := n16) hf hA58 rfl rfl Tryd.underlying29 Tryd.sizeOf55 h52 (by rw [← hlx1]; exact h53)) fun a hf => ?_
   refine q_ hf rfl rfl rfl (e_field hf rfl Tryd.underlying55 rfl Tryd.sizeOf9 (o' := (0 + (n16 : Int).toNat * 3) + 1) rfl) fun a hf => ?_
   obtain ⟨xs2, hz2, h26⟩ := bind_some h26
   refine pl_0 hf rfl rfl (w_storePart hf hM (K := NodeWRep) (x := (⟨e50.Final, t108, A55, c56, e50.Next⟩ : NodeW)) (us := [vS (t108)]) (row := [.bool (e50.Final), vS (e50.Letters), vL A55 (e50.Next) c56]) (i := n16) (d := 1) rfl rfl rfl hA58 (k := 0) rfl rfl Tryd.sizeOf9 hcell55 ⟨rfl, hv110⟩ (setL_nest hzx1) rfl rfl fun w60 hM => ?_)
   have hM : Mem C w60 (.row NodeWRep A2 c3 55 (ws1.set n16.toNat ⟨e50.Final, t108, A55, c56, e50.Next⟩) true :: nestO 2 ws1) _ := hM
   rw [← nest_keep (E := 2) (y := (⟨e50.Final, t108, A55, c56, e50.Next⟩ : NodeW)) hzx1 rfl rfl rfl] at hM
   have hw2 := nest_to hw1 hz2 (y := (⟨e50.Final, t108, A55, c56, e50.Next⟩ : NodeW)) rfl
   generalize hws2 : ws1.set n16.toNat (⟨e50.Final, t108, A55, c56, e50.Next⟩ : NodeW) = ws2 at hM hw2
   have hl2 : xs2.length = xs1.length := setL_len hz2
   have hlx2 : ws2.length = xs2.length := by rw [← hw2, List.length_map]
   have hf := hf.alter (d := 0) (v := vL A2 (xs2) c3) rfl (vL_len (setL_len hz2))
   refine pl_nil ?_
   refine then_n ?_
   refine wp_seq ?_
   refine region_pl ?_
   refine q_ hf rfl rfl rfl (e_move hf rfl) fun a hf => ?_
   obtain ⟨k2, hk2, h26⟩ := bind_some h26
   refine q_ hf rfl rfl rfl (e_add hf rfl rfl hk2) fun a hf => ?_
   refine q_ hf rfl rfl rfl (e_assign hf rfl) fun a hf => ?_
   refine pl_nil ?_
   refine then_n ?_
   refine region_pl ?_
   iterate 2 refine q_ hf rfl rfl rfl (e_move hf rfl) fun a hf => ?_
   obtain ⟨e70, hz71, h26⟩ := bind_some h26
   obtain ⟨A75, c76, hzx2⟩ := nest_get hw2 hz71
   obtain ⟨b77, _, hA78, h72, h73, hr74, hcell75⟩ := hM.rowElemN (k := 0) rfl (n := 3) rfl hzx2
   obtain ⟨rfl, hv79⟩ := hr74
   refine q_ hf rfl rfl rfl (e_indexAddr (A := A2) (b := b77) (o := 0) (xs := xs2) (i := n16) hf hA78 rfl rfl Tryd.underlying29 Tryd.sizeOf55 h72 (by rw [← hlx2]; exact h73)) fun a hf => ?_
   refine q_ hf rfl rfl rfl (e_field hf rfl Tryd.underlying55 rfl Tryd.sizeOf52 (o' := (0 + (n16 : Int).toNat * 3) + 2) rfl) fun a hf => ?_
   refine q_ hf rfl rfl rfl (e_load1 hf rfl Tryd.isAgg52 (hcell75 2 _ rfl)) fun a hf => ?_
   refine q_ hf rfl rfl rfl (e_move hf rfl) fun a hf => ?_
   have hat := nest_at 2 [Own.row NodeWRep A2 c3 55 ws2 true] hzx2
   have hkl : 1 + n16.toNat < ([Own.row NodeWRep A2 c3 55 ws2 true] ++ nestO 2 ws2).length := (List.getElem?_eq_some_iff.1 hat).1
   have hM : Mem C w60 ([Own.row NodeWRep A2 c3 55 ws2 true] ++ nestO 2 ws2) _ := hM
   have hM := hM.front (k := 1 + n16.toNat) hat
   have hM : Mem C w60 ([Own.row intRep A75 c76 2 e70.Next true] ++ ([Own.row NodeWRep A2 c3 55 ws2 true] ++ nestO 2 ws2).eraseIdx (1 + n16.toNat)) _ := hM
   obtain ⟨y80, hz81, h26⟩ := bind_some h26
   refine pl_l hf rfl rfl rfl (w_call hf Tryd.call39 rfl (r_laws_markInt64S ⟨_, Sh C _ _, ownB _, hM.sh_lt, sub_dis, C.G, hM.g_lt, hM.g_own, hM.tabs⟩ e70.Next _ _ k2 (chk_R hk2) hM.sub sub_dis _ hz81) ?_)
   rintro _ w82 ⟨rfl, hM2, hl83, hv84⟩
   obtain ⟨hM, hup85⟩ := hM.backG hM2
   clear hM2
   have hM := Mem.backAt (own := [Own.row NodeWRep A2 c3 55 ws2 true] ++ nestO 2 ws2) (k := 1 + n16.toNat) (y := .row intRep A75 c76 2 y80.2 true) hkl hM
   have hM : Mem C w82 ([Own.row NodeWRep A2 c3 55 ws2 true] ++ nestO 2 (ws2.set n16.toNat ⟨e70.Final, e70.Letters, A75, c76, y80.2⟩)) _ := (nest_set 2 [Own.row NodeWRep A2 c3 55 ws2 true] (ws := ws2) (i := n16) (⟨e70.Final, e70.Letters, A75, c76, y80.2⟩ : NodeW)) ▸ hM
   have hM := Mem.rerow (y := (⟨e70.Final, e70.Letters, A75, c76, y80.2⟩ : NodeW)) (own := nestO 2 (ws2.set n16.toNat ⟨e70.Final, e70.Letters, A75, c76, y80.2⟩)) hM hzx2 rfl rfl rfl rfl hl83
   refine ⟨_, rfl, fun a hf => ?_⟩
   refine q_ hf rfl rfl rfl (e_assign hf rfl) fun a hf => ?_
   refine pl_nil ?_
   refine blk_n ?_
   refine then_n ?_
   refine region_pl ?_
   refine q_ hf rfl rfl rfl (e_move hf rfl) fun a hf => ?_
   obtain ⟨xs3, hz3, h26⟩ := bind_some h26
   have hf := hf.alter (d := 0) (v := vL A2 (xs3) c3) rfl (vL_len (setL_len hz3))
   obtain ⟨z44, hz45, h26⟩ := bind_some h26
   refine q_ hf rfl rfl rfl (e_add hf rfl rfl hz45) fun a hf => ?_
   refine q_ hf rfl rfl rfl (e_assign hf rfl) fun a hf => ?_
   refine pl_nil ?_
   obtain rfl := some_inj h26
   refine then_n ⟨_, rfl, ?_⟩
   exact ⟨xs3, _, y80.1, z44, rfl, nest_to hw2 hz3 rfl, hf.keep ⟨rfl, rfl, rfl, trivial⟩, hM.pick [] rfl, (((setL_len hz3).trans hl2).trans hl1).trans hl13, hv84, (chk_R hz45)⟩
  refine cond_f hf rfl hc29 ?_
  refine wp_exit ?_
  refine then_x ?_
  obtain rfl := some_inj h26
  obtain rfl := hd27 _ rfl
  refine then_x ?_
  refine exit_hit ?_
  refine then_n ?_
  exact ⟨xs12, ws, k14, rfl, hw, hf.keep ⟨rfl, trivial⟩, hM.pick [] rfl, hl13, hv15⟩
 rintro a w51 ⟨xs6, ws, k8, rfl, hw6, hf, hM, hl7, hv9⟩
 try dsimp only at h
 refine wp_seq ?_
 refine region_pl ?_
 refine q_ hf rfl rfl rfl (e_move hf rfl) fun a hf => ?_
 refine q_ hf rfl rfl rfl (e_assign hf rfl) fun a hf => ?_
 refine pl_nil ?_
 refine then_n ?_
 refine wp_ret ?_
 obtain rfl := some_inj h
 exact leave1 hf rfl rfl ⟨ws, rfl, hM.fin, hw6, hl7, hv9⟩

set_option maxRecDepth 100000 in
set_option maxHeartbeats 4000000 in
theorem r_laws_markDawg (C : Cx) (a1 : Dawg) (A2 : Option Addr) (c3 : Nat) (ws0 : List NodeW) (hw0 : ws0.map NodeW.to = a1.Nodes) (k4 : Int) (hp5 : R64 k4) (hO : Mem C C.w0 ((nestW A2 c3 55 2 ws0)) []) (hd : ∀ b, C.S0 b → ¬ ownB ((nestW A2 c3 55 2 ws0)) b) (r : (Int × (List Node))) (h : m_laws_markDawg a1 k4 = some r) :
    Calls Tryd.prog 10 #[.agg #[vL A2 (a1.Nodes) c3], vI (k4)] C.w0 fun e w => ∃ (ws_1 : List NodeW), e = .returned (vI (r.1)) ∧ Mem C w ((nestW A2 c3 55 2 ws_1)) [] ∧ ws_1.map NodeW.to = r.2 ∧ r.2.length = a1.Nodes.length ∧ R64 r.1 := by
 have hM := hO
 refine enter Tryd.func10 rfl Tryd.ntmps10 rfl fun a hf => ?_
 unfold m_laws_markDawg at h
 refine wp_seq ?_
 refine region_pl ?_
 refine pl_l hf rfl rfl rfl (w_box hf hM (cs := [vL A2 (a1.Nodes) c3]) rfl rfl fun b6 w7 hx8 hM a hf => ?_)
 refine q_ hf rfl rfl rfl (e_assign hf rfl) fun a hf => ?_
 refine pl_nil ?_
 refine then_n ?_
 refine wp_seq ?_
 refine region_pl ?_
 refine q_ hf rfl rfl rfl (e_field hf rfl Tryd.underlying31 rfl Tryd.sizeOf29 (o' := 0) rfl) fun a hf => ?_
 refine q_ hf rfl rfl rfl (e_load1 hf rfl Tryd.isAgg29 (hM.boxCell (k := 0) rfl rfl)) fun a hf => ?_
 refine q_ hf rfl rfl rfl (e_move hf rfl) fun a hf => ?_
 have hM : Mem C w7 (nestW A2 c3 55 2 ws0 ++ [.box b6 [vL A2 (a1.Nodes) c3] 31]) _ := hM.permP (List.perm_append_comm (l₁ := [Own.box b6 [vL A2 (a1.Nodes) c3] 31]))
 obtain ⟨y9, hz10, h⟩ := bind_some h
 refine pl_l hf rfl rfl rfl (w_call hf Tryd.call21 rfl (r_laws_markNodeS ⟨_, Sh C _ _, ownB _, hM.sh_lt, sub_dis, C.G, hM.g_lt, hM.g_own, hM.tabs⟩ a1.Nodes _ _ _ hw0 k4 hp5 hM.sub sub_dis _ hz10) ?_)
 rintro _ w11 ⟨ws1, rfl, hM2, hw1, hl1, hv12⟩
 obtain ⟨hM, hup13⟩ := hM.backG hM2
 clear hM2
 refine ⟨_, rfl, fun a hf => ?_⟩
 refine q_ hf rfl rfl rfl (e_assign hf rfl) fun a hf => ?_
 refine pl_nil ?_
 refine then_n ?_
 refine wp_seq ?_
 refine region_pl ?_
 refine q_ hf rfl rfl rfl (e_move hf rfl) fun a hf => ?_
 refine q_ hf rfl rfl rfl (e_assign hf rfl) fun a hf => ?_
 refine pl_nil ?_
 refine then_n ?_
 refine wp_ret ?_
 obtain rfl := some_inj h
 exact leave1 hf rfl rfl ⟨ws1, rfl, (hM.drop (List.sublist_append_left _ _)).fin, hw1, hl1, hv12⟩

set_option maxRecDepth 100000 in
set_option maxHeartbeats 4000000 in
theorem r_laws_markStringS (C : Cx) (a1 : (List Str)) (A2 : Option Addr) (c3 : Nat) (k4 : Int) (hp5 : R64 k4) (hO : Mem C C.w0 [.row strRep A2 c3 9 a1 true] []) (hd : ∀ b, C.S0 b → ¬ ownB [.row strRep A2 c3 9 a1 true] b) (r : (Int × (List Str))) (h : m_laws_markStringS a1 k4 = some r) :
    Calls Tryd.prog 11 #[vL A2 (a1) c3, vI (k4)] C.w0 fun e w => e = .returned (vI (r.1)) ∧ Mem C w [.row strRep A2 c3 9 r.2 true] [] ∧ r.2.length = a1.length ∧ R64 r.1 := by
 have hM := hO
 refine enter Tryd.func11 rfl Tryd.ntmps11 rfl fun a hf => ?_
 unfold m_laws_markStringS at h
 refine wp_seq ?_
 refine region_pl ?_
 refine q_ hf rfl rfl rfl (e_assign hf rfl) fun a hf => ?_
 refine pl_nil ?_
 refine then_n ?_
 obtain ⟨x10, h11, h⟩ := bind_some h
 refine seq_join (fun a w => ∃ (xs6 : (List Str)) (k8 : Int), (xs6, k8) = x10 ∧ Has 20 a [(1, vI (k8))] ∧ Mem C w [.row strRep A2 c3 9 xs6 true] [] ∧ xs6.length = a1.length ∧ R64 k8) ?_ ?_
 ·refine wp_seq ?_
  refine region_pl ?_
  refine q_ hf rfl rfl rfl (e_assign hf rfl) fun a hf => ?_
  refine pl_nil ?_
  refine then_n ?_
  refine wp_block ?_
  obtain ⟨x23, h24, h11⟩ := bind_some h11
  refine wp_loopM h24 (fun s a w => ∃ (xs12 : (List Str)) (k14 : Int) (n16 : Int), (xs12, k14, n16) = s ∧ Has 20 a [(0, vL A2 (xs12) c3), (1, vI (k14)), (5, vI (n16))] ∧ Mem C w [.row strRep A2 c3 9 xs12 true] [] ∧ xs12.length = a1.length ∧ R64 k14 ∧ R64 n16) ?_ ?_
  ·exact ⟨a1, k4, 0, rfl, hf.keep ⟨rfl, rfl, rfl, trivial⟩, hM.pick [] rfl, rfl, hp5, (R64_lit rfl)⟩
  rintro s o25 a w18 ⟨xs12, k14, n16, rfl, hf, hM, hl13, hv15, hv17⟩ h26 hd27
  replace h26 : m_laws_markStringS_l1 xs12 k14 n16 = some o25 := h26
  unfold m_laws_markStringS_l1 at h26
  iterate 2 refine wp_seq ?_
  refine region_pl ?_
  iterate 2 refine q_ hf rfl rfl rfl (e_move hf rfl) fun a hf => ?_
  have hl28 := row_len (hM.ownAt (k := 0) rfl)
  refine q_ hf rfl rfl rfl (e_lenL hf (x := xs12) rfl Tryd.underlying26) fun a hf => ?_
  refine q_ hf rfl rfl rfl (e_lt hf (x := n16) (y := (xs12.length : Int)) rfl rfl) fun a hf => ?_
  refine pl_nil ?_
  refine then_n ?_
  rcases cond_some h26 with ⟨hc29, h26⟩ | ⟨hc29, h26⟩
  ·refine cond_t hf rfl hc29 ?_
   refine wp_skip ?_
   refine then_n ?_
   refine wp_seq ?_
   refine wp_block ?_
   refine wp_seq ?_
   refine region_pl ?_
   iterate 3 refine q_ hf rfl rfl rfl (e_move hf rfl) fun a hf => ?_
   obtain ⟨y30, hz31, h26⟩ := bind_some h26
   refine pl_l hf rfl rfl rfl (w_call hf Tryd.call22 rfl (r_laws_markText ⟨_, Sh C _ _, none_, hM.sh_lt, none_not, C.G, hM.g_lt, g_none, hM.tabs⟩ k14 hv15 _ hz31) ?_)
   rintro _ w33 ⟨rfl, hM2, hv32⟩
   obtain ⟨hM, hx34, hup35⟩ := hM.back hM2
   dsimp only [List.cons_append, List.nil_append] at hM hup35
   clear hM2
   refine ⟨_, rfl, fun a hf => ?_⟩
   obtain ⟨e36, hz37, h26⟩ := bind_some h26
   obtain ⟨b42, _, hA43, h38, h39, hr40, hcell41⟩ := hM.rowElemN (k := 0) rfl (n := 1) rfl hz37
   obtain ⟨rfl, hv44⟩ := hr40
   refine q_ hf rfl rfl rfl (e_indexAddr (A := A2) (b := b42) (o := 0) (xs := xs12) (i := n16) hf hA43 rfl rfl Tryd.underlying26 Tryd.sizeOf9 h38 h39) fun a hf => ?_
   obtain ⟨xs46, hz47, h26⟩ := bind_some h26
   refine pl_0 hf rfl rfl (w_storeElem hf hM (x := y30) (row := [vS (y30)]) (i := n16) rfl rfl rfl hA43 (k := 0) rfl rfl Tryd.sizeOf9 ⟨rfl, hv32⟩ hz47 fun w45 hM => ?_)
   dsimp only [List.set] at hM
   have hf := hf.alter (d := 0) (v := vL A2 (xs46) c3) rfl (vL_len (setL_len hz47))
   have hf := hf.alter (d := 7) (v := vL A2 (xs46) c3) rfl (vL_len (setL_len hz47))
   have hf := hf.alter (d := 12) (v := vL A2 (xs46) c3) rfl (vL_len (setL_len hz47))
   refine pl_nil ?_
   refine then_n ?_
   refine region_pl ?_
   refine q_ hf rfl rfl rfl (e_move hf rfl) fun a hf => ?_
   obtain ⟨z48, hz49, h26⟩ := bind_some h26
   refine q_ hf rfl rfl rfl (e_add hf rfl rfl hz49) fun a hf => ?_
   refine q_ hf rfl rfl rfl (e_assign hf rfl) fun a hf => ?_
   refine pl_nil ?_
   refine blk_n ?_
   refine then_n ?_
   refine region_pl ?_
   refine q_ hf rfl rfl rfl (e_move hf rfl) fun a hf => ?_
   obtain ⟨z50, hz51, h26⟩ := bind_some h26
   refine q_ hf rfl rfl rfl (e_add hf rfl rfl hz51) fun a hf => ?_
   refine q_ hf rfl rfl rfl (e_assign hf rfl) fun a hf => ?_
   refine pl_nil ?_
   obtain rfl := some_inj h26
   refine then_n ⟨_, rfl, ?_⟩
   exact ⟨xs46, z48, z50, rfl, hf.keep ⟨rfl, rfl, rfl, trivial⟩, hM.pick [] rfl, ((setL_len hz47).trans hl13), (chk_R hz49), (chk_R hz51)⟩
  refine cond_f hf rfl hc29 ?_
  refine wp_exit ?_
  refine then_x ?_
  obtain rfl := some_inj h26
  obtain rfl := hd27 _ rfl
  try dsimp only at h11
  refine then_x ?_
  refine exit_hit ?_
  obtain rfl := some_inj h11
  refine then_n ?_
  exact ⟨xs12, k14, rfl, hf.keep ⟨rfl, trivial⟩, hM.pick [] rfl, hl13, hv15⟩
 rintro a w57 ⟨xs6, k8, rfl, hf, hM, hl7, hv9⟩
 try dsimp only at h
 refine wp_seq ?_
 refine region_pl ?_
 refine q_ hf rfl rfl rfl (e_move hf rfl) fun a hf => ?_
 refine q_ hf rfl rfl rfl (e_assign hf rfl) fun a hf => ?_
 refine pl_nil ?_
 refine then_n ?_
 refine wp_ret ?_
 obtain rfl := some_inj h
 exact leave1 hf rfl rfl ⟨rfl, hM.fin, hl7, hv9⟩

set_option maxRecDepth 100000 in
set_option maxHeartbeats 4000000 in
theorem r_laws_heldStringS (C : Cx) (a1 : (List Str)) (A2 : Option Addr) (c3 : Nat) (hp4 : (sliceRep strRep).R C.w0 C.S0 a1 [vL A2 a1 c3]) (k5 : Int) (hp6 : R64 k5) (r : Int) (h : m_laws_heldStringS a1 k5 = some r) :
    Calls Tryd.prog 12 #[vL A2 (a1) c3, vI (k5)] C.w0 fun e w => e = .returned (vI (r)) ∧ Mem C w [] [] ∧ R64 r := by
 have hM := Mem.begin C [.dat (sliceRep strRep) a1 [vL A2 a1 c3]] ⟨hp4, trivial⟩
 refine enter Tryd.func12 rfl Tryd.ntmps12 rfl fun a hf => ?_
 unfold m_laws_heldStringS at h
 refine wp_seq ?_
 refine region_pl ?_
 refine q_ hf rfl rfl rfl (e_assign hf rfl) fun a hf => ?_
 refine pl_nil ?_
 refine then_n ?_
 obtain ⟨x9, h10, h⟩ := bind_some h
 refine seq_join (fun a w => ∃ (k7 : Int), (.inl k7) = x9 ∧ Has 22 a [(1, vI (k7))] ∧ Mem C w [] [.dat (sliceRep strRep) a1 [vL A2 a1 c3]] ∧ R64 k7) ?_ ?_
 ·refine wp_seq ?_
  refine region_pl ?_
  refine q_ hf rfl rfl rfl (e_assign hf rfl) fun a hf => ?_
  refine pl_nil ?_
  refine then_n ?_
  refine wp_block ?_
  obtain ⟨x18, h19, h10⟩ := bind_some h10
  refine wp_loopM h19 (fun s a w => ∃ (k11 : Int) (n13 : Int), (k11, n13) = s ∧ Has 22 a [(0, vL A2 (a1) c3), (1, vI (k11)), (5, vI (n13))] ∧ Mem C w [] [.dat (sliceRep strRep) a1 [vL A2 a1 c3]] ∧ R64 k11 ∧ R64 n13) ?_ ?_
  ·exact ⟨k5, 0, rfl, hf.keep ⟨rfl, rfl, rfl, trivial⟩, hM.pick [0] rfl, hp6, (R64_lit rfl)⟩
  rintro s o20 a w15 ⟨k11, n13, rfl, hf, hM, hv12, hv14⟩ h21 hd22
  replace h21 : m_laws_heldStringS_l1 a1 k11 n13 = some o20 := h21
  unfold m_laws_heldStringS_l1 at h21
  iterate 2 refine wp_seq ?_
  refine region_pl ?_
  iterate 2 refine q_ hf rfl rfl rfl (e_move hf rfl) fun a hf => ?_
  have hl23 := slice_len (hM.dat (k := 0) rfl)
  refine q_ hf rfl rfl rfl (e_lenL hf (x := a1) rfl Tryd.underlying26) fun a hf => ?_
  refine q_ hf rfl rfl rfl (e_lt hf (x := n13) (y := (a1.length : Int)) rfl rfl) fun a hf => ?_
  refine pl_nil ?_
  refine then_n ?_
  rcases cond_some h21 with ⟨hc24, h21⟩ | ⟨hc24, h21⟩
  ·refine cond_t hf rfl hc24 ?_
   refine wp_skip ?_
   refine then_n ?_
   refine wp_seq ?_
   refine wp_block ?_
   iterate 2 refine wp_seq ?_
   obtain ⟨w25, hw⟩ : ∃ x, x = w15.drew := ⟨_, rfl⟩
   refine region_pi (.q 0 (.q 1 (.q 2 (.q 3 (.q 4 (.l 5 (.q 6 (.nil)))))))) (Ext w25) rfl (by kernel_rfl) ?_
   have hM := hM.drew
   rw [← hw] at hM ⊢
   clear hw
   iterate 2 refine pi_q hf rfl rfl rfl rfl (Ext.refl _) (e_move hf rfl) fun a hf => ?_
   obtain ⟨e26, hz27, h21⟩ := bind_some h21
   obtain ⟨b31, o32, _, hA33, h28, h29, hr30, hM⟩ := hM.elem (hM.dat (k := 0) rfl) (n := 1) rfl hz27
   obtain ⟨rfl, hv34⟩ := hr30
   refine pi_q hf rfl rfl rfl rfl (Ext.refl _) (e_indexAddr (A := A2) (b := b31) (o := o32) (xs := a1) (i := n13) hf hA33 rfl rfl Tryd.underlying26 Tryd.sizeOf9 h28 h29) fun a hf => ?_
   refine pi_q hf rfl rfl rfl rfl (Ext.refl _) (e_load1 hf rfl Tryd.isAgg9 (hM.litCell (k := 0) (j := 0) rfl rfl rfl)) fun a hf => ?_
   refine pi_q hf rfl rfl rfl rfl (Ext.refl _) (e_move hf rfl) fun a hf => ?_
   refine pi_one ?_
   obtain ⟨y35, hz36, h21⟩ := bind_some h21
   refine pi_l hf rfl rfl rfl rfl (w_call hf Tryd.call22 rfl (r_laws_markText ⟨_, Sh C _ _, none_, hM.sh_lt, none_not, C.G, hM.g_lt, g_none, hM.tabs⟩ k11 hv12 _ hz36) ?_)
   rintro _ w38 ⟨rfl, hM2, hv37⟩
   obtain ⟨hM, hx39, hup40⟩ := hM.back hM2
   dsimp only [List.cons_append, List.nil_append] at hM hup40
   clear hM2
   refine ⟨_, rfl, Ext w38, fun _ h => Ext.trans hx39 h, Ext.refl _, fun a hf => ?_⟩
   refine pi_q hf rfl rfl rfl rfl (Ext.refl _) (e_neS hf (x := e26) (y := y35) rfl rfl) fun a hf => ?_
   refine pi_nil ?_
   refine then_n ?_
   rcases cond_some h21 with ⟨hc41, h21⟩ | ⟨hc41, h21⟩
   ·refine cond_t hf rfl hc41 ?_
    refine wp_seq ?_
    refine region_pl ?_
    refine q_ hf rfl rfl rfl (e_assign hf rfl) fun a hf => ?_
    refine pl_nil ?_
    refine then_n ?_
    refine wp_ret ?_
    refine then_r ?_
    refine blk_r ?_
    refine then_r ?_
    obtain rfl := some_inj h21
    obtain rfl := hd22 _ rfl
    try dsimp only at h10
    refine then_r ?_
    refine blk_r ?_
    obtain rfl := some_inj h10
    try dsimp only at h
    refine then_r ?_
    obtain rfl := some_inj h
    exact leave1 hf rfl rfl ⟨rfl, hM.fin, (R64_lit rfl)⟩
   refine cond_f hf rfl hc41 ?_
   refine wp_skip ?_
   refine then_n ?_
   refine region_pl ?_
   refine q_ hf rfl rfl rfl (e_move hf rfl) fun a hf => ?_
   obtain ⟨z42, hz43, h21⟩ := bind_some h21
   refine q_ hf rfl rfl rfl (e_add hf rfl rfl hz43) fun a hf => ?_
   refine q_ hf rfl rfl rfl (e_assign hf rfl) fun a hf => ?_
   refine pl_nil ?_
   refine blk_n ?_
   refine then_n ?_
   refine region_pl ?_
   refine q_ hf rfl rfl rfl (e_move hf rfl) fun a hf => ?_
   obtain ⟨z44, hz45, h21⟩ := bind_some h21
   refine q_ hf rfl rfl rfl (e_add hf rfl rfl hz45) fun a hf => ?_
   refine q_ hf rfl rfl rfl (e_assign hf rfl) fun a hf => ?_
   refine pl_nil ?_
   obtain rfl := some_inj h21
   refine then_n ⟨_, rfl, ?_⟩
   exact ⟨z42, z44, rfl, hf.keep ⟨rfl, rfl, rfl, trivial⟩, hM.pick [1] rfl, (chk_R hz43), (chk_R hz45)⟩
  refine cond_f hf rfl hc24 ?_
  refine wp_exit ?_
  refine then_x ?_
  obtain rfl := some_inj h21
  obtain rfl := hd22 _ rfl
  try dsimp only at h10
  refine then_x ?_
  refine exit_hit ?_
  obtain rfl := some_inj h10
  refine then_n ?_
  exact ⟨k11, rfl, hf.keep ⟨rfl, trivial⟩, hM.pick [0] rfl, hv12⟩
 rintro a w52 ⟨k7, rfl, hf, hM, hv8⟩
 try dsimp only at h
 refine wp_seq ?_
 refine region_pl ?_
 refine q_ hf rfl rfl rfl (e_move hf rfl) fun a hf => ?_
 refine q_ hf rfl rfl rfl (e_assign hf rfl) fun a hf => ?_
 refine pl_nil ?_
 refine then_n ?_
 refine wp_ret ?_
 obtain rfl := some_inj h
 exact leave1 hf rfl rfl ⟨rfl, hM.fin, hv8⟩

set_option maxRecDepth 100000 in
set_option maxHeartbeats 4000000 in
theorem r_laws_FnExactDawgChanges (C : Cx) (aA1 : Dawg) (A2 : Option Addr) (c3 : Nat) (hp4 : (sliceRep NodeRep).R C.w0 C.S0 aA1.Nodes [vL A2 aA1.Nodes c3]) (aB5 : Dawg) (A6 : Option Addr) (c7 : Nat) (hp8 : (sliceRep NodeRep).R C.w0 C.S0 aB5.Nodes [vL A6 aB5.Nodes c7]) (r : Bool) (h : m_laws_FnExactDawgChanges aA1 aB5 = some r) :
    Calls Tryd.prog 3 #[.agg #[vL A2 (aA1.Nodes) c3], .agg #[vL A6 (aB5.Nodes) c7]] C.w0 fun e w => e = .returned (.bool (r)) ∧ Mem C w [] [] := by
 have hM := Mem.begin C [.dat (sliceRep NodeRep) aB5.Nodes [vL A6 aB5.Nodes c7], .dat (sliceRep NodeRep) aA1.Nodes [vL A2 aA1.Nodes c3]] ⟨hp8, hp4, trivial⟩
 refine enter Tryd.func3 rfl Tryd.ntmps3 rfl fun a hf => ?_
 unfold m_laws_FnExactDawgChanges at h
 refine wp_seq ?_
 refine region_pl ?_
 refine pl_l hf rfl rfl rfl (w_box hf hM (cs := [vL A2 (aA1.Nodes) c3]) rfl rfl fun b9 w10 hx11 hM a hf => ?_)
 refine pl_l hf rfl rfl rfl (w_box hf hM (cs := [vL A6 (aB5.Nodes) c7]) rfl rfl fun b13 w14 hx15 hM a hf => ?_)
 refine q_ hf rfl rfl rfl (e_assign hf rfl) fun a hf => ?_
 refine pl_nil ?_
 refine then_n ?_
 refine wp_seq ?_
 refine region_pl ?_
 refine q_ hf rfl rfl rfl (e_assign hf rfl) fun a hf => ?_
 refine pl_nil ?_
 refine then_n ?_
 refine wp_seq ?_
 refine region_pl ?_
 refine q_ hf rfl rfl rfl (e_loadA hf (us := [vL A2 (aA1.Nodes) c3]) rfl ⟨Tryd.isAgg24, Tryd.sizeOf24⟩ rfl (hM.boxSub (k := 1) (us := [vL A2 (aA1.Nodes) c3]) (o := 0) rfl rfl)) fun a hf => ?_
 refine q_ hf rfl rfl rfl (e_move hf rfl) fun a hf => ?_
 obtain ⟨y17, hz18, h⟩ := bind_some h
 refine pl_l hf rfl rfl rfl (w_call hf Tryd.call4 rfl (r_laws_szDawg ⟨_, Sh C _ _, none_, hM.sh_lt, none_not, C.G, hM.g_lt, g_none, hM.tabs⟩ aA1 _ _ (hM.dat (k := 1) rfl) 1048576 (R64_lit rfl) _ hz18) ?_)
 rintro _ w20 ⟨rfl, hM2, hv19⟩
 obtain ⟨hM, hx21, hup22⟩ := hM.back hM2
 dsimp only [List.cons_append, List.nil_append] at hM hup22
 clear hM2
 refine ⟨_, rfl, fun a hf => ?_⟩
 refine q_ hf rfl rfl rfl (e_assign hf rfl) fun a hf => ?_
 refine pl_nil ?_
 refine then_n ?_
 iterate 2 refine wp_seq ?_
 refine region_pl ?_
 refine q_ hf rfl rfl rfl (e_move hf rfl) fun a hf => ?_
 refine q_ hf rfl rfl rfl (e_lt hf (x := y17) (y := 0) rfl rfl) fun a hf => ?_
 refine pl_nil ?_
 refine then_n ?_
 rcases cond_some h with ⟨hc23, h⟩ | ⟨hc23, h⟩
 ·refine cond_t hf rfl hc23 ?_
  refine wp_seq ?_
  refine region_pl ?_
  refine q_ hf rfl rfl rfl (e_assign hf rfl) fun a hf => ?_
  refine pl_nil ?_
  refine then_n ?_
  refine wp_ret ?_
  refine then_r ?_
  obtain rfl := some_inj h
  have hM := hM.outs (own' := []) 0 rfl
  exact leave1 hf rfl rfl ⟨rfl, hM.fin⟩
 refine cond_f hf rfl hc23 ?_
 refine wp_skip ?_
 refine then_n ?_
 refine wp_seq ?_
 refine region_pl ?_
 refine q_ hf rfl rfl rfl (e_loadA hf (us := [vL A6 (aB5.Nodes) c7]) rfl ⟨Tryd.isAgg24, Tryd.sizeOf24⟩ rfl (hM.boxSub (k := 0) (us := [vL A6 (aB5.Nodes) c7]) (o := 0) rfl rfl)) fun a hf => ?_
 refine q_ hf rfl rfl rfl (e_move hf rfl) fun a hf => ?_
 obtain ⟨y24, hz25, h⟩ := bind_some h
 refine pl_l hf rfl rfl rfl (w_call hf Tryd.call4 rfl (r_laws_szDawg ⟨_, Sh C _ _, none_, hM.sh_lt, none_not, C.G, hM.g_lt, g_none, hM.tabs⟩ aB5 _ _ (hM.dat (k := 0) rfl) y17 hv19 _ hz25) ?_)
 rintro _ w27 ⟨rfl, hM2, hv26⟩
 obtain ⟨hM, hx28, hup29⟩ := hM.back hM2
 dsimp only [List.cons_append, List.nil_append] at hM hup29
 clear hM2
 refine ⟨_, rfl, fun a hf => ?_⟩
 refine q_ hf rfl rfl rfl (e_assign hf rfl) fun a hf => ?_
 refine pl_nil ?_
 refine then_n ?_
 iterate 2 refine wp_seq ?_
 refine region_pl ?_
 refine q_ hf rfl rfl rfl (e_move hf rfl) fun a hf => ?_
 refine q_ hf rfl rfl rfl (e_lt hf (x := y24) (y := 0) rfl rfl) fun a hf => ?_
 refine pl_nil ?_
 refine then_n ?_
 rcases cond_some h with ⟨hc30, h⟩ | ⟨hc30, h⟩
 ·refine cond_t hf rfl hc30 ?_
  refine wp_seq ?_
  refine region_pl ?_
  refine q_ hf rfl rfl rfl (e_assign hf rfl) fun a hf => ?_
  refine pl_nil ?_
  refine then_n ?_
  refine wp_ret ?_
  refine then_r ?_
  obtain rfl := some_inj h
  have hM := hM.outs (own' := []) 0 rfl
  exact leave1 hf rfl rfl ⟨rfl, hM.fin⟩
 refine cond_f hf rfl hc30 ?_
 refine wp_skip ?_
 refine then_n ?_
 refine wp_seq ?_
 obtain ⟨w31, hw⟩ : ∃ x, x = w27.drew := ⟨_, rfl⟩
 refine region_pi (.q 0 (.q 2 (.l 1 (.l 3 (.l 4 (.q 5 (.q 6 (.q 7 (.q 8 (.q 9 (.q 10 (.q 11 (.nil))))))))))))) (Ext w31) rfl (by kernel_rfl) ?_
 have hM := hM.drew
 rw [← hw] at hM ⊢
 clear hw
 refine pi_q hf rfl rfl rfl rfl (Ext.refl _) (e_loadA hf (us := [vL A2 (aA1.Nodes) c3]) rfl ⟨Tryd.isAgg24, Tryd.sizeOf24⟩ rfl (hM.boxSub (k := 1) (us := [vL A2 (aA1.Nodes) c3]) (o := 0) rfl rfl)) fun a hf => ?_
 refine pi_q hf rfl rfl rfl rfl (Ext.refl _) (e_loadA hf (us := [vL A6 (aB5.Nodes) c7]) rfl ⟨Tryd.isAgg24, Tryd.sizeOf24⟩ rfl (hM.boxSub (k := 0) (us := [vL A6 (aB5.Nodes) c7]) (o := 0) rfl rfl)) fun a hf => ?_
 refine pi_one ?_
 obtain ⟨y32, hz33, h⟩ := bind_some h
 refine pi_l hf rfl rfl rfl rfl (w_call hf Tryd.call6 rfl (r_laws_toDawg ⟨_, Sh C _ _, none_, hM.sh_lt, none_not, C.G, hM.g_lt, g_none, hM.tabs⟩ aA1 _ _ (hM.dat (k := 1) rfl) _ hz33) ?_)
 rintro _ w38 ⟨A34, c35, ws36, rfl, hM2, hw37⟩
 obtain ⟨hM, hx39, hup40⟩ := hM.back hM2
 try dsimp only [List.cons_append, List.nil_append] at hM hup40
 clear hM2
 have hM : Mem C _ (.box b13 [vL A6 (aB5.Nodes) c7] 24 :: .box b9 [vL A2 (aA1.Nodes) c3] 24 :: (nestW A34 c35 55 2 ws36)) _ := Mem.perm (own := (nestW A34 c35 55 2 ws36) ++ [.box b13 [vL A6 (aB5.Nodes) c7] 24, .box b9 [vL A2 (aA1.Nodes) c3] 24]) (own' := ([] ++ [.box b13 [vL A6 (aB5.Nodes) c7] 24, .box b9 [vL A2 (aA1.Nodes) c3] 24]) ++ (nestW A34 c35 55 2 ws36)) hM (fun a => by simp only [List.count_append, List.count_nil]; omega)
 refine ⟨_, rfl, Ext w38, fun _ h => Ext.trans hx39 h, Ext.refl _, fun a hf => ?_⟩
 refine pi_one ?_
 obtain ⟨y41, hz42, h⟩ := bind_some h
 refine pi_l hf rfl rfl rfl rfl (w_call hf Tryd.call6 rfl (r_laws_toDawg ⟨_, Sh C _ _, none_, hM.sh_lt, none_not, C.G, hM.g_lt, g_none, hM.tabs⟩ aB5 _ _ (hM.dat (k := 0) rfl) _ hz42) ?_)
 rintro _ w47 ⟨A43, c44, ws45, rfl, hM2, hw46⟩
 obtain ⟨hM, hx48, hup49⟩ := hM.back hM2
 try dsimp only [List.cons_append, List.nil_append] at hM hup49
 clear hM2
 have hM : Mem C _ (.box b13 [vL A6 (aB5.Nodes) c7] 24 :: .box b9 [vL A2 (aA1.Nodes) c3] 24 :: ((nestW A34 c35 55 2 ws36) ++ nestW A43 c44 55 2 ws45)) _ := Mem.perm (own := (nestW A43 c44 55 2 ws45) ++ ([.box b13 [vL A6 (aB5.Nodes) c7] 24, .box b9 [vL A2 (aA1.Nodes) c3] 24] ++ (nestW A34 c35 55 2 ws36))) (own' := ([] ++ [.box b13 [vL A6 (aB5.Nodes) c7] 24, .box b9 [vL A2 (aA1.Nodes) c3] 24]) ++ ((nestW A34 c35 55 2 ws36) ++ nestW A43 c44 55 2 ws45)) hM (fun a => by simp only [List.count_append, List.count_nil]; omega)
 refine ⟨_, rfl, Ext w47, fun _ h => Ext.trans hx48 h, Ext.refl _, fun a hf => ?_⟩
 refine pi_one ?_
 obtain ⟨y50, hz51, h⟩ := bind_some h
 refine pi_l hf rfl rfl rfl rfl (w_call hf Tryd.call5 rfl (r_spec_DawgChanges ⟨_, All C _ _, none_, hM.all_lt, none_not, C.G, hM.g_lt, g_none, hM.tabs⟩ y32 _ _ (hM.lendNest (A := A34) (c := c35) (E := 55) (E2 := 2) (ws := ws36) (fun q hq => by simp [hq]) hw37) y41 _ _ (hM.lendNest (A := A43) (c := c44) (E := 55) (E2 := 2) (ws := ws45) (fun q hq => by simp [hq]) hw46) _ hz51) ?_)
 rintro _ w57 ⟨A52, c53, A54, c55, rfl, hM2, hv56⟩
 obtain ⟨hM, hx58⟩ := hM.backAL (OFlat.row strRep_flat (OFlat.row strRep_flat OFlat.nil)) hM2
 have hM : Mem C _ (.row strRep A52 c53 9 y50.1 true :: .row strRep A54 c55 9 y50.2.1 true :: .box b13 [vL A6 (aB5.Nodes) c7] 24 :: .box b9 [vL A2 (aA1.Nodes) c3] 24 :: ((nestW A34 c35 55 2 ws36) ++ nestW A43 c44 55 2 ws45)) _ := hM
 clear hM2
 refine ⟨_, rfl, Ext w57, fun _ h => Ext.trans hx58 h, Ext.refl _, fun a hf => ?_⟩
 refine pi_q hf rfl rfl rfl rfl (Ext.refl _) (e_move hf rfl) fun a hf => ?_
 iterate 3 refine pi_q hf rfl rfl rfl rfl (Ext.refl _) (e_extract hf rfl rfl) fun a hf => ?_
 iterate 3 refine pi_q hf rfl rfl rfl rfl (Ext.refl _) (e_assign hf rfl) fun a hf => ?_
 refine pi_nil ?_
 refine then_n ?_
 refine wp_seq ?_
 refine region_pl ?_
 refine q_ hf rfl rfl rfl (e_loadA hf (us := [vL A2 (aA1.Nodes) c3]) rfl ⟨Tryd.isAgg24, Tryd.sizeOf24⟩ rfl (hM.boxSub (k := 3) (us := [vL A2 (aA1.Nodes) c3]) (o := 0) rfl rfl)) fun a hf => ?_
 obtain ⟨y60, hz61, h⟩ := bind_some h
 refine pl_l hf rfl rfl rfl (w_call hf Tryd.call6 rfl (r_laws_toDawg ⟨_, Sh C _ _, none_, hM.sh_lt, none_not, C.G, hM.g_lt, g_none, hM.tabs⟩ aA1 _ _ (hM.dat (k := 1) rfl) _ hz61) ?_)
 rintro _ w66 ⟨A62, c63, ws64, rfl, hM2, hw65⟩
 obtain ⟨hM, hx67, hup68⟩ := hM.back hM2
 try dsimp only [List.cons_append, List.nil_append] at hM hup68
 clear hM2
 have hM : Mem C _ (.row strRep A52 c53 9 y50.1 true :: .row strRep A54 c55 9 y50.2.1 true :: .box b13 [vL A6 (aB5.Nodes) c7] 24 :: .box b9 [vL A2 (aA1.Nodes) c3] 24 :: (((nestW A34 c35 55 2 ws36) ++ nestW A43 c44 55 2 ws45) ++ nestW A62 c63 55 2 ws64)) _ := Mem.perm (own := (nestW A62 c63 55 2 ws64) ++ ([.row strRep A52 c53 9 y50.1 true, .row strRep A54 c55 9 y50.2.1 true, .box b13 [vL A6 (aB5.Nodes) c7] 24, .box b9 [vL A2 (aA1.Nodes) c3] 24] ++ ((nestW A34 c35 55 2 ws36) ++ nestW A43 c44 55 2 ws45))) (own' := ([] ++ [.row strRep A52 c53 9 y50.1 true, .row strRep A54 c55 9 y50.2.1 true, .box b13 [vL A6 (aB5.Nodes) c7] 24, .box b9 [vL A2 (aA1.Nodes) c3] 24]) ++ (((nestW A34 c35 55 2 ws36) ++ nestW A43 c44 55 2 ws45) ++ nestW A62 c63 55 2 ws64)) hM (fun a => by simp only [List.count_append, List.count_nil]; omega)
 refine ⟨_, rfl, fun a hf => ?_⟩
 refine pl_l hf rfl rfl rfl (w_alloc hM (cs := [vL none (([] : (List Node))) 0]) Tryd.zeroValue31 rfl fun b69 w70 hx71 hM a hf => ?_)
 refine pl_0 hf rfl rfl (w_store hf hM (us := [vL A62 (y60.Nodes) c63]) (cs' := [vL A62 (y60.Nodes) c63]) rfl rfl (k := 0) rfl rfl Tryd.sizeOf31 rfl rfl rfl fun w73 hM => ?_)
 dsimp only [List.set] at hM
 refine pl_nil ?_
 refine then_n ?_
 refine wp_seq ?_
 refine region_pl ?_
 refine q_ hf rfl rfl rfl (e_loadA hf (us := [vL A6 (aB5.Nodes) c7]) rfl ⟨Tryd.isAgg24, Tryd.sizeOf24⟩ rfl (hM.boxSub (k := 3) (us := [vL A6 (aB5.Nodes) c7]) (o := 0) rfl rfl)) fun a hf => ?_
 obtain ⟨y76, hz77, h⟩ := bind_some h
 refine pl_l hf rfl rfl rfl (w_call hf Tryd.call6 rfl (r_laws_toDawg ⟨_, Sh C _ _, none_, hM.sh_lt, none_not, C.G, hM.g_lt, g_none, hM.tabs⟩ aB5 _ _ (hM.dat (k := 0) rfl) _ hz77) ?_)
 rintro _ w82 ⟨A78, c79, ws80, rfl, hM2, hw81⟩
 obtain ⟨hM, hx83, hup84⟩ := hM.back hM2
 try dsimp only [List.cons_append, List.nil_append] at hM hup84
 clear hM2
 have hM : Mem C _ (.box b69 [vL A62 (y60.Nodes) c63] 31 :: .row strRep A52 c53 9 y50.1 true :: .row strRep A54 c55 9 y50.2.1 true :: .box b13 [vL A6 (aB5.Nodes) c7] 24 :: .box b9 [vL A2 (aA1.Nodes) c3] 24 :: ((((nestW A34 c35 55 2 ws36) ++ nestW A43 c44 55 2 ws45) ++ nestW A62 c63 55 2 ws64) ++ nestW A78 c79 55 2 ws80)) _ := Mem.perm (own := (nestW A78 c79 55 2 ws80) ++ ([.box b69 [vL A62 (y60.Nodes) c63] 31, .row strRep A52 c53 9 y50.1 true, .row strRep A54 c55 9 y50.2.1 true, .box b13 [vL A6 (aB5.Nodes) c7] 24, .box b9 [vL A2 (aA1.Nodes) c3] 24] ++ (((nestW A34 c35 55 2 ws36) ++ nestW A43 c44 55 2 ws45) ++ nestW A62 c63 55 2 ws64))) (own' := ([] ++ [.box b69 [vL A62 (y60.Nodes) c63] 31, .row strRep A52 c53 9 y50.1 true, .row strRep A54 c55 9 y50.2.1 true, .box b13 [vL A6 (aB5.Nodes) c7] 24, .box b9 [vL A2 (aA1.Nodes) c3] 24]) ++ ((((nestW A34 c35 55 2 ws36) ++ nestW A43 c44 55 2 ws45) ++ nestW A62 c63 55 2 ws64) ++ nestW A78 c79 55 2 ws80)) hM (fun a => by simp only [List.count_append, List.count_nil]; omega)
 refine ⟨_, rfl, fun a hf => ?_⟩
 refine pl_l hf rfl rfl rfl (w_alloc hM (cs := [vL none (([] : (List Node))) 0]) Tryd.zeroValue31 rfl fun b85 w86 hx87 hM a hf => ?_)
 refine pl_0 hf rfl rfl (w_store hf hM (us := [vL A78 (y76.Nodes) c79]) (cs' := [vL A78 (y76.Nodes) c79]) rfl rfl (k := 0) rfl rfl Tryd.sizeOf31 rfl rfl rfl fun w89 hM => ?_)
 dsimp only [List.set] at hM
 refine pl_nil ?_
 refine then_n ?_
 refine wp_seq ?_
 refine region_pl ?_
 refine q_ hf rfl rfl rfl (e_loadA hf (us := [vL A62 (y60.Nodes) c63]) rfl ⟨Tryd.isAgg31, Tryd.sizeOf31⟩ rfl (hM.boxSub (k := 1) (us := [vL A62 (y60.Nodes) c63]) (o := 0) rfl rfl)) fun a hf => ?_
 refine q_ hf rfl rfl rfl (e_loadA hf (us := [vL A78 (y76.Nodes) c79]) rfl ⟨Tryd.isAgg31, Tryd.sizeOf31⟩ rfl (hM.boxSub (k := 0) (us := [vL A78 (y76.Nodes) c79]) (o := 0) rfl rfl)) fun a hf => ?_
 obtain ⟨y92, hz93, h⟩ := bind_some h
 refine pl_l hf rfl rfl rfl (w_call hf Tryd.call7 rfl (r_impl_DawgChanges ⟨_, All C _ _, none_, hM.all_lt, none_not, C.G, hM.g_lt, g_none, hM.tabs⟩ y60 _ _ (hM.lendNest (A := A62) (c := c63) (E := 55) (E2 := 2) (ws := ws64) (fun q hq => by simp [hq]) hw65) y76 _ _ (hM.lendNest (A := A78) (c := c79) (E := 55) (E2 := 2) (ws := ws80) (fun q hq => by simp [hq]) hw81) _ hz93) ?_)
 rintro _ w99 ⟨A94, c95, A96, c97, rfl, hM2, hv98⟩
 obtain ⟨hM, hx100⟩ := hM.backAL (OFlat.row strRep_flat (OFlat.row strRep_flat OFlat.nil)) hM2
 have hM : Mem C _ (.row strRep A94 c95 9 y92.1 true :: .row strRep A96 c97 9 y92.2.1 true :: .box b85 [vL A78 (y76.Nodes) c79] 31 :: .box b69 [vL A62 (y60.Nodes) c63] 31 :: .row strRep A52 c53 9 y50.1 true :: .row strRep A54 c55 9 y50.2.1 true :: .box b13 [vL A6 (aB5.Nodes) c7] 24 :: .box b9 [vL A2 (aA1.Nodes) c3] 24 :: ((((nestW A34 c35 55 2 ws36) ++ nestW A43 c44 55 2 ws45) ++ nestW A62 c63 55 2 ws64) ++ nestW A78 c79 55 2 ws80)) _ := hM
 clear hM2
 refine ⟨_, rfl, fun a hf => ?_⟩
 refine q_ hf rfl rfl rfl (e_move hf rfl) fun a hf => ?_
 iterate 3 refine q_ hf rfl rfl rfl (e_extract hf rfl rfl) fun a hf => ?_
 iterate 3 refine q_ hf rfl rfl rfl (e_assign hf rfl) fun a hf => ?_
 refine pl_nil ?_
 refine then_n ?_
 refine wp_seq ?_
 obtain ⟨x104, h105, h⟩ := bind_some h
 refine seq_join (fun a w => ∃ (t102 : Bool), t102 = x104 ∧ Has 156 a [(2, vP b9 (0)), (3, vP b13 (0)), (6, vL A52 (y50.1) c53), (7, vL A54 (y50.2.1) c55), (8, vI (y50.2.2)), (9, vP b69 (0)), (10, vP b85 (0)), (11, vL A94 (y92.1) c95), (12, vL A96 (y92.2.1) c97), (13, vI (y92.2.2)), (64, .bool (t102))] ∧ Mem C w (.row strRep A94 c95 9 y92.1 true :: .row strRep A96 c97 9 y92.2.1 true :: .box b85 [vL A78 (y76.Nodes) c79] 31 :: .box b69 [vL A62 (y60.Nodes) c63] 31 :: .row strRep A52 c53 9 y50.1 true :: .row strRep A54 c55 9 y50.2.1 true :: .box b13 [vL A6 (aB5.Nodes) c7] 24 :: .box b9 [vL A2 (aA1.Nodes) c3] 24 :: ((((nestW A34 c35 55 2 ws36) ++ nestW A43 c44 55 2 ws45) ++ nestW A62 c63 55 2 ws64) ++ nestW A78 c79 55 2 ws80)) [.dat (sliceRep NodeRep) aB5.Nodes [vL A6 aB5.Nodes c7], .dat (sliceRep NodeRep) aA1.Nodes [vL A2 aA1.Nodes c3]]) ?_ ?_
 ·refine region_pl ?_
  iterate 2 refine q_ hf rfl rfl rfl (e_move hf rfl) fun a hf => ?_
  obtain ⟨y106, hz107, h105⟩ := bind_some h105
  refine pl_l hf rfl rfl rfl (w_call hf Tryd.call8 rfl (r_laws_eqStringS ⟨_, All C _ _, none_, hM.all_lt, none_not, C.G, hM.g_lt, g_none, hM.tabs⟩ y92.1 _ _ (hM.lendRow (k := 0) rfl) y50.1 _ _ (hM.lendRow (k := 4) rfl) _ hz107) ?_)
  rintro _ w108 ⟨rfl, hM2⟩
  obtain ⟨hM, hx109⟩ := hM.backA hM2
  clear hM2
  refine ⟨_, rfl, fun a hf => ?_⟩
  refine q_ hf rfl rfl rfl (e_not hf rfl) fun a hf => ?_
  refine q_ hf rfl rfl rfl (e_move hf rfl) fun a hf => ?_
  rcases cond_some h105 with ⟨hc111, h105⟩ | ⟨hc111, h105⟩
  ·iterate 4 refine pl_gs (wanted_f hf rfl rfl rfl rfl hc111) hf rfl rfl fun a hf => ?_
   refine q_ hf rfl rfl rfl (e_pick_t hf rfl hc111 rfl) fun a hf => ?_
   refine q_ hf rfl rfl rfl (e_move hf rfl) fun a hf => ?_
   iterate 3 refine pl_gs (wanted_f hf rfl rfl rfl rfl rfl) hf rfl rfl fun a hf => ?_
   refine q_ hf rfl rfl rfl (e_pick_t hf rfl rfl rfl) fun a hf => ?_
   refine pl_nil ?_
   obtain rfl := some_inj h105
   refine then_n ?_
   exact ⟨true, rfl, hf.keep ⟨rfl, rfl, rfl, rfl, rfl, rfl, rfl, rfl, rfl, rfl, rfl, trivial⟩, hM.pick [0, 1] rfl⟩
  iterate 2 refine gq (wanted_t hf rfl rfl rfl rfl hc111) hf rfl rfl (e_move hf rfl) fun a hf => ?_
  obtain ⟨y113, hz114, h105⟩ := bind_some h105
  refine pl_gl (wanted_t hf rfl rfl rfl rfl hc111) hf rfl rfl (w_call hf Tryd.call8 rfl (r_laws_eqStringS ⟨_, All C _ _, none_, hM.all_lt, none_not, C.G, hM.g_lt, g_none, hM.tabs⟩ y92.2.1 _ _ (hM.lendRow (k := 1) rfl) y50.2.1 _ _ (hM.lendRow (k := 5) rfl) _ hz114) ?_)
  rintro _ w115 ⟨rfl, hM2⟩
  obtain ⟨hM, hx116⟩ := hM.backA hM2
  clear hM2
  refine ⟨_, rfl, fun a hf => ?_⟩
  refine gq (wanted_t hf rfl rfl rfl rfl hc111) hf rfl rfl (e_not hf rfl) fun a hf => ?_
  refine q_ hf rfl rfl rfl (e_pick_f hf rfl hc111 rfl) fun a hf => ?_
  refine q_ hf rfl rfl rfl (e_move hf rfl) fun a hf => ?_
  rcases cond_some h105 with ⟨hc118, h105⟩ | ⟨hc118, h105⟩
  ·iterate 3 refine pl_gs (wanted_f hf rfl rfl rfl rfl hc118) hf rfl rfl fun a hf => ?_
   refine q_ hf rfl rfl rfl (e_pick_t hf rfl hc118 rfl) fun a hf => ?_
   refine pl_nil ?_
   obtain rfl := some_inj h105
   refine then_n ?_
   exact ⟨true, rfl, hf.keep ⟨rfl, rfl, rfl, rfl, rfl, rfl, rfl, rfl, rfl, rfl, rfl, trivial⟩, hM.pick [0, 1] rfl⟩
  iterate 2 refine gq (wanted_t hf rfl rfl rfl rfl hc118) hf rfl rfl (e_move hf rfl) fun a hf => ?_
  refine gq (wanted_t hf rfl rfl rfl rfl hc118) hf rfl rfl (e_ne hf (x := y92.2.2) (y := y50.2.2) rfl rfl) fun a hf => ?_
  refine q_ hf rfl rfl rfl (e_pick_f hf rfl hc118 rfl) fun a hf => ?_
  refine pl_nil ?_
  obtain rfl := some_inj h105
  refine then_n ?_
  exact ⟨(y92.2.2 != y50.2.2), rfl, hf.keep ⟨rfl, rfl, rfl, rfl, rfl, rfl, rfl, rfl, rfl, rfl, rfl, trivial⟩, hM.pick [0, 1] rfl⟩
 rintro a w121 ⟨t102, rfl, hf, hM⟩
 try dsimp only at h
 rcases cond_some h with ⟨hc122, h⟩ | ⟨hc122, h⟩
 ·refine cond_t hf rfl hc122 ?_
  refine wp_seq ?_
  refine region_pl ?_
  refine q_ hf rfl rfl rfl (e_assign hf rfl) fun a hf => ?_
  refine pl_nil ?_
  refine then_n ?_
  refine wp_ret ?_
  refine then_r ?_
  obtain rfl := some_inj h
  have hM := hM.outs (own' := []) 0 rfl
  exact leave1 hf rfl rfl ⟨rfl, hM.fin⟩
 refine cond_f hf rfl hc122 ?_
 refine wp_skip ?_
 refine then_n ?_
 iterate 2 refine wp_seq ?_
 obtain ⟨w123, hw⟩ : ∃ x, x = w121.drew := ⟨_, rfl⟩
 refine region_pi (.q 0 (.q 1 (.l 2 (.l 3 (.q 4 (.nil)))))) (Ext w123) rfl (by kernel_rfl) ?_
 have hM := hM.drew
 rw [← hw] at hM ⊢
 clear hw
 refine pi_q hf rfl rfl rfl rfl (Ext.refl _) (e_loadA hf (us := [vL A62 (y60.Nodes) c63]) rfl ⟨Tryd.isAgg31, Tryd.sizeOf31⟩ rfl (hM.boxSub (k := 3) (us := [vL A62 (y60.Nodes) c63]) (o := 0) rfl rfl)) fun a hf => ?_
 refine pi_q hf rfl rfl rfl rfl (Ext.refl _) (e_loadA hf (us := [vL A2 (aA1.Nodes) c3]) rfl ⟨Tryd.isAgg24, Tryd.sizeOf24⟩ rfl (hM.boxSub (k := 7) (us := [vL A2 (aA1.Nodes) c3]) (o := 0) rfl rfl)) fun a hf => ?_
 refine pi_one ?_
 obtain ⟨y124, hz125, h⟩ := bind_some h
 refine pi_l hf rfl rfl rfl rfl (w_call hf Tryd.call6 rfl (r_laws_toDawg ⟨_, Sh C _ _, none_, hM.sh_lt, none_not, C.G, hM.g_lt, g_none, hM.tabs⟩ aA1 _ _ (hM.dat (k := 1) rfl) _ hz125) ?_)
 rintro _ w130 ⟨A126, c127, ws128, rfl, hM2, hw129⟩
 obtain ⟨hM, hx131, hup132⟩ := hM.back hM2
 try dsimp only [List.cons_append, List.nil_append] at hM hup132
 clear hM2
 have hM : Mem C _ (.row strRep A94 c95 9 y92.1 true :: .row strRep A96 c97 9 y92.2.1 true :: .box b85 [vL A78 (y76.Nodes) c79] 31 :: .box b69 [vL A62 (y60.Nodes) c63] 31 :: .row strRep A52 c53 9 y50.1 true :: .row strRep A54 c55 9 y50.2.1 true :: .box b13 [vL A6 (aB5.Nodes) c7] 24 :: .box b9 [vL A2 (aA1.Nodes) c3] 24 :: (((((nestW A34 c35 55 2 ws36) ++ nestW A43 c44 55 2 ws45) ++ nestW A62 c63 55 2 ws64) ++ nestW A78 c79 55 2 ws80) ++ nestW A126 c127 55 2 ws128)) _ := Mem.perm (own := (nestW A126 c127 55 2 ws128) ++ ([.row strRep A94 c95 9 y92.1 true, .row strRep A96 c97 9 y92.2.1 true, .box b85 [vL A78 (y76.Nodes) c79] 31, .box b69 [vL A62 (y60.Nodes) c63] 31, .row strRep A52 c53 9 y50.1 true, .row strRep A54 c55 9 y50.2.1 true, .box b13 [vL A6 (aB5.Nodes) c7] 24, .box b9 [vL A2 (aA1.Nodes) c3] 24] ++ ((((nestW A34 c35 55 2 ws36) ++ nestW A43 c44 55 2 ws45) ++ nestW A62 c63 55 2 ws64) ++ nestW A78 c79 55 2 ws80))) (own' := ([] ++ [.row strRep A94 c95 9 y92.1 true, .row strRep A96 c97 9 y92.2.1 true, .box b85 [vL A78 (y76.Nodes) c79] 31, .box b69 [vL A62 (y60.Nodes) c63] 31, .row strRep A52 c53 9 y50.1 true, .row strRep A54 c55 9 y50.2.1 true, .box b13 [vL A6 (aB5.Nodes) c7] 24, .box b9 [vL A2 (aA1.Nodes) c3] 24]) ++ (((((nestW A34 c35 55 2 ws36) ++ nestW A43 c44 55 2 ws45) ++ nestW A62 c63 55 2 ws64) ++ nestW A78 c79 55 2 ws80) ++ nestW A126 c127 55 2 ws128)) hM (fun a => by simp only [List.count_append, List.count_nil]; omega)
 refine ⟨_, rfl, Ext w130, fun _ h => Ext.trans hx131 h, Ext.refl _, fun a hf => ?_⟩
 refine pi_one ?_
 obtain ⟨y133, hz134, h⟩ := bind_some h
 refine pi_l hf rfl rfl rfl rfl (w_call hf Tryd.call9 rfl (r_laws_eqDawg ⟨_, All C _ _, none_, hM.all_lt, none_not, C.G, hM.g_lt, g_none, hM.tabs⟩ y60 _ _ (hM.lendNest (A := A62) (c := c63) (E := 55) (E2 := 2) (ws := ws64) (fun q hq => by simp [hq]) hw65) y124 _ _ (hM.lendNest (A := A126) (c := c127) (E := 55) (E2 := 2) (ws := ws128) (fun q hq => by simp [hq]) hw129) _ hz134) ?_)
 rintro _ w135 ⟨rfl, hM2⟩
 obtain ⟨hM, hx136⟩ := hM.backA hM2
 clear hM2
 refine ⟨_, rfl, Ext w135, fun _ h => Ext.trans hx136 h, Ext.refl _, fun a hf => ?_⟩
 refine pi_q hf rfl rfl rfl rfl (Ext.refl _) (e_not hf rfl) fun a hf => ?_
 refine pi_nil ?_
 refine then_n ?_
 rcases cond_some h with ⟨hc138, h⟩ | ⟨hc138, h⟩
 ·refine cond_t hf rfl hc138 ?_
  refine wp_seq ?_
  refine region_pl ?_
  refine q_ hf rfl rfl rfl (e_assign hf rfl) fun a hf => ?_
  refine pl_nil ?_
  refine then_n ?_
  refine wp_ret ?_
  refine then_r ?_
  obtain rfl := some_inj h
  have hM := hM.outs (own' := []) 0 rfl
  exact leave1 hf rfl rfl ⟨rfl, hM.fin⟩
 refine cond_f hf rfl hc138 ?_
 refine wp_skip ?_
 refine then_n ?_
 iterate 2 refine wp_seq ?_
 obtain ⟨w139, hw⟩ : ∃ x, x = w135.drew := ⟨_, rfl⟩
 refine region_pi (.q 0 (.q 1 (.l 2 (.l 3 (.q 4 (.nil)))))) (Ext w139) rfl (by kernel_rfl) ?_
 have hM := hM.drew
 rw [← hw] at hM ⊢
 clear hw
 refine pi_q hf rfl rfl rfl rfl (Ext.refl _) (e_loadA hf (us := [vL A78 (y76.Nodes) c79]) rfl ⟨Tryd.isAgg31, Tryd.sizeOf31⟩ rfl (hM.boxSub (k := 2) (us := [vL A78 (y76.Nodes) c79]) (o := 0) rfl rfl)) fun a hf => ?_
 refine pi_q hf rfl rfl rfl rfl (Ext.refl _) (e_loadA hf (us := [vL A6 (aB5.Nodes) c7]) rfl ⟨Tryd.isAgg24, Tryd.sizeOf24⟩ rfl (hM.boxSub (k := 6) (us := [vL A6 (aB5.Nodes) c7]) (o := 0) rfl rfl)) fun a hf => ?_
 refine pi_one ?_
 obtain ⟨y140, hz141, h⟩ := bind_some h
 refine pi_l hf rfl rfl rfl rfl (w_call hf Tryd.call6 rfl (r_laws_toDawg ⟨_, Sh C _ _, none_, hM.sh_lt, none_not, C.G, hM.g_lt, g_none, hM.tabs⟩ aB5 _ _ (hM.dat (k := 0) rfl) _ hz141) ?_)
 rintro _ w146 ⟨A142, c143, ws144, rfl, hM2, hw145⟩
 obtain ⟨hM, hx147, hup148⟩ := hM.back hM2
 try dsimp only [List.cons_append, List.nil_append] at hM hup148
 clear hM2
 have hM : Mem C _ (.row strRep A94 c95 9 y92.1 true :: .row strRep A96 c97 9 y92.2.1 true :: .box b85 [vL A78 (y76.Nodes) c79] 31 :: .box b69 [vL A62 (y60.Nodes) c63] 31 :: .row strRep A52 c53 9 y50.1 true :: .row strRep A54 c55 9 y50.2.1 true :: .box b13 [vL A6 (aB5.Nodes) c7] 24 :: .box b9 [vL A2 (aA1.Nodes) c3] 24 :: ((((((nestW A34 c35 55 2 ws36) ++ nestW A43 c44 55 2 ws45) ++ nestW A62 c63 55 2 ws64) ++ nestW A78 c79 55 2 ws80) ++ nestW A126 c127 55 2 ws128) ++ nestW A142 c143 55 2 ws144)) _ := Mem.perm (own := (nestW A142 c143 55 2 ws144) ++ ([.row strRep A94 c95 9 y92.1 true, .row strRep A96 c97 9 y92.2.1 true, .box b85 [vL A78 (y76.Nodes) c79] 31, .box b69 [vL A62 (y60.Nodes) c63] 31, .row strRep A52 c53 9 y50.1 true, .row strRep A54 c55 9 y50.2.1 true, .box b13 [vL A6 (aB5.Nodes) c7] 24, .box b9 [vL A2 (aA1.Nodes) c3] 24] ++ (((((nestW A34 c35 55 2 ws36) ++ nestW A43 c44 55 2 ws45) ++ nestW A62 c63 55 2 ws64) ++ nestW A78 c79 55 2 ws80) ++ nestW A126 c127 55 2 ws128))) (own' := ([] ++ [.row strRep A94 c95 9 y92.1 true, .row strRep A96 c97 9 y92.2.1 true, .box b85 [vL A78 (y76.Nodes) c79] 31, .box b69 [vL A62 (y60.Nodes) c63] 31, .row strRep A52 c53 9 y50.1 true, .row strRep A54 c55 9 y50.2.1 true, .box b13 [vL A6 (aB5.Nodes) c7] 24, .box b9 [vL A2 (aA1.Nodes) c3] 24]) ++ ((((((nestW A34 c35 55 2 ws36) ++ nestW A43 c44 55 2 ws45) ++ nestW A62 c63 55 2 ws64) ++ nestW A78 c79 55 2 ws80) ++ nestW A126 c127 55 2 ws128) ++ nestW A142 c143 55 2 ws144)) hM (fun a => by simp only [List.count_append, List.count_nil]; omega)
 refine ⟨_, rfl, Ext w146, fun _ h => Ext.trans hx147 h, Ext.refl _, fun a hf => ?_⟩
 refine pi_one ?_
 obtain ⟨y149, hz150, h⟩ := bind_some h
 refine pi_l hf rfl rfl rfl rfl (w_call hf Tryd.call9 rfl (r_laws_eqDawg ⟨_, All C _ _, none_, hM.all_lt, none_not, C.G, hM.g_lt, g_none, hM.tabs⟩ y76 _ _ (hM.lendNest (A := A78) (c := c79) (E := 55) (E2 := 2) (ws := ws80) (fun q hq => by simp [hq]) hw81) y140 _ _ (hM.lendNest (A := A142) (c := c143) (E := 55) (E2 := 2) (ws := ws144) (fun q hq => by simp [hq]) hw145) _ hz150) ?_)
 rintro _ w151 ⟨rfl, hM2⟩
 obtain ⟨hM, hx152⟩ := hM.backA hM2
 clear hM2
 refine ⟨_, rfl, Ext w151, fun _ h => Ext.trans hx152 h, Ext.refl _, fun a hf => ?_⟩
 refine pi_q hf rfl rfl rfl rfl (Ext.refl _) (e_not hf rfl) fun a hf => ?_
 refine pi_nil ?_
 refine then_n ?_
 rcases cond_some h with ⟨hc154, h⟩ | ⟨hc154, h⟩
 ·refine cond_t hf rfl hc154 ?_
  refine wp_seq ?_
  refine region_pl ?_
  refine q_ hf rfl rfl rfl (e_assign hf rfl) fun a hf => ?_
  refine pl_nil ?_
  refine then_n ?_
  refine wp_ret ?_
  refine then_r ?_
  obtain rfl := some_inj h
  have hM := hM.outs (own' := []) 0 rfl
  exact leave1 hf rfl rfl ⟨rfl, hM.fin⟩
 refine cond_f hf rfl hc154 ?_
 refine wp_skip ?_
 refine then_n ?_
 refine wp_seq ?_
 refine region_pl ?_
 refine q_ hf rfl rfl rfl (e_assign hf rfl) fun a hf => ?_
 refine pl_nil ?_
 refine then_n ?_
 refine wp_seq ?_
 refine region_pl ?_
 refine q_ hf rfl rfl rfl (e_loadA hf (us := [vL A62 (y60.Nodes) c63]) rfl ⟨Tryd.isAgg31, Tryd.sizeOf31⟩ rfl (hM.boxSub (k := 3) (us := [vL A62 (y60.Nodes) c63]) (o := 0) rfl rfl)) fun a hf => ?_
 refine q_ hf rfl rfl rfl (e_move hf rfl) fun a hf => ?_
 have hM : Mem C _ ((nestW A62 c63 55 2 ws64) ++ ([.row strRep A94 c95 9 y92.1 true, .row strRep A96 c97 9 y92.2.1 true, .box b85 [vL A78 (y76.Nodes) c79] 31, .box b69 [vL A62 (y60.Nodes) c63] 31, .row strRep A52 c53 9 y50.1 true, .row strRep A54 c55 9 y50.2.1 true, .box b13 [vL A6 (aB5.Nodes) c7] 24, .box b9 [vL A2 (aA1.Nodes) c3] 24] ++ (((((nestW A34 c35 55 2 ws36) ++ nestW A43 c44 55 2 ws45) ++ nestW A78 c79 55 2 ws80) ++ nestW A126 c127 55 2 ws128) ++ nestW A142 c143 55 2 ws144))) _ := Mem.perm (own := ([.row strRep A94 c95 9 y92.1 true, .row strRep A96 c97 9 y92.2.1 true, .box b85 [vL A78 (y76.Nodes) c79] 31, .box b69 [vL A62 (y60.Nodes) c63] 31, .row strRep A52 c53 9 y50.1 true, .row strRep A54 c55 9 y50.2.1 true, .box b13 [vL A6 (aB5.Nodes) c7] 24, .box b9 [vL A2 (aA1.Nodes) c3] 24] ++ ((((((nestW A34 c35 55 2 ws36) ++ nestW A43 c44 55 2 ws45) ++ nestW A62 c63 55 2 ws64) ++ nestW A78 c79 55 2 ws80) ++ nestW A126 c127 55 2 ws128) ++ nestW A142 c143 55 2 ws144))) hM (fun a => by simp only [List.count_append, List.count_nil]; omega)
 obtain ⟨y155, hz156, h⟩ := bind_some h
 refine pl_l hf rfl rfl rfl (w_call hf Tryd.call10 rfl (r_laws_markDawg ⟨_, Sh C _ _, ownB _, hM.sh_lt, sub_dis, C.G, hM.g_lt, hM.g_own, hM.tabs⟩ y60 _ _ _ hw65 1 (R64_lit rfl) hM.sub sub_dis _ hz156) ?_)
 rintro _ w161 ⟨ws157, rfl, hM2, hw158, hl159, hv160⟩
 obtain ⟨hM, hup163⟩ := hM.backG hM2
 try dsimp only [List.cons_append, List.nil_append] at hM hup163
 clear hM2
 have hM : Mem C _ (.row strRep A94 c95 9 y92.1 true :: .row strRep A96 c97 9 y92.2.1 true :: .box b85 [vL A78 (y76.Nodes) c79] 31 :: .box b69 [vL A62 (y60.Nodes) c63] 31 :: .row strRep A52 c53 9 y50.1 true :: .row strRep A54 c55 9 y50.2.1 true :: .box b13 [vL A6 (aB5.Nodes) c7] 24 :: .box b9 [vL A2 (aA1.Nodes) c3] 24 :: ((((((nestW A34 c35 55 2 ws36) ++ nestW A43 c44 55 2 ws45) ++ nestW A78 c79 55 2 ws80) ++ nestW A126 c127 55 2 ws128) ++ nestW A142 c143 55 2 ws144) ++ nestW A62 c63 55 2 ws157)) _ := Mem.perm (own := (nestW A62 c63 55 2 ws157) ++ ([.row strRep A94 c95 9 y92.1 true, .row strRep A96 c97 9 y92.2.1 true, .box b85 [vL A78 (y76.Nodes) c79] 31, .box b69 [vL A62 (y60.Nodes) c63] 31, .row strRep A52 c53 9 y50.1 true, .row strRep A54 c55 9 y50.2.1 true, .box b13 [vL A6 (aB5.Nodes) c7] 24, .box b9 [vL A2 (aA1.Nodes) c3] 24] ++ (((((nestW A34 c35 55 2 ws36) ++ nestW A43 c44 55 2 ws45) ++ nestW A78 c79 55 2 ws80) ++ nestW A126 c127 55 2 ws128) ++ nestW A142 c143 55 2 ws144))) (own' := ([] ++ [.row strRep A94 c95 9 y92.1 true, .row strRep A96 c97 9 y92.2.1 true, .box b85 [vL A78 (y76.Nodes) c79] 31, .box b69 [vL A62 (y60.Nodes) c63] 31, .row strRep A52 c53 9 y50.1 true, .row strRep A54 c55 9 y50.2.1 true, .box b13 [vL A6 (aB5.Nodes) c7] 24, .box b9 [vL A2 (aA1.Nodes) c3] 24]) ++ ((((((nestW A34 c35 55 2 ws36) ++ nestW A43 c44 55 2 ws45) ++ nestW A78 c79 55 2 ws80) ++ nestW A126 c127 55 2 ws128) ++ nestW A142 c143 55 2 ws144) ++ nestW A62 c63 55 2 ws157)) hM (fun a => by simp only [List.count_append, List.count_nil]; omega)
 refine ⟨_, rfl, fun a hf => ?_⟩
 have hf := hf.alter (d := 65) (v := .agg #[vL A62 (y155.2) c63]) rfl (by rw [vL_len (A := A62) (c := c63) hl159])
 have hf := hf.alter (d := 75) (v := .agg #[vL A62 (y155.2) c63]) rfl (by rw [vL_len (A := A62) (c := c63) hl159])
 rw [vL_len (A := A62) (c := c63) hl159] at hM
 refine q_ hf rfl rfl rfl (e_assign hf rfl) fun a hf => ?_
 refine pl_nil ?_
 refine then_n ?_
 refine wp_seq ?_
 refine region_pl ?_
 refine q_ hf rfl rfl rfl (e_loadA hf (us := [vL A78 (y76.Nodes) c79]) rfl ⟨Tryd.isAgg31, Tryd.sizeOf31⟩ rfl (hM.boxSub (k := 2) (us := [vL A78 (y76.Nodes) c79]) (o := 0) rfl rfl)) fun a hf => ?_
 refine q_ hf rfl rfl rfl (e_move hf rfl) fun a hf => ?_
 have hM : Mem C _ ((nestW A78 c79 55 2 ws80) ++ ([.row strRep A94 c95 9 y92.1 true, .row strRep A96 c97 9 y92.2.1 true, .box b85 [vL A78 (y76.Nodes) c79] 31, .box b69 [vL A62 (y155.2) c63] 31, .row strRep A52 c53 9 y50.1 true, .row strRep A54 c55 9 y50.2.1 true, .box b13 [vL A6 (aB5.Nodes) c7] 24, .box b9 [vL A2 (aA1.Nodes) c3] 24] ++ (((((nestW A34 c35 55 2 ws36) ++ nestW A43 c44 55 2 ws45) ++ nestW A126 c127 55 2 ws128) ++ nestW A142 c143 55 2 ws144) ++ nestW A62 c63 55 2 ws157))) _ := Mem.perm (own := ([.row strRep A94 c95 9 y92.1 true, .row strRep A96 c97 9 y92.2.1 true, .box b85 [vL A78 (y76.Nodes) c79] 31, .box b69 [vL A62 (y155.2) c63] 31, .row strRep A52 c53 9 y50.1 true, .row strRep A54 c55 9 y50.2.1 true, .box b13 [vL A6 (aB5.Nodes) c7] 24, .box b9 [vL A2 (aA1.Nodes) c3] 24] ++ ((((((nestW A34 c35 55 2 ws36) ++ nestW A43 c44 55 2 ws45) ++ nestW A78 c79 55 2 ws80) ++ nestW A126 c127 55 2 ws128) ++ nestW A142 c143 55 2 ws144) ++ nestW A62 c63 55 2 ws157))) hM (fun a => by simp only [List.count_append, List.count_nil]; omega)
 obtain ⟨y164, hz165, h⟩ := bind_some h
 refine pl_l hf rfl rfl rfl (w_call hf Tryd.call10 rfl (r_laws_markDawg ⟨_, Sh C _ _, ownB _, hM.sh_lt, sub_dis, C.G, hM.g_lt, hM.g_own, hM.tabs⟩ y76 _ _ _ hw81 y155.1 hv160 hM.sub sub_dis _ hz165) ?_)
 rintro _ w170 ⟨ws166, rfl, hM2, hw167, hl168, hv169⟩
 obtain ⟨hM, hup172⟩ := hM.backG hM2
 try dsimp only [List.cons_append, List.nil_append] at hM hup172
 clear hM2
 have hM : Mem C _ (.row strRep A94 c95 9 y92.1 true :: .row strRep A96 c97 9 y92.2.1 true :: .box b85 [vL A78 (y76.Nodes) c79] 31 :: .box b69 [vL A62 (y155.2) c63] 31 :: .row strRep A52 c53 9 y50.1 true :: .row strRep A54 c55 9 y50.2.1 true :: .box b13 [vL A6 (aB5.Nodes) c7] 24 :: .box b9 [vL A2 (aA1.Nodes) c3] 24 :: ((((((nestW A34 c35 55 2 ws36) ++ nestW A43 c44 55 2 ws45) ++ nestW A126 c127 55 2 ws128) ++ nestW A142 c143 55 2 ws144) ++ nestW A62 c63 55 2 ws157) ++ nestW A78 c79 55 2 ws166)) _ := Mem.perm (own := (nestW A78 c79 55 2 ws166) ++ ([.row strRep A94 c95 9 y92.1 true, .row strRep A96 c97 9 y92.2.1 true, .box b85 [vL A78 (y76.Nodes) c79] 31, .box b69 [vL A62 (y155.2) c63] 31, .row strRep A52 c53 9 y50.1 true, .row strRep A54 c55 9 y50.2.1 true, .box b13 [vL A6 (aB5.Nodes) c7] 24, .box b9 [vL A2 (aA1.Nodes) c3] 24] ++ (((((nestW A34 c35 55 2 ws36) ++ nestW A43 c44 55 2 ws45) ++ nestW A126 c127 55 2 ws128) ++ nestW A142 c143 55 2 ws144) ++ nestW A62 c63 55 2 ws157))) (own' := ([] ++ [.row strRep A94 c95 9 y92.1 true, .row strRep A96 c97 9 y92.2.1 true, .box b85 [vL A78 (y76.Nodes) c79] 31, .box b69 [vL A62 (y155.2) c63] 31, .row strRep A52 c53 9 y50.1 true, .row strRep A54 c55 9 y50.2.1 true, .box b13 [vL A6 (aB5.Nodes) c7] 24, .box b9 [vL A2 (aA1.Nodes) c3] 24]) ++ ((((((nestW A34 c35 55 2 ws36) ++ nestW A43 c44 55 2 ws45) ++ nestW A126 c127 55 2 ws128) ++ nestW A142 c143 55 2 ws144) ++ nestW A62 c63 55 2 ws157) ++ nestW A78 c79 55 2 ws166)) hM (fun a => by simp only [List.count_append, List.count_nil]; omega)
 refine ⟨_, rfl, fun a hf => ?_⟩
 have hf := hf.alter (d := 70) (v := .agg #[vL A78 (y164.2) c79]) rfl (by rw [vL_len (A := A78) (c := c79) hl168])
 have hf := hf.alter (d := 78) (v := .agg #[vL A78 (y164.2) c79]) rfl (by rw [vL_len (A := A78) (c := c79) hl168])
 rw [vL_len (A := A78) (c := c79) hl168] at hM
 refine q_ hf rfl rfl rfl (e_assign hf rfl) fun a hf => ?_
 refine pl_nil ?_
 refine then_n ?_
 refine wp_seq ?_
 obtain ⟨x175, h176, h⟩ := bind_some h
 refine seq_join (fun a w => ∃ (t173 : Bool), t173 = x175 ∧ Has 156 a [(2, vP b9 (0)), (3, vP b13 (0)), (6, vL A52 (y50.1) c53), (7, vL A54 (y50.2.1) c55), (8, vI (y50.2.2)), (11, vL A94 (y92.1) c95), (12, vL A96 (y92.2.1) c97), (99, .bool (t173))] ∧ Mem C w (.row strRep A94 c95 9 y92.1 true :: .row strRep A96 c97 9 y92.2.1 true :: .box b85 [vL A78 (y164.2) c79] 31 :: .box b69 [vL A62 (y155.2) c63] 31 :: .row strRep A52 c53 9 y50.1 true :: .row strRep A54 c55 9 y50.2.1 true :: .box b13 [vL A6 (aB5.Nodes) c7] 24 :: .box b9 [vL A2 (aA1.Nodes) c3] 24 :: ((((((nestW A34 c35 55 2 ws36) ++ nestW A43 c44 55 2 ws45) ++ nestW A126 c127 55 2 ws128) ++ nestW A142 c143 55 2 ws144) ++ nestW A62 c63 55 2 ws157) ++ nestW A78 c79 55 2 ws166)) [.dat (sliceRep NodeRep) aB5.Nodes [vL A6 aB5.Nodes c7], .dat (sliceRep NodeRep) aA1.Nodes [vL A2 aA1.Nodes c3]]) ?_ ?_
 ·refine region_pl ?_
  refine q_ hf rfl rfl rfl (e_move hf rfl) fun a hf => ?_
  refine q_ hf rfl rfl rfl (e_lt hf (x := y164.1) (y := 0) rfl rfl) fun a hf => ?_
  refine q_ hf rfl rfl rfl (e_move hf rfl) fun a hf => ?_
  rcases cond_some h176 with ⟨hc177, h176⟩ | ⟨hc177, h176⟩
  ·iterate 4 refine pl_gs (wanted_f hf rfl rfl rfl rfl hc177) hf rfl rfl fun a hf => ?_
   refine q_ hf rfl rfl rfl (e_pick_t hf rfl hc177 rfl) fun a hf => ?_
   refine q_ hf rfl rfl rfl (e_move hf rfl) fun a hf => ?_
   iterate 4 refine pl_gs (wanted_f hf rfl rfl rfl rfl rfl) hf rfl rfl fun a hf => ?_
   refine q_ hf rfl rfl rfl (e_pick_t hf rfl rfl rfl) fun a hf => ?_
   refine q_ hf rfl rfl rfl (e_move hf rfl) fun a hf => ?_
   iterate 3 refine pl_gs (wanted_f hf rfl rfl rfl rfl rfl) hf rfl rfl fun a hf => ?_
   refine q_ hf rfl rfl rfl (e_pick_t hf rfl rfl rfl) fun a hf => ?_
   refine pl_nil ?_
   obtain rfl := some_inj h176
   refine then_n ?_
   exact ⟨true, rfl, hf.keep ⟨rfl, rfl, rfl, rfl, rfl, rfl, rfl, rfl, trivial⟩, hM.pick [0, 1] rfl⟩
  iterate 2 refine gq (wanted_t hf rfl rfl rfl rfl hc177) hf rfl rfl (e_move hf rfl) fun a hf => ?_
  obtain ⟨y179, hz180, h176⟩ := bind_some h176
  refine pl_gl (wanted_t hf rfl rfl rfl rfl hc177) hf rfl rfl (w_call hf Tryd.call8 rfl (r_laws_eqStringS ⟨_, All C _ _, none_, hM.all_lt, none_not, C.G, hM.g_lt, g_none, hM.tabs⟩ y92.1 _ _ (hM.lendRow (k := 0) rfl) y50.1 _ _ (hM.lendRow (k := 4) rfl) _ hz180) ?_)
  rintro _ w181 ⟨rfl, hM2⟩
  obtain ⟨hM, hx182⟩ := hM.backA hM2
  clear hM2
  refine ⟨_, rfl, fun a hf => ?_⟩
  refine gq (wanted_t hf rfl rfl rfl rfl hc177) hf rfl rfl (e_not hf rfl) fun a hf => ?_
  refine q_ hf rfl rfl rfl (e_pick_f hf rfl hc177 rfl) fun a hf => ?_
  refine q_ hf rfl rfl rfl (e_move hf rfl) fun a hf => ?_
  rcases cond_some h176 with ⟨hc184, h176⟩ | ⟨hc184, h176⟩
  ·iterate 4 refine pl_gs (wanted_f hf rfl rfl rfl rfl hc184) hf rfl rfl fun a hf => ?_
   refine q_ hf rfl rfl rfl (e_pick_t hf rfl hc184 rfl) fun a hf => ?_
   refine q_ hf rfl rfl rfl (e_move hf rfl) fun a hf => ?_
   iterate 3 refine pl_gs (wanted_f hf rfl rfl rfl rfl rfl) hf rfl rfl fun a hf => ?_
   refine q_ hf rfl rfl rfl (e_pick_t hf rfl rfl rfl) fun a hf => ?_
   refine pl_nil ?_
   obtain rfl := some_inj h176
   refine then_n ?_
   exact ⟨true, rfl, hf.keep ⟨rfl, rfl, rfl, rfl, rfl, rfl, rfl, rfl, trivial⟩, hM.pick [0, 1] rfl⟩
  iterate 2 refine gq (wanted_t hf rfl rfl rfl rfl hc184) hf rfl rfl (e_move hf rfl) fun a hf => ?_
  obtain ⟨y186, hz187, h176⟩ := bind_some h176
  refine pl_gl (wanted_t hf rfl rfl rfl rfl hc184) hf rfl rfl (w_call hf Tryd.call8 rfl (r_laws_eqStringS ⟨_, All C _ _, none_, hM.all_lt, none_not, C.G, hM.g_lt, g_none, hM.tabs⟩ y92.2.1 _ _ (hM.lendRow (k := 1) rfl) y50.2.1 _ _ (hM.lendRow (k := 5) rfl) _ hz187) ?_)
  rintro _ w188 ⟨rfl, hM2⟩
  obtain ⟨hM, hx189⟩ := hM.backA hM2
  clear hM2
  refine ⟨_, rfl, fun a hf => ?_⟩
  refine gq (wanted_t hf rfl rfl rfl rfl hc184) hf rfl rfl (e_not hf rfl) fun a hf => ?_
  refine q_ hf rfl rfl rfl (e_pick_f hf rfl hc184 rfl) fun a hf => ?_
  refine q_ hf rfl rfl rfl (e_move hf rfl) fun a hf => ?_
  rcases cond_some h176 with ⟨hc191, h176⟩ | ⟨hc191, h176⟩
  ·iterate 3 refine pl_gs (wanted_f hf rfl rfl rfl rfl hc191) hf rfl rfl fun a hf => ?_
   refine q_ hf rfl rfl rfl (e_pick_t hf rfl hc191 rfl) fun a hf => ?_
   refine pl_nil ?_
   obtain rfl := some_inj h176
   refine then_n ?_
   exact ⟨true, rfl, hf.keep ⟨rfl, rfl, rfl, rfl, rfl, rfl, rfl, rfl, trivial⟩, hM.pick [0, 1] rfl⟩
  iterate 2 refine gq (wanted_t hf rfl rfl rfl rfl hc191) hf rfl rfl (e_move hf rfl) fun a hf => ?_
  refine gq (wanted_t hf rfl rfl rfl rfl hc191) hf rfl rfl (e_ne hf (x := y92.2.2) (y := y50.2.2) rfl rfl) fun a hf => ?_
  refine q_ hf rfl rfl rfl (e_pick_f hf rfl hc191 rfl) fun a hf => ?_
  refine pl_nil ?_
  obtain rfl := some_inj h176
  refine then_n ?_
  exact ⟨(y92.2.2 != y50.2.2), rfl, hf.keep ⟨rfl, rfl, rfl, rfl, rfl, rfl, rfl, rfl, trivial⟩, hM.pick [0, 1] rfl⟩
 rintro a w194 ⟨t173, rfl, hf, hM⟩
 try dsimp only at h
 rcases cond_some h with ⟨hc195, h⟩ | ⟨hc195, h⟩
 ·refine cond_t hf rfl hc195 ?_
  refine wp_seq ?_
  refine region_pl ?_
  refine q_ hf rfl rfl rfl (e_assign hf rfl) fun a hf => ?_
  refine pl_nil ?_
  refine then_n ?_
  refine wp_ret ?_
  refine then_r ?_
  obtain rfl := some_inj h
  have hM := hM.outs (own' := []) 0 rfl
  exact leave1 hf rfl rfl ⟨rfl, hM.fin⟩
 refine cond_f hf rfl hc195 ?_
 refine wp_skip ?_
 refine then_n ?_
 refine wp_seq ?_
 refine region_pl ?_
 refine q_ hf rfl rfl rfl (e_assign hf rfl) fun a hf => ?_
 refine pl_nil ?_
 refine then_n ?_
 refine wp_seq ?_
 refine region_pl ?_
 iterate 2 refine q_ hf rfl rfl rfl (e_move hf rfl) fun a hf => ?_
 have hM : Mem C _ ([.row strRep A94 c95 9 y92.1 true] ++ (.row strRep A96 c97 9 y92.2.1 true :: .box b85 [vL A78 (y164.2) c79] 31 :: .box b69 [vL A62 (y155.2) c63] 31 :: .row strRep A52 c53 9 y50.1 true :: .row strRep A54 c55 9 y50.2.1 true :: .box b13 [vL A6 (aB5.Nodes) c7] 24 :: .box b9 [vL A2 (aA1.Nodes) c3] 24 :: ((((((nestW A34 c35 55 2 ws36) ++ nestW A43 c44 55 2 ws45) ++ nestW A126 c127 55 2 ws128) ++ nestW A142 c143 55 2 ws144) ++ nestW A62 c63 55 2 ws157) ++ nestW A78 c79 55 2 ws166))) _ := hM
 obtain ⟨y196, hz197, h⟩ := bind_some h
 refine pl_l hf rfl rfl rfl (w_call hf Tryd.call11 rfl (r_laws_markStringS ⟨_, Sh C _ _, ownB _, hM.sh_lt, sub_dis, C.G, hM.g_lt, hM.g_own, hM.tabs⟩ y92.1 _ _ 1 (R64_lit rfl) hM.sub sub_dis _ hz197) ?_)
 rintro _ w200 ⟨rfl, hM2, hl198, hv199⟩
 obtain ⟨hM, hup202⟩ := hM.backG hM2
 try dsimp only [List.cons_append, List.nil_append] at hM hup202
 clear hM2
 refine ⟨_, rfl, fun a hf => ?_⟩
 have hf := hf.alter (d := 11) (v := vL A94 (y196.2) c95) rfl (vL_len hl198)
 have hf := hf.alter (d := 100) (v := vL A94 (y196.2) c95) rfl (vL_len hl198)
 refine q_ hf rfl rfl rfl (e_assign hf rfl) fun a hf => ?_
 refine pl_nil ?_
 refine then_n ?_
 refine wp_seq ?_
 refine region_pl ?_
 iterate 2 refine q_ hf rfl rfl rfl (e_move hf rfl) fun a hf => ?_
 have hM := hM.front (k := 1) rfl
 dsimp only [List.eraseIdx] at hM
 have hM : Mem C _ ([.row strRep A96 c97 9 y92.2.1 true] ++ (.row strRep A94 c95 9 y196.2 true :: .box b85 [vL A78 (y164.2) c79] 31 :: .box b69 [vL A62 (y155.2) c63] 31 :: .row strRep A52 c53 9 y50.1 true :: .row strRep A54 c55 9 y50.2.1 true :: .box b13 [vL A6 (aB5.Nodes) c7] 24 :: .box b9 [vL A2 (aA1.Nodes) c3] 24 :: ((((((nestW A34 c35 55 2 ws36) ++ nestW A43 c44 55 2 ws45) ++ nestW A126 c127 55 2 ws128) ++ nestW A142 c143 55 2 ws144) ++ nestW A62 c63 55 2 ws157) ++ nestW A78 c79 55 2 ws166))) _ := hM
 obtain ⟨y203, hz204, h⟩ := bind_some h
 refine pl_l hf rfl rfl rfl (w_call hf Tryd.call11 rfl (r_laws_markStringS ⟨_, Sh C _ _, ownB _, hM.sh_lt, sub_dis, C.G, hM.g_lt, hM.g_own, hM.tabs⟩ y92.2.1 _ _ y196.1 hv199 hM.sub sub_dis _ hz204) ?_)
 rintro _ w207 ⟨rfl, hM2, hl205, hv206⟩
 obtain ⟨hM, hup209⟩ := hM.backG hM2
 try dsimp only [List.cons_append, List.nil_append] at hM hup209
 clear hM2
 refine ⟨_, rfl, fun a hf => ?_⟩
 have hf := hf.alter (d := 12) (v := vL A96 (y203.2) c97) rfl (vL_len hl205)
 have hf := hf.alter (d := 103) (v := vL A96 (y203.2) c97) rfl (vL_len hl205)
 refine q_ hf rfl rfl rfl (e_assign hf rfl) fun a hf => ?_
 refine pl_nil ?_
 refine then_n ?_
 refine wp_seq ?_
 refine region_pl ?_
 refine q_ hf rfl rfl rfl (e_assign hf rfl) fun a hf => ?_
 refine pl_nil ?_
 refine then_n ?_
 refine wp_seq ?_
 refine region_pl ?_
 iterate 2 refine q_ hf rfl rfl rfl (e_move hf rfl) fun a hf => ?_
 obtain ⟨y210, hz211, h⟩ := bind_some h
 refine pl_l hf rfl rfl rfl (w_call hf Tryd.call12 rfl (r_laws_heldStringS ⟨_, All C _ _, none_, hM.all_lt, none_not, C.G, hM.g_lt, g_none, hM.tabs⟩ y196.2 _ _ (hM.lendRow (k := 1) rfl) 1 (R64_lit rfl) _ hz211) ?_)
 rintro _ w213 ⟨rfl, hM2, hv212⟩
 obtain ⟨hM, hx214⟩ := hM.backA hM2
 clear hM2
 refine ⟨_, rfl, fun a hf => ?_⟩
 refine q_ hf rfl rfl rfl (e_assign hf rfl) fun a hf => ?_
 refine pl_nil ?_
 refine then_n ?_
 iterate 2 refine wp_seq ?_
 refine region_pl ?_
 refine q_ hf rfl rfl rfl (e_move hf rfl) fun a hf => ?_
 refine q_ hf rfl rfl rfl (e_lt hf (x := y210) (y := 0) rfl rfl) fun a hf => ?_
 refine pl_nil ?_
 refine then_n ?_
 rcases cond_some h with ⟨hc216, h⟩ | ⟨hc216, h⟩
 ·refine cond_t hf rfl hc216 ?_
  refine wp_seq ?_
  refine region_pl ?_
  refine q_ hf rfl rfl rfl (e_assign hf rfl) fun a hf => ?_
  refine pl_nil ?_
  refine then_n ?_
  refine wp_ret ?_
  refine then_r ?_
  obtain rfl := some_inj h
  have hM := hM.outs (own' := []) 0 rfl
  exact leave1 hf rfl rfl ⟨rfl, hM.fin⟩
 refine cond_f hf rfl hc216 ?_
 refine wp_skip ?_
 refine then_n ?_
 refine wp_seq ?_
 refine region_pl ?_
 iterate 2 refine q_ hf rfl rfl rfl (e_move hf rfl) fun a hf => ?_
 obtain ⟨y217, hz218, h⟩ := bind_some h
 refine pl_l hf rfl rfl rfl (w_call hf Tryd.call12 rfl (r_laws_heldStringS ⟨_, All C _ _, none_, hM.all_lt, none_not, C.G, hM.g_lt, g_none, hM.tabs⟩ y203.2 _ _ (hM.lendRow (k := 0) rfl) y210 hv212 _ hz218) ?_)
 rintro _ w220 ⟨rfl, hM2, hv219⟩
 obtain ⟨hM, hx221⟩ := hM.backA hM2
 clear hM2
 refine ⟨_, rfl, fun a hf => ?_⟩
 refine q_ hf rfl rfl rfl (e_assign hf rfl) fun a hf => ?_
 refine pl_nil ?_
 refine then_n ?_
 iterate 2 refine wp_seq ?_
 refine region_pl ?_
 refine q_ hf rfl rfl rfl (e_move hf rfl) fun a hf => ?_
 refine q_ hf rfl rfl rfl (e_lt hf (x := y217) (y := 0) rfl rfl) fun a hf => ?_
 refine pl_nil ?_
 refine then_n ?_
 rcases cond_some h with ⟨hc223, h⟩ | ⟨hc223, h⟩
 ·refine cond_t hf rfl hc223 ?_
  refine wp_seq ?_
  refine region_pl ?_
  refine q_ hf rfl rfl rfl (e_assign hf rfl) fun a hf => ?_
  refine pl_nil ?_
  refine then_n ?_
  refine wp_ret ?_
  refine then_r ?_
  obtain rfl := some_inj h
  have hM := hM.outs (own' := []) 0 rfl
  exact leave1 hf rfl rfl ⟨rfl, hM.fin⟩
 refine cond_f hf rfl hc223 ?_
 refine wp_skip ?_
 refine then_n ?_
 iterate 2 refine wp_seq ?_
 refine region_pl ?_
 iterate 2 refine q_ hf rfl rfl rfl (e_move hf rfl) fun a hf => ?_
 refine q_ hf rfl rfl rfl (e_ne hf (x := y217) (y := y203.1) rfl rfl) fun a hf => ?_
 refine pl_nil ?_
 refine then_n ?_
 rcases cond_some h with ⟨hc224, h⟩ | ⟨hc224, h⟩
 ·refine cond_t hf rfl hc224 ?_
  refine wp_seq ?_
  refine region_pl ?_
  refine q_ hf rfl rfl rfl (e_assign hf rfl) fun a hf => ?_
  refine pl_nil ?_
  refine then_n ?_
  refine wp_ret ?_
  refine then_r ?_
  obtain rfl := some_inj h
  have hM := hM.outs (own' := []) 0 rfl
  exact leave1 hf rfl rfl ⟨rfl, hM.fin⟩
 refine cond_f hf rfl hc224 ?_
 refine wp_skip ?_
 refine then_n ?_
 refine wp_seq ?_
 obtain ⟨w225, hw⟩ : ∃ x, x = w220.drew := ⟨_, rfl⟩
 refine region_pi (.q 0 (.q 2 (.l 1 (.l 3 (.l 4 (.q 5 (.q 6 (.q 7 (.q 8 (.q 9 (.q 10 (.q 11 (.nil))))))))))))) (Ext w225) rfl (by kernel_rfl) ?_
 have hM := hM.drew
 rw [← hw] at hM ⊢
 clear hw
 refine pi_q hf rfl rfl rfl rfl (Ext.refl _) (e_loadA hf (us := [vL A2 (aA1.Nodes) c3]) rfl ⟨Tryd.isAgg24, Tryd.sizeOf24⟩ rfl (hM.boxSub (k := 7) (us := [vL A2 (aA1.Nodes) c3]) (o := 0) rfl rfl)) fun a hf => ?_
 refine pi_q hf rfl rfl rfl rfl (Ext.refl _) (e_loadA hf (us := [vL A6 (aB5.Nodes) c7]) rfl ⟨Tryd.isAgg24, Tryd.sizeOf24⟩ rfl (hM.boxSub (k := 6) (us := [vL A6 (aB5.Nodes) c7]) (o := 0) rfl rfl)) fun a hf => ?_
 refine pi_one ?_
 obtain ⟨y226, hz227, h⟩ := bind_some h
 refine pi_l hf rfl rfl rfl rfl (w_call hf Tryd.call6 rfl (r_laws_toDawg ⟨_, Sh C _ _, none_, hM.sh_lt, none_not, C.G, hM.g_lt, g_none, hM.tabs⟩ aA1 _ _ (hM.dat (k := 1) rfl) _ hz227) ?_)
 rintro _ w232 ⟨A228, c229, ws230, rfl, hM2, hw231⟩
 obtain ⟨hM, hx233, hup234⟩ := hM.back hM2
 try dsimp only [List.cons_append, List.nil_append] at hM hup234
 clear hM2
 have hM : Mem C _ (.row strRep A96 c97 9 y203.2 true :: .row strRep A94 c95 9 y196.2 true :: .box b85 [vL A78 (y164.2) c79] 31 :: .box b69 [vL A62 (y155.2) c63] 31 :: .row strRep A52 c53 9 y50.1 true :: .row strRep A54 c55 9 y50.2.1 true :: .box b13 [vL A6 (aB5.Nodes) c7] 24 :: .box b9 [vL A2 (aA1.Nodes) c3] 24 :: (((((((nestW A34 c35 55 2 ws36) ++ nestW A43 c44 55 2 ws45) ++ nestW A126 c127 55 2 ws128) ++ nestW A142 c143 55 2 ws144) ++ nestW A62 c63 55 2 ws157) ++ nestW A78 c79 55 2 ws166) ++ nestW A228 c229 55 2 ws230)) _ := Mem.perm (own := (nestW A228 c229 55 2 ws230) ++ ([.row strRep A96 c97 9 y203.2 true, .row strRep A94 c95 9 y196.2 true, .box b85 [vL A78 (y164.2) c79] 31, .box b69 [vL A62 (y155.2) c63] 31, .row strRep A52 c53 9 y50.1 true, .row strRep A54 c55 9 y50.2.1 true, .box b13 [vL A6 (aB5.Nodes) c7] 24, .box b9 [vL A2 (aA1.Nodes) c3] 24] ++ ((((((nestW A34 c35 55 2 ws36) ++ nestW A43 c44 55 2 ws45) ++ nestW A126 c127 55 2 ws128) ++ nestW A142 c143 55 2 ws144) ++ nestW A62 c63 55 2 ws157) ++ nestW A78 c79 55 2 ws166))) (own' := ([] ++ [.row strRep A96 c97 9 y203.2 true, .row strRep A94 c95 9 y196.2 true, .box b85 [vL A78 (y164.2) c79] 31, .box b69 [vL A62 (y155.2) c63] 31, .row strRep A52 c53 9 y50.1 true, .row strRep A54 c55 9 y50.2.1 true, .box b13 [vL A6 (aB5.Nodes) c7] 24, .box b9 [vL A2 (aA1.Nodes) c3] 24]) ++ (((((((nestW A34 c35 55 2 ws36) ++ nestW A43 c44 55 2 ws45) ++ nestW A126 c127 55 2 ws128) ++ nestW A142 c143 55 2 ws144) ++ nestW A62 c63 55 2 ws157) ++ nestW A78 c79 55 2 ws166) ++ nestW A228 c229 55 2 ws230)) hM (fun a => by simp only [List.count_append, List.count_nil]; omega)
 refine ⟨_, rfl, Ext w232, fun _ h => Ext.trans hx233 h, Ext.refl _, fun a hf => ?_⟩
 refine pi_one ?_
 obtain ⟨y235, hz236, h⟩ := bind_some h
 refine pi_l hf rfl rfl rfl rfl (w_call hf Tryd.call6 rfl (r_laws_toDawg ⟨_, Sh C _ _, none_, hM.sh_lt, none_not, C.G, hM.g_lt, g_none, hM.tabs⟩ aB5 _ _ (hM.dat (k := 0) rfl) _ hz236) ?_)
 rintro _ w241 ⟨A237, c238, ws239, rfl, hM2, hw240⟩
 obtain ⟨hM, hx242, hup243⟩ := hM.back hM2
 try dsimp only [List.cons_append, List.nil_append] at hM hup243
 clear hM2
 have hM : Mem C _ (.row strRep A96 c97 9 y203.2 true :: .row strRep A94 c95 9 y196.2 true :: .box b85 [vL A78 (y164.2) c79] 31 :: .box b69 [vL A62 (y155.2) c63] 31 :: .row strRep A52 c53 9 y50.1 true :: .row strRep A54 c55 9 y50.2.1 true :: .box b13 [vL A6 (aB5.Nodes) c7] 24 :: .box b9 [vL A2 (aA1.Nodes) c3] 24 :: ((((((((nestW A34 c35 55 2 ws36) ++ nestW A43 c44 55 2 ws45) ++ nestW A126 c127 55 2 ws128) ++ nestW A142 c143 55 2 ws144) ++ nestW A62 c63 55 2 ws157) ++ nestW A78 c79 55 2 ws166) ++ nestW A228 c229 55 2 ws230) ++ nestW A237 c238 55 2 ws239)) _ := Mem.perm (own := (nestW A237 c238 55 2 ws239) ++ ([.row strRep A96 c97 9 y203.2 true, .row strRep A94 c95 9 y196.2 true, .box b85 [vL A78 (y164.2) c79] 31, .box b69 [vL A62 (y155.2) c63] 31, .row strRep A52 c53 9 y50.1 true, .row strRep A54 c55 9 y50.2.1 true, .box b13 [vL A6 (aB5.Nodes) c7] 24, .box b9 [vL A2 (aA1.Nodes) c3] 24] ++ (((((((nestW A34 c35 55 2 ws36) ++ nestW A43 c44 55 2 ws45) ++ nestW A126 c127 55 2 ws128) ++ nestW A142 c143 55 2 ws144) ++ nestW A62 c63 55 2 ws157) ++ nestW A78 c79 55 2 ws166) ++ nestW A228 c229 55 2 ws230))) (own' := ([] ++ [.row strRep A96 c97 9 y203.2 true, .row strRep A94 c95 9 y196.2 true, .box b85 [vL A78 (y164.2) c79] 31, .box b69 [vL A62 (y155.2) c63] 31, .row strRep A52 c53 9 y50.1 true, .row strRep A54 c55 9 y50.2.1 true, .box b13 [vL A6 (aB5.Nodes) c7] 24, .box b9 [vL A2 (aA1.Nodes) c3] 24]) ++ ((((((((nestW A34 c35 55 2 ws36) ++ nestW A43 c44 55 2 ws45) ++ nestW A126 c127 55 2 ws128) ++ nestW A142 c143 55 2 ws144) ++ nestW A62 c63 55 2 ws157) ++ nestW A78 c79 55 2 ws166) ++ nestW A228 c229 55 2 ws230) ++ nestW A237 c238 55 2 ws239)) hM (fun a => by simp only [List.count_append, List.count_nil]; omega)
 refine ⟨_, rfl, Ext w241, fun _ h => Ext.trans hx242 h, Ext.refl _, fun a hf => ?_⟩
 refine pi_one ?_
 obtain ⟨y244, hz245, h⟩ := bind_some h
 refine pi_l hf rfl rfl rfl rfl (w_call hf Tryd.call7 rfl (r_impl_DawgChanges ⟨_, All C _ _, none_, hM.all_lt, none_not, C.G, hM.g_lt, g_none, hM.tabs⟩ y226 _ _ (hM.lendNest (A := A228) (c := c229) (E := 55) (E2 := 2) (ws := ws230) (fun q hq => by simp [hq]) hw231) y235 _ _ (hM.lendNest (A := A237) (c := c238) (E := 55) (E2 := 2) (ws := ws239) (fun q hq => by simp [hq]) hw240) _ hz245) ?_)
 rintro _ w251 ⟨A246, c247, A248, c249, rfl, hM2, hv250⟩
 obtain ⟨hM, hx252⟩ := hM.backAL (OFlat.row strRep_flat (OFlat.row strRep_flat OFlat.nil)) hM2
 have hM : Mem C _ (.row strRep A246 c247 9 y244.1 true :: .row strRep A248 c249 9 y244.2.1 true :: .row strRep A96 c97 9 y203.2 true :: .row strRep A94 c95 9 y196.2 true :: .box b85 [vL A78 (y164.2) c79] 31 :: .box b69 [vL A62 (y155.2) c63] 31 :: .row strRep A52 c53 9 y50.1 true :: .row strRep A54 c55 9 y50.2.1 true :: .box b13 [vL A6 (aB5.Nodes) c7] 24 :: .box b9 [vL A2 (aA1.Nodes) c3] 24 :: ((((((((nestW A34 c35 55 2 ws36) ++ nestW A43 c44 55 2 ws45) ++ nestW A126 c127 55 2 ws128) ++ nestW A142 c143 55 2 ws144) ++ nestW A62 c63 55 2 ws157) ++ nestW A78 c79 55 2 ws166) ++ nestW A228 c229 55 2 ws230) ++ nestW A237 c238 55 2 ws239)) _ := hM
 clear hM2
 refine ⟨_, rfl, Ext w251, fun _ h => Ext.trans hx252 h, Ext.refl _, fun a hf => ?_⟩
 refine pi_q hf rfl rfl rfl rfl (Ext.refl _) (e_move hf rfl) fun a hf => ?_
 iterate 3 refine pi_q hf rfl rfl rfl rfl (Ext.refl _) (e_extract hf rfl rfl) fun a hf => ?_
 iterate 3 refine pi_q hf rfl rfl rfl rfl (Ext.refl _) (e_assign hf rfl) fun a hf => ?_
 refine pi_nil ?_
 refine then_n ?_
 refine wp_seq ?_
 obtain ⟨x256, h257, h⟩ := bind_some h
 refine seq_join (fun a w => ∃ (t254 : Bool), t254 = x256 ∧ Has 156 a [(11, vL A94 (y196.2) c95), (12, vL A96 (y203.2) c97), (15, vI (y203.1)), (142, .bool (t254))] ∧ Mem C w (.row strRep A246 c247 9 y244.1 true :: .row strRep A248 c249 9 y244.2.1 true :: .row strRep A96 c97 9 y203.2 true :: .row strRep A94 c95 9 y196.2 true :: .box b85 [vL A78 (y164.2) c79] 31 :: .box b69 [vL A62 (y155.2) c63] 31 :: .row strRep A52 c53 9 y50.1 true :: .row strRep A54 c55 9 y50.2.1 true :: .box b13 [vL A6 (aB5.Nodes) c7] 24 :: .box b9 [vL A2 (aA1.Nodes) c3] 24 :: ((((((((nestW A34 c35 55 2 ws36) ++ nestW A43 c44 55 2 ws45) ++ nestW A126 c127 55 2 ws128) ++ nestW A142 c143 55 2 ws144) ++ nestW A62 c63 55 2 ws157) ++ nestW A78 c79 55 2 ws166) ++ nestW A228 c229 55 2 ws230) ++ nestW A237 c238 55 2 ws239)) [.dat (sliceRep NodeRep) aB5.Nodes [vL A6 aB5.Nodes c7], .dat (sliceRep NodeRep) aA1.Nodes [vL A2 aA1.Nodes c3]]) ?_ ?_
 ·refine region_pl ?_
  iterate 2 refine q_ hf rfl rfl rfl (e_move hf rfl) fun a hf => ?_
  obtain ⟨y258, hz259, h257⟩ := bind_some h257
  refine pl_l hf rfl rfl rfl (w_call hf Tryd.call8 rfl (r_laws_eqStringS ⟨_, All C _ _, none_, hM.all_lt, none_not, C.G, hM.g_lt, g_none, hM.tabs⟩ y244.1 _ _ (hM.lendRow (k := 0) rfl) y50.1 _ _ (hM.lendRow (k := 6) rfl) _ hz259) ?_)
  rintro _ w260 ⟨rfl, hM2⟩
  obtain ⟨hM, hx261⟩ := hM.backA hM2
  clear hM2
  refine ⟨_, rfl, fun a hf => ?_⟩
  refine q_ hf rfl rfl rfl (e_not hf rfl) fun a hf => ?_
  refine q_ hf rfl rfl rfl (e_move hf rfl) fun a hf => ?_
  rcases cond_some h257 with ⟨hc263, h257⟩ | ⟨hc263, h257⟩
  ·iterate 4 refine pl_gs (wanted_f hf rfl rfl rfl rfl hc263) hf rfl rfl fun a hf => ?_
   refine q_ hf rfl rfl rfl (e_pick_t hf rfl hc263 rfl) fun a hf => ?_
   refine q_ hf rfl rfl rfl (e_move hf rfl) fun a hf => ?_
   iterate 3 refine pl_gs (wanted_f hf rfl rfl rfl rfl rfl) hf rfl rfl fun a hf => ?_
   refine q_ hf rfl rfl rfl (e_pick_t hf rfl rfl rfl) fun a hf => ?_
   refine pl_nil ?_
   obtain rfl := some_inj h257
   refine then_n ?_
   exact ⟨true, rfl, hf.keep ⟨rfl, rfl, rfl, rfl, trivial⟩, hM.pick [0, 1] rfl⟩
  iterate 2 refine gq (wanted_t hf rfl rfl rfl rfl hc263) hf rfl rfl (e_move hf rfl) fun a hf => ?_
  obtain ⟨y265, hz266, h257⟩ := bind_some h257
  refine pl_gl (wanted_t hf rfl rfl rfl rfl hc263) hf rfl rfl (w_call hf Tryd.call8 rfl (r_laws_eqStringS ⟨_, All C _ _, none_, hM.all_lt, none_not, C.G, hM.g_lt, g_none, hM.tabs⟩ y244.2.1 _ _ (hM.lendRow (k := 1) rfl) y50.2.1 _ _ (hM.lendRow (k := 7) rfl) _ hz266) ?_)
  rintro _ w267 ⟨rfl, hM2⟩
  obtain ⟨hM, hx268⟩ := hM.backA hM2
  clear hM2
  refine ⟨_, rfl, fun a hf => ?_⟩
  refine gq (wanted_t hf rfl rfl rfl rfl hc263) hf rfl rfl (e_not hf rfl) fun a hf => ?_
  refine q_ hf rfl rfl rfl (e_pick_f hf rfl hc263 rfl) fun a hf => ?_
  refine q_ hf rfl rfl rfl (e_move hf rfl) fun a hf => ?_
  rcases cond_some h257 with ⟨hc270, h257⟩ | ⟨hc270, h257⟩
  ·iterate 3 refine pl_gs (wanted_f hf rfl rfl rfl rfl hc270) hf rfl rfl fun a hf => ?_
   refine q_ hf rfl rfl rfl (e_pick_t hf rfl hc270 rfl) fun a hf => ?_
   refine pl_nil ?_
   obtain rfl := some_inj h257
   refine then_n ?_
   exact ⟨true, rfl, hf.keep ⟨rfl, rfl, rfl, rfl, trivial⟩, hM.pick [0, 1] rfl⟩
  iterate 2 refine gq (wanted_t hf rfl rfl rfl rfl hc270) hf rfl rfl (e_move hf rfl) fun a hf => ?_
  refine gq (wanted_t hf rfl rfl rfl rfl hc270) hf rfl rfl (e_ne hf (x := y244.2.2) (y := y50.2.2) rfl rfl) fun a hf => ?_
  refine q_ hf rfl rfl rfl (e_pick_f hf rfl hc270 rfl) fun a hf => ?_
  refine pl_nil ?_
  obtain rfl := some_inj h257
  refine then_n ?_
  exact ⟨(y244.2.2 != y50.2.2), rfl, hf.keep ⟨rfl, rfl, rfl, rfl, trivial⟩, hM.pick [0, 1] rfl⟩
 rintro a w273 ⟨t254, rfl, hf, hM⟩
 try dsimp only at h
 rcases cond_some h with ⟨hc274, h⟩ | ⟨hc274, h⟩
 ·refine cond_t hf rfl hc274 ?_
  refine wp_seq ?_
  refine region_pl ?_
  refine q_ hf rfl rfl rfl (e_assign hf rfl) fun a hf => ?_
  refine pl_nil ?_
  refine then_n ?_
  refine wp_ret ?_
  refine then_r ?_
  obtain rfl := some_inj h
  have hM := hM.outs (own' := []) 0 rfl
  exact leave1 hf rfl rfl ⟨rfl, hM.fin⟩
 refine cond_f hf rfl hc274 ?_
 refine wp_skip ?_
 refine then_n ?_
 refine wp_seq ?_
 refine region_pl ?_
 refine q_ hf rfl rfl rfl (e_assign hf rfl) fun a hf => ?_
 refine pl_nil ?_
 refine then_n ?_
 refine wp_seq ?_
 refine region_pl ?_
 iterate 2 refine q_ hf rfl rfl rfl (e_move hf rfl) fun a hf => ?_
 obtain ⟨y275, hz276, h⟩ := bind_some h
 refine pl_l hf rfl rfl rfl (w_call hf Tryd.call12 rfl (r_laws_heldStringS ⟨_, All C _ _, none_, hM.all_lt, none_not, C.G, hM.g_lt, g_none, hM.tabs⟩ y196.2 _ _ (hM.lendRow (k := 3) rfl) 1 (R64_lit rfl) _ hz276) ?_)
 rintro _ w278 ⟨rfl, hM2, hv277⟩
 obtain ⟨hM, hx279⟩ := hM.backA hM2
 clear hM2
 refine ⟨_, rfl, fun a hf => ?_⟩
 refine q_ hf rfl rfl rfl (e_assign hf rfl) fun a hf => ?_
 refine pl_nil ?_
 refine then_n ?_
 iterate 2 refine wp_seq ?_
 refine region_pl ?_
 refine q_ hf rfl rfl rfl (e_move hf rfl) fun a hf => ?_
 refine q_ hf rfl rfl rfl (e_lt hf (x := y275) (y := 0) rfl rfl) fun a hf => ?_
 refine pl_nil ?_
 refine then_n ?_
 rcases cond_some h with ⟨hc281, h⟩ | ⟨hc281, h⟩
 ·refine cond_t hf rfl hc281 ?_
  refine wp_seq ?_
  refine region_pl ?_
  refine q_ hf rfl rfl rfl (e_assign hf rfl) fun a hf => ?_
  refine pl_nil ?_
  refine then_n ?_
  refine wp_ret ?_
  refine then_r ?_
  obtain rfl := some_inj h
  have hM := hM.outs (own' := []) 0 rfl
  exact leave1 hf rfl rfl ⟨rfl, hM.fin⟩
 refine cond_f hf rfl hc281 ?_
 refine wp_skip ?_
 refine then_n ?_
 refine wp_seq ?_
 refine region_pl ?_
 iterate 2 refine q_ hf rfl rfl rfl (e_move hf rfl) fun a hf => ?_
 obtain ⟨y282, hz283, h⟩ := bind_some h
 refine pl_l hf rfl rfl rfl (w_call hf Tryd.call12 rfl (r_laws_heldStringS ⟨_, All C _ _, none_, hM.all_lt, none_not, C.G, hM.g_lt, g_none, hM.tabs⟩ y203.2 _ _ (hM.lendRow (k := 2) rfl) y275 hv277 _ hz283) ?_)
 rintro _ w285 ⟨rfl, hM2, hv284⟩
 obtain ⟨hM, hx286⟩ := hM.backA hM2
 clear hM2
 refine ⟨_, rfl, fun a hf => ?_⟩
 refine q_ hf rfl rfl rfl (e_assign hf rfl) fun a hf => ?_
 refine pl_nil ?_
 refine then_n ?_
 iterate 2 refine wp_seq ?_
 refine region_pl ?_
 refine q_ hf rfl rfl rfl (e_move hf rfl) fun a hf => ?_
 refine q_ hf rfl rfl rfl (e_lt hf (x := y282) (y := 0) rfl rfl) fun a hf => ?_
 refine pl_nil ?_
 refine then_n ?_
 rcases cond_some h with ⟨hc288, h⟩ | ⟨hc288, h⟩
 ·refine cond_t hf rfl hc288 ?_
  refine wp_seq ?_
  refine region_pl ?_
  refine q_ hf rfl rfl rfl (e_assign hf rfl) fun a hf => ?_
  refine pl_nil ?_
  refine then_n ?_
  refine wp_ret ?_
  refine then_r ?_
  obtain rfl := some_inj h
  have hM := hM.outs (own' := []) 0 rfl
  exact leave1 hf rfl rfl ⟨rfl, hM.fin⟩
 refine cond_f hf rfl hc288 ?_
 refine wp_skip ?_
 refine then_n ?_
 iterate 2 refine wp_seq ?_
 refine region_pl ?_
 iterate 2 refine q_ hf rfl rfl rfl (e_move hf rfl) fun a hf => ?_
 refine q_ hf rfl rfl rfl (e_ne hf (x := y282) (y := y203.1) rfl rfl) fun a hf => ?_
 refine pl_nil ?_
 refine then_n ?_
 rcases cond_some h with ⟨hc289, h⟩ | ⟨hc289, h⟩
 ·refine cond_t hf rfl hc289 ?_
  refine wp_seq ?_
  refine region_pl ?_
  refine q_ hf rfl rfl rfl (e_assign hf rfl) fun a hf => ?_
  refine pl_nil ?_
  refine then_n ?_
  refine wp_ret ?_
  refine then_r ?_
  obtain rfl := some_inj h
  have hM := hM.outs (own' := []) 0 rfl
  exact leave1 hf rfl rfl ⟨rfl, hM.fin⟩
 refine cond_f hf rfl hc289 ?_
 refine wp_skip ?_
 refine then_n ?_
 refine wp_seq ?_
 refine region_pl ?_
 refine q_ hf rfl rfl rfl (e_assign hf rfl) fun a hf => ?_
 refine pl_nil ?_
 refine then_n ?_
 refine wp_ret ?_
 obtain rfl := some_inj h
 have hM := hM.outs (own' := []) 0 rfl
 exact leave1 hf rfl rfl ⟨rfl, hM.fin⟩

end Go.Proofs.YtccoeheoifbpcaaDoor
