/- The functions that this law reaches do what their models say. Printed by gen.py. -/
import Derived.Test.YtdaoecpkgobelaaDoorMod
import Derived.Test.YtdaoecpkgobelaaDoorLib
import Derived.Test.YtdaoecpkgobelaaDoorFnTailsRefB
namespace Go.Proofs.YtdaoecpkgobelaaDoor
open Go Go.RowKit
set_option linter.unusedSimpArgs false
set_option linter.unusedVariables false

set_option maxRecDepth 100000 in
set_option maxHeartbeats 4000000 in
theorem r_impl_TailDawg (C : Cx) (d1 : Dawg) (A2 : Option Addr) (c3 : Nat) (hp4 : (sliceRep NodeRep).R C.w0 C.S0 d1.Nodes [vL A2 d1.Nodes c3]) (prefix_5 : Str) (hp6 : prefix_5.length ≤ maxLen) (r : (Dawg × Int)) (h : m_impl_TailDawg d1 prefix_5 = some r) :
    Calls Tryd.prog 38 #[.agg #[vL A2 (d1.Nodes) c3], vS (prefix_5)] C.w0 fun e w => ∃ (A_1 : Option Addr), ∃ (c_1 : Nat), e = .returned (.tuple #[.agg #[vL A_1 (r.1.Nodes) c_1], vI (r.2)]) ∧ Mem C w [.row NodeRep A_1 c_1 76 r.1.Nodes true] [] ∧ R64 r.2 := by
 have hM := Mem.begin C [.dat (sliceRep NodeRep) d1.Nodes [vL A2 d1.Nodes c3]] ⟨hp4, trivial⟩
 refine enter Tryd.func38 rfl Tryd.ntmps38 rfl fun a hf => ?_
 unfold m_impl_TailDawg at h
 refine wp_seq ?_
 refine region_pl ?_
 refine pl_l hf rfl rfl rfl (w_box hf hM (cs := [vL A2 (d1.Nodes) c3]) rfl rfl fun b7 w8 hx9 hM a hf => ?_)
 refine pl_l hf rfl rfl rfl (w_alloc hM (cs := [vL none (([] : (List Node))) 0]) Tryd.zeroValue26 rfl fun b11 w12 hx13 hM a hf => ?_)
 refine q_ hf rfl rfl rfl (e_assign hf rfl) fun a hf => ?_
 refine pl_nil ?_
 refine then_n ?_
 iterate 2 refine wp_seq ?_
 refine region_pl ?_
 refine q_ hf rfl rfl rfl (e_loadA hf (us := [vL A2 (d1.Nodes) c3]) rfl ⟨Tryd.isAgg26, Tryd.sizeOf26⟩ rfl (hM.boxSub (k := 1) (us := [vL A2 (d1.Nodes) c3]) (o := 0) rfl rfl)) fun a hf => ?_
 obtain ⟨y15, hz16, h⟩ := bind_some h
 refine pl_l hf rfl rfl rfl (w_call hf Tryd.call45 rfl (r_impl_ValidDawg ⟨_, Sh C _ _, none_, hM.sh_lt, none_not, C.G, hM.g_lt, g_none, hM.tabs⟩ d1 _ _ (hM.dat (k := 0) rfl) _ hz16) ?_)
 rintro _ w17 ⟨rfl, hM2⟩
 obtain ⟨hM, hx18, hup19⟩ := hM.back hM2
 dsimp only [List.cons_append, List.nil_append] at hM hup19
 clear hM2
 refine ⟨_, rfl, fun a hf => ?_⟩
 refine q_ hf rfl rfl rfl (e_not hf rfl) fun a hf => ?_
 refine pl_nil ?_
 refine then_n ?_
 rcases cond_some h with ⟨hc20, h⟩ | ⟨hc20, h⟩
 ·refine cond_t hf rfl hc20 ?_
  refine wp_seq ?_
  refine region_pl ?_
  refine q_ hf rfl rfl rfl (e_build hf Tryd.zeroValue26 Tryd.underlying26 (bp_26 _ Tryd.underlying26.symm) rfl (cs := #[vL none (([] : (List Node))) 0]) (by kernel_rfl)) fun a hf => ?_
  refine pl_0 hf rfl rfl (w_store hf hM (us := [vL none (([] : (List Node))) 0]) (cs' := [vL none (([] : (List Node))) 0]) rfl rfl (k := 0) rfl rfl Tryd.sizeOf26 rfl rfl rfl fun w21 hM => ?_)
  dsimp only [List.set] at hM
  refine q_ hf rfl rfl rfl (e_assign hf rfl) fun a hf => ?_
  refine pl_nil ?_
  refine then_n ?_
  refine wp_ret ?_
  refine then_r ?_
  obtain rfl := some_inj h
  have hres24 := leaveV2 (P := Tryd.prog) (w := w21) Tryd.results38 (res_agg hf rfl ⟨Tryd.isAgg26, Tryd.sizeOf26⟩ (us := [vL none (([] : (List Node))) 0]) rfl (hM.boxSub (k := 0) (o := 0) rfl rfl)) (res_tmp hf rfl)
  have hM := hM.nilRow NodeRep 76
  have hM := hM.outs (own' := [.row NodeRep none 0 76 ([] : (List Node)) true]) 1 rfl
  exact bodyPost_ret hres24 hf.defers ⟨none, 0, rfl, hM.fin, (R64_lit rfl)⟩
 refine cond_f hf rfl hc20 ?_
 refine wp_skip ?_
 refine then_n ?_
 refine wp_seq ?_
 refine region_pl ?_
 refine pl_l hf rfl rfl rfl (w_slice0 (K := strRep) hM Tryd.underlying28 ei_9 fun b25 w26 hx27 hM a hf => ?_)
 refine q_ hf rfl rfl rfl (e_assign hf rfl) fun a hf => ?_
 refine pl_nil ?_
 refine then_n ?_
 obtain ⟨x31, h32, h⟩ := bind_some h
 refine seq_join (fun a w => ∃ (xs28 : (List Str)) (A29 : Option Addr) (c30 : Nat), xs28 = x31 ∧ Has 43 a [(4, vP b11 (0)), (6, vL A29 (xs28) c30)] ∧ Mem C w [.row strRep A29 c30 9 xs28 true, .box b11 [vL none (([] : (List Node))) 0] 26, .box b7 [vL A2 (d1.Nodes) c3] 26] [.dat (sliceRep NodeRep) d1.Nodes [vL A2 d1.Nodes c3]]) ?_ ?_
 ·refine wp_seq ?_
  refine region_pl ?_
  refine q_ hf rfl rfl rfl (e_loadA hf (us := [vL A2 (d1.Nodes) c3]) rfl ⟨Tryd.isAgg26, Tryd.sizeOf26⟩ rfl (hM.boxSub (k := 2) (us := [vL A2 (d1.Nodes) c3]) (o := 0) rfl rfl)) fun a hf => ?_
  obtain ⟨y33, hz34, h32⟩ := bind_some h32
  refine pl_l hf rfl rfl rfl (w_call hf Tryd.call49 rfl (r_impl_Dawg_words ⟨_, Sh C _ _, none_, hM.sh_lt, none_not, C.G, hM.g_lt, g_none, hM.tabs⟩ d1 _ _ (hM.dat (k := 0) rfl) _ hz34) ?_)
  rintro _ w37 ⟨A35, c36, rfl, hM2⟩
  obtain ⟨hM, hx38, hup39⟩ := hM.back hM2
  dsimp only [List.cons_append, List.nil_append] at hM hup39
  clear hM2
  refine ⟨_, rfl, fun a hf => ?_⟩
  have hl40 := row_len (hM.ownAt (k := 0) rfl)
  refine q_ hf rfl rfl rfl (e_lenL hf (x := y33) rfl Tryd.underlying28) fun a hf => ?_
  refine q_ hf rfl rfl rfl (e_move hf rfl) fun a hf => ?_
  refine pl_nil ?_
  refine then_n ?_
  refine wp_block ?_
  obtain ⟨x50, h51, h32⟩ := bind_some h32
  refine wp_loopM h51 (fun s a w => ∃ (xs41 : (List Str)) (n44 : Int) (A42 : Option Addr) (c43 : Nat), (xs41, n44) = s ∧ Has 43 a [(1, vS (prefix_5)), (4, vP b11 (0)), (6, vL A42 (xs41) c43), (17, vL A35 (y33) c36), (18, vI ((y33.length : Int))), (19, vI (n44))] ∧ Mem C w [.row strRep A35 c36 9 y33 true, .row strRep A42 c43 9 xs41 true, .box b11 [vL none (([] : (List Node))) 0] 26, .box b7 [vL A2 (d1.Nodes) c3] 26] [.dat (sliceRep NodeRep) d1.Nodes [vL A2 d1.Nodes c3]] ∧ R64 n44) ?_ ?_
  ·exact ⟨([] : (List Str)), 0, (some ⟨b25, 0, none⟩), 0, rfl, hf.keep ⟨rfl, rfl, rfl, rfl, rfl, rfl, trivial⟩, hM.pick [0] rfl, (R64_lit rfl)⟩
  rintro s o52 a w46 ⟨xs41, n44, A42, c43, rfl, hf, hM, hv45⟩ h53 hd54
  replace h53 : m_impl_TailDawg_l1 y33 prefix_5 xs41 n44 = some o52 := h53
  unfold m_impl_TailDawg_l1 at h53
  refine wp_seq ?_
  refine region_pl ?_
  refine q_ hf rfl rfl rfl (e_lt hf (x := n44) (y := (y33.length : Int)) rfl rfl) fun a hf => ?_
  refine pl_nil ?_
  refine then_n ?_
  refine wp_seq ?_
  rcases cond_some h53 with ⟨hc55, h53⟩ | ⟨hc55, h53⟩
  ·refine cond_t hf rfl hc55 ?_
   refine wp_skip ?_
   refine then_n ?_
   obtain ⟨x59, h60, h53⟩ := bind_some h53
   refine seq_join (fun a w => ∃ (xs56 : (List Str)) (A57 : Option Addr) (c58 : Nat), xs56 = x59 ∧ Has 43 a [(1, vS (prefix_5)), (4, vP b11 (0)), (6, vL A57 (xs56) c58), (17, vL A35 (y33) c36), (18, vI ((y33.length : Int))), (19, vI (n44))] ∧ Mem C w [.row strRep A35 c36 9 y33 true, .row strRep A57 c58 9 xs56 true, .box b11 [vL none (([] : (List Node))) 0] 26, .box b7 [vL A2 (d1.Nodes) c3] 26] [.dat (sliceRep NodeRep) d1.Nodes [vL A2 d1.Nodes c3]]) ?_ ?_
   ·refine wp_block ?_
    refine wp_seq ?_
    refine region_pl ?_
    obtain ⟨e61, hz62, h60⟩ := bind_some h60
    obtain ⟨b67, _, hA68, h63, h64, hr65, hcell66⟩ := hM.rowElemN (k := 0) rfl (n := 1) rfl hz62
    obtain ⟨rfl, hv69⟩ := hr65
    refine q_ hf rfl rfl rfl (e_indexAddr (A := A35) (b := b67) (o := 0) (xs := y33) (i := n44) hf hA68 rfl rfl Tryd.underlying28 Tryd.sizeOf9 h63 h64) fun a hf => ?_
    refine q_ hf rfl rfl rfl (e_load1 hf rfl Tryd.isAgg9 (hcell66 0 _ rfl)) fun a hf => ?_
    refine q_ hf rfl rfl rfl (e_assign hf rfl) fun a hf => ?_
    refine pl_nil ?_
    refine then_n ?_
    refine wp_seq ?_
    refine region_pl ?_
    iterate 2 refine q_ hf rfl rfl rfl (e_move hf rfl) fun a hf => ?_
    obtain ⟨y70, hz71, h60⟩ := bind_some h60
    refine pl_l hf rfl rfl rfl (w_call hf Tryd.call68 rfl (r_strings_CutPrefix ⟨_, Sh C _ _, none_, hM.sh_lt, none_not, C.G, hM.g_lt, g_none, hM.tabs⟩ e61 hv69 prefix_5 hp6 _ hz71) ?_)
    rintro _ w73 ⟨rfl, hM2, hv72⟩
    obtain ⟨hM, hx74, hup75⟩ := hM.back hM2
    dsimp only [List.cons_append, List.nil_append] at hM hup75
    clear hM2
    refine ⟨_, rfl, fun a hf => ?_⟩
    refine q_ hf rfl rfl rfl (e_move hf rfl) fun a hf => ?_
    iterate 2 refine q_ hf rfl rfl rfl (e_extract hf rfl rfl) fun a hf => ?_
    iterate 2 refine q_ hf rfl rfl rfl (e_assign hf rfl) fun a hf => ?_
    refine pl_nil ?_
    refine then_n ?_
    obtain ⟨x78, h79, h60⟩ := bind_some h60
    refine seq_join (fun a w => ∃ (t76 : Bool), t76 = x78 ∧ Has 43 a [(1, vS (prefix_5)), (4, vP b11 (0)), (6, vL A42 (xs41) c43), (9, vS (y70.1)), (17, vL A35 (y33) c36), (18, vI ((y33.length : Int))), (19, vI (n44)), (33, .bool (t76))] ∧ Mem C w [.row strRep A35 c36 9 y33 true, .row strRep A42 c43 9 xs41 true, .box b11 [vL none (([] : (List Node))) 0] 26, .box b7 [vL A2 (d1.Nodes) c3] 26] [.dat (sliceRep NodeRep) d1.Nodes [vL A2 d1.Nodes c3]]) ?_ ?_
    ·refine region_pl ?_
     iterate 2 refine q_ hf rfl rfl rfl (e_move hf rfl) fun a hf => ?_
     rcases cond_some h79 with ⟨hc80, h79⟩ | ⟨hc80, h79⟩
     ·refine gq (wanted_t hf rfl rfl rfl rfl hc80) hf rfl rfl (e_move hf rfl) fun a hf => ?_
      refine gq (wanted_t hf rfl rfl rfl rfl hc80) hf rfl rfl (e_neS hf (x := y70.1) (y := ([] : Str)) rfl rfl) fun a hf => ?_
      refine q_ hf rfl rfl rfl (e_pick_t hf rfl hc80 rfl) fun a hf => ?_
      refine pl_nil ?_
      obtain rfl := some_inj h79
      refine then_n ?_
      exact ⟨(y70.1 != ([] : Str)), rfl, hf.keep ⟨rfl, rfl, rfl, rfl, rfl, rfl, rfl, rfl, trivial⟩, hM.pick [0] rfl⟩
     iterate 2 refine pl_gs (wanted_f hf rfl rfl rfl rfl hc80) hf rfl rfl fun a hf => ?_
     refine q_ hf rfl rfl rfl (e_pick_f hf rfl hc80 rfl) fun a hf => ?_
     refine pl_nil ?_
     obtain rfl := some_inj h79
     refine then_n ?_
     exact ⟨false, rfl, hf.keep ⟨rfl, rfl, rfl, rfl, rfl, rfl, rfl, rfl, trivial⟩, hM.pick [0] rfl⟩
    rintro a w83 ⟨t76, rfl, hf, hM⟩
    try dsimp only at h60
    rcases cond_some h60 with ⟨hc84, h60⟩ | ⟨hc84, h60⟩
    ·refine cond_t hf rfl hc84 ?_
     refine region_pl ?_
     iterate 2 refine q_ hf rfl rfl rfl (e_move hf rfl) fun a hf => ?_
     refine pl_l hf rfl rfl rfl (w_slice hf hM (K := strRep) (xs := ([y70.1] : (List Str))) (os := [.tmp 35]) Tryd.underlying28 ei_9 rfl rfl rfl rfl rfl ⟨⟨[vS (y70.1)], rfl, ⟨rfl, hv72⟩⟩, trivial⟩ rfl fun b85 w86 hx87 hM a hf => ?_)
     obtain ⟨xs88, hz89, h60⟩ := bind_some h60
     refine pl_l hf rfl rfl rfl (w_append hf hM Tryd.underlying28 ei_9 rfl rfl rfl (k := 2) rfl (hM.srcRow (k := 0) rfl) hz89 fun A90 c91 w92 hM a hf => ?_)
     dsimp only [List.set] at hM
     refine q_ hf rfl rfl rfl (e_assign hf rfl) fun a hf => ?_
     refine pl_nil ?_
     refine blk_n ?_
     obtain rfl := some_inj h60
     refine then_n ?_
     exact ⟨xs88, A90, c91, rfl, hf.keep ⟨rfl, rfl, rfl, rfl, rfl, rfl, trivial⟩, (hM.drop (.cons _ (.cons_cons _ (.cons_cons _ (.cons_cons _ (.cons_cons _ .slnil)))))).pick [0] rfl⟩
    refine cond_f hf rfl hc84 ?_
    refine wp_skip ?_
    refine blk_n ?_
    obtain rfl := some_inj h60
    refine then_n ?_
    exact ⟨xs41, A42, c43, rfl, hf.keep ⟨rfl, rfl, rfl, rfl, rfl, rfl, trivial⟩, hM.pick [0] rfl⟩
   rintro a w97 ⟨xs56, A57, c58, rfl, hf, hM⟩
   try dsimp only at h53
   refine region_pl ?_
   obtain ⟨z98, hz99, h53⟩ := bind_some h53
   refine q_ hf rfl rfl rfl (e_add hf rfl rfl hz99) fun a hf => ?_
   refine q_ hf rfl rfl rfl (e_move hf rfl) fun a hf => ?_
   refine pl_nil ?_
   obtain rfl := some_inj h53
   refine then_n ⟨_, rfl, ?_⟩
   exact ⟨xs56, z98, A57, c58, rfl, hf.keep ⟨rfl, rfl, rfl, rfl, rfl, rfl, trivial⟩, hM.pick [0] rfl, (chk_R hz99)⟩
  refine cond_f hf rfl hc55 ?_
  refine wp_exit ?_
  refine then_x ?_
  obtain rfl := some_inj h53
  obtain rfl := hd54 _ rfl
  try dsimp only at h32
  refine then_x ?_
  refine exit_hit ?_
  obtain rfl := some_inj h32
  refine then_n ?_
  exact ⟨xs41, A42, c43, rfl, hf.keep ⟨rfl, rfl, trivial⟩, (hM.drop (.cons _ (.cons_cons _ (.cons_cons _ (.cons_cons _ .slnil))))).pick [0] rfl⟩
 rintro a w105 ⟨xs28, A29, c30, rfl, hf, hM⟩
 try dsimp only at h
 refine wp_seq ?_
 refine region_pl ?_
 refine q_ hf rfl rfl rfl (e_move hf rfl) fun a hf => ?_
 have hM := hM.freezeRow (k := 0) rfl rfl
 dsimp only [List.eraseIdx] at hM
 obtain ⟨y106, hz107, h⟩ := bind_some h
 refine pl_l hf rfl rfl rfl (w_call hf Tryd.call69 rfl (r_impl_dawgOf ⟨_, Sh C _ _, none_, hM.sh_lt, none_not, C.G, hM.g_lt, g_none, hM.tabs⟩ xs28 _ _ (hM.dat (k := 0) rfl) _ hz107) ?_)
 rintro _ w111 ⟨A108, c109, rfl, hM2, hv110⟩
 obtain ⟨hM, hx112, hup113⟩ := hM.back hM2
 dsimp only [List.cons_append, List.nil_append] at hM hup113
 clear hM2
 refine ⟨_, rfl, fun a hf => ?_⟩
 iterate 2 refine q_ hf rfl rfl rfl (e_extract hf rfl rfl) fun a hf => ?_
 refine pl_0 hf rfl rfl (w_store hf hM (us := [vL A108 (y106.1.Nodes) c109]) (cs' := [vL A108 (y106.1.Nodes) c109]) rfl rfl (k := 1) rfl rfl Tryd.sizeOf26 rfl rfl rfl fun w114 hM => ?_)
 dsimp only [List.set] at hM
 refine q_ hf rfl rfl rfl (e_assign hf rfl) fun a hf => ?_
 refine pl_nil ?_
 refine then_n ?_
 refine wp_ret ?_
 obtain rfl := some_inj h
 have hres117 := leaveV2 (P := Tryd.prog) (w := w114) Tryd.results38 (res_agg hf rfl ⟨Tryd.isAgg26, Tryd.sizeOf26⟩ (us := [vL A108 (y106.1.Nodes) c109]) rfl (hM.boxSub (k := 1) (o := 0) rfl rfl)) (res_tmp hf rfl)
 have hM := hM.outs (own' := [.row NodeRep A108 c109 76 y106.1.Nodes true]) 1 rfl
 exact bodyPost_ret hres117 hf.defers ⟨A108, c109, rfl, hM.fin, hv110⟩

set_option maxRecDepth 100000 in
set_option maxHeartbeats 4000000 in
theorem r_spec_l00In (C : Cx) (n1 : Int) (hp2 : R64 n1) (low3 : Int) (hp4 : R64 low3) (high5 : Int) (hp6 : R64 high5) (r : Bool) (h : m_spec_l00In n1 low3 high5 = some r) :
    Calls Tryd.prog 65 #[vI (n1), vI (low3), vI (high5)] C.w0 fun e w => e = .returned (.bool (r)) ∧ Mem C w [] [] := by
 have hM := Mem.begin C [] trivial
 refine enter Tryd.func65 rfl Tryd.ntmps65 rfl fun a hf => ?_
 unfold m_spec_l00In at h
 refine wp_seq ?_
 refine region_pl ?_
 refine q_ hf rfl rfl rfl (e_assign hf rfl) fun a hf => ?_
 refine pl_nil ?_
 refine then_n ?_
 obtain ⟨x9, h10, h⟩ := bind_some h
 refine seq_join (fun a w => ∃ (t7 : Bool), t7 = x9 ∧ Has 15 a [(6, .bool (t7))] ∧ Mem C w [] []) ?_ ?_
 ·refine region_pl ?_
  iterate 2 refine q_ hf rfl rfl rfl (e_move hf rfl) fun a hf => ?_
  refine q_ hf rfl rfl rfl (e_ge hf (x := n1) (y := low3) rfl rfl) fun a hf => ?_
  refine q_ hf rfl rfl rfl (e_move hf rfl) fun a hf => ?_
  rcases cond_some h10 with ⟨hc11, h10⟩ | ⟨hc11, h10⟩
  ·iterate 2 refine gq (wanted_t hf rfl rfl rfl rfl hc11) hf rfl rfl (e_move hf rfl) fun a hf => ?_
   refine gq (wanted_t hf rfl rfl rfl rfl hc11) hf rfl rfl (e_le hf (x := n1) (y := high5) rfl rfl) fun a hf => ?_
   refine q_ hf rfl rfl rfl (e_pick_t hf rfl hc11 rfl) fun a hf => ?_
   refine q_ hf rfl rfl rfl (e_assign hf rfl) fun a hf => ?_
   refine pl_nil ?_
   obtain rfl := some_inj h10
   refine then_n ?_
   exact ⟨(decide (n1 ≤ high5)), rfl, hf.keep ⟨rfl, trivial⟩, hM.pick [] rfl⟩
  iterate 3 refine pl_gs (wanted_f hf rfl rfl rfl rfl hc11) hf rfl rfl fun a hf => ?_
  refine q_ hf rfl rfl rfl (e_pick_f hf rfl hc11 rfl) fun a hf => ?_
  refine q_ hf rfl rfl rfl (e_assign hf rfl) fun a hf => ?_
  refine pl_nil ?_
  obtain rfl := some_inj h10
  refine then_n ?_
  exact ⟨false, rfl, hf.keep ⟨rfl, trivial⟩, hM.pick [] rfl⟩
 rintro a w14 ⟨t7, rfl, hf, hM⟩
 try dsimp only at h
 refine wp_ret ?_
 obtain rfl := some_inj h
 exact leave1 hf rfl rfl ⟨rfl, hM.fin⟩

set_option maxRecDepth 100000 in
set_option maxHeartbeats 4000000 in
theorem r_spec_l01Small (C : Cx) (c1 : UInt8) (r : Bool) (h : m_spec_l01Small c1 = some r) :
    Calls Tryd.prog 99 #[vB (c1)] C.w0 fun e w => e = .returned (.bool (r)) ∧ Mem C w [] [] := by
 have hM := Mem.begin C [] trivial
 refine enter Tryd.func99 rfl Tryd.ntmps99 rfl fun a hf => ?_
 unfold m_spec_l01Small at h
 refine wp_seq ?_
 refine region_pl ?_
 refine q_ hf rfl rfl rfl (e_assign hf rfl) fun a hf => ?_
 refine pl_nil ?_
 refine then_n ?_
 obtain ⟨x4, h5, h⟩ := bind_some h
 refine seq_join (fun a w => ∃ (t2 : Bool), t2 = x4 ∧ Has 9 a [(2, .bool (t2))] ∧ Mem C w [] []) ?_ ?_
 ·refine region_pl ?_
  refine q_ hf rfl rfl rfl (e_move hf rfl) fun a hf => ?_
  refine q_ hf rfl rfl rfl (e_geB hf (x := c1) (y := 97) rfl rfl) fun a hf => ?_
  refine q_ hf rfl rfl rfl (e_move hf rfl) fun a hf => ?_
  rcases cond_some h5 with ⟨hc6, h5⟩ | ⟨hc6, h5⟩
  ·refine gq (wanted_t hf rfl rfl rfl rfl hc6) hf rfl rfl (e_move hf rfl) fun a hf => ?_
   refine gq (wanted_t hf rfl rfl rfl rfl hc6) hf rfl rfl (e_leB hf (x := c1) (y := 122) rfl rfl) fun a hf => ?_
   refine q_ hf rfl rfl rfl (e_pick_t hf rfl hc6 rfl) fun a hf => ?_
   refine q_ hf rfl rfl rfl (e_assign hf rfl) fun a hf => ?_
   refine pl_nil ?_
   obtain rfl := some_inj h5
   refine then_n ?_
   exact ⟨(decide (c1 ≤ 122)), rfl, hf.keep ⟨rfl, trivial⟩, hM.pick [] rfl⟩
  iterate 2 refine pl_gs (wanted_f hf rfl rfl rfl rfl hc6) hf rfl rfl fun a hf => ?_
  refine q_ hf rfl rfl rfl (e_pick_f hf rfl hc6 rfl) fun a hf => ?_
  refine q_ hf rfl rfl rfl (e_assign hf rfl) fun a hf => ?_
  refine pl_nil ?_
  obtain rfl := some_inj h5
  refine then_n ?_
  exact ⟨false, rfl, hf.keep ⟨rfl, trivial⟩, hM.pick [] rfl⟩
 rintro a w9 ⟨t2, rfl, hf, hM⟩
 try dsimp only at h
 refine wp_ret ?_
 obtain rfl := some_inj h
 exact leave1 hf rfl rfl ⟨rfl, hM.fin⟩

set_option maxRecDepth 100000 in
set_option maxHeartbeats 4000000 in
theorem r_spec_l06Shape (C : Cx) (d1 : Dawg) (b2 : Nat) (o3 : Nat) (hp4 : (ptrRep DawgRep).R C.w0 C.S0 d1 [vP b2 o3]) (r : Bool) (h : m_spec_l06Shape d1 = some r) :
    Calls Tryd.prog 72 #[vP b2 (o3)] C.w0 fun e w => e = .returned (.bool (r)) ∧ Mem C w [] [] := by
 have hM := Mem.begin C [.dat (ptrRep DawgRep) d1 [vP b2 o3]] ⟨hp4, trivial⟩
 refine enter Tryd.func72 rfl Tryd.ntmps72 rfl fun a hf => ?_
 unfold m_spec_l06Shape at h
 refine wp_seq ?_
 refine region_pl ?_
 refine q_ hf rfl rfl rfl (e_assign hf rfl) fun a hf => ?_
 refine pl_nil ?_
 refine then_n ?_
 refine wp_seq ?_
 refine region_pl ?_
 refine q_ hf rfl rfl rfl (e_move hf rfl) fun a hf => ?_
 refine q_ hf rfl rfl rfl (e_nil hf rfl) fun a hf => ?_
 obtain ⟨_, hr5, hM⟩ := hM.deref (hM.dat (k := 0) rfl)
 obtain ⟨A6, c7, rfl, hv8⟩ := DawgRep_open hr5
 have hM := hM.add (y := .dat (sliceRep NodeRep) d1.Nodes [vL A6 d1.Nodes c7]) hv8
 refine q_ hf rfl rfl rfl (e_field hf rfl Tryd.underlying26 rfl Tryd.sizeOf24 (o' := o3 + 0) rfl) fun a hf => ?_
 refine q_ hf rfl rfl rfl (e_load1 hf rfl Tryd.isAgg24 (hM.litCell (k := 1) (j := 0) rfl rfl rfl)) fun a hf => ?_
 have hl9 := slice_len (hM.dat (k := 0) rfl)
 refine q_ hf rfl rfl rfl (e_lenL hf (x := d1.Nodes) rfl Tryd.underlying24) fun a hf => ?_
 refine q_ hf rfl rfl rfl (e_assign hf rfl) fun a hf => ?_
 refine pl_nil ?_
 refine then_n ?_
 iterate 2 refine wp_seq ?_
 refine region_pl ?_
 refine q_ hf rfl rfl rfl (e_move hf rfl) fun a hf => ?_
 obtain ⟨y10, hz11, h⟩ := bind_some h
 refine pl_l hf rfl rfl rfl (w_call hf Tryd.call65 rfl (r_spec_l00In ⟨_, Sh C _ _, none_, hM.sh_lt, none_not, C.G, hM.g_lt, g_none, hM.tabs⟩ (d1.Nodes.length : Int) (R64_len hl9) 1 (R64_lit rfl) 3000 (R64_lit rfl) _ hz11) ?_)
 rintro _ w12 ⟨rfl, hM2⟩
 obtain ⟨hM, hx13, hup14⟩ := hM.back hM2
 dsimp only [List.cons_append, List.nil_append] at hM hup14
 clear hM2
 refine ⟨_, rfl, fun a hf => ?_⟩
 refine q_ hf rfl rfl rfl (e_not hf rfl) fun a hf => ?_
 refine pl_nil ?_
 refine then_n ?_
 rcases cond_some h with ⟨hc15, h⟩ | ⟨hc15, h⟩
 ·refine cond_t hf rfl hc15 ?_
  refine wp_seq ?_
  refine region_pl ?_
  refine q_ hf rfl rfl rfl (e_assign hf rfl) fun a hf => ?_
  refine pl_nil ?_
  refine then_n ?_
  refine wp_ret ?_
  refine then_r ?_
  obtain rfl := some_inj h
  exact leave1 hf rfl rfl ⟨rfl, hM.fin⟩
 refine cond_f hf rfl hc15 ?_
 refine wp_skip ?_
 refine then_n ?_
 obtain ⟨x16, h17, h⟩ := bind_some h
 refine seq_join (fun a w => (.inl ()) = x16 ∧ Has 96 a [] ∧ Mem C w [] [.dat (sliceRep NodeRep) d1.Nodes [vL A6 d1.Nodes c7], .lit b2 (o3) [vL A6 (d1.Nodes) c7], .dat (ptrRep DawgRep) d1 [vP b2 o3]]) ?_ ?_
 ·refine wp_seq ?_
  refine region_pl ?_
  refine q_ hf rfl rfl rfl (e_assign hf rfl) fun a hf => ?_
  refine pl_nil ?_
  refine then_n ?_
  refine wp_block ?_
  obtain ⟨x21, h22, h17⟩ := bind_some h17
  refine wp_loopM h22 (fun s a w => ∃ (x18 : Int), x18 = s ∧ Has 96 a [(0, vP b2 (o3)), (3, vI ((d1.Nodes.length : Int))), (4, vI (x18))] ∧ Mem C w [] [.dat (sliceRep NodeRep) d1.Nodes [vL A6 d1.Nodes c7], .lit b2 (o3) [vL A6 (d1.Nodes) c7], .dat (ptrRep DawgRep) d1 [vP b2 o3]] ∧ R64 x18) ?_ ?_
  ·exact ⟨0, rfl, hf.keep ⟨rfl, rfl, rfl, trivial⟩, hM.pick [0, 1, 2] rfl, (R64_lit rfl)⟩
  rintro s o23 a w20 ⟨x18, rfl, hf, hM, hv19⟩ h24 hd25
  replace h24 : m_spec_l06Shape_l1 d1 x18 = some o23 := h24
  unfold m_spec_l06Shape_l1 at h24
  iterate 2 refine wp_seq ?_
  refine region_pl ?_
  iterate 2 refine q_ hf rfl rfl rfl (e_move hf rfl) fun a hf => ?_
  refine q_ hf rfl rfl rfl (e_lt hf (x := x18) (y := (d1.Nodes.length : Int)) rfl rfl) fun a hf => ?_
  refine pl_nil ?_
  refine then_n ?_
  rcases cond_some h24 with ⟨hc26, h24⟩ | ⟨hc26, h24⟩
  ·refine cond_t hf rfl hc26 ?_
   refine wp_skip ?_
   refine then_n ?_
   obtain ⟨x27, h28, h24⟩ := bind_some h24
   refine seq_join (fun a w => (.inl ()) = x27 ∧ Has 96 a [(0, vP b2 (o3)), (3, vI ((d1.Nodes.length : Int))), (4, vI (x18))] ∧ Mem C w [] [.dat (sliceRep NodeRep) d1.Nodes [vL A6 d1.Nodes c7], .lit b2 (o3) [vL A6 (d1.Nodes) c7], .dat (ptrRep DawgRep) d1 [vP b2 o3]]) ?_ ?_
   ·refine wp_block ?_
    refine wp_seq ?_
    refine region_pl ?_
    refine q_ hf rfl rfl rfl (e_move hf rfl) fun a hf => ?_
    refine q_ hf rfl rfl rfl (e_nil hf rfl) fun a hf => ?_
    refine q_ hf rfl rfl rfl (e_field hf rfl Tryd.underlying26 rfl Tryd.sizeOf24 (o' := o3 + 0) rfl) fun a hf => ?_
    refine q_ hf rfl rfl rfl (e_load1 hf rfl Tryd.isAgg24 (hM.litCell (k := 1) (j := 0) rfl rfl rfl)) fun a hf => ?_
    refine q_ hf rfl rfl rfl (e_move hf rfl) fun a hf => ?_
    obtain ⟨e29, hz30, h28⟩ := bind_some h28
    obtain ⟨b34, o35, _, hA36, h31, h32, hr33, hM⟩ := hM.elem (hM.dat (k := 0) rfl) (n := 3) rfl hz30
    obtain ⟨A38, c39, rfl, hv37, hv40⟩ := NodeRep_open hr33
    have hM := hM.add (y := .dat (sliceRep intRep) e29.Next [vL A38 e29.Next c39]) hv40
    refine q_ hf rfl rfl rfl (e_indexAddr (A := A6) (b := b34) (o := o35) (xs := d1.Nodes) (i := x18) hf hA36 rfl rfl Tryd.underlying24 Tryd.sizeOf76 h31 h32) fun a hf => ?_
    refine q_ hf rfl rfl rfl (e_assign hf rfl) fun a hf => ?_
    refine pl_nil ?_
    refine then_n ?_
    iterate 2 refine wp_seq ?_
    obtain ⟨w41, hw⟩ : ∃ x, x = w20.drew := ⟨_, rfl⟩
    refine region_pi (.q 0 (.q 1 (.q 2 (.q 3 (.q 4 (.q 5 (.q 6 (.q 7 (.q 8 (.q 9 (.q 10 (.nil)))))))))))) (Ext w41) rfl (by kernel_rfl) ?_
    have hM := hM.drew
    rw [← hw] at hM ⊢
    clear hw
    refine pi_q hf rfl rfl rfl rfl (Ext.refl _) (e_move hf rfl) fun a hf => ?_
    refine pi_q hf rfl rfl rfl rfl (Ext.refl _) (e_nil hf rfl) fun a hf => ?_
    refine pi_q hf rfl rfl rfl rfl (Ext.refl _) (e_field hf rfl Tryd.underlying76 rfl Tryd.sizeOf9 (o' := (o35 + (x18 : Int).toNat * 3) + 1) rfl) fun a hf => ?_
    refine pi_q hf rfl rfl rfl rfl (Ext.refl _) (e_load1 hf rfl Tryd.isAgg9 (hM.litCell (k := 1) (j := 1) rfl rfl rfl)) fun a hf => ?_
    refine pi_q hf rfl rfl rfl rfl (Ext.refl _) (e_lenS hf (x := e29.Letters) rfl Tryd.underlying9) fun a hf => ?_
    refine pi_q hf rfl rfl rfl rfl (Ext.refl _) (e_move hf rfl) fun a hf => ?_
    refine pi_q hf rfl rfl rfl rfl (Ext.refl _) (e_nil hf rfl) fun a hf => ?_
    refine pi_q hf rfl rfl rfl rfl (Ext.refl _) (e_field hf rfl Tryd.underlying76 rfl Tryd.sizeOf31 (o' := (o35 + (x18 : Int).toNat * 3) + 2) rfl) fun a hf => ?_
    refine pi_q hf rfl rfl rfl rfl (Ext.refl _) (e_load1 hf rfl Tryd.isAgg31 (hM.litCell (k := 1) (j := 2) rfl rfl rfl)) fun a hf => ?_
    have hl42 := slice_len (hM.dat (k := 0) rfl)
    refine pi_q hf rfl rfl rfl rfl (Ext.refl _) (e_lenL hf (x := e29.Next) rfl Tryd.underlying31) fun a hf => ?_
    refine pi_q hf rfl rfl rfl rfl (Ext.refl _) (e_ne hf (x := (e29.Letters.length : Int)) (y := (e29.Next.length : Int)) rfl rfl) fun a hf => ?_
    refine pi_nil ?_
    refine then_n ?_
    rcases cond_some h28 with ⟨hc43, h28⟩ | ⟨hc43, h28⟩
    ·refine cond_t hf rfl hc43 ?_
     refine wp_seq ?_
     refine region_pl ?_
     refine q_ hf rfl rfl rfl (e_assign hf rfl) fun a hf => ?_
     refine pl_nil ?_
     refine then_n ?_
     refine wp_ret ?_
     refine then_r ?_
     refine blk_r ?_
     obtain rfl := some_inj h28
     try dsimp only at h24
     refine then_r ?_
     obtain rfl := some_inj h24
     obtain rfl := hd25 _ rfl
     try dsimp only at h17
     refine then_r ?_
     refine blk_r ?_
     obtain rfl := some_inj h17
     try dsimp only at h
     refine then_r ?_
     obtain rfl := some_inj h
     exact leave1 hf rfl rfl ⟨rfl, hM.fin⟩
    refine cond_f hf rfl hc43 ?_
    refine wp_skip ?_
    refine then_n ?_
    refine wp_seq ?_
    refine region_pl ?_
    refine q_ hf rfl rfl rfl (e_assign hf rfl) fun a hf => ?_
    refine pl_nil ?_
    refine then_n ?_
    refine wp_block ?_
    obtain ⟨x47, h48, h28⟩ := bind_some h28
    refine wp_loopM h48 (fun s a w => ∃ (n44 : Int), n44 = s ∧ Has 96 a [(0, vP b2 (o3)), (3, vI ((d1.Nodes.length : Int))), (4, vI (x18)), (5, vP b34 (o35 + (x18 : Int).toNat * 3)), (6, vI (n44))] ∧ Mem C w [] [.dat (sliceRep intRep) e29.Next [vL A38 e29.Next c39], .lit b34 (o35 + (x18 : Int).toNat * 3) [.bool (e29.Final), vS (e29.Letters), vL A38 (e29.Next) c39], .dat (sliceRep NodeRep) d1.Nodes [vL A6 d1.Nodes c7], .lit b2 (o3) [vL A6 (d1.Nodes) c7], .dat (ptrRep DawgRep) d1 [vP b2 o3]] ∧ R64 n44) ?_ ?_
    ·exact ⟨0, rfl, hf.keep ⟨rfl, rfl, rfl, rfl, rfl, trivial⟩, hM.pick [0, 1, 2, 3, 4] rfl, (R64_lit rfl)⟩
    rintro s o49 a w46 ⟨n44, rfl, hf, hM, hv45⟩ h50 hd51
    replace h50 : m_spec_l06Shape_l2 e29 d1 n44 = some o49 := h50
    unfold m_spec_l06Shape_l2 at h50
    iterate 2 refine wp_seq ?_
    refine region_pl ?_
    iterate 2 refine q_ hf rfl rfl rfl (e_move hf rfl) fun a hf => ?_
    refine q_ hf rfl rfl rfl (e_nil hf rfl) fun a hf => ?_
    refine q_ hf rfl rfl rfl (e_field hf rfl Tryd.underlying76 rfl Tryd.sizeOf31 (o' := (o35 + (x18 : Int).toNat * 3) + 2) rfl) fun a hf => ?_
    refine q_ hf rfl rfl rfl (e_load1 hf rfl Tryd.isAgg31 (hM.litCell (k := 1) (j := 2) rfl rfl rfl)) fun a hf => ?_
    have hl52 := slice_len (hM.dat (k := 0) rfl)
    refine q_ hf rfl rfl rfl (e_lenL hf (x := e29.Next) rfl Tryd.underlying31) fun a hf => ?_
    refine q_ hf rfl rfl rfl (e_lt hf (x := n44) (y := (e29.Next.length : Int)) rfl rfl) fun a hf => ?_
    refine pl_nil ?_
    refine then_n ?_
    rcases cond_some h50 with ⟨hc53, h50⟩ | ⟨hc53, h50⟩
    ·refine cond_t hf rfl hc53 ?_
     refine wp_skip ?_
     refine then_n ?_
     refine wp_seq ?_
     refine wp_block ?_
     obtain ⟨x56, h57, h50⟩ := bind_some h50
     refine seq_join (fun a w => ∃ (t54 : Bool), t54 = x56 ∧ Has 96 a [(0, vP b2 (o3)), (3, vI ((d1.Nodes.length : Int))), (4, vI (x18)), (5, vP b34 (o35 + (x18 : Int).toNat * 3)), (6, vI (n44)), (95, .bool (t54))] ∧ Mem C w [] [.dat (sliceRep intRep) e29.Next [vL A38 e29.Next c39], .lit b34 (o35 + (x18 : Int).toNat * 3) [.bool (e29.Final), vS (e29.Letters), vL A38 (e29.Next) c39], .dat (sliceRep NodeRep) d1.Nodes [vL A6 d1.Nodes c7], .lit b2 (o3) [vL A6 (d1.Nodes) c7], .dat (ptrRep DawgRep) d1 [vP b2 o3]]) ?_ ?_
     ·obtain ⟨w58, hw⟩ : ∃ x, x = w46.drew := ⟨_, rfl⟩
      refine region_pi (.q 0 (.q 1 (.q 2 (.q 3 (.q 4 (.q 5 (.q 6 (.q 7 (.q 8 (.l 9 (.q 10 (.q 11 (.q 12 (.q 13 (.q 14 (.q 15 (.q 16 (.q 17 (.q 18 (.q 19 (.q 20 (.q 21 (.q 22 (.q 23 (.q 24 (.q 25 (.l 26 (.q 27 (.q 28 (.q 29 (.q 30 (.q 31 (.q 32 (.q 33 (.q 34 (.q 35 (.q 36 (.q 37 (.q 38 (.q 39 (.q 40 (.q 41 (.q 42 (.q 43 (.q 44 (.q 45 (.q 46 (.q 47 (.q 48 (.q 49 (.nil))))))))))))))))))))))))))))))))))))))))))))))))))) (Ext w58) rfl (by kernel_rfl) ?_
      have hM := hM.drew
      rw [← hw] at hM ⊢
      clear hw
      refine pi_q hf rfl rfl rfl rfl (Ext.refl _) (e_move hf rfl) fun a hf => ?_
      refine pi_q hf rfl rfl rfl rfl (Ext.refl _) (e_nil hf rfl) fun a hf => ?_
      refine pi_q hf rfl rfl rfl rfl (Ext.refl _) (e_field hf rfl Tryd.underlying76 rfl Tryd.sizeOf31 (o' := (o35 + (x18 : Int).toNat * 3) + 2) rfl) fun a hf => ?_
      refine pi_q hf rfl rfl rfl rfl (Ext.refl _) (e_load1 hf rfl Tryd.isAgg31 (hM.litCell (k := 1) (j := 2) rfl rfl rfl)) fun a hf => ?_
      refine pi_q hf rfl rfl rfl rfl (Ext.refl _) (e_move hf rfl) fun a hf => ?_
      obtain ⟨e59, hz60, h57⟩ := bind_some h57
      obtain ⟨b64, o65, _, hA66, h61, h62, hr63, hM⟩ := hM.elem (hM.dat (k := 0) rfl) (n := 1) rfl hz60
      obtain ⟨rfl, hv67⟩ := hr63
      refine pi_q hf rfl rfl rfl rfl (Ext.refl _) (e_indexAddr (A := A38) (b := b64) (o := o65) (xs := e29.Next) (i := n44) hf hA66 rfl rfl Tryd.underlying31 Tryd.sizeOf2 h61 h62) fun a hf => ?_
      refine pi_q hf rfl rfl rfl rfl (Ext.refl _) (e_load1 hf rfl Tryd.isAgg2 (hM.litCell (k := 0) (j := 0) rfl rfl rfl)) fun a hf => ?_
      refine pi_q hf rfl rfl rfl rfl (Ext.refl _) (e_move hf rfl) fun a hf => ?_
      obtain ⟨z68, hz69, h57⟩ := bind_some h57
      refine pi_q hf rfl rfl rfl rfl (Ext.refl _) (e_sub hf rfl rfl hz69) fun a hf => ?_
      refine pi_one ?_
      obtain ⟨y70, hz71, h57⟩ := bind_some h57
      refine pi_l hf rfl rfl rfl rfl (w_call hf Tryd.call65 rfl (r_spec_l00In ⟨_, Sh C _ _, none_, hM.sh_lt, none_not, C.G, hM.g_lt, g_none, hM.tabs⟩ e59 hv67 0 (R64_lit rfl) z68 (chk_R hz69) _ hz71) ?_)
      rintro _ w72 ⟨rfl, hM2⟩
      obtain ⟨hM, hx73, hup74⟩ := hM.back hM2
      dsimp only [List.cons_append, List.nil_append] at hM hup74
      clear hM2
      refine ⟨_, rfl, Ext w72, fun _ h => Ext.trans hx73 h, Ext.refl _, fun a hf => ?_⟩
      refine pi_q hf rfl rfl rfl rfl (Ext.refl _) (e_not hf rfl) fun a hf => ?_
      refine pi_q hf rfl rfl rfl rfl (Ext.refl _) (e_move hf rfl) fun a hf => ?_
      rcases cond_some h57 with ⟨hc75, h57⟩ | ⟨hc75, h57⟩
      ·iterate 8 refine pi_gs hf rfl (wanted_f hf rfl rfl rfl rfl hc75) rfl rfl (Ext.refl _) fun a hf => ?_
       iterate 6 refine pi_gs hf rfl (wanted_u hf rfl rfl rfl rfl) rfl rfl (Ext.refl _) fun a hf => ?_
       refine pi_one ?_
       refine pi_ls hf rfl (wanted_u hf rfl rfl rfl rfl) rfl rfl (Ext.refl _) fun a hf => ?_
       refine pi_gs hf rfl (wanted_u hf rfl rfl rfl rfl) rfl rfl (Ext.refl _) fun a hf => ?_
       refine pi_gs hf rfl (wanted_f hf rfl rfl rfl rfl hc75) rfl rfl (Ext.refl _) fun a hf => ?_
       refine pi_q hf rfl rfl rfl rfl (Ext.refl _) (e_pick_t hf rfl hc75 rfl) fun a hf => ?_
       refine pi_q hf rfl rfl rfl rfl (Ext.refl _) (e_move hf rfl) fun a hf => ?_
       iterate 3 refine pi_gs hf rfl (wanted_f hf rfl rfl rfl rfl rfl) rfl rfl (Ext.refl _) fun a hf => ?_
       iterate 14 refine pi_gs hf rfl (wanted_u hf rfl rfl rfl rfl) rfl rfl (Ext.refl _) fun a hf => ?_
       refine pi_gs hf rfl (wanted_f hf rfl rfl rfl rfl rfl) rfl rfl (Ext.refl _) fun a hf => ?_
       refine pi_q hf rfl rfl rfl rfl (Ext.refl _) (e_pick_t hf rfl rfl rfl) fun a hf => ?_
       refine pi_nil ?_
       obtain rfl := some_inj h57
       refine then_n ?_
       exact ⟨true, rfl, hf.keep ⟨rfl, rfl, rfl, rfl, rfl, rfl, trivial⟩, hM.pick [1, 2, 3, 4, 5] rfl⟩
      refine pi_gq hf rfl (wanted_t hf rfl rfl rfl rfl hc75) rfl rfl (Ext.refl _) (e_move hf rfl) fun a hf => ?_
      refine pi_gq hf rfl (wanted_t hf rfl rfl rfl rfl hc75) rfl rfl (Ext.refl _) (e_nil hf rfl) fun a hf => ?_
      refine pi_gq hf rfl (wanted_t hf rfl rfl rfl rfl hc75) rfl rfl (Ext.refl _) (e_field hf rfl Tryd.underlying76 rfl Tryd.sizeOf9 (o' := (o35 + (x18 : Int).toNat * 3) + 1) rfl) fun a hf => ?_
      refine pi_gq hf rfl (wanted_t hf rfl rfl rfl rfl hc75) rfl rfl (Ext.refl _) (e_load1 hf rfl Tryd.isAgg9 (hM.litCell (k := 2) (j := 1) rfl rfl rfl)) fun a hf => ?_
      refine pi_gq hf rfl (wanted_t hf rfl rfl rfl rfl hc75) rfl rfl (Ext.refl _) (e_move hf rfl) fun a hf => ?_
      obtain ⟨c77, hz78, h57⟩ := bind_some h57
      refine pi_gq hf rfl (wanted_t hf rfl rfl rfl rfl hc75) rfl rfl (Ext.refl _) (e_indexS hf (x := e29.Letters) rfl rfl Tryd.underlying9 hz78) fun a hf => ?_
      refine pi_gq hf rfl (wanted_t hf rfl rfl rfl rfl hc75) rfl rfl (Ext.refl _) (e_neB hf (x := c77) (y := 62) rfl rfl) fun a hf => ?_
      refine pi_gq hf rfl (wanted_t hf rfl rfl rfl rfl hc75) rfl rfl (Ext.refl _) (e_move hf rfl) fun a hf => ?_
      rcases cond_some h57 with ⟨hc79, h57⟩ | ⟨hc79, h57⟩
      ·refine pi_gq hf rfl (wanted_t hf rfl rfl rfl rfl hc79) rfl rfl (Ext.refl _) (e_move hf rfl) fun a hf => ?_
       refine pi_gq hf rfl (wanted_t hf rfl rfl rfl rfl hc79) rfl rfl (Ext.refl _) (e_nil hf rfl) fun a hf => ?_
       refine pi_gq hf rfl (wanted_t hf rfl rfl rfl rfl hc79) rfl rfl (Ext.refl _) (e_field hf rfl Tryd.underlying76 rfl Tryd.sizeOf9 (o' := (o35 + (x18 : Int).toNat * 3) + 1) rfl) fun a hf => ?_
       refine pi_gq hf rfl (wanted_t hf rfl rfl rfl rfl hc79) rfl rfl (Ext.refl _) (e_load1 hf rfl Tryd.isAgg9 (hM.litCell (k := 2) (j := 1) rfl rfl rfl)) fun a hf => ?_
       refine pi_gq hf rfl (wanted_t hf rfl rfl rfl rfl hc79) rfl rfl (Ext.refl _) (e_move hf rfl) fun a hf => ?_
       obtain ⟨c80, hz81, h57⟩ := bind_some h57
       refine pi_gq hf rfl (wanted_t hf rfl rfl rfl rfl hc79) rfl rfl (Ext.refl _) (e_indexS hf (x := e29.Letters) rfl rfl Tryd.underlying9 hz81) fun a hf => ?_
       refine pi_one ?_
       obtain ⟨y82, hz83, h57⟩ := bind_some h57
       refine pi_gl hf rfl (wanted_t hf rfl rfl rfl rfl hc79) rfl rfl (w_call hf Tryd.call99 rfl (r_spec_l01Small ⟨_, Sh C _ _, none_, hM.sh_lt, none_not, C.G, hM.g_lt, g_none, hM.tabs⟩ c80 _ hz83) ?_)
       rintro _ w84 ⟨rfl, hM2⟩
       obtain ⟨hM, hx85, hup86⟩ := hM.back hM2
       dsimp only [List.cons_append, List.nil_append] at hM hup86
       clear hM2
       refine ⟨_, rfl, Ext w84, fun _ h => Ext.trans hx85 h, Ext.refl _, fun a hf => ?_⟩
       refine pi_gq hf rfl (wanted_t hf rfl rfl rfl rfl hc79) rfl rfl (Ext.refl _) (e_not hf rfl) fun a hf => ?_
       refine pi_gq hf rfl (wanted_t hf rfl rfl rfl rfl hc75) rfl rfl (Ext.refl _) (e_pick_t hf rfl hc79 rfl) fun a hf => ?_
       refine pi_q hf rfl rfl rfl rfl (Ext.refl _) (e_pick_f hf rfl hc75 rfl) fun a hf => ?_
       refine pi_q hf rfl rfl rfl rfl (Ext.refl _) (e_move hf rfl) fun a hf => ?_
       rcases cond_some h57 with ⟨hc87, h57⟩ | ⟨hc87, h57⟩
       ·iterate 3 refine pi_gs hf rfl (wanted_f hf rfl rfl rfl rfl hc87) rfl rfl (Ext.refl _) fun a hf => ?_
        iterate 14 refine pi_gs hf rfl (wanted_u hf rfl rfl rfl rfl) rfl rfl (Ext.refl _) fun a hf => ?_
        refine pi_gs hf rfl (wanted_f hf rfl rfl rfl rfl hc87) rfl rfl (Ext.refl _) fun a hf => ?_
        refine pi_q hf rfl rfl rfl rfl (Ext.refl _) (e_pick_t hf rfl hc87 rfl) fun a hf => ?_
        refine pi_nil ?_
        obtain rfl := some_inj h57
        refine then_n ?_
        exact ⟨true, rfl, hf.keep ⟨rfl, rfl, rfl, rfl, rfl, rfl, trivial⟩, hM.pick [1, 2, 3, 4, 5] rfl⟩
       refine pi_gq hf rfl (wanted_t hf rfl rfl rfl rfl hc87) rfl rfl (Ext.refl _) (e_move hf rfl) fun a hf => ?_
       refine pi_gq hf rfl (wanted_t hf rfl rfl rfl rfl hc87) rfl rfl (Ext.refl _) (e_gt hf (x := n44) (y := 0) rfl rfl) fun a hf => ?_
       refine pi_gq hf rfl (wanted_t hf rfl rfl rfl rfl hc87) rfl rfl (Ext.refl _) (e_move hf rfl) fun a hf => ?_
       rcases cond_some h57 with ⟨hc89, h57⟩ | ⟨hc89, h57⟩
       ·refine pi_gq hf rfl (wanted_t hf rfl rfl rfl rfl hc89) rfl rfl (Ext.refl _) (e_move hf rfl) fun a hf => ?_
        refine pi_gq hf rfl (wanted_t hf rfl rfl rfl rfl hc89) rfl rfl (Ext.refl _) (e_nil hf rfl) fun a hf => ?_
        refine pi_gq hf rfl (wanted_t hf rfl rfl rfl rfl hc89) rfl rfl (Ext.refl _) (e_field hf rfl Tryd.underlying76 rfl Tryd.sizeOf9 (o' := (o35 + (x18 : Int).toNat * 3) + 1) rfl) fun a hf => ?_
        refine pi_gq hf rfl (wanted_t hf rfl rfl rfl rfl hc89) rfl rfl (Ext.refl _) (e_load1 hf rfl Tryd.isAgg9 (hM.litCell (k := 2) (j := 1) rfl rfl rfl)) fun a hf => ?_
        refine pi_gq hf rfl (wanted_t hf rfl rfl rfl rfl hc89) rfl rfl (Ext.refl _) (e_move hf rfl) fun a hf => ?_
        obtain ⟨c90, hz91, h57⟩ := bind_some h57
        refine pi_gq hf rfl (wanted_t hf rfl rfl rfl rfl hc89) rfl rfl (Ext.refl _) (e_indexS hf (x := e29.Letters) rfl rfl Tryd.underlying9 hz91) fun a hf => ?_
        refine pi_gq hf rfl (wanted_t hf rfl rfl rfl rfl hc89) rfl rfl (Ext.refl _) (e_move hf rfl) fun a hf => ?_
        refine pi_gq hf rfl (wanted_t hf rfl rfl rfl rfl hc89) rfl rfl (Ext.refl _) (e_nil hf rfl) fun a hf => ?_
        refine pi_gq hf rfl (wanted_t hf rfl rfl rfl rfl hc89) rfl rfl (Ext.refl _) (e_field hf rfl Tryd.underlying76 rfl Tryd.sizeOf9 (o' := (o35 + (x18 : Int).toNat * 3) + 1) rfl) fun a hf => ?_
        refine pi_gq hf rfl (wanted_t hf rfl rfl rfl rfl hc89) rfl rfl (Ext.refl _) (e_load1 hf rfl Tryd.isAgg9 (hM.litCell (k := 2) (j := 1) rfl rfl rfl)) fun a hf => ?_
        refine pi_gq hf rfl (wanted_t hf rfl rfl rfl rfl hc89) rfl rfl (Ext.refl _) (e_move hf rfl) fun a hf => ?_
        obtain ⟨z92, hz93, h57⟩ := bind_some h57
        refine pi_gq hf rfl (wanted_t hf rfl rfl rfl rfl hc89) rfl rfl (Ext.refl _) (e_sub hf rfl rfl hz93) fun a hf => ?_
        obtain ⟨c94, hz95, h57⟩ := bind_some h57
        refine pi_gq hf rfl (wanted_t hf rfl rfl rfl rfl hc89) rfl rfl (Ext.refl _) (e_indexS hf (x := e29.Letters) rfl rfl Tryd.underlying9 hz95) fun a hf => ?_
        refine pi_gq hf rfl (wanted_t hf rfl rfl rfl rfl hc89) rfl rfl (Ext.refl _) (e_leB hf (x := c90) (y := c94) rfl rfl) fun a hf => ?_
        refine pi_gq hf rfl (wanted_t hf rfl rfl rfl rfl hc87) rfl rfl (Ext.refl _) (e_pick_t hf rfl hc89 rfl) fun a hf => ?_
        refine pi_q hf rfl rfl rfl rfl (Ext.refl _) (e_pick_f hf rfl hc87 rfl) fun a hf => ?_
        refine pi_nil ?_
        obtain rfl := some_inj h57
        refine then_n ?_
        exact ⟨(decide (c90 ≤ c94)), rfl, hf.keep ⟨rfl, rfl, rfl, rfl, rfl, rfl, trivial⟩, hM.pick [1, 2, 3, 4, 5] rfl⟩
       iterate 14 refine pi_gs hf rfl (wanted_f hf rfl rfl rfl rfl hc89) rfl rfl (Ext.refl _) fun a hf => ?_
       refine pi_gq hf rfl (wanted_t hf rfl rfl rfl rfl hc87) rfl rfl (Ext.refl _) (e_pick_f hf rfl hc89 rfl) fun a hf => ?_
       refine pi_q hf rfl rfl rfl rfl (Ext.refl _) (e_pick_f hf rfl hc87 rfl) fun a hf => ?_
       refine pi_nil ?_
       obtain rfl := some_inj h57
       refine then_n ?_
       exact ⟨false, rfl, hf.keep ⟨rfl, rfl, rfl, rfl, rfl, rfl, trivial⟩, hM.pick [1, 2, 3, 4, 5] rfl⟩
      iterate 6 refine pi_gs hf rfl (wanted_f hf rfl rfl rfl rfl hc79) rfl rfl (Ext.refl _) fun a hf => ?_
      refine pi_one ?_
      refine pi_ls hf rfl (wanted_f hf rfl rfl rfl rfl hc79) rfl rfl (Ext.refl _) fun a hf => ?_
      refine pi_gs hf rfl (wanted_f hf rfl rfl rfl rfl hc79) rfl rfl (Ext.refl _) fun a hf => ?_
      refine pi_gq hf rfl (wanted_t hf rfl rfl rfl rfl hc75) rfl rfl (Ext.refl _) (e_pick_f hf rfl hc79 rfl) fun a hf => ?_
      refine pi_q hf rfl rfl rfl rfl (Ext.refl _) (e_pick_f hf rfl hc75 rfl) fun a hf => ?_
      refine pi_q hf rfl rfl rfl rfl (Ext.refl _) (e_move hf rfl) fun a hf => ?_
      refine pi_gq hf rfl (wanted_t hf rfl rfl rfl rfl rfl) rfl rfl (Ext.refl _) (e_move hf rfl) fun a hf => ?_
      refine pi_gq hf rfl (wanted_t hf rfl rfl rfl rfl rfl) rfl rfl (Ext.refl _) (e_gt hf (x := n44) (y := 0) rfl rfl) fun a hf => ?_
      refine pi_gq hf rfl (wanted_t hf rfl rfl rfl rfl rfl) rfl rfl (Ext.refl _) (e_move hf rfl) fun a hf => ?_
      rcases cond_some h57 with ⟨hc98, h57⟩ | ⟨hc98, h57⟩
      ·refine pi_gq hf rfl (wanted_t hf rfl rfl rfl rfl hc98) rfl rfl (Ext.refl _) (e_move hf rfl) fun a hf => ?_
       refine pi_gq hf rfl (wanted_t hf rfl rfl rfl rfl hc98) rfl rfl (Ext.refl _) (e_nil hf rfl) fun a hf => ?_
       refine pi_gq hf rfl (wanted_t hf rfl rfl rfl rfl hc98) rfl rfl (Ext.refl _) (e_field hf rfl Tryd.underlying76 rfl Tryd.sizeOf9 (o' := (o35 + (x18 : Int).toNat * 3) + 1) rfl) fun a hf => ?_
       refine pi_gq hf rfl (wanted_t hf rfl rfl rfl rfl hc98) rfl rfl (Ext.refl _) (e_load1 hf rfl Tryd.isAgg9 (hM.litCell (k := 2) (j := 1) rfl rfl rfl)) fun a hf => ?_
       refine pi_gq hf rfl (wanted_t hf rfl rfl rfl rfl hc98) rfl rfl (Ext.refl _) (e_move hf rfl) fun a hf => ?_
       obtain ⟨c99, hz100, h57⟩ := bind_some h57
       refine pi_gq hf rfl (wanted_t hf rfl rfl rfl rfl hc98) rfl rfl (Ext.refl _) (e_indexS hf (x := e29.Letters) rfl rfl Tryd.underlying9 hz100) fun a hf => ?_
       refine pi_gq hf rfl (wanted_t hf rfl rfl rfl rfl hc98) rfl rfl (Ext.refl _) (e_move hf rfl) fun a hf => ?_
       refine pi_gq hf rfl (wanted_t hf rfl rfl rfl rfl hc98) rfl rfl (Ext.refl _) (e_nil hf rfl) fun a hf => ?_
       refine pi_gq hf rfl (wanted_t hf rfl rfl rfl rfl hc98) rfl rfl (Ext.refl _) (e_field hf rfl Tryd.underlying76 rfl Tryd.sizeOf9 (o' := (o35 + (x18 : Int).toNat * 3) + 1) rfl) fun a hf => ?_
       refine pi_gq hf rfl (wanted_t hf rfl rfl rfl rfl hc98) rfl rfl (Ext.refl _) (e_load1 hf rfl Tryd.isAgg9 (hM.litCell (k := 2) (j := 1) rfl rfl rfl)) fun a hf => ?_
       refine pi_gq hf rfl (wanted_t hf rfl rfl rfl rfl hc98) rfl rfl (Ext.refl _) (e_move hf rfl) fun a hf => ?_
       obtain ⟨z101, hz102, h57⟩ := bind_some h57
       refine pi_gq hf rfl (wanted_t hf rfl rfl rfl rfl hc98) rfl rfl (Ext.refl _) (e_sub hf rfl rfl hz102) fun a hf => ?_
       obtain ⟨c103, hz104, h57⟩ := bind_some h57
       refine pi_gq hf rfl (wanted_t hf rfl rfl rfl rfl hc98) rfl rfl (Ext.refl _) (e_indexS hf (x := e29.Letters) rfl rfl Tryd.underlying9 hz104) fun a hf => ?_
       refine pi_gq hf rfl (wanted_t hf rfl rfl rfl rfl hc98) rfl rfl (Ext.refl _) (e_leB hf (x := c99) (y := c103) rfl rfl) fun a hf => ?_
       refine pi_gq hf rfl (wanted_t hf rfl rfl rfl rfl rfl) rfl rfl (Ext.refl _) (e_pick_t hf rfl hc98 rfl) fun a hf => ?_
       refine pi_q hf rfl rfl rfl rfl (Ext.refl _) (e_pick_f hf rfl rfl rfl) fun a hf => ?_
       refine pi_nil ?_
       obtain rfl := some_inj h57
       refine then_n ?_
       exact ⟨(decide (c99 ≤ c103)), rfl, hf.keep ⟨rfl, rfl, rfl, rfl, rfl, rfl, trivial⟩, hM.pick [1, 2, 3, 4, 5] rfl⟩
      iterate 14 refine pi_gs hf rfl (wanted_f hf rfl rfl rfl rfl hc98) rfl rfl (Ext.refl _) fun a hf => ?_
      refine pi_gq hf rfl (wanted_t hf rfl rfl rfl rfl rfl) rfl rfl (Ext.refl _) (e_pick_f hf rfl hc98 rfl) fun a hf => ?_
      refine pi_q hf rfl rfl rfl rfl (Ext.refl _) (e_pick_f hf rfl rfl rfl) fun a hf => ?_
      refine pi_nil ?_
      obtain rfl := some_inj h57
      refine then_n ?_
      exact ⟨false, rfl, hf.keep ⟨rfl, rfl, rfl, rfl, rfl, rfl, trivial⟩, hM.pick [1, 2, 3, 4, 5] rfl⟩
     rintro a w107 ⟨t54, rfl, hf, hM⟩
     try dsimp only at h50
     rcases cond_some h50 with ⟨hc108, h50⟩ | ⟨hc108, h50⟩
     ·refine cond_t hf rfl hc108 ?_
      refine wp_seq ?_
      refine region_pl ?_
      refine q_ hf rfl rfl rfl (e_assign hf rfl) fun a hf => ?_
      refine pl_nil ?_
      refine then_n ?_
      refine wp_ret ?_
      refine blk_r ?_
      refine then_r ?_
      obtain rfl := some_inj h50
      obtain rfl := hd51 _ rfl
      try dsimp only at h28
      refine then_r ?_
      iterate 2 refine blk_r ?_
      obtain rfl := some_inj h28
      try dsimp only at h24
      refine then_r ?_
      obtain rfl := some_inj h24
      obtain rfl := hd25 _ rfl
      try dsimp only at h17
      refine then_r ?_
      refine blk_r ?_
      obtain rfl := some_inj h17
      try dsimp only at h
      refine then_r ?_
      obtain rfl := some_inj h
      exact leave1 hf rfl rfl ⟨rfl, hM.fin⟩
     refine cond_f hf rfl hc108 ?_
     refine wp_skip ?_
     refine blk_n ?_
     refine then_n ?_
     refine region_pl ?_
     refine q_ hf rfl rfl rfl (e_move hf rfl) fun a hf => ?_
     obtain ⟨z109, hz110, h50⟩ := bind_some h50
     refine q_ hf rfl rfl rfl (e_add hf rfl rfl hz110) fun a hf => ?_
     refine q_ hf rfl rfl rfl (e_assign hf rfl) fun a hf => ?_
     refine pl_nil ?_
     obtain rfl := some_inj h50
     refine then_n ⟨_, rfl, ?_⟩
     exact ⟨z109, rfl, hf.keep ⟨rfl, rfl, rfl, rfl, rfl, trivial⟩, hM.pick [0, 1, 2, 3, 4] rfl, (chk_R hz110)⟩
    refine cond_f hf rfl hc53 ?_
    refine wp_exit ?_
    refine then_x ?_
    obtain rfl := some_inj h50
    obtain rfl := hd51 _ rfl
    try dsimp only at h28
    refine then_x ?_
    refine exit_hit ?_
    refine blk_n ?_
    obtain rfl := some_inj h28
    refine then_n ?_
    exact ⟨rfl, hf.keep ⟨rfl, rfl, rfl, trivial⟩, hM.pick [2, 3, 4] rfl⟩
   rintro a w117 ⟨rfl, hf, hM⟩
   try dsimp only at h24
   refine region_pl ?_
   refine q_ hf rfl rfl rfl (e_move hf rfl) fun a hf => ?_
   obtain ⟨z118, hz119, h24⟩ := bind_some h24
   refine q_ hf rfl rfl rfl (e_add hf rfl rfl hz119) fun a hf => ?_
   refine q_ hf rfl rfl rfl (e_assign hf rfl) fun a hf => ?_
   refine pl_nil ?_
   obtain rfl := some_inj h24
   refine then_n ⟨_, rfl, ?_⟩
   exact ⟨z118, rfl, hf.keep ⟨rfl, rfl, rfl, trivial⟩, hM.pick [0, 1, 2] rfl, (chk_R hz119)⟩
  refine cond_f hf rfl hc26 ?_
  refine wp_exit ?_
  refine then_x ?_
  obtain rfl := some_inj h24
  obtain rfl := hd25 _ rfl
  try dsimp only at h17
  refine then_x ?_
  refine exit_hit ?_
  obtain rfl := some_inj h17
  refine then_n ?_
  exact ⟨rfl, hf.keep trivial, hM.pick [0, 1, 2] rfl⟩
 rintro a w127 ⟨rfl, hf, hM⟩
 try dsimp only at h
 refine wp_seq ?_
 refine region_pl ?_
 refine q_ hf rfl rfl rfl (e_assign hf rfl) fun a hf => ?_
 refine pl_nil ?_
 refine then_n ?_
 refine wp_ret ?_
 obtain rfl := some_inj h
 exact leave1 hf rfl rfl ⟨rfl, hM.fin⟩

set_option maxRecDepth 100000 in
set_option maxHeartbeats 4000000 in
theorem r_spec_l06Useful (C : Cx) (d1 : Dawg) (b2 : Nat) (o3 : Nat) (hp4 : (ptrRep DawgRep).R C.w0 C.S0 d1 [vP b2 o3]) (r : Bool) (h : m_spec_l06Useful d1 = some r) :
    Calls Tryd.prog 73 #[vP b2 (o3)] C.w0 fun e w => e = .returned (.bool (r)) ∧ Mem C w [] [] := by
 have hM := Mem.begin C [.dat (ptrRep DawgRep) d1 [vP b2 o3]] ⟨hp4, trivial⟩
 refine enter Tryd.func73 rfl Tryd.ntmps73 rfl fun a hf => ?_
 unfold m_spec_l06Useful at h
 refine wp_seq ?_
 refine region_pl ?_
 refine q_ hf rfl rfl rfl (e_assign hf rfl) fun a hf => ?_
 refine pl_nil ?_
 refine then_n ?_
 refine wp_seq ?_
 refine region_pl ?_
 refine q_ hf rfl rfl rfl (e_move hf rfl) fun a hf => ?_
 refine q_ hf rfl rfl rfl (e_nil hf rfl) fun a hf => ?_
 obtain ⟨_, hr5, hM⟩ := hM.deref (hM.dat (k := 0) rfl)
 obtain ⟨A6, c7, rfl, hv8⟩ := DawgRep_open hr5
 have hM := hM.add (y := .dat (sliceRep NodeRep) d1.Nodes [vL A6 d1.Nodes c7]) hv8
 refine q_ hf rfl rfl rfl (e_field hf rfl Tryd.underlying26 rfl Tryd.sizeOf24 (o' := o3 + 0) rfl) fun a hf => ?_
 refine q_ hf rfl rfl rfl (e_load1 hf rfl Tryd.isAgg24 (hM.litCell (k := 1) (j := 0) rfl rfl rfl)) fun a hf => ?_
 have hl9 := slice_len (hM.dat (k := 0) rfl)
 refine q_ hf rfl rfl rfl (e_lenL hf (x := d1.Nodes) rfl Tryd.underlying24) fun a hf => ?_
 refine q_ hf rfl rfl rfl (e_assign hf rfl) fun a hf => ?_
 refine pl_nil ?_
 refine then_n ?_
 refine wp_seq ?_
 refine region_pl ?_
 refine q_ hf rfl rfl rfl (e_move hf rfl) fun a hf => ?_
 obtain ⟨xs10, hz11, h⟩ := bind_some h
 refine pl_l hf rfl rfl rfl (w_make hf hM (K := boolRep) Tryd.underlying108 ei_4 Tryd.zeroValue4 rfl rfl rfl rfl hz11 fun b12 w13 hx14 hM a hf => ?_)
 refine q_ hf rfl rfl rfl (e_assign hf rfl) fun a hf => ?_
 refine pl_nil ?_
 refine then_n ?_
 obtain ⟨x16, h17, h⟩ := bind_some h
 refine seq_join (fun a w => ∃ (xs15 : (List Bool)), xs15 = x16 ∧ Has 88 a [(3, vI ((d1.Nodes.length : Int))), (4, vL (some ⟨b12, 0, none⟩) (xs15) (((d1.Nodes.length : Int) : Int).toNat))] ∧ Mem C w [.row boolRep (some ⟨b12, 0, none⟩) (((d1.Nodes.length : Int) : Int).toNat) 4 xs15 true] [.dat (sliceRep NodeRep) d1.Nodes [vL A6 d1.Nodes c7], .lit b2 (o3) [vL A6 (d1.Nodes) c7], .dat (ptrRep DawgRep) d1 [vP b2 o3]]) ?_ ?_
 ·refine wp_seq ?_
  refine region_pl ?_
  refine q_ hf rfl rfl rfl (e_assign hf rfl) fun a hf => ?_
  refine pl_nil ?_
  refine then_n ?_
  refine wp_block ?_
  obtain ⟨x23, h24, h17⟩ := bind_some h17
  refine wp_loopM h24 (fun s a w => ∃ (xs18 : (List Bool)) (i19 : Int), (xs18, i19) = s ∧ Has 88 a [(0, vP b2 (o3)), (3, vI ((d1.Nodes.length : Int))), (4, vL (some ⟨b12, 0, none⟩) (xs18) (((d1.Nodes.length : Int) : Int).toNat)), (5, vI (i19))] ∧ Mem C w [.row boolRep (some ⟨b12, 0, none⟩) (((d1.Nodes.length : Int) : Int).toNat) 4 xs18 true] [.dat (sliceRep NodeRep) d1.Nodes [vL A6 d1.Nodes c7], .lit b2 (o3) [vL A6 (d1.Nodes) c7], .dat (ptrRep DawgRep) d1 [vP b2 o3]] ∧ R64 i19) ?_ ?_
  ·exact ⟨xs10, 0, rfl, hf.keep ⟨rfl, rfl, rfl, rfl, trivial⟩, hM.pick [0, 1, 2] rfl, (R64_lit rfl)⟩
  rintro s o25 a w21 ⟨xs18, i19, rfl, hf, hM, hv20⟩ h26 hd27
  replace h26 : m_spec_l06Useful_l1 d1 xs18 i19 = some o25 := h26
  unfold m_spec_l06Useful_l1 at h26
  iterate 2 refine wp_seq ?_
  refine region_pl ?_
  refine q_ hf rfl rfl rfl (e_move hf rfl) fun a hf => ?_
  refine q_ hf rfl rfl rfl (e_le hf (x := i19) (y := 13) rfl rfl) fun a hf => ?_
  refine pl_nil ?_
  refine then_n ?_
  rcases cond_some h26 with ⟨hc28, h26⟩ | ⟨hc28, h26⟩
  ·refine cond_t hf rfl hc28 ?_
   refine wp_skip ?_
   refine then_n ?_
   obtain ⟨x30, h31, h26⟩ := bind_some h26
   refine seq_join (fun a w => ∃ (xs29 : (List Bool)), xs29 = x30 ∧ Has 88 a [(0, vP b2 (o3)), (3, vI ((d1.Nodes.length : Int))), (4, vL (some ⟨b12, 0, none⟩) (xs29) (((d1.Nodes.length : Int) : Int).toNat)), (5, vI (i19))] ∧ Mem C w [.row boolRep (some ⟨b12, 0, none⟩) (((d1.Nodes.length : Int) : Int).toNat) 4 xs29 true] [.dat (sliceRep NodeRep) d1.Nodes [vL A6 d1.Nodes c7], .lit b2 (o3) [vL A6 (d1.Nodes) c7], .dat (ptrRep DawgRep) d1 [vP b2 o3]]) ?_ ?_
   ·refine wp_block ?_
    refine wp_seq ?_
    refine region_pl ?_
    refine q_ hf rfl rfl rfl (e_assign hf rfl) fun a hf => ?_
    refine pl_nil ?_
    refine then_n ?_
    refine wp_block ?_
    obtain ⟨x37, h38, h31⟩ := bind_some h31
    refine wp_loopM h38 (fun s a w => ∃ (xs32 : (List Bool)) (k33 : Int), (xs32, k33) = s ∧ Has 88 a [(0, vP b2 (o3)), (3, vI ((d1.Nodes.length : Int))), (4, vL (some ⟨b12, 0, none⟩) (xs32) (((d1.Nodes.length : Int) : Int).toNat)), (5, vI (i19)), (6, vI (k33))] ∧ Mem C w [.row boolRep (some ⟨b12, 0, none⟩) (((d1.Nodes.length : Int) : Int).toNat) 4 xs32 true] [.dat (sliceRep NodeRep) d1.Nodes [vL A6 d1.Nodes c7], .lit b2 (o3) [vL A6 (d1.Nodes) c7], .dat (ptrRep DawgRep) d1 [vP b2 o3]] ∧ R64 k33) ?_ ?_
    ·exact ⟨xs18, 0, rfl, hf.keep ⟨rfl, rfl, rfl, rfl, rfl, trivial⟩, hM.pick [0, 1, 2] rfl, (R64_lit rfl)⟩
    rintro s o39 a w35 ⟨xs32, k33, rfl, hf, hM, hv34⟩ h40 hd41
    replace h40 : m_spec_l06Useful_l2 d1 xs32 k33 = some o39 := h40
    unfold m_spec_l06Useful_l2 at h40
    iterate 2 refine wp_seq ?_
    refine region_pl ?_
    iterate 2 refine q_ hf rfl rfl rfl (e_move hf rfl) fun a hf => ?_
    refine q_ hf rfl rfl rfl (e_lt hf (x := k33) (y := (d1.Nodes.length : Int)) rfl rfl) fun a hf => ?_
    refine pl_nil ?_
    refine then_n ?_
    rcases cond_some h40 with ⟨hc42, h40⟩ | ⟨hc42, h40⟩
    ·refine cond_t hf rfl hc42 ?_
     refine wp_skip ?_
     refine then_n ?_
     obtain ⟨x44, h45, h40⟩ := bind_some h40
     refine seq_join (fun a w => ∃ (xs43 : (List Bool)), xs43 = x44 ∧ Has 88 a [(0, vP b2 (o3)), (3, vI ((d1.Nodes.length : Int))), (4, vL (some ⟨b12, 0, none⟩) (xs43) (((d1.Nodes.length : Int) : Int).toNat)), (5, vI (i19)), (6, vI (k33))] ∧ Mem C w [.row boolRep (some ⟨b12, 0, none⟩) (((d1.Nodes.length : Int) : Int).toNat) 4 xs43 true] [.dat (sliceRep NodeRep) d1.Nodes [vL A6 d1.Nodes c7], .lit b2 (o3) [vL A6 (d1.Nodes) c7], .dat (ptrRep DawgRep) d1 [vP b2 o3]]) ?_ ?_
     ·refine wp_block ?_
      obtain ⟨x47, h48, h45⟩ := bind_some h45
      refine seq_join (fun a w => ∃ (xs46 : (List Bool)), xs46 = x47 ∧ Has 88 a [(0, vP b2 (o3)), (3, vI ((d1.Nodes.length : Int))), (4, vL (some ⟨b12, 0, none⟩) (xs46) (((d1.Nodes.length : Int) : Int).toNat)), (5, vI (i19)), (6, vI (k33))] ∧ Mem C w [.row boolRep (some ⟨b12, 0, none⟩) (((d1.Nodes.length : Int) : Int).toNat) 4 xs46 true] [.dat (sliceRep NodeRep) d1.Nodes [vL A6 d1.Nodes c7], .lit b2 (o3) [vL A6 (d1.Nodes) c7], .dat (ptrRep DawgRep) d1 [vP b2 o3]]) ?_ ?_
      ·refine region_pl ?_
       iterate 4 refine q_ hf rfl rfl rfl (e_move hf rfl) fun a hf => ?_
       obtain ⟨e49, hz50, h48⟩ := bind_some h48
       obtain ⟨_, h51, h52, hr53, hcell54⟩ := hM.rowElem' (k := 0) rfl (n := 1) rfl hz50
       obtain rfl : _ = _ := hr53
       refine q_ hf rfl rfl rfl (e_indexAddr (A := (some ⟨b12, 0, none⟩)) (b := b12) (o := 0) (xs := xs32) (i := k33) hf rfl rfl rfl Tryd.underlying108 Tryd.sizeOf4 h51 h52) fun a hf => ?_
       refine q_ hf rfl rfl rfl (e_load1 hf rfl Tryd.isAgg4 (hcell54 0 _ rfl)) fun a hf => ?_
       refine q_ hf rfl rfl rfl (e_move hf rfl) fun a hf => ?_
       rcases cond_some h48 with ⟨hc55, h48⟩ | ⟨hc55, h48⟩
       ·iterate 8 refine pl_gs (wanted_f hf rfl rfl rfl rfl hc55) hf rfl rfl fun a hf => ?_
        refine q_ hf rfl rfl rfl (e_pick_t hf rfl hc55 rfl) fun a hf => ?_
        obtain ⟨e56, hz57, h48⟩ := bind_some h48
        obtain ⟨_, h58, h59, hr60, hcell61⟩ := hM.rowElem' (k := 0) rfl (n := 1) rfl hz57
        obtain rfl : _ = _ := hr60
        refine q_ hf rfl rfl rfl (e_indexAddr (A := (some ⟨b12, 0, none⟩)) (b := b12) (o := 0) (xs := xs32) (i := k33) hf rfl rfl rfl Tryd.underlying108 Tryd.sizeOf4 h58 h59) fun a hf => ?_
        obtain ⟨xs63, hz64, h48⟩ := bind_some h48
        refine pl_0 hf rfl rfl (w_storeElem hf hM (x := true) (row := [.bool (true)]) (i := k33) rfl rfl rfl rfl (k := 0) rfl rfl Tryd.sizeOf4 rfl hz64 fun w62 hM => ?_)
        dsimp only [List.set] at hM
        have hf := hf.alter (d := 4) (v := vL (some ⟨b12, 0, none⟩) (xs63) (((d1.Nodes.length : Int) : Int).toNat)) rfl (vL_len (setL_len hz64))
        have hf := hf.alter (d := 25) (v := vL (some ⟨b12, 0, none⟩) (xs63) (((d1.Nodes.length : Int) : Int).toNat)) rfl (vL_len (setL_len hz64))
        have hf := hf.alter (d := 27) (v := vL (some ⟨b12, 0, none⟩) (xs63) (((d1.Nodes.length : Int) : Int).toNat)) rfl (vL_len (setL_len hz64))
        refine pl_nil ?_
        obtain rfl := some_inj h48
        refine then_n ?_
        exact ⟨xs63, rfl, hf.keep ⟨rfl, rfl, rfl, rfl, rfl, trivial⟩, hM.pick [0, 1, 2] rfl⟩
       refine gq (wanted_t hf rfl rfl rfl rfl hc55) hf rfl rfl (e_move hf rfl) fun a hf => ?_
       refine gq (wanted_t hf rfl rfl rfl rfl hc55) hf rfl rfl (e_nil hf rfl) fun a hf => ?_
       refine gq (wanted_t hf rfl rfl rfl rfl hc55) hf rfl rfl (e_field hf rfl Tryd.underlying26 rfl Tryd.sizeOf24 (o' := o3 + 0) rfl) fun a hf => ?_
       refine gq (wanted_t hf rfl rfl rfl rfl hc55) hf rfl rfl (e_load1 hf rfl Tryd.isAgg24 (hM.litCell (k := 1) (j := 0) rfl rfl rfl)) fun a hf => ?_
       refine gq (wanted_t hf rfl rfl rfl rfl hc55) hf rfl rfl (e_move hf rfl) fun a hf => ?_
       obtain ⟨e66, hz67, h48⟩ := bind_some h48
       obtain ⟨b71, o72, _, hA73, h68, h69, hr70, hM⟩ := hM.elem (hM.dat (k := 0) rfl) (n := 3) rfl hz67
       obtain ⟨A75, c76, rfl, hv74, hv77⟩ := NodeRep_open hr70
       have hM := hM.add (y := .dat (sliceRep intRep) e66.Next [vL A75 e66.Next c76]) hv77
       refine gq (wanted_t hf rfl rfl rfl rfl hc55) hf rfl rfl (e_indexAddr (A := A6) (b := b71) (o := o72) (xs := d1.Nodes) (i := k33) hf hA73 rfl rfl Tryd.underlying24 Tryd.sizeOf76 h68 h69) fun a hf => ?_
       refine gq (wanted_t hf rfl rfl rfl rfl hc55) hf rfl rfl (e_field hf rfl Tryd.underlying76 rfl Tryd.sizeOf4 (o' := (o72 + (k33 : Int).toNat * 3) + 0) rfl) fun a hf => ?_
       refine gq (wanted_t hf rfl rfl rfl rfl hc55) hf rfl rfl (e_load1 hf rfl Tryd.isAgg4 (hM.litCell (k := 1) (j := 0) rfl rfl rfl)) fun a hf => ?_
       refine q_ hf rfl rfl rfl (e_pick_f hf rfl hc55 rfl) fun a hf => ?_
       obtain ⟨e78, hz79, h48⟩ := bind_some h48
       obtain ⟨_, h80, h81, hr82, hcell83⟩ := hM.rowElem' (k := 0) rfl (n := 1) rfl hz79
       obtain rfl : _ = _ := hr82
       refine q_ hf rfl rfl rfl (e_indexAddr (A := (some ⟨b12, 0, none⟩)) (b := b12) (o := 0) (xs := xs32) (i := k33) hf rfl rfl rfl Tryd.underlying108 Tryd.sizeOf4 h80 h81) fun a hf => ?_
       obtain ⟨xs85, hz86, h48⟩ := bind_some h48
       refine pl_0 hf rfl rfl (w_storeElem hf hM (x := e66.Final) (row := [.bool (e66.Final)]) (i := k33) rfl rfl rfl rfl (k := 0) rfl rfl Tryd.sizeOf4 rfl hz86 fun w84 hM => ?_)
       dsimp only [List.set] at hM
       have hf := hf.alter (d := 4) (v := vL (some ⟨b12, 0, none⟩) (xs85) (((d1.Nodes.length : Int) : Int).toNat)) rfl (vL_len (setL_len hz86))
       have hf := hf.alter (d := 25) (v := vL (some ⟨b12, 0, none⟩) (xs85) (((d1.Nodes.length : Int) : Int).toNat)) rfl (vL_len (setL_len hz86))
       have hf := hf.alter (d := 27) (v := vL (some ⟨b12, 0, none⟩) (xs85) (((d1.Nodes.length : Int) : Int).toNat)) rfl (vL_len (setL_len hz86))
       refine pl_nil ?_
       obtain rfl := some_inj h48
       refine then_n ?_
       exact ⟨xs85, rfl, hf.keep ⟨rfl, rfl, rfl, rfl, rfl, trivial⟩, hM.pick [2, 3, 4] rfl⟩
      rintro a w88 ⟨xs46, rfl, hf, hM⟩
      try dsimp only at h45
      refine wp_seq ?_
      refine region_pl ?_
      refine q_ hf rfl rfl rfl (e_assign hf rfl) fun a hf => ?_
      refine pl_nil ?_
      refine then_n ?_
      refine wp_block ?_
      obtain ⟨x94, h95, h45⟩ := bind_some h45
      refine wp_loopM h95 (fun s a w => ∃ (xs89 : (List Bool)) (i90 : Int), (xs89, i90) = s ∧ Has 88 a [(0, vP b2 (o3)), (3, vI ((d1.Nodes.length : Int))), (4, vL (some ⟨b12, 0, none⟩) (xs89) (((d1.Nodes.length : Int) : Int).toNat)), (5, vI (i19)), (6, vI (k33)), (7, vI (i90))] ∧ Mem C w [.row boolRep (some ⟨b12, 0, none⟩) (((d1.Nodes.length : Int) : Int).toNat) 4 xs89 true] [.dat (sliceRep NodeRep) d1.Nodes [vL A6 d1.Nodes c7], .lit b2 (o3) [vL A6 (d1.Nodes) c7], .dat (ptrRep DawgRep) d1 [vP b2 o3]] ∧ R64 i90) ?_ ?_
      ·exact ⟨xs46, 0, rfl, hf.keep ⟨rfl, rfl, rfl, rfl, rfl, rfl, trivial⟩, hM.pick [0, 1, 2] rfl, (R64_lit rfl)⟩
      rintro s o96 a w92 ⟨xs89, i90, rfl, hf, hM, hv91⟩ h97 hd98
      replace h97 : m_spec_l06Useful_l3 d1 k33 xs89 i90 = some o96 := h97
      unfold m_spec_l06Useful_l3 at h97
      iterate 2 refine wp_seq ?_
      refine region_pl ?_
      iterate 2 refine q_ hf rfl rfl rfl (e_move hf rfl) fun a hf => ?_
      refine q_ hf rfl rfl rfl (e_nil hf rfl) fun a hf => ?_
      refine q_ hf rfl rfl rfl (e_field hf rfl Tryd.underlying26 rfl Tryd.sizeOf24 (o' := o3 + 0) rfl) fun a hf => ?_
      refine q_ hf rfl rfl rfl (e_load1 hf rfl Tryd.isAgg24 (hM.litCell (k := 1) (j := 0) rfl rfl rfl)) fun a hf => ?_
      refine q_ hf rfl rfl rfl (e_move hf rfl) fun a hf => ?_
      obtain ⟨e99, hz100, h97⟩ := bind_some h97
      obtain ⟨b104, o105, _, hA106, h101, h102, hr103, hM⟩ := hM.elem (hM.dat (k := 0) rfl) (n := 3) rfl hz100
      obtain ⟨A108, c109, rfl, hv107, hv110⟩ := NodeRep_open hr103
      have hM := hM.add (y := .dat (sliceRep intRep) e99.Next [vL A108 e99.Next c109]) hv110
      refine q_ hf rfl rfl rfl (e_indexAddr (A := A6) (b := b104) (o := o105) (xs := d1.Nodes) (i := k33) hf hA106 rfl rfl Tryd.underlying24 Tryd.sizeOf76 h101 h102) fun a hf => ?_
      refine q_ hf rfl rfl rfl (e_field hf rfl Tryd.underlying76 rfl Tryd.sizeOf31 (o' := (o105 + (k33 : Int).toNat * 3) + 2) rfl) fun a hf => ?_
      refine q_ hf rfl rfl rfl (e_load1 hf rfl Tryd.isAgg31 (hM.litCell (k := 1) (j := 2) rfl rfl rfl)) fun a hf => ?_
      have hl111 := slice_len (hM.dat (k := 0) rfl)
      refine q_ hf rfl rfl rfl (e_lenL hf (x := e99.Next) rfl Tryd.underlying31) fun a hf => ?_
      refine q_ hf rfl rfl rfl (e_lt hf (x := i90) (y := (e99.Next.length : Int)) rfl rfl) fun a hf => ?_
      refine pl_nil ?_
      refine then_n ?_
      rcases cond_some h97 with ⟨hc112, h97⟩ | ⟨hc112, h97⟩
      ·refine cond_t hf rfl hc112 ?_
       refine wp_skip ?_
       refine then_n ?_
       obtain ⟨x114, h115, h97⟩ := bind_some h97
       refine seq_join (fun a w => ∃ (xs113 : (List Bool)), xs113 = x114 ∧ Has 88 a [(0, vP b2 (o3)), (3, vI ((d1.Nodes.length : Int))), (4, vL (some ⟨b12, 0, none⟩) (xs113) (((d1.Nodes.length : Int) : Int).toNat)), (5, vI (i19)), (6, vI (k33)), (7, vI (i90))] ∧ Mem C w [.row boolRep (some ⟨b12, 0, none⟩) (((d1.Nodes.length : Int) : Int).toNat) 4 xs113 true] [.dat (sliceRep intRep) e99.Next [vL A108 e99.Next c109], .lit b104 (o105 + (k33 : Int).toNat * 3) [.bool (e99.Final), vS (e99.Letters), vL A108 (e99.Next) c109], .dat (sliceRep NodeRep) d1.Nodes [vL A6 d1.Nodes c7], .lit b2 (o3) [vL A6 (d1.Nodes) c7], .dat (ptrRep DawgRep) d1 [vP b2 o3]]) ?_ ?_
       ·refine wp_block ?_
        refine region_pl ?_
        iterate 4 refine q_ hf rfl rfl rfl (e_move hf rfl) fun a hf => ?_
        obtain ⟨e116, hz117, h115⟩ := bind_some h115
        obtain ⟨_, h118, h119, hr120, hcell121⟩ := hM.rowElem' (k := 0) rfl (n := 1) rfl hz117
        obtain rfl : _ = _ := hr120
        refine q_ hf rfl rfl rfl (e_indexAddr (A := (some ⟨b12, 0, none⟩)) (b := b12) (o := 0) (xs := xs89) (i := k33) hf rfl rfl rfl Tryd.underlying108 Tryd.sizeOf4 h118 h119) fun a hf => ?_
        refine q_ hf rfl rfl rfl (e_load1 hf rfl Tryd.isAgg4 (hcell121 0 _ rfl)) fun a hf => ?_
        refine q_ hf rfl rfl rfl (e_move hf rfl) fun a hf => ?_
        rcases cond_some h115 with ⟨hc122, h115⟩ | ⟨hc122, h115⟩
        ·iterate 14 refine pl_gs (wanted_f hf rfl rfl rfl rfl hc122) hf rfl rfl fun a hf => ?_
         refine q_ hf rfl rfl rfl (e_pick_t hf rfl hc122 rfl) fun a hf => ?_
         obtain ⟨e123, hz124, h115⟩ := bind_some h115
         obtain ⟨_, h125, h126, hr127, hcell128⟩ := hM.rowElem' (k := 0) rfl (n := 1) rfl hz124
         obtain rfl : _ = _ := hr127
         refine q_ hf rfl rfl rfl (e_indexAddr (A := (some ⟨b12, 0, none⟩)) (b := b12) (o := 0) (xs := xs89) (i := k33) hf rfl rfl rfl Tryd.underlying108 Tryd.sizeOf4 h125 h126) fun a hf => ?_
         obtain ⟨xs130, hz131, h115⟩ := bind_some h115
         refine pl_0 hf rfl rfl (w_storeElem hf hM (x := true) (row := [.bool (true)]) (i := k33) rfl rfl rfl rfl (k := 0) rfl rfl Tryd.sizeOf4 rfl hz131 fun w129 hM => ?_)
         dsimp only [List.set] at hM
         have hf := hf.alter (d := 4) (v := vL (some ⟨b12, 0, none⟩) (xs130) (((d1.Nodes.length : Int) : Int).toNat)) rfl (vL_len (setL_len hz131))
         have hf := hf.alter (d := 55) (v := vL (some ⟨b12, 0, none⟩) (xs130) (((d1.Nodes.length : Int) : Int).toNat)) rfl (vL_len (setL_len hz131))
         have hf := hf.alter (d := 57) (v := vL (some ⟨b12, 0, none⟩) (xs130) (((d1.Nodes.length : Int) : Int).toNat)) rfl (vL_len (setL_len hz131))
         refine pl_nil ?_
         refine blk_n ?_
         obtain rfl := some_inj h115
         refine then_n ?_
         exact ⟨xs130, rfl, hf.keep ⟨rfl, rfl, rfl, rfl, rfl, rfl, trivial⟩, hM.pick [0, 1, 2, 3, 4] rfl⟩
        iterate 2 refine gq (wanted_t hf rfl rfl rfl rfl hc122) hf rfl rfl (e_move hf rfl) fun a hf => ?_
        refine gq (wanted_t hf rfl rfl rfl rfl hc122) hf rfl rfl (e_nil hf rfl) fun a hf => ?_
        refine gq (wanted_t hf rfl rfl rfl rfl hc122) hf rfl rfl (e_field hf rfl Tryd.underlying26 rfl Tryd.sizeOf24 (o' := o3 + 0) rfl) fun a hf => ?_
        refine gq (wanted_t hf rfl rfl rfl rfl hc122) hf rfl rfl (e_load1 hf rfl Tryd.isAgg24 (hM.litCell (k := 3) (j := 0) rfl rfl rfl)) fun a hf => ?_
        refine gq (wanted_t hf rfl rfl rfl rfl hc122) hf rfl rfl (e_move hf rfl) fun a hf => ?_
        obtain ⟨e133, hz134, h115⟩ := bind_some h115
        obtain ⟨b138, o139, _, hA140, h135, h136, hr137, hM⟩ := hM.elem (hM.dat (k := 2) rfl) (n := 3) rfl hz134
        obtain ⟨A142, c143, rfl, hv141, hv144⟩ := NodeRep_open hr137
        have hM := hM.add (y := .dat (sliceRep intRep) e133.Next [vL A142 e133.Next c143]) hv144
        refine gq (wanted_t hf rfl rfl rfl rfl hc122) hf rfl rfl (e_indexAddr (A := A6) (b := b138) (o := o139) (xs := d1.Nodes) (i := k33) hf hA140 rfl rfl Tryd.underlying24 Tryd.sizeOf76 h135 h136) fun a hf => ?_
        refine gq (wanted_t hf rfl rfl rfl rfl hc122) hf rfl rfl (e_field hf rfl Tryd.underlying76 rfl Tryd.sizeOf31 (o' := (o139 + (k33 : Int).toNat * 3) + 2) rfl) fun a hf => ?_
        refine gq (wanted_t hf rfl rfl rfl rfl hc122) hf rfl rfl (e_load1 hf rfl Tryd.isAgg31 (hM.litCell (k := 1) (j := 2) rfl rfl rfl)) fun a hf => ?_
        refine gq (wanted_t hf rfl rfl rfl rfl hc122) hf rfl rfl (e_move hf rfl) fun a hf => ?_
        obtain ⟨e145, hz146, h115⟩ := bind_some h115
        obtain ⟨b150, o151, _, hA152, h147, h148, hr149, hM⟩ := hM.elem (hM.dat (k := 0) rfl) (n := 1) rfl hz146
        obtain ⟨rfl, hv153⟩ := hr149
        refine gq (wanted_t hf rfl rfl rfl rfl hc122) hf rfl rfl (e_indexAddr (A := A142) (b := b150) (o := o151) (xs := e133.Next) (i := i90) hf hA152 rfl rfl Tryd.underlying31 Tryd.sizeOf2 h147 h148) fun a hf => ?_
        refine gq (wanted_t hf rfl rfl rfl rfl hc122) hf rfl rfl (e_load1 hf rfl Tryd.isAgg2 (hM.litCell (k := 0) (j := 0) rfl rfl rfl)) fun a hf => ?_
        obtain ⟨e154, hz155, h115⟩ := bind_some h115
        obtain ⟨_, h156, h157, hr158, hcell159⟩ := hM.rowElem' (k := 0) rfl (n := 1) rfl hz155
        obtain rfl : _ = _ := hr158
        refine gq (wanted_t hf rfl rfl rfl rfl hc122) hf rfl rfl (e_indexAddr (A := (some ⟨b12, 0, none⟩)) (b := b12) (o := 0) (xs := xs89) (i := e145) hf rfl rfl rfl Tryd.underlying108 Tryd.sizeOf4 h156 h157) fun a hf => ?_
        refine gq (wanted_t hf rfl rfl rfl rfl hc122) hf rfl rfl (e_load1 hf rfl Tryd.isAgg4 (hcell159 0 _ rfl)) fun a hf => ?_
        refine q_ hf rfl rfl rfl (e_pick_f hf rfl hc122 rfl) fun a hf => ?_
        obtain ⟨e160, hz161, h115⟩ := bind_some h115
        obtain ⟨_, h162, h163, hr164, hcell165⟩ := hM.rowElem' (k := 0) rfl (n := 1) rfl hz161
        obtain rfl : _ = _ := hr164
        refine q_ hf rfl rfl rfl (e_indexAddr (A := (some ⟨b12, 0, none⟩)) (b := b12) (o := 0) (xs := xs89) (i := k33) hf rfl rfl rfl Tryd.underlying108 Tryd.sizeOf4 h162 h163) fun a hf => ?_
        obtain ⟨xs167, hz168, h115⟩ := bind_some h115
        refine pl_0 hf rfl rfl (w_storeElem hf hM (x := e154) (row := [.bool (e154)]) (i := k33) rfl rfl rfl rfl (k := 0) rfl rfl Tryd.sizeOf4 rfl hz168 fun w166 hM => ?_)
        dsimp only [List.set] at hM
        have hf := hf.alter (d := 4) (v := vL (some ⟨b12, 0, none⟩) (xs167) (((d1.Nodes.length : Int) : Int).toNat)) rfl (vL_len (setL_len hz168))
        have hf := hf.alter (d := 55) (v := vL (some ⟨b12, 0, none⟩) (xs167) (((d1.Nodes.length : Int) : Int).toNat)) rfl (vL_len (setL_len hz168))
        have hf := hf.alter (d := 57) (v := vL (some ⟨b12, 0, none⟩) (xs167) (((d1.Nodes.length : Int) : Int).toNat)) rfl (vL_len (setL_len hz168))
        have hf := hf.alter (d := 62) (v := vL (some ⟨b12, 0, none⟩) (xs167) (((d1.Nodes.length : Int) : Int).toNat)) rfl (vL_len (setL_len hz168))
        refine pl_nil ?_
        refine blk_n ?_
        obtain rfl := some_inj h115
        refine then_n ?_
        exact ⟨xs167, rfl, hf.keep ⟨rfl, rfl, rfl, rfl, rfl, rfl, trivial⟩, hM.pick [3, 4, 5, 6, 7] rfl⟩
       rintro a w170 ⟨xs113, rfl, hf, hM⟩
       try dsimp only at h97
       refine region_pl ?_
       refine q_ hf rfl rfl rfl (e_move hf rfl) fun a hf => ?_
       obtain ⟨z171, hz172, h97⟩ := bind_some h97
       refine q_ hf rfl rfl rfl (e_add hf rfl rfl hz172) fun a hf => ?_
       refine q_ hf rfl rfl rfl (e_assign hf rfl) fun a hf => ?_
       refine pl_nil ?_
       obtain rfl := some_inj h97
       refine then_n ⟨_, rfl, ?_⟩
       exact ⟨xs113, z171, rfl, hf.keep ⟨rfl, rfl, rfl, rfl, rfl, rfl, trivial⟩, hM.pick [2, 3, 4] rfl, (chk_R hz172)⟩
      refine cond_f hf rfl hc112 ?_
      refine wp_exit ?_
      refine then_x ?_
      obtain rfl := some_inj h97
      obtain rfl := hd98 _ rfl
      try dsimp only at h45
      refine then_x ?_
      refine exit_hit ?_
      refine blk_n ?_
      obtain rfl := some_inj h45
      refine then_n ?_
      exact ⟨xs89, rfl, hf.keep ⟨rfl, rfl, rfl, rfl, rfl, trivial⟩, hM.pick [2, 3, 4] rfl⟩
     rintro a w178 ⟨xs43, rfl, hf, hM⟩
     try dsimp only at h40
     refine region_pl ?_
     refine q_ hf rfl rfl rfl (e_move hf rfl) fun a hf => ?_
     obtain ⟨z179, hz180, h40⟩ := bind_some h40
     refine q_ hf rfl rfl rfl (e_add hf rfl rfl hz180) fun a hf => ?_
     refine q_ hf rfl rfl rfl (e_assign hf rfl) fun a hf => ?_
     refine pl_nil ?_
     obtain rfl := some_inj h40
     refine then_n ⟨_, rfl, ?_⟩
     exact ⟨xs43, z179, rfl, hf.keep ⟨rfl, rfl, rfl, rfl, rfl, trivial⟩, hM.pick [0, 1, 2] rfl, (chk_R hz180)⟩
    refine cond_f hf rfl hc42 ?_
    refine wp_exit ?_
    refine then_x ?_
    obtain rfl := some_inj h40
    obtain rfl := hd41 _ rfl
    try dsimp only at h31
    refine then_x ?_
    refine exit_hit ?_
    refine blk_n ?_
    obtain rfl := some_inj h31
    refine then_n ?_
    exact ⟨xs32, rfl, hf.keep ⟨rfl, rfl, rfl, rfl, trivial⟩, hM.pick [0, 1, 2] rfl⟩
   rintro a w186 ⟨xs29, rfl, hf, hM⟩
   try dsimp only at h26
   refine region_pl ?_
   refine q_ hf rfl rfl rfl (e_move hf rfl) fun a hf => ?_
   obtain ⟨z187, hz188, h26⟩ := bind_some h26
   refine q_ hf rfl rfl rfl (e_add hf rfl rfl hz188) fun a hf => ?_
   refine q_ hf rfl rfl rfl (e_assign hf rfl) fun a hf => ?_
   refine pl_nil ?_
   obtain rfl := some_inj h26
   refine then_n ⟨_, rfl, ?_⟩
   exact ⟨xs29, z187, rfl, hf.keep ⟨rfl, rfl, rfl, rfl, trivial⟩, hM.pick [0, 1, 2] rfl, (chk_R hz188)⟩
  refine cond_f hf rfl hc28 ?_
  refine wp_exit ?_
  refine then_x ?_
  obtain rfl := some_inj h26
  obtain rfl := hd27 _ rfl
  try dsimp only at h17
  refine then_x ?_
  refine exit_hit ?_
  obtain rfl := some_inj h17
  refine then_n ?_
  exact ⟨xs18, rfl, hf.keep ⟨rfl, rfl, trivial⟩, hM.pick [0, 1, 2] rfl⟩
 rintro a w194 ⟨xs15, rfl, hf, hM⟩
 try dsimp only at h
 obtain ⟨x195, h196, h⟩ := bind_some h
 refine seq_join (fun a w => (.inl ()) = x195 ∧ Has 88 a [] ∧ Mem C w [.row boolRep (some ⟨b12, 0, none⟩) (((d1.Nodes.length : Int) : Int).toNat) 4 xs15 true] [.dat (sliceRep NodeRep) d1.Nodes [vL A6 d1.Nodes c7], .lit b2 (o3) [vL A6 (d1.Nodes) c7], .dat (ptrRep DawgRep) d1 [vP b2 o3]]) ?_ ?_
 ·refine wp_seq ?_
  refine region_pl ?_
  refine q_ hf rfl rfl rfl (e_assign hf rfl) fun a hf => ?_
  refine pl_nil ?_
  refine then_n ?_
  refine wp_block ?_
  obtain ⟨x200, h201, h196⟩ := bind_some h196
  refine wp_loopM h201 (fun s a w => ∃ (n197 : Int), n197 = s ∧ Has 88 a [(3, vI ((d1.Nodes.length : Int))), (4, vL (some ⟨b12, 0, none⟩) (xs15) (((d1.Nodes.length : Int) : Int).toNat)), (8, vI (n197))] ∧ Mem C w [.row boolRep (some ⟨b12, 0, none⟩) (((d1.Nodes.length : Int) : Int).toNat) 4 xs15 true] [.dat (sliceRep NodeRep) d1.Nodes [vL A6 d1.Nodes c7], .lit b2 (o3) [vL A6 (d1.Nodes) c7], .dat (ptrRep DawgRep) d1 [vP b2 o3]] ∧ R64 n197) ?_ ?_
  ·exact ⟨1, rfl, hf.keep ⟨rfl, rfl, rfl, trivial⟩, hM.pick [0, 1, 2] rfl, (R64_lit rfl)⟩
  rintro s o202 a w199 ⟨n197, rfl, hf, hM, hv198⟩ h203 hd204
  replace h203 : m_spec_l06Useful_l4 d1 xs15 n197 = some o202 := h203
  unfold m_spec_l06Useful_l4 at h203
  iterate 2 refine wp_seq ?_
  refine region_pl ?_
  iterate 2 refine q_ hf rfl rfl rfl (e_move hf rfl) fun a hf => ?_
  refine q_ hf rfl rfl rfl (e_lt hf (x := n197) (y := (d1.Nodes.length : Int)) rfl rfl) fun a hf => ?_
  refine pl_nil ?_
  refine then_n ?_
  rcases cond_some h203 with ⟨hc205, h203⟩ | ⟨hc205, h203⟩
  ·refine cond_t hf rfl hc205 ?_
   refine wp_skip ?_
   refine then_n ?_
   refine wp_seq ?_
   refine wp_block ?_
   refine wp_seq ?_
   refine region_pl ?_
   iterate 2 refine q_ hf rfl rfl rfl (e_move hf rfl) fun a hf => ?_
   obtain ⟨e206, hz207, h203⟩ := bind_some h203
   obtain ⟨_, h208, h209, hr210, hcell211⟩ := hM.rowElem' (k := 0) rfl (n := 1) rfl hz207
   obtain rfl : _ = _ := hr210
   refine q_ hf rfl rfl rfl (e_indexAddr (A := (some ⟨b12, 0, none⟩)) (b := b12) (o := 0) (xs := xs15) (i := n197) hf rfl rfl rfl Tryd.underlying108 Tryd.sizeOf4 h208 h209) fun a hf => ?_
   refine q_ hf rfl rfl rfl (e_load1 hf rfl Tryd.isAgg4 (hcell211 0 _ rfl)) fun a hf => ?_
   refine q_ hf rfl rfl rfl (e_not hf rfl) fun a hf => ?_
   refine pl_nil ?_
   refine then_n ?_
   rcases cond_some h203 with ⟨hc212, h203⟩ | ⟨hc212, h203⟩
   ·refine cond_t hf rfl hc212 ?_
    refine wp_seq ?_
    refine region_pl ?_
    refine q_ hf rfl rfl rfl (e_assign hf rfl) fun a hf => ?_
    refine pl_nil ?_
    refine then_n ?_
    refine wp_ret ?_
    refine blk_r ?_
    refine then_r ?_
    obtain rfl := some_inj h203
    obtain rfl := hd204 _ rfl
    try dsimp only at h196
    refine then_r ?_
    refine blk_r ?_
    obtain rfl := some_inj h196
    try dsimp only at h
    refine then_r ?_
    obtain rfl := some_inj h
    have hM := hM.outs (own' := []) 0 rfl
    exact leave1 hf rfl rfl ⟨rfl, hM.fin⟩
   refine cond_f hf rfl hc212 ?_
   refine wp_skip ?_
   refine blk_n ?_
   refine then_n ?_
   refine region_pl ?_
   refine q_ hf rfl rfl rfl (e_move hf rfl) fun a hf => ?_
   obtain ⟨z213, hz214, h203⟩ := bind_some h203
   refine q_ hf rfl rfl rfl (e_add hf rfl rfl hz214) fun a hf => ?_
   refine q_ hf rfl rfl rfl (e_assign hf rfl) fun a hf => ?_
   refine pl_nil ?_
   obtain rfl := some_inj h203
   refine then_n ⟨_, rfl, ?_⟩
   exact ⟨z213, rfl, hf.keep ⟨rfl, rfl, rfl, trivial⟩, hM.pick [0, 1, 2] rfl, (chk_R hz214)⟩
  refine cond_f hf rfl hc205 ?_
  refine wp_exit ?_
  refine then_x ?_
  obtain rfl := some_inj h203
  obtain rfl := hd204 _ rfl
  try dsimp only at h196
  refine then_x ?_
  refine exit_hit ?_
  obtain rfl := some_inj h196
  refine then_n ?_
  exact ⟨rfl, hf.keep trivial, hM.pick [0, 1, 2] rfl⟩
 rintro a w221 ⟨rfl, hf, hM⟩
 try dsimp only at h
 refine wp_seq ?_
 refine region_pl ?_
 refine q_ hf rfl rfl rfl (e_assign hf rfl) fun a hf => ?_
 refine pl_nil ?_
 refine then_n ?_
 refine wp_ret ?_
 obtain rfl := some_inj h
 have hM := hM.outs (own' := []) 0 rfl
 exact leave1 hf rfl rfl ⟨rfl, hM.fin⟩

def Ct_spec_l06W_walk (rc : l06W → Int → Str → Option l06W) : Prop := ∀ (C : Cx) (w1 : l06W) (b2 : Nat) (b3 : Nat) (o4 : Nat) (hp5 : (ptrRep DawgRep).R C.w0 C.S0 w1.d [vP b3 o4]) (A6 : Option Addr) (c7 : Nat) (node8 : Int) (hp9 : R64 node8) (s10 : Str) (hp11 : s10.length ≤ maxLen) (hO : Mem C C.w0 [.box b2 [vP b3 (o4), vL A6 (w1.out) c7, .bool (w1.full)] 105, .row strRep A6 c7 9 w1.out true] []) (hd : ∀ b, C.S0 b → ¬ ownB [.box b2 [vP b3 (o4), vL A6 (w1.out) c7, .bool (w1.full)] 105, .row strRep A6 c7 9 w1.out true] b) (r : l06W) (h : rc w1 node8 s10 = some r),
    Calls Tryd.prog 75 #[vP b2 (0), vI (node8), vS (s10)] C.w0 fun e w => ∃ (A_1 : Option Addr), ∃ (c_1 : Nat), e = .returned (.tuple #[]) ∧ Mem C w [.box b2 [vP b3 (o4), vL A_1 (r.out) c_1, .bool (r.full)] 105, .row strRep A_1 c_1 9 r.out true] []

set_option maxRecDepth 100000 in
set_option maxHeartbeats 4000000 in
theorem r_spec_l06W_walk_b (rc : l06W → Int → Str → Option l06W) (ih : Ct_spec_l06W_walk rc) : Ct_spec_l06W_walk (m_spec_l06W_walk_b rc) := by
 intro C w1 b2 b3 o4 hp5 A6 c7 node8 hp9 s10 hp11 hO hd r h
 have hM := hO
 have hM := hM.addIn hd (y := .dat (ptrRep DawgRep) w1.d [vP b3 o4]) hp5
 refine enter Tryd.func75 rfl Tryd.ntmps75 rfl fun a hf => ?_
 unfold m_spec_l06W_walk_b at h
 refine wp_seq ?_
 obtain ⟨x14, h15, h⟩ := bind_some h
 refine seq_join (fun a w => ∃ (t12 : Bool), t12 = x14 ∧ Has 87 a [(0, vP b2 (0)), (1, vI (node8)), (2, vS (s10)), (16, .bool (t12))] ∧ Mem C w [.box b2 [vP b3 (o4), vL A6 (w1.out) c7, .bool (w1.full)] 105, .row strRep A6 c7 9 w1.out true] [.dat (ptrRep DawgRep) w1.d [vP b3 o4]]) ?_ ?_
 ·refine region_pl ?_
  refine q_ hf rfl rfl rfl (e_move hf rfl) fun a hf => ?_
  refine q_ hf rfl rfl rfl (e_nil hf rfl) fun a hf => ?_
  refine q_ hf rfl rfl rfl (e_field hf rfl Tryd.underlying105 rfl Tryd.sizeOf4 (o' := 2) rfl) fun a hf => ?_
  refine q_ hf rfl rfl rfl (e_load1 hf rfl Tryd.isAgg4 (hM.boxCell (k := 0) rfl rfl)) fun a hf => ?_
  refine q_ hf rfl rfl rfl (e_move hf rfl) fun a hf => ?_
  rcases cond_some h15 with ⟨hc16, h15⟩ | ⟨hc16, h15⟩
  ·iterate 3 refine pl_gs (wanted_f hf rfl rfl rfl rfl hc16) hf rfl rfl fun a hf => ?_
   refine q_ hf rfl rfl rfl (e_pick_t hf rfl hc16 rfl) fun a hf => ?_
   refine pl_nil ?_
   obtain rfl := some_inj h15
   refine then_n ?_
   exact ⟨true, rfl, hf.keep ⟨rfl, rfl, rfl, rfl, trivial⟩, hM.pick [0] rfl⟩
  refine gq (wanted_t hf rfl rfl rfl rfl hc16) hf rfl rfl (e_move hf rfl) fun a hf => ?_
  refine gq (wanted_t hf rfl rfl rfl rfl hc16) hf rfl rfl (e_lenS hf (x := s10) rfl Tryd.underlying9) fun a hf => ?_
  refine gq (wanted_t hf rfl rfl rfl rfl hc16) hf rfl rfl (e_gt hf (x := (s10.length : Int)) (y := 13) rfl rfl) fun a hf => ?_
  refine q_ hf rfl rfl rfl (e_pick_f hf rfl hc16 rfl) fun a hf => ?_
  refine pl_nil ?_
  obtain rfl := some_inj h15
  refine then_n ?_
  exact ⟨(decide (13 < (s10.length : Int))), rfl, hf.keep ⟨rfl, rfl, rfl, rfl, trivial⟩, hM.pick [0] rfl⟩
 rintro a w19 ⟨t12, rfl, hf, hM⟩
 try dsimp only at h
 rcases cond_some h with ⟨hc20, h⟩ | ⟨hc20, h⟩
 ·refine cond_t hf rfl hc20 ?_
  refine wp_seq ?_
  refine region_pl ?_
  refine q_ hf rfl rfl rfl (e_move hf rfl) fun a hf => ?_
  refine q_ hf rfl rfl rfl (e_nil hf rfl) fun a hf => ?_
  refine q_ hf rfl rfl rfl (e_field hf rfl Tryd.underlying105 rfl Tryd.sizeOf4 (o' := 2) rfl) fun a hf => ?_
  refine pl_0 hf rfl rfl (w_store hf hM (us := [.bool (true)]) (cs' := [vP b3 (o4), vL A6 (w1.out) c7, .bool (true)]) rfl rfl (k := 0) rfl rfl Tryd.sizeOf4 rfl rfl rfl fun w21 hM => ?_)
  dsimp only [List.set] at hM
  refine pl_nil ?_
  refine then_n ?_
  refine wp_ret ?_
  refine then_r ?_
  obtain rfl := some_inj h
  exact leave0 hf rfl ⟨A6, c7, rfl, hM.fin⟩
 refine cond_f hf rfl hc20 ?_
 refine wp_skip ?_
 refine then_n ?_
 refine wp_seq ?_
 refine region_pl ?_
 refine q_ hf rfl rfl rfl (e_move hf rfl) fun a hf => ?_
 refine q_ hf rfl rfl rfl (e_nil hf rfl) fun a hf => ?_
 refine q_ hf rfl rfl rfl (e_field hf rfl Tryd.underlying105 rfl Tryd.sizeOf66 (o' := 0) rfl) fun a hf => ?_
 refine q_ hf rfl rfl rfl (e_load1 hf rfl Tryd.isAgg66 (hM.boxCell (k := 0) rfl rfl)) fun a hf => ?_
 refine q_ hf rfl rfl rfl (e_nil hf rfl) fun a hf => ?_
 obtain ⟨_, hr24, hM⟩ := hM.deref (hM.dat (k := 0) rfl)
 obtain ⟨A25, c26, rfl, hv27⟩ := DawgRep_open hr24
 have hM := hM.add (y := .dat (sliceRep NodeRep) w1.d.Nodes [vL A25 w1.d.Nodes c26]) hv27
 refine q_ hf rfl rfl rfl (e_field hf rfl Tryd.underlying26 rfl Tryd.sizeOf24 (o' := o4 + 0) rfl) fun a hf => ?_
 refine q_ hf rfl rfl rfl (e_load1 hf rfl Tryd.isAgg24 (hM.litCell (k := 1) (j := 0) rfl rfl rfl)) fun a hf => ?_
 refine q_ hf rfl rfl rfl (e_move hf rfl) fun a hf => ?_
 obtain ⟨e28, hz29, h⟩ := bind_some h
 obtain ⟨b33, o34, _, hA35, h30, h31, hr32, hM⟩ := hM.elem (hM.dat (k := 0) rfl) (n := 3) rfl hz29
 obtain ⟨A37, c38, rfl, hv36, hv39⟩ := NodeRep_open hr32
 have hM := hM.add (y := .dat (sliceRep intRep) e28.Next [vL A37 e28.Next c38]) hv39
 refine q_ hf rfl rfl rfl (e_indexAddr (A := A25) (b := b33) (o := o34) (xs := w1.d.Nodes) (i := node8) hf hA35 rfl rfl Tryd.underlying24 Tryd.sizeOf76 h30 h31) fun a hf => ?_
 refine q_ hf rfl rfl rfl (e_assign hf rfl) fun a hf => ?_
 refine pl_nil ?_
 refine then_n ?_
 obtain ⟨x45, h46, h⟩ := bind_some h
 refine seq_join (fun a w => ∃ (t40 : Bool) (xs42 : (List Str)) (A43 : Option Addr) (c44 : Nat), (t40, xs42) = x45 ∧ Has 87 a [(0, vP b2 (0)), (2, vS (s10)), (6, vP b33 (o34 + (node8 : Int).toNat * 3))] ∧ Mem C w [.box b2 [vP b3 (o4), vL A43 (xs42) c44, .bool (t40)] 105, .row strRep A43 c44 9 xs42 true] [.dat (sliceRep intRep) e28.Next [vL A37 e28.Next c38], .lit b33 (o34 + (node8 : Int).toNat * 3) [.bool (e28.Final), vS (e28.Letters), vL A37 (e28.Next) c38], .dat (sliceRep NodeRep) w1.d.Nodes [vL A25 w1.d.Nodes c26], .lit b3 (o4) [vL A25 (w1.d.Nodes) c26], .dat (ptrRep DawgRep) w1.d [vP b3 o4]]) ?_ ?_
 ·refine wp_seq ?_
  refine region_pl ?_
  refine q_ hf rfl rfl rfl (e_move hf rfl) fun a hf => ?_
  refine q_ hf rfl rfl rfl (e_nil hf rfl) fun a hf => ?_
  refine q_ hf rfl rfl rfl (e_field hf rfl Tryd.underlying76 rfl Tryd.sizeOf4 (o' := (o34 + (node8 : Int).toNat * 3) + 0) rfl) fun a hf => ?_
  refine q_ hf rfl rfl rfl (e_load1 hf rfl Tryd.isAgg4 (hM.litCell (k := 1) (j := 0) rfl rfl rfl)) fun a hf => ?_
  refine pl_nil ?_
  refine then_n ?_
  rcases cond_some h46 with ⟨hc47, h46⟩ | ⟨hc47, h46⟩
  ·refine cond_t hf rfl hc47 ?_
   refine wp_seq ?_
   refine region_pl ?_
   iterate 2 refine q_ hf rfl rfl rfl (e_move hf rfl) fun a hf => ?_
   refine q_ hf rfl rfl rfl (e_nil hf rfl) fun a hf => ?_
   refine q_ hf rfl rfl rfl (e_field hf rfl Tryd.underlying105 rfl Tryd.sizeOf28 (o' := 1) rfl) fun a hf => ?_
   refine q_ hf rfl rfl rfl (e_load1 hf rfl Tryd.isAgg28 (hM.boxCell (k := 0) rfl rfl)) fun a hf => ?_
   refine q_ hf rfl rfl rfl (e_move hf rfl) fun a hf => ?_
   refine pl_l hf rfl rfl rfl (w_slice hf hM (K := strRep) (xs := ([s10] : (List Str))) (os := [.tmp 38]) Tryd.underlying28 ei_9 rfl rfl rfl rfl rfl ⟨⟨[vS (s10)], rfl, ⟨rfl, hp11⟩⟩, trivial⟩ rfl fun b48 w49 hx50 hM a hf => ?_)
   obtain ⟨xs51, hz52, h46⟩ := bind_some h46
   refine pl_l hf rfl rfl rfl (w_append hf hM Tryd.underlying28 ei_9 rfl rfl rfl (k := 2) rfl (hM.srcRow (k := 0) rfl) hz52 fun A53 c54 w55 hM a hf => ?_)
   dsimp only [List.set] at hM
   refine q_ hf rfl rfl rfl (e_nil hf rfl) fun a hf => ?_
   refine q_ hf rfl rfl rfl (e_field hf rfl Tryd.underlying105 rfl Tryd.sizeOf28 (o' := 1) rfl) fun a hf => ?_
   refine pl_0 hf rfl rfl (w_store hf hM (us := [vL A53 (xs51) c54]) (cs' := [vP b3 (o4), vL A53 (xs51) c54, .bool (w1.full)]) rfl rfl (k := 1) rfl rfl Tryd.sizeOf28 rfl rfl rfl fun w58 hM => ?_)
   dsimp only [List.set] at hM
   refine pl_nil ?_
   refine then_n ?_
   refine region_pl ?_
   iterate 2 refine q_ hf rfl rfl rfl (e_move hf rfl) fun a hf => ?_
   refine q_ hf rfl rfl rfl (e_nil hf rfl) fun a hf => ?_
   refine q_ hf rfl rfl rfl (e_field hf rfl Tryd.underlying105 rfl Tryd.sizeOf28 (o' := 1) rfl) fun a hf => ?_
   refine q_ hf rfl rfl rfl (e_load1 hf rfl Tryd.isAgg28 (hM.boxCell (k := 1) rfl rfl)) fun a hf => ?_
   have hl61 := row_len (hM.ownAt (k := 2) rfl)
   refine q_ hf rfl rfl rfl (e_lenL hf (x := xs51) rfl Tryd.underlying28) fun a hf => ?_
   refine q_ hf rfl rfl rfl (e_gt hf (x := (xs51.length : Int)) (y := 3000) rfl rfl) fun a hf => ?_
   refine q_ hf rfl rfl rfl (e_nil hf rfl) fun a hf => ?_
   refine q_ hf rfl rfl rfl (e_field hf rfl Tryd.underlying105 rfl Tryd.sizeOf4 (o' := 2) rfl) fun a hf => ?_
   refine pl_0 hf rfl rfl (w_store hf hM (us := [.bool (decide (3000 < (xs51.length : Int)))]) (cs' := [vP b3 (o4), vL A53 (xs51) c54, .bool (decide (3000 < (xs51.length : Int)))]) rfl rfl (k := 1) rfl rfl Tryd.sizeOf4 rfl rfl rfl fun w62 hM => ?_)
   dsimp only [List.set] at hM
   refine pl_nil ?_
   obtain rfl := some_inj h46
   refine then_n ?_
   exact ⟨(decide (3000 < (xs51.length : Int))), xs51, A53, c54, rfl, hf.keep ⟨rfl, rfl, rfl, trivial⟩, (hM.drop (.cons _ (.cons_cons _ (.cons_cons _ .slnil)))).pick [0, 1, 2, 3, 4] rfl⟩
  refine cond_f hf rfl hc47 ?_
  refine wp_skip ?_
  obtain rfl := some_inj h46
  refine then_n ?_
  exact ⟨w1.full, w1.out, A6, c7, rfl, hf.keep ⟨rfl, rfl, rfl, trivial⟩, hM.pick [0, 1, 2, 3, 4] rfl⟩
 rintro a w67 ⟨t40, xs42, A43, c44, rfl, hf, hM⟩
 try dsimp only at h
 refine wp_seq ?_
 refine region_pl ?_
 refine q_ hf rfl rfl rfl (e_assign hf rfl) fun a hf => ?_
 refine pl_nil ?_
 refine then_n ?_
 refine wp_block ?_
 obtain ⟨x81, h82, h⟩ := bind_some h
 refine wp_loopM h82 (fun s a w => ∃ (t68 : Bool) (xs70 : (List Str)) (n73 : Int) (A71 : Option Addr) (c72 : Nat), (t68, xs70, n73) = s ∧ Has 87 a [(0, vP b2 (0)), (2, vS (s10)), (6, vP b33 (o34 + (node8 : Int).toNat * 3)), (7, vI (n73))] ∧ Mem C w [.box b2 [vP b3 (o4), vL A71 (xs70) c72, .bool (t68)] 105, .row strRep A71 c72 9 xs70 true] [.dat (sliceRep intRep) e28.Next [vL A37 e28.Next c38], .lit b33 (o34 + (node8 : Int).toNat * 3) [.bool (e28.Final), vS (e28.Letters), vL A37 (e28.Next) c38], .dat (sliceRep NodeRep) w1.d.Nodes [vL A25 w1.d.Nodes c26], .lit b3 (o4) [vL A25 (w1.d.Nodes) c26], .dat (ptrRep DawgRep) w1.d [vP b3 o4]] ∧ R64 n73) ?_ ?_
 ·exact ⟨t40, xs42, 0, A43, c44, rfl, hf.keep ⟨rfl, rfl, rfl, rfl, trivial⟩, hM.pick [0, 1, 2, 3, 4] rfl, (R64_lit rfl)⟩
 rintro s o83 a w75 ⟨t68, xs70, n73, A71, c72, rfl, hf, hM, hv74⟩ h84 hd85
 replace h84 : m_spec_l06W_walk_l1 e28 s10 rc w1 t68 xs70 n73 = some o83 := h84
 unfold m_spec_l06W_walk_l1 at h84
 refine wp_seq ?_
 obtain ⟨x88, h89, h84⟩ := bind_some h84
 refine seq_join (fun a w => ∃ (t86 : Bool), t86 = x88 ∧ Has 87 a [(0, vP b2 (0)), (2, vS (s10)), (6, vP b33 (o34 + (node8 : Int).toNat * 3)), (7, vI (n73)), (65, .bool (t86))] ∧ Mem C w [.box b2 [vP b3 (o4), vL A71 (xs70) c72, .bool (t68)] 105, .row strRep A71 c72 9 xs70 true] [.dat (sliceRep intRep) e28.Next [vL A37 e28.Next c38], .lit b33 (o34 + (node8 : Int).toNat * 3) [.bool (e28.Final), vS (e28.Letters), vL A37 (e28.Next) c38], .dat (sliceRep NodeRep) w1.d.Nodes [vL A25 w1.d.Nodes c26], .lit b3 (o4) [vL A25 (w1.d.Nodes) c26], .dat (ptrRep DawgRep) w1.d [vP b3 o4]]) ?_ ?_
 ·refine region_pl ?_
  iterate 2 refine q_ hf rfl rfl rfl (e_move hf rfl) fun a hf => ?_
  refine q_ hf rfl rfl rfl (e_nil hf rfl) fun a hf => ?_
  refine q_ hf rfl rfl rfl (e_field hf rfl Tryd.underlying76 rfl Tryd.sizeOf31 (o' := (o34 + (node8 : Int).toNat * 3) + 2) rfl) fun a hf => ?_
  refine q_ hf rfl rfl rfl (e_load1 hf rfl Tryd.isAgg31 (hM.litCell (k := 1) (j := 2) rfl rfl rfl)) fun a hf => ?_
  have hl90 := slice_len (hM.dat (k := 0) rfl)
  refine q_ hf rfl rfl rfl (e_lenL hf (x := e28.Next) rfl Tryd.underlying31) fun a hf => ?_
  refine q_ hf rfl rfl rfl (e_lt hf (x := n73) (y := (e28.Next.length : Int)) rfl rfl) fun a hf => ?_
  refine q_ hf rfl rfl rfl (e_move hf rfl) fun a hf => ?_
  rcases cond_some h89 with ⟨hc91, h89⟩ | ⟨hc91, h89⟩
  ·refine gq (wanted_t hf rfl rfl rfl rfl hc91) hf rfl rfl (e_move hf rfl) fun a hf => ?_
   refine gq (wanted_t hf rfl rfl rfl rfl hc91) hf rfl rfl (e_nil hf rfl) fun a hf => ?_
   refine gq (wanted_t hf rfl rfl rfl rfl hc91) hf rfl rfl (e_field hf rfl Tryd.underlying105 rfl Tryd.sizeOf4 (o' := 2) rfl) fun a hf => ?_
   refine gq (wanted_t hf rfl rfl rfl rfl hc91) hf rfl rfl (e_load1 hf rfl Tryd.isAgg4 (hM.boxCell (k := 0) rfl rfl)) fun a hf => ?_
   refine gq (wanted_t hf rfl rfl rfl rfl hc91) hf rfl rfl (e_not hf rfl) fun a hf => ?_
   refine q_ hf rfl rfl rfl (e_pick_t hf rfl hc91 rfl) fun a hf => ?_
   refine pl_nil ?_
   obtain rfl := some_inj h89
   refine then_n ?_
   exact ⟨(!t68), rfl, hf.keep ⟨rfl, rfl, rfl, rfl, rfl, trivial⟩, hM.pick [0, 1, 2, 3, 4] rfl⟩
  iterate 5 refine pl_gs (wanted_f hf rfl rfl rfl rfl hc91) hf rfl rfl fun a hf => ?_
  refine q_ hf rfl rfl rfl (e_pick_f hf rfl hc91 rfl) fun a hf => ?_
  refine pl_nil ?_
  obtain rfl := some_inj h89
  refine then_n ?_
  exact ⟨false, rfl, hf.keep ⟨rfl, rfl, rfl, rfl, rfl, trivial⟩, hM.pick [0, 1, 2, 3, 4] rfl⟩
 rintro a w94 ⟨t86, rfl, hf, hM⟩
 try dsimp only at h84
 rcases cond_some h84 with ⟨hc95, h84⟩ | ⟨hc95, h84⟩
 ·refine cond_t hf rfl hc95 ?_
  refine wp_skip ?_
  refine then_n ?_
  refine wp_seq ?_
  refine wp_block ?_
  obtain ⟨w96, hw⟩ : ∃ x, x = w94.drew := ⟨_, rfl⟩
  refine region_pi (.q 0 (.q 1 (.q 2 (.q 3 (.q 4 (.q 5 (.q 6 (.q 7 (.q 8 (.q 9 (.q 10 (.q 11 (.q 12 (.q 13 (.q 14 (.q 15 (.q 16 (.q 17 (.l 18 (.nil)))))))))))))))))))) (Ext w96) rfl (by kernel_rfl) ?_
  have hM := hM.drew
  rw [← hw] at hM ⊢
  clear hw
  iterate 2 refine pi_q hf rfl rfl rfl rfl (Ext.refl _) (e_move hf rfl) fun a hf => ?_
  refine pi_q hf rfl rfl rfl rfl (Ext.refl _) (e_nil hf rfl) fun a hf => ?_
  refine pi_q hf rfl rfl rfl rfl (Ext.refl _) (e_field hf rfl Tryd.underlying76 rfl Tryd.sizeOf31 (o' := (o34 + (node8 : Int).toNat * 3) + 2) rfl) fun a hf => ?_
  refine pi_q hf rfl rfl rfl rfl (Ext.refl _) (e_load1 hf rfl Tryd.isAgg31 (hM.litCell (k := 1) (j := 2) rfl rfl rfl)) fun a hf => ?_
  refine pi_q hf rfl rfl rfl rfl (Ext.refl _) (e_move hf rfl) fun a hf => ?_
  obtain ⟨e97, hz98, h84⟩ := bind_some h84
  obtain ⟨b102, o103, _, hA104, h99, h100, hr101, hM⟩ := hM.elem (hM.dat (k := 0) rfl) (n := 1) rfl hz98
  obtain ⟨rfl, hv105⟩ := hr101
  refine pi_q hf rfl rfl rfl rfl (Ext.refl _) (e_indexAddr (A := A37) (b := b102) (o := o103) (xs := e28.Next) (i := n73) hf hA104 rfl rfl Tryd.underlying31 Tryd.sizeOf2 h99 h100) fun a hf => ?_
  refine pi_q hf rfl rfl rfl rfl (Ext.refl _) (e_load1 hf rfl Tryd.isAgg2 (hM.litCell (k := 0) (j := 0) rfl rfl rfl)) fun a hf => ?_
  iterate 2 refine pi_q hf rfl rfl rfl rfl (Ext.refl _) (e_move hf rfl) fun a hf => ?_
  refine pi_q hf rfl rfl rfl rfl (Ext.refl _) (e_nil hf rfl) fun a hf => ?_
  refine pi_q hf rfl rfl rfl rfl (Ext.refl _) (e_field hf rfl Tryd.underlying76 rfl Tryd.sizeOf9 (o' := (o34 + (node8 : Int).toNat * 3) + 1) rfl) fun a hf => ?_
  refine pi_q hf rfl rfl rfl rfl (Ext.refl _) (e_load1 hf rfl Tryd.isAgg9 (hM.litCell (k := 2) (j := 1) rfl rfl rfl)) fun a hf => ?_
  iterate 2 refine pi_q hf rfl rfl rfl rfl (Ext.refl _) (e_move hf rfl) fun a hf => ?_
  obtain ⟨z106, hz107, h84⟩ := bind_some h84
  refine pi_q hf rfl rfl rfl rfl (Ext.refl _) (e_add hf rfl rfl hz107) fun a hf => ?_
  obtain ⟨s108, hz109, h84⟩ := bind_some h84
  refine pi_q hf rfl rfl rfl rfl (Ext.refl _) (e_subS hf (x := e28.Letters) rfl rfl rfl Tryd.underlying9 hz109) fun a hf => ?_
  obtain ⟨s110, hz111, h84⟩ := bind_some h84
  refine pi_q hf rfl rfl rfl rfl (Ext.refl _) (e_cat hf (x := s10) (y := s108) rfl rfl hz111) fun a hf => ?_
  refine pi_one ?_
  have hM : Mem C _ ([.box b2 [vP b3 (o4), vL A71 (xs70) c72, .bool (t68)] 105, .row strRep A71 c72 9 xs70 true] ++ []) _ := hM
  obtain ⟨y112, hz113, h84⟩ := bind_some h84
  refine pi_z hf rfl rfl rfl rfl (by kernel_rfl) (w_call hf Tryd.call75 rfl (ih ⟨_, Sh C _ _, ownB _, hM.sh_lt, sub_dis, C.G, hM.g_lt, hM.g_own, hM.tabs⟩ (⟨w1.d, xs70, t68⟩ : l06W) _ _ _ (hM.dat (k := 5) rfl) _ _ e97 hv105 s110 (cat_len hz111) hM.sub sub_dis _ hz113) ?_)
  rintro _ w116 ⟨A114, c115, rfl, hM2⟩
  obtain ⟨hM, hup118⟩ := hM.backG hM2
  dsimp only [List.cons_append, List.nil_append] at hM hup118
  clear hM2
  refine ⟨_, rfl, fun a hf => ?_⟩
  refine pi_nil ?_
  refine blk_n ?_
  refine then_n ?_
  refine region_pl ?_
  refine q_ hf rfl rfl rfl (e_move hf rfl) fun a hf => ?_
  obtain ⟨z119, hz120, h84⟩ := bind_some h84
  refine q_ hf rfl rfl rfl (e_add hf rfl rfl hz120) fun a hf => ?_
  refine q_ hf rfl rfl rfl (e_assign hf rfl) fun a hf => ?_
  refine pl_nil ?_
  obtain rfl := some_inj h84
  refine then_n ⟨_, rfl, ?_⟩
  exact ⟨y112.full, y112.out, z119, A114, c115, rfl, hf.keep ⟨rfl, rfl, rfl, rfl, trivial⟩, hM.pick [1, 2, 3, 4, 5] rfl, (chk_R hz120)⟩
 refine cond_f hf rfl hc95 ?_
 refine wp_exit ?_
 refine then_x ?_
 obtain rfl := some_inj h84
 obtain rfl := hd85 _ rfl
 try dsimp only at h
 refine then_x ?_
 refine exit_hit ?_
 obtain rfl := some_inj h
 exact leave0n hf rfl ⟨A71, c72, rfl, hM.fin⟩

theorem r_spec_l06W_walk_n : ∀ n, Ct_spec_l06W_walk (m_spec_l06W_walk_n n)
  | 0 => fun C w1 b2 b3 o4 hp5 A6 c7 node8 hp9 s10 hp11 hO hd r h => by cases h
  | n + 1 => r_spec_l06W_walk_b _ (r_spec_l06W_walk_n n)

theorem r_spec_l06W_walk : Ct_spec_l06W_walk (m_spec_l06W_walk) := r_spec_l06W_walk_n fuelN

set_option maxRecDepth 100000 in
set_option maxHeartbeats 4000000 in
theorem r_spec_l06Words (C : Cx) (d1 : Dawg) (b2 : Nat) (o3 : Nat) (hp4 : (ptrRep DawgRep).R C.w0 C.S0 d1 [vP b2 o3]) (r : ((List Str) × Bool)) (h : m_spec_l06Words d1 = some r) :
    Calls Tryd.prog 44 #[vP b2 (o3)] C.w0 fun e w => ∃ (A_1 : Option Addr), ∃ (c_1 : Nat), e = .returned (.tuple #[vL A_1 (r.1) c_1, .bool (r.2)]) ∧ Mem C w [.row strRep A_1 c_1 9 r.1 true] [] := by
 have hM := Mem.begin C [.dat (ptrRep DawgRep) d1 [vP b2 o3]] ⟨hp4, trivial⟩
 refine enter Tryd.func44 rfl Tryd.ntmps44 rfl fun a hf => ?_
 unfold m_spec_l06Words at h
 refine wp_seq ?_
 refine region_pl ?_
 iterate 2 refine q_ hf rfl rfl rfl (e_assign hf rfl) fun a hf => ?_
 refine pl_nil ?_
 refine then_n ?_
 refine wp_seq ?_
 refine region_pl ?_
 refine q_ hf rfl rfl rfl (e_move hf rfl) fun a hf => ?_
 refine pl_l hf rfl rfl rfl (w_slice0 (K := strRep) hM Tryd.underlying28 ei_9 fun b5 w6 hx7 hM a hf => ?_)
 refine q_ hf rfl rfl rfl (e_build hf Tryd.zeroValue105 Tryd.underlying105 (bp_105 _ Tryd.underlying105.symm) rfl (cs := #[vP b2 (o3), vL (some ⟨b5, 0, none⟩) (([] : (List Str))) 0, .bool (false)]) (by kernel_rfl)) fun a hf => ?_
 refine pl_l hf rfl rfl rfl (w_box hf hM (cs := [vP b2 (o3), vL (some ⟨b5, 0, none⟩) (([] : (List Str))) 0, .bool (false)]) rfl rfl fun b8 w9 hx10 hM a hf => ?_)
 refine q_ hf rfl rfl rfl (e_assign hf rfl) fun a hf => ?_
 refine pl_nil ?_
 refine then_n ?_
 refine wp_seq ?_
 refine region_pl ?_
 refine q_ hf rfl rfl rfl (e_move hf rfl) fun a hf => ?_
 have hM : Mem C _ ([.box b8 [vP b2 (o3), vL (some ⟨b5, 0, none⟩) (([] : (List Str))) 0, .bool (false)] 105, .row strRep (some ⟨b5, 0, none⟩) 0 9 ([] : (List Str)) true] ++ []) _ := hM
 obtain ⟨y12, hz13, h⟩ := bind_some h
 refine pl_l hf rfl rfl rfl (w_call hf Tryd.call75 rfl (r_spec_l06W_walk ⟨_, Sh C _ _, ownB _, hM.sh_lt, sub_dis, C.G, hM.g_lt, hM.g_own, hM.tabs⟩ (⟨d1, ([] : (List Str)), false⟩ : l06W) _ _ _ (hM.dat (k := 0) rfl) _ _ 0 (R64_lit rfl) ([] : Str) (lit_len rfl) hM.sub sub_dis _ hz13) ?_)
 rintro _ w16 ⟨A14, c15, rfl, hM2⟩
 obtain ⟨hM, hup18⟩ := hM.backG hM2
 dsimp only [List.cons_append, List.nil_append] at hM hup18
 clear hM2
 refine ⟨_, rfl, fun a hf => ?_⟩
 refine pl_nil ?_
 refine then_n ?_
 refine wp_seq ?_
 obtain ⟨w19, hw⟩ : ∃ x, x = w16.drew := ⟨_, rfl⟩
 refine region_pi (.q 0 (.q 1 (.q 2 (.q 3 (.q 4 (.q 5 (.q 6 (.q 7 (.q 8 (.q 9 (.q 10 (.nil)))))))))))) (Ext w19) rfl (by kernel_rfl) ?_
 have hM := hM.drew
 rw [← hw] at hM ⊢
 clear hw
 refine pi_q hf rfl rfl rfl rfl (Ext.refl _) (e_move hf rfl) fun a hf => ?_
 refine pi_q hf rfl rfl rfl rfl (Ext.refl _) (e_nil hf rfl) fun a hf => ?_
 refine pi_q hf rfl rfl rfl rfl (Ext.refl _) (e_field hf rfl Tryd.underlying105 rfl Tryd.sizeOf28 (o' := 1) rfl) fun a hf => ?_
 refine pi_q hf rfl rfl rfl rfl (Ext.refl _) (e_load1 hf rfl Tryd.isAgg28 (hM.boxCell (k := 0) rfl rfl)) fun a hf => ?_
 refine pi_q hf rfl rfl rfl rfl (Ext.refl _) (e_move hf rfl) fun a hf => ?_
 refine pi_q hf rfl rfl rfl rfl (Ext.refl _) (e_nil hf rfl) fun a hf => ?_
 refine pi_q hf rfl rfl rfl rfl (Ext.refl _) (e_field hf rfl Tryd.underlying105 rfl Tryd.sizeOf4 (o' := 2) rfl) fun a hf => ?_
 refine pi_q hf rfl rfl rfl rfl (Ext.refl _) (e_load1 hf rfl Tryd.isAgg4 (hM.boxCell (k := 0) rfl rfl)) fun a hf => ?_
 refine pi_q hf rfl rfl rfl rfl (Ext.refl _) (e_not hf rfl) fun a hf => ?_
 iterate 2 refine pi_q hf rfl rfl rfl rfl (Ext.refl _) (e_assign hf rfl) fun a hf => ?_
 refine pi_nil ?_
 refine then_n ?_
 refine wp_ret ?_
 obtain rfl := some_inj h
 have hM := hM.front (k := 1) rfl
 dsimp only [List.eraseIdx] at hM
 have hM := hM.outs (own' := [.row strRep A14 c15 9 y12.out true]) 1 rfl
 exact leave2 hf rfl rfl rfl ⟨A14, c15, rfl, hM.fin⟩

set_option maxRecDepth 100000 in
set_option maxHeartbeats 4000000 in
theorem r_spec_l06Same (C : Cx) (a1 : Dawg) (b2 : Nat) (o3 : Nat) (hp4 : (ptrRep DawgRep).R C.w0 C.S0 a1 [vP b2 o3]) (b5 : Dawg) (b6 : Nat) (o7 : Nat) (hp8 : (ptrRep DawgRep).R C.w0 C.S0 b5 [vP b6 o7]) (r : Bool) (h : m_spec_l06Same a1 b5 = some r) :
    Calls Tryd.prog 74 #[vP b2 (o3), vP b6 (o7)] C.w0 fun e w => e = .returned (.bool (r)) ∧ Mem C w [] [] := by
 have hM := Mem.begin C [.dat (ptrRep DawgRep) b5 [vP b6 o7], .dat (ptrRep DawgRep) a1 [vP b2 o3]] ⟨hp8, hp4, trivial⟩
 refine enter Tryd.func74 rfl Tryd.ntmps74 rfl fun a hf => ?_
 unfold m_spec_l06Same at h
 refine wp_seq ?_
 refine region_pl ?_
 refine q_ hf rfl rfl rfl (e_assign hf rfl) fun a hf => ?_
 refine pl_nil ?_
 refine then_n ?_
 iterate 2 refine wp_seq ?_
 obtain ⟨w9, hw⟩ : ∃ x, x = C.w0.drew := ⟨_, rfl⟩
 refine region_pi (.q 0 (.q 1 (.q 2 (.q 3 (.q 4 (.q 5 (.q 6 (.q 7 (.q 8 (.q 9 (.q 10 (.nil)))))))))))) (Ext w9) rfl (by kernel_rfl) ?_
 have hM := hM.drew
 rw [← hw] at hM ⊢
 clear hw
 refine pi_q hf rfl rfl rfl rfl (Ext.refl _) (e_move hf rfl) fun a hf => ?_
 refine pi_q hf rfl rfl rfl rfl (Ext.refl _) (e_nil hf rfl) fun a hf => ?_
 obtain ⟨_, hr10, hM⟩ := hM.deref (hM.dat (k := 1) rfl)
 obtain ⟨A11, c12, rfl, hv13⟩ := DawgRep_open hr10
 have hM := hM.add (y := .dat (sliceRep NodeRep) a1.Nodes [vL A11 a1.Nodes c12]) hv13
 refine pi_q hf rfl rfl rfl rfl (Ext.refl _) (e_field hf rfl Tryd.underlying26 rfl Tryd.sizeOf24 (o' := o3 + 0) rfl) fun a hf => ?_
 refine pi_q hf rfl rfl rfl rfl (Ext.refl _) (e_load1 hf rfl Tryd.isAgg24 (hM.litCell (k := 1) (j := 0) rfl rfl rfl)) fun a hf => ?_
 have hl14 := slice_len (hM.dat (k := 0) rfl)
 refine pi_q hf rfl rfl rfl rfl (Ext.refl _) (e_lenL hf (x := a1.Nodes) rfl Tryd.underlying24) fun a hf => ?_
 refine pi_q hf rfl rfl rfl rfl (Ext.refl _) (e_move hf rfl) fun a hf => ?_
 refine pi_q hf rfl rfl rfl rfl (Ext.refl _) (e_nil hf rfl) fun a hf => ?_
 obtain ⟨_, hr15, hM⟩ := hM.deref (hM.dat (k := 2) rfl)
 obtain ⟨A16, c17, rfl, hv18⟩ := DawgRep_open hr15
 have hM := hM.add (y := .dat (sliceRep NodeRep) b5.Nodes [vL A16 b5.Nodes c17]) hv18
 refine pi_q hf rfl rfl rfl rfl (Ext.refl _) (e_field hf rfl Tryd.underlying26 rfl Tryd.sizeOf24 (o' := o7 + 0) rfl) fun a hf => ?_
 refine pi_q hf rfl rfl rfl rfl (Ext.refl _) (e_load1 hf rfl Tryd.isAgg24 (hM.litCell (k := 1) (j := 0) rfl rfl rfl)) fun a hf => ?_
 have hl19 := slice_len (hM.dat (k := 0) rfl)
 refine pi_q hf rfl rfl rfl rfl (Ext.refl _) (e_lenL hf (x := b5.Nodes) rfl Tryd.underlying24) fun a hf => ?_
 refine pi_q hf rfl rfl rfl rfl (Ext.refl _) (e_ne hf (x := (a1.Nodes.length : Int)) (y := (b5.Nodes.length : Int)) rfl rfl) fun a hf => ?_
 refine pi_nil ?_
 refine then_n ?_
 rcases cond_some h with ⟨hc20, h⟩ | ⟨hc20, h⟩
 ·refine cond_t hf rfl hc20 ?_
  refine wp_seq ?_
  refine region_pl ?_
  refine q_ hf rfl rfl rfl (e_assign hf rfl) fun a hf => ?_
  refine pl_nil ?_
  refine then_n ?_
  refine wp_ret ?_
  refine then_r ?_
  obtain rfl := some_inj h
  exact leave1 hf rfl rfl ⟨rfl, hM.fin⟩
 refine cond_f hf rfl hc20 ?_
 refine wp_skip ?_
 refine then_n ?_
 obtain ⟨x21, h22, h⟩ := bind_some h
 refine seq_join (fun a w => (.inl ()) = x21 ∧ Has 40 a [] ∧ Mem C w [] [.dat (sliceRep NodeRep) b5.Nodes [vL A16 b5.Nodes c17], .lit b6 (o7) [vL A16 (b5.Nodes) c17], .dat (sliceRep NodeRep) a1.Nodes [vL A11 a1.Nodes c12], .lit b2 (o3) [vL A11 (a1.Nodes) c12], .dat (ptrRep DawgRep) b5 [vP b6 o7], .dat (ptrRep DawgRep) a1 [vP b2 o3]]) ?_ ?_
 ·refine wp_seq ?_
  refine region_pl ?_
  refine q_ hf rfl rfl rfl (e_assign hf rfl) fun a hf => ?_
  refine pl_nil ?_
  refine then_n ?_
  refine wp_block ?_
  obtain ⟨x26, h27, h22⟩ := bind_some h22
  refine wp_loopM h27 (fun s a w => ∃ (n23 : Int), n23 = s ∧ Has 40 a [(0, vP b2 (o3)), (1, vP b6 (o7)), (5, vI (n23))] ∧ Mem C w [] [.dat (sliceRep NodeRep) b5.Nodes [vL A16 b5.Nodes c17], .lit b6 (o7) [vL A16 (b5.Nodes) c17], .dat (sliceRep NodeRep) a1.Nodes [vL A11 a1.Nodes c12], .lit b2 (o3) [vL A11 (a1.Nodes) c12], .dat (ptrRep DawgRep) b5 [vP b6 o7], .dat (ptrRep DawgRep) a1 [vP b2 o3]] ∧ R64 n23) ?_ ?_
  ·exact ⟨0, rfl, hf.keep ⟨rfl, rfl, rfl, trivial⟩, hM.pick [0, 1, 2, 3, 4, 5] rfl, (R64_lit rfl)⟩
  rintro s o28 a w25 ⟨n23, rfl, hf, hM, hv24⟩ h29 hd30
  replace h29 : m_spec_l06Same_l1 a1 b5 n23 = some o28 := h29
  unfold m_spec_l06Same_l1 at h29
  iterate 2 refine wp_seq ?_
  refine region_pl ?_
  iterate 2 refine q_ hf rfl rfl rfl (e_move hf rfl) fun a hf => ?_
  refine q_ hf rfl rfl rfl (e_nil hf rfl) fun a hf => ?_
  refine q_ hf rfl rfl rfl (e_field hf rfl Tryd.underlying26 rfl Tryd.sizeOf24 (o' := o3 + 0) rfl) fun a hf => ?_
  refine q_ hf rfl rfl rfl (e_load1 hf rfl Tryd.isAgg24 (hM.litCell (k := 3) (j := 0) rfl rfl rfl)) fun a hf => ?_
  have hl31 := slice_len (hM.dat (k := 2) rfl)
  refine q_ hf rfl rfl rfl (e_lenL hf (x := a1.Nodes) rfl Tryd.underlying24) fun a hf => ?_
  refine q_ hf rfl rfl rfl (e_lt hf (x := n23) (y := (a1.Nodes.length : Int)) rfl rfl) fun a hf => ?_
  refine pl_nil ?_
  refine then_n ?_
  rcases cond_some h29 with ⟨hc32, h29⟩ | ⟨hc32, h29⟩
  ·refine cond_t hf rfl hc32 ?_
   refine wp_skip ?_
   refine then_n ?_
   refine wp_seq ?_
   refine wp_block ?_
   refine wp_seq ?_
   obtain ⟨w33, hw⟩ : ∃ x, x = w25.drew := ⟨_, rfl⟩
   refine region_pi (.q 0 (.q 1 (.q 2 (.q 3 (.q 4 (.q 5 (.q 6 (.q 7 (.q 8 (.q 9 (.q 10 (.q 11 (.l 12 (.q 13 (.nil))))))))))))))) (Ext w33) rfl (by kernel_rfl) ?_
   have hM := hM.drew
   rw [← hw] at hM ⊢
   clear hw
   refine pi_q hf rfl rfl rfl rfl (Ext.refl _) (e_move hf rfl) fun a hf => ?_
   refine pi_q hf rfl rfl rfl rfl (Ext.refl _) (e_nil hf rfl) fun a hf => ?_
   refine pi_q hf rfl rfl rfl rfl (Ext.refl _) (e_field hf rfl Tryd.underlying26 rfl Tryd.sizeOf24 (o' := o3 + 0) rfl) fun a hf => ?_
   refine pi_q hf rfl rfl rfl rfl (Ext.refl _) (e_load1 hf rfl Tryd.isAgg24 (hM.litCell (k := 3) (j := 0) rfl rfl rfl)) fun a hf => ?_
   refine pi_q hf rfl rfl rfl rfl (Ext.refl _) (e_move hf rfl) fun a hf => ?_
   obtain ⟨e34, hz35, h29⟩ := bind_some h29
   obtain ⟨b39, o40, _, hA41, h36, h37, hr38, hM⟩ := hM.elem (hM.dat (k := 2) rfl) (n := 3) rfl hz35
   obtain ⟨A43, c44, rfl, hv42, hv45⟩ := NodeRep_open hr38
   have hM := hM.add (y := .dat (sliceRep intRep) e34.Next [vL A43 e34.Next c44]) hv45
   refine pi_q hf rfl rfl rfl rfl (Ext.refl _) (e_indexAddr (A := A11) (b := b39) (o := o40) (xs := a1.Nodes) (i := n23) hf hA41 rfl rfl Tryd.underlying24 Tryd.sizeOf76 h36 h37) fun a hf => ?_
   refine pi_q hf rfl rfl rfl rfl (Ext.refl _) (e_move hf rfl) fun a hf => ?_
   refine pi_q hf rfl rfl rfl rfl (Ext.refl _) (e_nil hf rfl) fun a hf => ?_
   refine pi_q hf rfl rfl rfl rfl (Ext.refl _) (e_field hf rfl Tryd.underlying26 rfl Tryd.sizeOf24 (o' := o7 + 0) rfl) fun a hf => ?_
   refine pi_q hf rfl rfl rfl rfl (Ext.refl _) (e_load1 hf rfl Tryd.isAgg24 (hM.litCell (k := 3) (j := 0) rfl rfl rfl)) fun a hf => ?_
   refine pi_q hf rfl rfl rfl rfl (Ext.refl _) (e_move hf rfl) fun a hf => ?_
   obtain ⟨e46, hz47, h29⟩ := bind_some h29
   obtain ⟨b51, o52, _, hA53, h48, h49, hr50, hM⟩ := hM.elem (hM.dat (k := 2) rfl) (n := 3) rfl hz47
   obtain ⟨A55, c56, rfl, hv54, hv57⟩ := NodeRep_open hr50
   have hM := hM.add (y := .dat (sliceRep intRep) e46.Next [vL A55 e46.Next c56]) hv57
   refine pi_q hf rfl rfl rfl rfl (Ext.refl _) (e_indexAddr (A := A16) (b := b51) (o := o52) (xs := b5.Nodes) (i := n23) hf hA53 rfl rfl Tryd.underlying24 Tryd.sizeOf76 h48 h49) fun a hf => ?_
   refine pi_one ?_
   obtain ⟨y58, hz59, h29⟩ := bind_some h29
   refine pi_l hf rfl rfl rfl rfl (w_call hf Tryd.call100 rfl (r_spec_l06Equal ⟨_, Sh C _ _, none_, hM.sh_lt, none_not, C.G, hM.g_lt, g_none, hM.tabs⟩ e34 _ _ (hM.litPtr (k := 3) (d := 0) (us := [.bool (e34.Final), vS (e34.Letters), vL A43 (e34.Next) c44]) rfl rfl rfl (NodeRep_mk (x := e34) hv42 (hM.dat (k := 2) rfl))) e46 _ _ (hM.litPtr (k := 1) (d := 0) (us := [.bool (e46.Final), vS (e46.Letters), vL A55 (e46.Next) c56]) rfl rfl rfl (NodeRep_mk (x := e46) hv54 (hM.dat (k := 0) rfl))) _ hz59) ?_)
   rintro _ w60 ⟨rfl, hM2⟩
   obtain ⟨hM, hx61, hup62⟩ := hM.back hM2
   dsimp only [List.cons_append, List.nil_append] at hM hup62
   clear hM2
   refine ⟨_, rfl, Ext w60, fun _ h => Ext.trans hx61 h, Ext.refl _, fun a hf => ?_⟩
   refine pi_q hf rfl rfl rfl rfl (Ext.refl _) (e_not hf rfl) fun a hf => ?_
   refine pi_nil ?_
   refine then_n ?_
   rcases cond_some h29 with ⟨hc63, h29⟩ | ⟨hc63, h29⟩
   ·refine cond_t hf rfl hc63 ?_
    refine wp_seq ?_
    refine region_pl ?_
    refine q_ hf rfl rfl rfl (e_assign hf rfl) fun a hf => ?_
    refine pl_nil ?_
    refine then_n ?_
    refine wp_ret ?_
    refine blk_r ?_
    refine then_r ?_
    obtain rfl := some_inj h29
    obtain rfl := hd30 _ rfl
    try dsimp only at h22
    refine then_r ?_
    refine blk_r ?_
    obtain rfl := some_inj h22
    try dsimp only at h
    refine then_r ?_
    obtain rfl := some_inj h
    exact leave1 hf rfl rfl ⟨rfl, hM.fin⟩
   refine cond_f hf rfl hc63 ?_
   refine wp_skip ?_
   refine blk_n ?_
   refine then_n ?_
   refine region_pl ?_
   refine q_ hf rfl rfl rfl (e_move hf rfl) fun a hf => ?_
   obtain ⟨z64, hz65, h29⟩ := bind_some h29
   refine q_ hf rfl rfl rfl (e_add hf rfl rfl hz65) fun a hf => ?_
   refine q_ hf rfl rfl rfl (e_assign hf rfl) fun a hf => ?_
   refine pl_nil ?_
   obtain rfl := some_inj h29
   refine then_n ⟨_, rfl, ?_⟩
   exact ⟨z64, rfl, hf.keep ⟨rfl, rfl, rfl, trivial⟩, hM.pick [4, 5, 6, 7, 8, 9] rfl, (chk_R hz65)⟩
  refine cond_f hf rfl hc32 ?_
  refine wp_exit ?_
  refine then_x ?_
  obtain rfl := some_inj h29
  obtain rfl := hd30 _ rfl
  try dsimp only at h22
  refine then_x ?_
  refine exit_hit ?_
  obtain rfl := some_inj h22
  refine then_n ?_
  exact ⟨rfl, hf.keep trivial, hM.pick [0, 1, 2, 3, 4, 5] rfl⟩
 rintro a w72 ⟨rfl, hf, hM⟩
 try dsimp only at h
 refine wp_seq ?_
 refine region_pl ?_
 refine q_ hf rfl rfl rfl (e_assign hf rfl) fun a hf => ?_
 refine pl_nil ?_
 refine then_n ?_
 refine wp_ret ?_
 obtain rfl := some_inj h
 exact leave1 hf rfl rfl ⟨rfl, hM.fin⟩

set_option maxRecDepth 100000 in
set_option maxHeartbeats 4000000 in
theorem r_spec_l06Ok (C : Cx) (d1 : Dawg) (b2 : Nat) (o3 : Nat) (hp4 : (ptrRep DawgRep).R C.w0 C.S0 d1 [vP b2 o3]) (r : Bool) (h : m_spec_l06Ok d1 = some r) :
    Calls Tryd.prog 43 #[vP b2 (o3)] C.w0 fun e w => e = .returned (.bool (r)) ∧ Mem C w [] [] := by
 have hM := Mem.begin C [.dat (ptrRep DawgRep) d1 [vP b2 o3]] ⟨hp4, trivial⟩
 refine enter Tryd.func43 rfl Tryd.ntmps43 rfl fun a hf => ?_
 unfold m_spec_l06Ok at h
 refine wp_seq ?_
 refine region_pl ?_
 refine q_ hf rfl rfl rfl (e_assign hf rfl) fun a hf => ?_
 refine pl_nil ?_
 refine then_n ?_
 refine wp_seq ?_
 obtain ⟨x7, h8, h⟩ := bind_some h
 refine seq_join (fun a w => ∃ (t5 : Bool), t5 = x7 ∧ Has 34 a [(0, vP b2 (o3)), (22, .bool (t5))] ∧ Mem C w [] [.dat (ptrRep DawgRep) d1 [vP b2 o3]]) ?_ ?_
 ·refine region_pl ?_
  refine q_ hf rfl rfl rfl (e_move hf rfl) fun a hf => ?_
  obtain ⟨y9, hz10, h8⟩ := bind_some h8
  refine pl_l hf rfl rfl rfl (w_call hf Tryd.call72 rfl (r_spec_l06Shape ⟨_, Sh C _ _, none_, hM.sh_lt, none_not, C.G, hM.g_lt, g_none, hM.tabs⟩ d1 _ _ (hM.dat (k := 0) rfl) _ hz10) ?_)
  rintro _ w11 ⟨rfl, hM2⟩
  obtain ⟨hM, hx12, hup13⟩ := hM.back hM2
  dsimp only [List.cons_append, List.nil_append] at hM hup13
  clear hM2
  refine ⟨_, rfl, fun a hf => ?_⟩
  refine q_ hf rfl rfl rfl (e_not hf rfl) fun a hf => ?_
  refine q_ hf rfl rfl rfl (e_move hf rfl) fun a hf => ?_
  rcases cond_some h8 with ⟨hc14, h8⟩ | ⟨hc14, h8⟩
  ·iterate 7 refine pl_gs (wanted_f hf rfl rfl rfl rfl hc14) hf rfl rfl fun a hf => ?_
   refine q_ hf rfl rfl rfl (e_pick_t hf rfl hc14 rfl) fun a hf => ?_
   refine q_ hf rfl rfl rfl (e_move hf rfl) fun a hf => ?_
   iterate 3 refine pl_gs (wanted_f hf rfl rfl rfl rfl rfl) hf rfl rfl fun a hf => ?_
   refine q_ hf rfl rfl rfl (e_pick_t hf rfl rfl rfl) fun a hf => ?_
   refine pl_nil ?_
   obtain rfl := some_inj h8
   refine then_n ?_
   exact ⟨true, rfl, hf.keep ⟨rfl, rfl, trivial⟩, hM.pick [0] rfl⟩
  refine gq (wanted_t hf rfl rfl rfl rfl hc14) hf rfl rfl (e_move hf rfl) fun a hf => ?_
  refine gq (wanted_t hf rfl rfl rfl rfl hc14) hf rfl rfl (e_nil hf rfl) fun a hf => ?_
  obtain ⟨_, hr16, hM⟩ := hM.deref (hM.dat (k := 0) rfl)
  obtain ⟨A17, c18, rfl, hv19⟩ := DawgRep_open hr16
  have hM := hM.add (y := .dat (sliceRep NodeRep) d1.Nodes [vL A17 d1.Nodes c18]) hv19
  refine gq (wanted_t hf rfl rfl rfl rfl hc14) hf rfl rfl (e_field hf rfl Tryd.underlying26 rfl Tryd.sizeOf24 (o' := o3 + 0) rfl) fun a hf => ?_
  refine gq (wanted_t hf rfl rfl rfl rfl hc14) hf rfl rfl (e_load1 hf rfl Tryd.isAgg24 (hM.litCell (k := 1) (j := 0) rfl rfl rfl)) fun a hf => ?_
  obtain ⟨e20, hz21, h8⟩ := bind_some h8
  obtain ⟨b25, o26, _, hA27, h22, h23, hr24, hM⟩ := hM.elem (hM.dat (k := 0) rfl) (n := 3) rfl hz21
  obtain ⟨A29, c30, rfl, hv28, hv31⟩ := NodeRep_open hr24
  have hM := hM.add (y := .dat (sliceRep intRep) e20.Next [vL A29 e20.Next c30]) hv31
  refine gq (wanted_t hf rfl rfl rfl rfl hc14) hf rfl rfl (e_indexAddr (A := A17) (b := b25) (o := o26) (xs := d1.Nodes) (i := 0) hf hA27 rfl rfl Tryd.underlying24 Tryd.sizeOf76 h22 h23) fun a hf => ?_
  refine gq (wanted_t hf rfl rfl rfl rfl hc14) hf rfl rfl (e_field hf rfl Tryd.underlying76 rfl Tryd.sizeOf4 (o' := (o26 + (0 : Int).toNat * 3) + 0) rfl) fun a hf => ?_
  refine gq (wanted_t hf rfl rfl rfl rfl hc14) hf rfl rfl (e_load1 hf rfl Tryd.isAgg4 (hM.litCell (k := 1) (j := 0) rfl rfl rfl)) fun a hf => ?_
  refine q_ hf rfl rfl rfl (e_pick_f hf rfl hc14 rfl) fun a hf => ?_
  refine q_ hf rfl rfl rfl (e_move hf rfl) fun a hf => ?_
  rcases cond_some h8 with ⟨hc32, h8⟩ | ⟨hc32, h8⟩
  ·iterate 3 refine pl_gs (wanted_f hf rfl rfl rfl rfl hc32) hf rfl rfl fun a hf => ?_
   refine q_ hf rfl rfl rfl (e_pick_t hf rfl hc32 rfl) fun a hf => ?_
   refine pl_nil ?_
   obtain rfl := some_inj h8
   refine then_n ?_
   exact ⟨true, rfl, hf.keep ⟨rfl, rfl, trivial⟩, hM.pick [4] rfl⟩
  refine gq (wanted_t hf rfl rfl rfl rfl hc32) hf rfl rfl (e_move hf rfl) fun a hf => ?_
  obtain ⟨y34, hz35, h8⟩ := bind_some h8
  refine pl_gl (wanted_t hf rfl rfl rfl rfl hc32) hf rfl rfl (w_call hf Tryd.call73 rfl (r_spec_l06Useful ⟨_, Sh C _ _, none_, hM.sh_lt, none_not, C.G, hM.g_lt, g_none, hM.tabs⟩ d1 _ _ (hM.dat (k := 4) rfl) _ hz35) ?_)
  rintro _ w36 ⟨rfl, hM2⟩
  obtain ⟨hM, hx37, hup38⟩ := hM.back hM2
  dsimp only [List.cons_append, List.nil_append] at hM hup38
  clear hM2
  refine ⟨_, rfl, fun a hf => ?_⟩
  refine gq (wanted_t hf rfl rfl rfl rfl hc32) hf rfl rfl (e_not hf rfl) fun a hf => ?_
  refine q_ hf rfl rfl rfl (e_pick_f hf rfl hc32 rfl) fun a hf => ?_
  refine pl_nil ?_
  obtain rfl := some_inj h8
  refine then_n ?_
  exact ⟨(!y34), rfl, hf.keep ⟨rfl, rfl, trivial⟩, hM.pick [4] rfl⟩
 rintro a w40 ⟨t5, rfl, hf, hM⟩
 try dsimp only at h
 rcases cond_some h with ⟨hc41, h⟩ | ⟨hc41, h⟩
 ·refine cond_t hf rfl hc41 ?_
  refine wp_seq ?_
  refine region_pl ?_
  refine q_ hf rfl rfl rfl (e_assign hf rfl) fun a hf => ?_
  refine pl_nil ?_
  refine then_n ?_
  refine wp_ret ?_
  refine then_r ?_
  obtain rfl := some_inj h
  exact leave1 hf rfl rfl ⟨rfl, hM.fin⟩
 refine cond_f hf rfl hc41 ?_
 refine wp_skip ?_
 refine then_n ?_
 refine wp_seq ?_
 refine region_pl ?_
 refine q_ hf rfl rfl rfl (e_move hf rfl) fun a hf => ?_
 obtain ⟨y42, hz43, h⟩ := bind_some h
 refine pl_l hf rfl rfl rfl (w_call hf Tryd.call44 rfl (r_spec_l06Words ⟨_, Sh C _ _, none_, hM.sh_lt, none_not, C.G, hM.g_lt, g_none, hM.tabs⟩ d1 _ _ (hM.dat (k := 0) rfl) _ hz43) ?_)
 rintro _ w46 ⟨A44, c45, rfl, hM2⟩
 obtain ⟨hM, hx47, hup48⟩ := hM.back hM2
 dsimp only [List.cons_append, List.nil_append] at hM hup48
 clear hM2
 refine ⟨_, rfl, fun a hf => ?_⟩
 refine q_ hf rfl rfl rfl (e_move hf rfl) fun a hf => ?_
 iterate 2 refine q_ hf rfl rfl rfl (e_extract hf rfl rfl) fun a hf => ?_
 iterate 2 refine q_ hf rfl rfl rfl (e_assign hf rfl) fun a hf => ?_
 refine pl_nil ?_
 refine then_n ?_
 iterate 2 refine wp_seq ?_
 refine region_pl ?_
 refine q_ hf rfl rfl rfl (e_move hf rfl) fun a hf => ?_
 refine q_ hf rfl rfl rfl (e_not hf rfl) fun a hf => ?_
 refine pl_nil ?_
 refine then_n ?_
 rcases cond_some h with ⟨hc49, h⟩ | ⟨hc49, h⟩
 ·refine cond_t hf rfl hc49 ?_
  refine wp_seq ?_
  refine region_pl ?_
  refine q_ hf rfl rfl rfl (e_assign hf rfl) fun a hf => ?_
  refine pl_nil ?_
  refine then_n ?_
  refine wp_ret ?_
  refine then_r ?_
  obtain rfl := some_inj h
  have hM := hM.outs (own' := []) 0 rfl
  exact leave1 hf rfl rfl ⟨rfl, hM.fin⟩
 refine cond_f hf rfl hc49 ?_
 refine wp_skip ?_
 refine then_n ?_
 refine wp_seq ?_
 refine region_pl ?_
 refine q_ hf rfl rfl rfl (e_move hf rfl) fun a hf => ?_
 have hM := hM.freezeRow (k := 0) rfl rfl
 dsimp only [List.eraseIdx] at hM
 obtain ⟨y50, hz51, h⟩ := bind_some h
 refine pl_l hf rfl rfl rfl (w_call hf Tryd.call71 rfl (r_spec_l06Build ⟨_, Sh C _ _, none_, hM.sh_lt, none_not, C.G, hM.g_lt, g_none, hM.tabs⟩ y42.1 _ _ (hM.dat (k := 0) rfl) _ hz51) ?_)
 rintro _ w55 ⟨A52, c53, rfl, hM2, hv54⟩
 obtain ⟨hM, hx56, hup57⟩ := hM.back hM2
 dsimp only [List.cons_append, List.nil_append] at hM hup57
 clear hM2
 have hM := hM.add (y := .dat (sliceRep NodeRep) y50.Nodes [vL A52 y50.Nodes c53]) (hup57 hv54)
 refine ⟨_, rfl, fun a hf => ?_⟩
 refine pl_l hf rfl rfl rfl (w_alloc hM (cs := [vL none (([] : (List Node))) 0]) Tryd.zeroValue26 rfl fun b58 w59 hx60 hM a hf => ?_)
 refine pl_0 hf rfl rfl (w_store hf hM (us := [vL A52 (y50.Nodes) c53]) (cs' := [vL A52 (y50.Nodes) c53]) rfl rfl (k := 0) rfl rfl Tryd.sizeOf26 rfl rfl rfl fun w62 hM => ?_)
 dsimp only [List.set] at hM
 refine pl_nil ?_
 refine then_n ?_
 refine wp_seq ?_
 refine region_pl ?_
 refine q_ hf rfl rfl rfl (e_move hf rfl) fun a hf => ?_
 obtain ⟨y65, hz66, h⟩ := bind_some h
 refine pl_l hf rfl rfl rfl (w_call hf Tryd.call74 rfl (r_spec_l06Same ⟨_, All C _ _, none_, hM.all_lt, none_not, C.G, hM.g_lt, g_none, hM.tabs⟩ d1 _ _ (hM.lendDat (k := 2) rfl) y50 _ _ (hM.lendBox (k := 0) rfl (DawgRep_mk (x := y50) (hM.lendDat (k := 0) rfl))) _ hz66) ?_)
 rintro _ w67 ⟨rfl, hM2⟩
 obtain ⟨hM, hx68⟩ := hM.backA hM2
 clear hM2
 refine ⟨_, rfl, fun a hf => ?_⟩
 refine q_ hf rfl rfl rfl (e_assign hf rfl) fun a hf => ?_
 refine pl_nil ?_
 refine then_n ?_
 refine wp_ret ?_
 obtain rfl := some_inj h
 have hM := hM.outs (own' := []) 0 rfl
 exact leave1 hf rfl rfl ⟨rfl, hM.fin⟩

set_option maxRecDepth 100000 in
set_option maxHeartbeats 4000000 in
theorem r_spec_l06Step (C : Cx) (d1 : Dawg) (b2 : Nat) (o3 : Nat) (hp4 : (ptrRep DawgRep).R C.w0 C.S0 d1 [vP b2 o3]) (node5 : Int) (hp6 : R64 node5) (letter7 : UInt8) (r : Int) (h : m_spec_l06Step d1 node5 letter7 = some r) :
    Calls Tryd.prog 89 #[vP b2 (o3), vI (node5), vB (letter7)] C.w0 fun e w => e = .returned (vI (r)) ∧ Mem C w [] [] ∧ R64 r := by
 have hM := Mem.begin C [.dat (ptrRep DawgRep) d1 [vP b2 o3]] ⟨hp4, trivial⟩
 refine enter Tryd.func89 rfl Tryd.ntmps89 rfl fun a hf => ?_
 unfold m_spec_l06Step at h
 refine wp_seq ?_
 refine region_pl ?_
 refine q_ hf rfl rfl rfl (e_assign hf rfl) fun a hf => ?_
 refine pl_nil ?_
 refine then_n ?_
 refine wp_seq ?_
 refine region_pl ?_
 refine q_ hf rfl rfl rfl (e_move hf rfl) fun a hf => ?_
 refine q_ hf rfl rfl rfl (e_nil hf rfl) fun a hf => ?_
 obtain ⟨_, hr8, hM⟩ := hM.deref (hM.dat (k := 0) rfl)
 obtain ⟨A9, c10, rfl, hv11⟩ := DawgRep_open hr8
 have hM := hM.add (y := .dat (sliceRep NodeRep) d1.Nodes [vL A9 d1.Nodes c10]) hv11
 refine q_ hf rfl rfl rfl (e_field hf rfl Tryd.underlying26 rfl Tryd.sizeOf24 (o' := o3 + 0) rfl) fun a hf => ?_
 refine q_ hf rfl rfl rfl (e_load1 hf rfl Tryd.isAgg24 (hM.litCell (k := 1) (j := 0) rfl rfl rfl)) fun a hf => ?_
 refine q_ hf rfl rfl rfl (e_move hf rfl) fun a hf => ?_
 obtain ⟨e12, hz13, h⟩ := bind_some h
 obtain ⟨b17, o18, _, hA19, h14, h15, hr16, hM⟩ := hM.elem (hM.dat (k := 0) rfl) (n := 3) rfl hz13
 obtain ⟨A21, c22, rfl, hv20, hv23⟩ := NodeRep_open hr16
 have hM := hM.add (y := .dat (sliceRep intRep) e12.Next [vL A21 e12.Next c22]) hv23
 refine q_ hf rfl rfl rfl (e_indexAddr (A := A9) (b := b17) (o := o18) (xs := d1.Nodes) (i := node5) hf hA19 rfl rfl Tryd.underlying24 Tryd.sizeOf76 h14 h15) fun a hf => ?_
 refine q_ hf rfl rfl rfl (e_assign hf rfl) fun a hf => ?_
 refine pl_nil ?_
 refine then_n ?_
 obtain ⟨x24, h25, h⟩ := bind_some h
 refine seq_join (fun a w => (.inl ()) = x24 ∧ Has 48 a [] ∧ Mem C w [] [.dat (sliceRep intRep) e12.Next [vL A21 e12.Next c22], .lit b17 (o18 + (node5 : Int).toNat * 3) [.bool (e12.Final), vS (e12.Letters), vL A21 (e12.Next) c22], .dat (sliceRep NodeRep) d1.Nodes [vL A9 d1.Nodes c10], .lit b2 (o3) [vL A9 (d1.Nodes) c10], .dat (ptrRep DawgRep) d1 [vP b2 o3]]) ?_ ?_
 ·refine wp_seq ?_
  refine region_pl ?_
  refine q_ hf rfl rfl rfl (e_assign hf rfl) fun a hf => ?_
  refine pl_nil ?_
  refine then_n ?_
  refine wp_block ?_
  obtain ⟨x29, h30, h25⟩ := bind_some h25
  refine wp_loopM h30 (fun s a w => ∃ (n26 : Int), n26 = s ∧ Has 48 a [(2, vB (letter7)), (7, vP b17 (o18 + (node5 : Int).toNat * 3)), (8, vI (n26))] ∧ Mem C w [] [.dat (sliceRep intRep) e12.Next [vL A21 e12.Next c22], .lit b17 (o18 + (node5 : Int).toNat * 3) [.bool (e12.Final), vS (e12.Letters), vL A21 (e12.Next) c22], .dat (sliceRep NodeRep) d1.Nodes [vL A9 d1.Nodes c10], .lit b2 (o3) [vL A9 (d1.Nodes) c10], .dat (ptrRep DawgRep) d1 [vP b2 o3]] ∧ R64 n26) ?_ ?_
  ·exact ⟨0, rfl, hf.keep ⟨rfl, rfl, rfl, trivial⟩, hM.pick [0, 1, 2, 3, 4] rfl, (R64_lit rfl)⟩
  rintro s o31 a w28 ⟨n26, rfl, hf, hM, hv27⟩ h32 hd33
  replace h32 : m_spec_l06Step_l1 e12 letter7 n26 = some o31 := h32
  unfold m_spec_l06Step_l1 at h32
  refine wp_seq ?_
  obtain ⟨x36, h37, h32⟩ := bind_some h32
  refine seq_join (fun a w => ∃ (t34 : Bool), t34 = x36 ∧ Has 48 a [(2, vB (letter7)), (7, vP b17 (o18 + (node5 : Int).toNat * 3)), (8, vI (n26)), (30, .bool (t34))] ∧ Mem C w [] [.dat (sliceRep intRep) e12.Next [vL A21 e12.Next c22], .lit b17 (o18 + (node5 : Int).toNat * 3) [.bool (e12.Final), vS (e12.Letters), vL A21 (e12.Next) c22], .dat (sliceRep NodeRep) d1.Nodes [vL A9 d1.Nodes c10], .lit b2 (o3) [vL A9 (d1.Nodes) c10], .dat (ptrRep DawgRep) d1 [vP b2 o3]]) ?_ ?_
  ·refine region_pl ?_
   iterate 2 refine q_ hf rfl rfl rfl (e_move hf rfl) fun a hf => ?_
   refine q_ hf rfl rfl rfl (e_nil hf rfl) fun a hf => ?_
   refine q_ hf rfl rfl rfl (e_field hf rfl Tryd.underlying76 rfl Tryd.sizeOf9 (o' := (o18 + (node5 : Int).toNat * 3) + 1) rfl) fun a hf => ?_
   refine q_ hf rfl rfl rfl (e_load1 hf rfl Tryd.isAgg9 (hM.litCell (k := 1) (j := 1) rfl rfl rfl)) fun a hf => ?_
   refine q_ hf rfl rfl rfl (e_lenS hf (x := e12.Letters) rfl Tryd.underlying9) fun a hf => ?_
   refine q_ hf rfl rfl rfl (e_lt hf (x := n26) (y := (e12.Letters.length : Int)) rfl rfl) fun a hf => ?_
   refine q_ hf rfl rfl rfl (e_move hf rfl) fun a hf => ?_
   rcases cond_some h37 with ⟨hc38, h37⟩ | ⟨hc38, h37⟩
   ·iterate 2 refine gq (wanted_t hf rfl rfl rfl rfl hc38) hf rfl rfl (e_move hf rfl) fun a hf => ?_
    refine gq (wanted_t hf rfl rfl rfl rfl hc38) hf rfl rfl (e_nil hf rfl) fun a hf => ?_
    refine gq (wanted_t hf rfl rfl rfl rfl hc38) hf rfl rfl (e_field hf rfl Tryd.underlying76 rfl Tryd.sizeOf31 (o' := (o18 + (node5 : Int).toNat * 3) + 2) rfl) fun a hf => ?_
    refine gq (wanted_t hf rfl rfl rfl rfl hc38) hf rfl rfl (e_load1 hf rfl Tryd.isAgg31 (hM.litCell (k := 1) (j := 2) rfl rfl rfl)) fun a hf => ?_
    have hl39 := slice_len (hM.dat (k := 0) rfl)
    refine gq (wanted_t hf rfl rfl rfl rfl hc38) hf rfl rfl (e_lenL hf (x := e12.Next) rfl Tryd.underlying31) fun a hf => ?_
    refine gq (wanted_t hf rfl rfl rfl rfl hc38) hf rfl rfl (e_lt hf (x := n26) (y := (e12.Next.length : Int)) rfl rfl) fun a hf => ?_
    refine q_ hf rfl rfl rfl (e_pick_t hf rfl hc38 rfl) fun a hf => ?_
    refine pl_nil ?_
    obtain rfl := some_inj h37
    refine then_n ?_
    exact ⟨(decide (n26 < (e12.Next.length : Int))), rfl, hf.keep ⟨rfl, rfl, rfl, rfl, trivial⟩, hM.pick [0, 1, 2, 3, 4] rfl⟩
   iterate 7 refine pl_gs (wanted_f hf rfl rfl rfl rfl hc38) hf rfl rfl fun a hf => ?_
   refine q_ hf rfl rfl rfl (e_pick_f hf rfl hc38 rfl) fun a hf => ?_
   refine pl_nil ?_
   obtain rfl := some_inj h37
   refine then_n ?_
   exact ⟨false, rfl, hf.keep ⟨rfl, rfl, rfl, rfl, trivial⟩, hM.pick [0, 1, 2, 3, 4] rfl⟩
  rintro a w42 ⟨t34, rfl, hf, hM⟩
  try dsimp only at h32
  rcases cond_some h32 with ⟨hc43, h32⟩ | ⟨hc43, h32⟩
  ·refine cond_t hf rfl hc43 ?_
   refine wp_skip ?_
   refine then_n ?_
   refine wp_seq ?_
   refine wp_block ?_
   refine wp_seq ?_
   refine region_pl ?_
   refine q_ hf rfl rfl rfl (e_move hf rfl) fun a hf => ?_
   refine q_ hf rfl rfl rfl (e_nil hf rfl) fun a hf => ?_
   refine q_ hf rfl rfl rfl (e_field hf rfl Tryd.underlying76 rfl Tryd.sizeOf9 (o' := (o18 + (node5 : Int).toNat * 3) + 1) rfl) fun a hf => ?_
   refine q_ hf rfl rfl rfl (e_load1 hf rfl Tryd.isAgg9 (hM.litCell (k := 1) (j := 1) rfl rfl rfl)) fun a hf => ?_
   refine q_ hf rfl rfl rfl (e_move hf rfl) fun a hf => ?_
   obtain ⟨c44, hz45, h32⟩ := bind_some h32
   refine q_ hf rfl rfl rfl (e_indexS hf (x := e12.Letters) rfl rfl Tryd.underlying9 hz45) fun a hf => ?_
   refine q_ hf rfl rfl rfl (e_move hf rfl) fun a hf => ?_
   refine q_ hf rfl rfl rfl (e_eqB hf (x := c44) (y := letter7) rfl rfl) fun a hf => ?_
   refine pl_nil ?_
   refine then_n ?_
   rcases cond_some h32 with ⟨hc46, h32⟩ | ⟨hc46, h32⟩
   ·refine cond_t hf rfl hc46 ?_
    refine wp_seq ?_
    refine region_pl ?_
    refine q_ hf rfl rfl rfl (e_move hf rfl) fun a hf => ?_
    refine q_ hf rfl rfl rfl (e_nil hf rfl) fun a hf => ?_
    refine q_ hf rfl rfl rfl (e_field hf rfl Tryd.underlying76 rfl Tryd.sizeOf31 (o' := (o18 + (node5 : Int).toNat * 3) + 2) rfl) fun a hf => ?_
    refine q_ hf rfl rfl rfl (e_load1 hf rfl Tryd.isAgg31 (hM.litCell (k := 1) (j := 2) rfl rfl rfl)) fun a hf => ?_
    refine q_ hf rfl rfl rfl (e_move hf rfl) fun a hf => ?_
    obtain ⟨e47, hz48, h32⟩ := bind_some h32
    obtain ⟨b52, o53, _, hA54, h49, h50, hr51, hM⟩ := hM.elem (hM.dat (k := 0) rfl) (n := 1) rfl hz48
    obtain ⟨rfl, hv55⟩ := hr51
    refine q_ hf rfl rfl rfl (e_indexAddr (A := A21) (b := b52) (o := o53) (xs := e12.Next) (i := n26) hf hA54 rfl rfl Tryd.underlying31 Tryd.sizeOf2 h49 h50) fun a hf => ?_
    refine q_ hf rfl rfl rfl (e_load1 hf rfl Tryd.isAgg2 (hM.litCell (k := 0) (j := 0) rfl rfl rfl)) fun a hf => ?_
    refine q_ hf rfl rfl rfl (e_assign hf rfl) fun a hf => ?_
    refine pl_nil ?_
    refine then_n ?_
    refine wp_ret ?_
    refine blk_r ?_
    refine then_r ?_
    obtain rfl := some_inj h32
    obtain rfl := hd33 _ rfl
    try dsimp only at h25
    refine then_r ?_
    refine blk_r ?_
    obtain rfl := some_inj h25
    try dsimp only at h
    refine then_r ?_
    obtain rfl := some_inj h
    exact leave1 hf rfl rfl ⟨rfl, hM.fin, hv55⟩
   refine cond_f hf rfl hc46 ?_
   refine wp_skip ?_
   refine blk_n ?_
   refine then_n ?_
   refine region_pl ?_
   refine q_ hf rfl rfl rfl (e_move hf rfl) fun a hf => ?_
   obtain ⟨z56, hz57, h32⟩ := bind_some h32
   refine q_ hf rfl rfl rfl (e_add hf rfl rfl hz57) fun a hf => ?_
   refine q_ hf rfl rfl rfl (e_assign hf rfl) fun a hf => ?_
   refine pl_nil ?_
   obtain rfl := some_inj h32
   refine then_n ⟨_, rfl, ?_⟩
   exact ⟨z56, rfl, hf.keep ⟨rfl, rfl, rfl, trivial⟩, hM.pick [0, 1, 2, 3, 4] rfl, (chk_R hz57)⟩
  refine cond_f hf rfl hc43 ?_
  refine wp_exit ?_
  refine then_x ?_
  obtain rfl := some_inj h32
  obtain rfl := hd33 _ rfl
  try dsimp only at h25
  refine then_x ?_
  refine exit_hit ?_
  obtain rfl := some_inj h25
  refine then_n ?_
  exact ⟨rfl, hf.keep trivial, hM.pick [0, 1, 2, 3, 4] rfl⟩
 rintro a w64 ⟨rfl, hf, hM⟩
 try dsimp only at h
 refine wp_seq ?_
 refine region_pl ?_
 refine q_ hf rfl rfl rfl (e_assign hf rfl) fun a hf => ?_
 refine pl_nil ?_
 refine then_n ?_
 refine wp_ret ?_
 obtain rfl := some_inj h
 exact leave1 hf rfl rfl ⟨rfl, hM.fin, (R64_lit rfl)⟩

set_option maxRecDepth 100000 in
set_option maxHeartbeats 4000000 in
theorem r_spec_l06After (C : Cx) (d1 : Dawg) (b2 : Nat) (o3 : Nat) (hp4 : (ptrRep DawgRep).R C.w0 C.S0 d1 [vP b2 o3]) (node5 : Int) (hp6 : R64 node5) (s7 : Str) (hp8 : s7.length ≤ maxLen) (r : Int) (h : m_spec_l06After d1 node5 s7 = some r) :
    Calls Tryd.prog 61 #[vP b2 (o3), vI (node5), vS (s7)] C.w0 fun e w => e = .returned (vI (r)) ∧ Mem C w [] [] ∧ R64 r := by
 have hM := Mem.begin C [.dat (ptrRep DawgRep) d1 [vP b2 o3]] ⟨hp4, trivial⟩
 refine enter Tryd.func61 rfl Tryd.ntmps61 rfl fun a hf => ?_
 unfold m_spec_l06After at h
 refine wp_seq ?_
 refine region_pl ?_
 refine q_ hf rfl rfl rfl (e_assign hf rfl) fun a hf => ?_
 refine pl_nil ?_
 refine then_n ?_
 obtain ⟨x11, h12, h⟩ := bind_some h
 refine seq_join (fun a w => ∃ (node9 : Int), node9 = x11 ∧ Has 25 a [(1, vI (node9))] ∧ Mem C w [] [.dat (ptrRep DawgRep) d1 [vP b2 o3]] ∧ R64 node9) ?_ ?_
 ·refine wp_seq ?_
  refine region_pl ?_
  refine q_ hf rfl rfl rfl (e_assign hf rfl) fun a hf => ?_
  refine pl_nil ?_
  refine then_n ?_
  refine wp_block ?_
  obtain ⟨x20, h21, h12⟩ := bind_some h12
  refine wp_loopM h21 (fun s a w => ∃ (node13 : Int) (n15 : Int), (node13, n15) = s ∧ Has 25 a [(0, vP b2 (o3)), (1, vI (node13)), (2, vS (s7)), (7, vI (n15))] ∧ Mem C w [] [.dat (ptrRep DawgRep) d1 [vP b2 o3]] ∧ R64 node13 ∧ R64 n15) ?_ ?_
  ·exact ⟨node5, 0, rfl, hf.keep ⟨rfl, rfl, rfl, rfl, trivial⟩, hM.pick [0] rfl, hp6, (R64_lit rfl)⟩
  rintro s o22 a w17 ⟨node13, n15, rfl, hf, hM, hv14, hv16⟩ h23 hd24
  replace h23 : m_spec_l06After_l1 s7 d1 node13 n15 = some o22 := h23
  unfold m_spec_l06After_l1 at h23
  refine wp_seq ?_
  obtain ⟨x27, h28, h23⟩ := bind_some h23
  refine seq_join (fun a w => ∃ (t25 : Bool), t25 = x27 ∧ Has 25 a [(0, vP b2 (o3)), (1, vI (node13)), (2, vS (s7)), (7, vI (n15)), (15, .bool (t25))] ∧ Mem C w [] [.dat (ptrRep DawgRep) d1 [vP b2 o3]]) ?_ ?_
  ·refine region_pl ?_
   iterate 2 refine q_ hf rfl rfl rfl (e_move hf rfl) fun a hf => ?_
   refine q_ hf rfl rfl rfl (e_lenS hf (x := s7) rfl Tryd.underlying9) fun a hf => ?_
   refine q_ hf rfl rfl rfl (e_lt hf (x := n15) (y := (s7.length : Int)) rfl rfl) fun a hf => ?_
   refine q_ hf rfl rfl rfl (e_move hf rfl) fun a hf => ?_
   rcases cond_some h28 with ⟨hc29, h28⟩ | ⟨hc29, h28⟩
   ·refine gq (wanted_t hf rfl rfl rfl rfl hc29) hf rfl rfl (e_move hf rfl) fun a hf => ?_
    refine gq (wanted_t hf rfl rfl rfl rfl hc29) hf rfl rfl (e_ge hf (x := node13) (y := 0) rfl rfl) fun a hf => ?_
    refine q_ hf rfl rfl rfl (e_pick_t hf rfl hc29 rfl) fun a hf => ?_
    refine pl_nil ?_
    obtain rfl := some_inj h28
    refine then_n ?_
    exact ⟨(decide (0 ≤ node13)), rfl, hf.keep ⟨rfl, rfl, rfl, rfl, rfl, trivial⟩, hM.pick [0] rfl⟩
   iterate 2 refine pl_gs (wanted_f hf rfl rfl rfl rfl hc29) hf rfl rfl fun a hf => ?_
   refine q_ hf rfl rfl rfl (e_pick_f hf rfl hc29 rfl) fun a hf => ?_
   refine pl_nil ?_
   obtain rfl := some_inj h28
   refine then_n ?_
   exact ⟨false, rfl, hf.keep ⟨rfl, rfl, rfl, rfl, rfl, trivial⟩, hM.pick [0] rfl⟩
  rintro a w32 ⟨t25, rfl, hf, hM⟩
  try dsimp only at h23
  rcases cond_some h23 with ⟨hc33, h23⟩ | ⟨hc33, h23⟩
  ·refine cond_t hf rfl hc33 ?_
   refine wp_skip ?_
   refine then_n ?_
   refine wp_seq ?_
   refine wp_block ?_
   refine region_pl ?_
   iterate 4 refine q_ hf rfl rfl rfl (e_move hf rfl) fun a hf => ?_
   obtain ⟨c34, hz35, h23⟩ := bind_some h23
   refine q_ hf rfl rfl rfl (e_indexS hf (x := s7) rfl rfl Tryd.underlying9 hz35) fun a hf => ?_
   obtain ⟨y36, hz37, h23⟩ := bind_some h23
   refine pl_l hf rfl rfl rfl (w_call hf Tryd.call89 rfl (r_spec_l06Step ⟨_, Sh C _ _, none_, hM.sh_lt, none_not, C.G, hM.g_lt, g_none, hM.tabs⟩ d1 _ _ (hM.dat (k := 0) rfl) node13 hv14 c34 _ hz37) ?_)
   rintro _ w39 ⟨rfl, hM2, hv38⟩
   obtain ⟨hM, hx40, hup41⟩ := hM.back hM2
   dsimp only [List.cons_append, List.nil_append] at hM hup41
   clear hM2
   refine ⟨_, rfl, fun a hf => ?_⟩
   refine q_ hf rfl rfl rfl (e_assign hf rfl) fun a hf => ?_
   refine pl_nil ?_
   refine blk_n ?_
   refine then_n ?_
   refine region_pl ?_
   refine q_ hf rfl rfl rfl (e_move hf rfl) fun a hf => ?_
   obtain ⟨z42, hz43, h23⟩ := bind_some h23
   refine q_ hf rfl rfl rfl (e_add hf rfl rfl hz43) fun a hf => ?_
   refine q_ hf rfl rfl rfl (e_assign hf rfl) fun a hf => ?_
   refine pl_nil ?_
   obtain rfl := some_inj h23
   refine then_n ⟨_, rfl, ?_⟩
   exact ⟨y36, z42, rfl, hf.keep ⟨rfl, rfl, rfl, rfl, trivial⟩, hM.pick [0] rfl, hv38, (chk_R hz43)⟩
  refine cond_f hf rfl hc33 ?_
  refine wp_exit ?_
  refine then_x ?_
  obtain rfl := some_inj h23
  obtain rfl := hd24 _ rfl
  try dsimp only at h12
  refine then_x ?_
  refine exit_hit ?_
  obtain rfl := some_inj h12
  refine then_n ?_
  exact ⟨node13, rfl, hf.keep ⟨rfl, trivial⟩, hM.pick [0] rfl, hv14⟩
 rintro a w49 ⟨node9, rfl, hf, hM, hv10⟩
 try dsimp only at h
 refine wp_seq ?_
 refine region_pl ?_
 refine q_ hf rfl rfl rfl (e_move hf rfl) fun a hf => ?_
 refine q_ hf rfl rfl rfl (e_assign hf rfl) fun a hf => ?_
 refine pl_nil ?_
 refine then_n ?_
 refine wp_ret ?_
 obtain rfl := some_inj h
 exact leave1 hf rfl rfl ⟨rfl, hM.fin, hv10⟩

def Ct_spec_l07C_count (rc : l07C → Int → Option (Int × l07C)) : Prop := ∀ (C : Cx) (c1 : l07C) (b2 : Nat) (b3 : Nat) (o4 : Nat) (hp5 : (ptrRep DawgRep).R C.w0 C.S0 c1.d [vP b3 o4]) (A6 : Option Addr) (c7 : Nat) (node8 : Int) (hp9 : R64 node8) (hO : Mem C C.w0 [.box b2 [vP b3 (o4), vL A6 (c1.out) c7] 128, .row intRep A6 c7 2 c1.out true] []) (hd : ∀ b, C.S0 b → ¬ ownB [.box b2 [vP b3 (o4), vL A6 (c1.out) c7] 128, .row intRep A6 c7 2 c1.out true] b) (r : (Int × l07C)) (h : rc c1 node8 = some r),
    Calls Tryd.prog 91 #[vP b2 (0), vI (node8)] C.w0 fun e w => ∃ (A_1 : Option Addr), ∃ (c_1 : Nat), e = .returned (vI (r.1)) ∧ Mem C w [.box b2 [vP b3 (o4), vL A_1 (r.2.out) c_1] 128, .row intRep A_1 c_1 2 r.2.out true] [] ∧ R64 r.1

set_option maxRecDepth 100000 in
set_option maxHeartbeats 4000000 in
theorem r_spec_l07C_count_b (rc : l07C → Int → Option (Int × l07C)) (ih : Ct_spec_l07C_count rc) : Ct_spec_l07C_count (m_spec_l07C_count_b rc) := by
 intro C c1 b2 b3 o4 hp5 A6 c7 node8 hp9 hO hd r h
 have hM := hO
 have hM := hM.addIn hd (y := .dat (ptrRep DawgRep) c1.d [vP b3 o4]) hp5
 refine enter Tryd.func91 rfl Tryd.ntmps91 rfl fun a hf => ?_
 unfold m_spec_l07C_count_b at h
 refine wp_seq ?_
 refine region_pl ?_
 refine q_ hf rfl rfl rfl (e_assign hf rfl) fun a hf => ?_
 refine pl_nil ?_
 refine then_n ?_
 iterate 2 refine wp_seq ?_
 refine region_pl ?_
 refine q_ hf rfl rfl rfl (e_move hf rfl) fun a hf => ?_
 refine q_ hf rfl rfl rfl (e_nil hf rfl) fun a hf => ?_
 refine q_ hf rfl rfl rfl (e_field hf rfl Tryd.underlying128 rfl Tryd.sizeOf31 (o' := 1) rfl) fun a hf => ?_
 refine q_ hf rfl rfl rfl (e_load1 hf rfl Tryd.isAgg31 (hM.boxCell (k := 0) rfl rfl)) fun a hf => ?_
 refine q_ hf rfl rfl rfl (e_move hf rfl) fun a hf => ?_
 obtain ⟨e10, hz11, h⟩ := bind_some h
 obtain ⟨b16, _, hA17, h12, h13, hr14, hcell15⟩ := hM.rowElemN (k := 1) rfl (n := 1) rfl hz11
 obtain ⟨rfl, hv18⟩ := hr14
 refine q_ hf rfl rfl rfl (e_indexAddr (A := A6) (b := b16) (o := 0) (xs := c1.out) (i := node8) hf hA17 rfl rfl Tryd.underlying31 Tryd.sizeOf2 h12 h13) fun a hf => ?_
 refine q_ hf rfl rfl rfl (e_load1 hf rfl Tryd.isAgg2 (hcell15 0 _ rfl)) fun a hf => ?_
 refine q_ hf rfl rfl rfl (e_ge hf (x := e10) (y := 0) rfl rfl) fun a hf => ?_
 refine pl_nil ?_
 refine then_n ?_
 rcases cond_some h with ⟨hc19, h⟩ | ⟨hc19, h⟩
 ·refine cond_t hf rfl hc19 ?_
  refine wp_seq ?_
  refine region_pl ?_
  refine q_ hf rfl rfl rfl (e_move hf rfl) fun a hf => ?_
  refine q_ hf rfl rfl rfl (e_nil hf rfl) fun a hf => ?_
  refine q_ hf rfl rfl rfl (e_field hf rfl Tryd.underlying128 rfl Tryd.sizeOf31 (o' := 1) rfl) fun a hf => ?_
  refine q_ hf rfl rfl rfl (e_load1 hf rfl Tryd.isAgg31 (hM.boxCell (k := 0) rfl rfl)) fun a hf => ?_
  refine q_ hf rfl rfl rfl (e_move hf rfl) fun a hf => ?_
  obtain ⟨e20, hz21, h⟩ := bind_some h
  obtain ⟨b26, _, hA27, h22, h23, hr24, hcell25⟩ := hM.rowElemN (k := 1) rfl (n := 1) rfl hz21
  obtain ⟨rfl, hv28⟩ := hr24
  refine q_ hf rfl rfl rfl (e_indexAddr (A := A6) (b := b26) (o := 0) (xs := c1.out) (i := node8) hf hA27 rfl rfl Tryd.underlying31 Tryd.sizeOf2 h22 h23) fun a hf => ?_
  refine q_ hf rfl rfl rfl (e_load1 hf rfl Tryd.isAgg2 (hcell25 0 _ rfl)) fun a hf => ?_
  refine q_ hf rfl rfl rfl (e_assign hf rfl) fun a hf => ?_
  refine pl_nil ?_
  refine then_n ?_
  refine wp_ret ?_
  refine then_r ?_
  obtain rfl := some_inj h
  exact leave1 hf rfl rfl ⟨A6, c7, rfl, hM.fin, hv28⟩
 refine cond_f hf rfl hc19 ?_
 refine wp_skip ?_
 refine then_n ?_
 refine wp_seq ?_
 refine region_pl ?_
 refine q_ hf rfl rfl rfl (e_move hf rfl) fun a hf => ?_
 refine q_ hf rfl rfl rfl (e_nil hf rfl) fun a hf => ?_
 refine q_ hf rfl rfl rfl (e_field hf rfl Tryd.underlying128 rfl Tryd.sizeOf66 (o' := 0) rfl) fun a hf => ?_
 refine q_ hf rfl rfl rfl (e_load1 hf rfl Tryd.isAgg66 (hM.boxCell (k := 0) rfl rfl)) fun a hf => ?_
 refine q_ hf rfl rfl rfl (e_nil hf rfl) fun a hf => ?_
 obtain ⟨_, hr29, hM⟩ := hM.deref (hM.dat (k := 0) rfl)
 obtain ⟨A30, c31, rfl, hv32⟩ := DawgRep_open hr29
 have hM := hM.add (y := .dat (sliceRep NodeRep) c1.d.Nodes [vL A30 c1.d.Nodes c31]) hv32
 refine q_ hf rfl rfl rfl (e_field hf rfl Tryd.underlying26 rfl Tryd.sizeOf24 (o' := o4 + 0) rfl) fun a hf => ?_
 refine q_ hf rfl rfl rfl (e_load1 hf rfl Tryd.isAgg24 (hM.litCell (k := 1) (j := 0) rfl rfl rfl)) fun a hf => ?_
 refine q_ hf rfl rfl rfl (e_move hf rfl) fun a hf => ?_
 obtain ⟨e33, hz34, h⟩ := bind_some h
 obtain ⟨b38, o39, _, hA40, h35, h36, hr37, hM⟩ := hM.elem (hM.dat (k := 0) rfl) (n := 3) rfl hz34
 obtain ⟨A42, c43, rfl, hv41, hv44⟩ := NodeRep_open hr37
 have hM := hM.add (y := .dat (sliceRep intRep) e33.Next [vL A42 e33.Next c43]) hv44
 refine q_ hf rfl rfl rfl (e_indexAddr (A := A30) (b := b38) (o := o39) (xs := c1.d.Nodes) (i := node8) hf hA40 rfl rfl Tryd.underlying24 Tryd.sizeOf76 h35 h36) fun a hf => ?_
 refine q_ hf rfl rfl rfl (e_assign hf rfl) fun a hf => ?_
 refine pl_nil ?_
 refine then_n ?_
 refine wp_seq ?_
 refine region_pl ?_
 refine q_ hf rfl rfl rfl (e_assign hf rfl) fun a hf => ?_
 refine pl_nil ?_
 refine then_n ?_
 obtain ⟨x47, h48, h⟩ := bind_some h
 refine seq_join (fun a w => ∃ (n45 : Int), n45 = x47 ∧ Has 64 a [(0, vP b2 (0)), (1, vI (node8)), (5, vP b38 (o39 + (node8 : Int).toNat * 3)), (6, vI (n45))] ∧ Mem C w [.box b2 [vP b3 (o4), vL A6 (c1.out) c7] 128, .row intRep A6 c7 2 c1.out true] [.dat (sliceRep intRep) e33.Next [vL A42 e33.Next c43], .lit b38 (o39 + (node8 : Int).toNat * 3) [.bool (e33.Final), vS (e33.Letters), vL A42 (e33.Next) c43], .dat (sliceRep NodeRep) c1.d.Nodes [vL A30 c1.d.Nodes c31], .lit b3 (o4) [vL A30 (c1.d.Nodes) c31], .dat (ptrRep DawgRep) c1.d [vP b3 o4]] ∧ R64 n45) ?_ ?_
 ·refine wp_seq ?_
  refine region_pl ?_
  refine q_ hf rfl rfl rfl (e_move hf rfl) fun a hf => ?_
  refine q_ hf rfl rfl rfl (e_nil hf rfl) fun a hf => ?_
  refine q_ hf rfl rfl rfl (e_field hf rfl Tryd.underlying76 rfl Tryd.sizeOf4 (o' := (o39 + (node8 : Int).toNat * 3) + 0) rfl) fun a hf => ?_
  refine q_ hf rfl rfl rfl (e_load1 hf rfl Tryd.isAgg4 (hM.litCell (k := 1) (j := 0) rfl rfl rfl)) fun a hf => ?_
  refine pl_nil ?_
  refine then_n ?_
  rcases cond_some h48 with ⟨hc49, h48⟩ | ⟨hc49, h48⟩
  ·refine cond_t hf rfl hc49 ?_
   refine region_pl ?_
   refine q_ hf rfl rfl rfl (e_assign hf rfl) fun a hf => ?_
   refine pl_nil ?_
   obtain rfl := some_inj h48
   refine then_n ?_
   exact ⟨1, rfl, hf.keep ⟨rfl, rfl, rfl, rfl, trivial⟩, hM.pick [0, 1, 2, 3, 4] rfl, (R64_lit rfl)⟩
  refine cond_f hf rfl hc49 ?_
  refine wp_skip ?_
  obtain rfl := some_inj h48
  refine then_n ?_
  exact ⟨0, rfl, hf.keep ⟨rfl, rfl, rfl, rfl, trivial⟩, hM.pick [0, 1, 2, 3, 4] rfl, (R64_lit rfl)⟩
 rintro a w52 ⟨n45, rfl, hf, hM, hv46⟩
 try dsimp only at h
 obtain ⟨x58, h59, h⟩ := bind_some h
 refine seq_join (fun a w => ∃ (xs53 : (List Int)) (n56 : Int) (A54 : Option Addr) (c55 : Nat), (xs53, n56) = x58 ∧ Has 64 a [(0, vP b2 (0)), (1, vI (node8)), (6, vI (n56))] ∧ Mem C w [.box b2 [vP b3 (o4), vL A54 (xs53) c55] 128, .row intRep A54 c55 2 xs53 true] [.dat (sliceRep intRep) e33.Next [vL A42 e33.Next c43], .lit b38 (o39 + (node8 : Int).toNat * 3) [.bool (e33.Final), vS (e33.Letters), vL A42 (e33.Next) c43], .dat (sliceRep NodeRep) c1.d.Nodes [vL A30 c1.d.Nodes c31], .lit b3 (o4) [vL A30 (c1.d.Nodes) c31], .dat (ptrRep DawgRep) c1.d [vP b3 o4]] ∧ R64 n56) ?_ ?_
 ·refine wp_seq ?_
  refine region_pl ?_
  refine q_ hf rfl rfl rfl (e_assign hf rfl) fun a hf => ?_
  refine pl_nil ?_
  refine then_n ?_
  refine wp_block ?_
  obtain ⟨x73, h74, h59⟩ := bind_some h59
  refine wp_loopM h74 (fun s a w => ∃ (xs60 : (List Int)) (n63 : Int) (n65 : Int) (A61 : Option Addr) (c62 : Nat), (xs60, n63, n65) = s ∧ Has 64 a [(0, vP b2 (0)), (1, vI (node8)), (5, vP b38 (o39 + (node8 : Int).toNat * 3)), (6, vI (n63)), (7, vI (n65))] ∧ Mem C w [.box b2 [vP b3 (o4), vL A61 (xs60) c62] 128, .row intRep A61 c62 2 xs60 true] [.dat (sliceRep intRep) e33.Next [vL A42 e33.Next c43], .lit b38 (o39 + (node8 : Int).toNat * 3) [.bool (e33.Final), vS (e33.Letters), vL A42 (e33.Next) c43], .dat (sliceRep NodeRep) c1.d.Nodes [vL A30 c1.d.Nodes c31], .lit b3 (o4) [vL A30 (c1.d.Nodes) c31], .dat (ptrRep DawgRep) c1.d [vP b3 o4]] ∧ R64 n63 ∧ R64 n65) ?_ ?_
  ·exact ⟨c1.out, n45, 0, A6, c7, rfl, hf.keep ⟨rfl, rfl, rfl, rfl, rfl, trivial⟩, hM.pick [0, 1, 2, 3, 4] rfl, hv46, (R64_lit rfl)⟩
  rintro s o75 a w67 ⟨xs60, n63, n65, A61, c62, rfl, hf, hM, hv64, hv66⟩ h76 hd77
  replace h76 : m_spec_l07C_count_l1 e33 rc c1 xs60 n63 n65 = some o75 := h76
  unfold m_spec_l07C_count_l1 at h76
  iterate 2 refine wp_seq ?_
  refine region_pl ?_
  iterate 2 refine q_ hf rfl rfl rfl (e_move hf rfl) fun a hf => ?_
  refine q_ hf rfl rfl rfl (e_nil hf rfl) fun a hf => ?_
  refine q_ hf rfl rfl rfl (e_field hf rfl Tryd.underlying76 rfl Tryd.sizeOf31 (o' := (o39 + (node8 : Int).toNat * 3) + 2) rfl) fun a hf => ?_
  refine q_ hf rfl rfl rfl (e_load1 hf rfl Tryd.isAgg31 (hM.litCell (k := 1) (j := 2) rfl rfl rfl)) fun a hf => ?_
  have hl78 := slice_len (hM.dat (k := 0) rfl)
  refine q_ hf rfl rfl rfl (e_lenL hf (x := e33.Next) rfl Tryd.underlying31) fun a hf => ?_
  refine q_ hf rfl rfl rfl (e_lt hf (x := n65) (y := (e33.Next.length : Int)) rfl rfl) fun a hf => ?_
  refine pl_nil ?_
  refine then_n ?_
  rcases cond_some h76 with ⟨hc79, h76⟩ | ⟨hc79, h76⟩
  ·refine cond_t hf rfl hc79 ?_
   refine wp_skip ?_
   refine then_n ?_
   refine wp_seq ?_
   refine wp_block ?_
   refine region_pl ?_
   iterate 3 refine q_ hf rfl rfl rfl (e_move hf rfl) fun a hf => ?_
   refine q_ hf rfl rfl rfl (e_nil hf rfl) fun a hf => ?_
   refine q_ hf rfl rfl rfl (e_field hf rfl Tryd.underlying76 rfl Tryd.sizeOf31 (o' := (o39 + (node8 : Int).toNat * 3) + 2) rfl) fun a hf => ?_
   refine q_ hf rfl rfl rfl (e_load1 hf rfl Tryd.isAgg31 (hM.litCell (k := 1) (j := 2) rfl rfl rfl)) fun a hf => ?_
   refine q_ hf rfl rfl rfl (e_move hf rfl) fun a hf => ?_
   obtain ⟨e80, hz81, h76⟩ := bind_some h76
   obtain ⟨b85, o86, _, hA87, h82, h83, hr84, hM⟩ := hM.elem (hM.dat (k := 0) rfl) (n := 1) rfl hz81
   obtain ⟨rfl, hv88⟩ := hr84
   refine q_ hf rfl rfl rfl (e_indexAddr (A := A42) (b := b85) (o := o86) (xs := e33.Next) (i := n65) hf hA87 rfl rfl Tryd.underlying31 Tryd.sizeOf2 h82 h83) fun a hf => ?_
   refine q_ hf rfl rfl rfl (e_load1 hf rfl Tryd.isAgg2 (hM.litCell (k := 0) (j := 0) rfl rfl rfl)) fun a hf => ?_
   have hM : Mem C _ ([.box b2 [vP b3 (o4), vL A61 (xs60) c62] 128, .row intRep A61 c62 2 xs60 true] ++ []) _ := hM
   obtain ⟨y89, hz90, h76⟩ := bind_some h76
   refine pl_l hf rfl rfl rfl (w_call hf Tryd.call91 rfl (ih ⟨_, Sh C _ _, ownB _, hM.sh_lt, sub_dis, C.G, hM.g_lt, hM.g_own, hM.tabs⟩ (⟨c1.d, xs60⟩ : l07C) _ _ _ (hM.dat (k := 5) rfl) _ _ e80 hv88 hM.sub sub_dis _ hz90) ?_)
   rintro _ w94 ⟨A91, c92, rfl, hM2, hv93⟩
   obtain ⟨hM, hup96⟩ := hM.backG hM2
   dsimp only [List.cons_append, List.nil_append] at hM hup96
   clear hM2
   refine ⟨_, rfl, fun a hf => ?_⟩
   obtain ⟨z97, hz98, h76⟩ := bind_some h76
   refine q_ hf rfl rfl rfl (e_add hf rfl rfl hz98) fun a hf => ?_
   refine q_ hf rfl rfl rfl (e_assign hf rfl) fun a hf => ?_
   refine pl_nil ?_
   refine blk_n ?_
   refine then_n ?_
   refine region_pl ?_
   refine q_ hf rfl rfl rfl (e_move hf rfl) fun a hf => ?_
   obtain ⟨z99, hz100, h76⟩ := bind_some h76
   refine q_ hf rfl rfl rfl (e_add hf rfl rfl hz100) fun a hf => ?_
   refine q_ hf rfl rfl rfl (e_assign hf rfl) fun a hf => ?_
   refine pl_nil ?_
   obtain rfl := some_inj h76
   refine then_n ⟨_, rfl, ?_⟩
   exact ⟨y89.2.out, z97, z99, A91, c92, rfl, hf.keep ⟨rfl, rfl, rfl, rfl, rfl, trivial⟩, hM.pick [1, 2, 3, 4, 5] rfl, (chk_R hz98), (chk_R hz100)⟩
  refine cond_f hf rfl hc79 ?_
  refine wp_exit ?_
  refine then_x ?_
  obtain rfl := some_inj h76
  obtain rfl := hd77 _ rfl
  try dsimp only at h59
  refine then_x ?_
  refine exit_hit ?_
  obtain rfl := some_inj h59
  refine then_n ?_
  exact ⟨xs60, n63, A61, c62, rfl, hf.keep ⟨rfl, rfl, rfl, trivial⟩, hM.pick [0, 1, 2, 3, 4] rfl, hv64⟩
 rintro a w106 ⟨xs53, n56, A54, c55, rfl, hf, hM, hv57⟩
 try dsimp only at h
 refine wp_seq ?_
 refine region_pl ?_
 refine q_ hf rfl rfl rfl (e_move hf rfl) fun a hf => ?_
 refine q_ hf rfl rfl rfl (e_nil hf rfl) fun a hf => ?_
 refine q_ hf rfl rfl rfl (e_field hf rfl Tryd.underlying128 rfl Tryd.sizeOf31 (o' := 1) rfl) fun a hf => ?_
 refine q_ hf rfl rfl rfl (e_load1 hf rfl Tryd.isAgg31 (hM.boxCell (k := 0) rfl rfl)) fun a hf => ?_
 iterate 2 refine q_ hf rfl rfl rfl (e_move hf rfl) fun a hf => ?_
 obtain ⟨e107, hz108, h⟩ := bind_some h
 obtain ⟨b113, _, hA114, h109, h110, hr111, hcell112⟩ := hM.rowElemN (k := 1) rfl (n := 1) rfl hz108
 obtain ⟨rfl, hv115⟩ := hr111
 refine q_ hf rfl rfl rfl (e_indexAddr (A := A54) (b := b113) (o := 0) (xs := xs53) (i := node8) hf hA114 rfl rfl Tryd.underlying31 Tryd.sizeOf2 h109 h110) fun a hf => ?_
 obtain ⟨xs117, hz118, h⟩ := bind_some h
 refine pl_0 hf rfl rfl (w_storeElem hf hM (x := n56) (row := [vI (n56)]) (i := node8) rfl rfl rfl hA114 (k := 1) rfl rfl Tryd.sizeOf2 ⟨rfl, hv57⟩ hz118 fun w116 hM => ?_)
 dsimp only [List.set] at hM
 have hf := hf.alter (d := 59) (v := vL A54 (xs117) c55) rfl (vL_len (setL_len hz118))
 rw [vL_len (A := A54) (c := c55) (setL_len hz118)] at hM
 refine pl_nil ?_
 refine then_n ?_
 refine wp_seq ?_
 refine region_pl ?_
 refine q_ hf rfl rfl rfl (e_move hf rfl) fun a hf => ?_
 refine q_ hf rfl rfl rfl (e_assign hf rfl) fun a hf => ?_
 refine pl_nil ?_
 refine then_n ?_
 refine wp_ret ?_
 obtain rfl := some_inj h
 exact leave1 hf rfl rfl ⟨A54, c55, rfl, hM.fin, hv57⟩

theorem r_spec_l07C_count_n : ∀ n, Ct_spec_l07C_count (m_spec_l07C_count_n n)
  | 0 => fun C c1 b2 b3 o4 hp5 A6 c7 node8 hp9 hO hd r h => by cases h
  | n + 1 => r_spec_l07C_count_b _ (r_spec_l07C_count_n n)

theorem r_spec_l07C_count : Ct_spec_l07C_count (m_spec_l07C_count) := r_spec_l07C_count_n fuelN

set_option maxRecDepth 100000 in
set_option maxHeartbeats 4000000 in
theorem r_spec_l07Counts (C : Cx) (d1 : Dawg) (b2 : Nat) (o3 : Nat) (hp4 : (ptrRep DawgRep).R C.w0 C.S0 d1 [vP b2 o3]) (r : (List Int)) (h : m_spec_l07Counts d1 = some r) :
    Calls Tryd.prog 63 #[vP b2 (o3)] C.w0 fun e w => ∃ (A_1 : Option Addr), ∃ (c_1 : Nat), e = .returned (vL A_1 (r) c_1) ∧ Mem C w [.row intRep A_1 c_1 2 r true] [] := by
 have hM := Mem.begin C [.dat (ptrRep DawgRep) d1 [vP b2 o3]] ⟨hp4, trivial⟩
 refine enter Tryd.func63 rfl Tryd.ntmps63 rfl fun a hf => ?_
 unfold m_spec_l07Counts at h
 refine wp_seq ?_
 refine region_pl ?_
 refine q_ hf rfl rfl rfl (e_assign hf rfl) fun a hf => ?_
 refine pl_nil ?_
 refine then_n ?_
 refine wp_seq ?_
 refine region_pl ?_
 refine q_ hf rfl rfl rfl (e_move hf rfl) fun a hf => ?_
 refine q_ hf rfl rfl rfl (e_build hf Tryd.zeroValue128 Tryd.underlying128 (bp_128 _ Tryd.underlying128.symm) rfl (cs := #[vP b2 (o3), vL none (([] : (List Int))) 0]) (by kernel_rfl)) fun a hf => ?_
 refine pl_l hf rfl rfl rfl (w_box hf hM (cs := [vP b2 (o3), vL none (([] : (List Int))) 0]) rfl rfl fun b5 w6 hx7 hM a hf => ?_)
 refine q_ hf rfl rfl rfl (e_assign hf rfl) fun a hf => ?_
 refine pl_nil ?_
 refine then_n ?_
 obtain ⟨x12, h13, h⟩ := bind_some h
 refine seq_join (fun a w => ∃ (xs9 : (List Int)) (A10 : Option Addr) (c11 : Nat), xs9 = x12 ∧ Has 41 a [(0, vP b2 (o3)), (3, vP b5 (0))] ∧ Mem C w [.row intRep A10 c11 2 xs9 true, .box b5 [vP b2 (o3), vL A10 (xs9) c11] 128] [.dat (ptrRep DawgRep) d1 [vP b2 o3]]) ?_ ?_
 ·refine wp_seq ?_
  refine region_pl ?_
  refine q_ hf rfl rfl rfl (e_move hf rfl) fun a hf => ?_
  refine q_ hf rfl rfl rfl (e_nil hf rfl) fun a hf => ?_
  obtain ⟨_, hr14, hM⟩ := hM.deref (hM.dat (k := 0) rfl)
  obtain ⟨A15, c16, rfl, hv17⟩ := DawgRep_open hr14
  have hM := hM.add (y := .dat (sliceRep NodeRep) d1.Nodes [vL A15 d1.Nodes c16]) hv17
  refine q_ hf rfl rfl rfl (e_field hf rfl Tryd.underlying26 rfl Tryd.sizeOf24 (o' := o3 + 0) rfl) fun a hf => ?_
  refine q_ hf rfl rfl rfl (e_load1 hf rfl Tryd.isAgg24 (hM.litCell (k := 1) (j := 0) rfl rfl rfl)) fun a hf => ?_
  have hl18 := slice_len (hM.dat (k := 0) rfl)
  refine q_ hf rfl rfl rfl (e_lenL hf (x := d1.Nodes) rfl Tryd.underlying24) fun a hf => ?_
  refine q_ hf rfl rfl rfl (e_move hf rfl) fun a hf => ?_
  refine pl_nil ?_
  refine then_n ?_
  refine wp_block ?_
  have hM := hM.nilRow intRep 2
  obtain ⟨x28, h29, h13⟩ := bind_some h13
  refine wp_loopM h29 (fun s a w => ∃ (xs19 : (List Int)) (n22 : Int) (A20 : Option Addr) (c21 : Nat), (xs19, n22) = s ∧ Has 41 a [(0, vP b2 (o3)), (3, vP b5 (0)), (12, vI ((d1.Nodes.length : Int))), (13, vI (n22))] ∧ Mem C w [.row intRep A20 c21 2 xs19 true, .box b5 [vP b2 (o3), vL A20 (xs19) c21] 128] [.dat (sliceRep NodeRep) d1.Nodes [vL A15 d1.Nodes c16], .lit b2 (o3) [vL A15 (d1.Nodes) c16], .dat (ptrRep DawgRep) d1 [vP b2 o3]] ∧ R64 n22) ?_ ?_
  ·exact ⟨([] : (List Int)), 0, none, 0, rfl, hf.keep ⟨rfl, rfl, rfl, rfl, trivial⟩, hM.pick [0, 1, 2] rfl, (R64_lit rfl)⟩
  rintro s o30 a w24 ⟨xs19, n22, A20, c21, rfl, hf, hM, hv23⟩ h31 hd32
  replace h31 : m_spec_l07Counts_l1 d1 xs19 n22 = some o30 := h31
  unfold m_spec_l07Counts_l1 at h31
  refine wp_seq ?_
  refine region_pl ?_
  refine q_ hf rfl rfl rfl (e_lt hf (x := n22) (y := (d1.Nodes.length : Int)) rfl rfl) fun a hf => ?_
  refine pl_nil ?_
  refine then_n ?_
  refine wp_seq ?_
  rcases cond_some h31 with ⟨hc33, h31⟩ | ⟨hc33, h31⟩
  ·refine cond_t hf rfl hc33 ?_
   refine wp_skip ?_
   refine then_n ?_
   refine wp_seq ?_
   refine wp_block ?_
   refine region_pl ?_
   iterate 2 refine q_ hf rfl rfl rfl (e_move hf rfl) fun a hf => ?_
   refine q_ hf rfl rfl rfl (e_nil hf rfl) fun a hf => ?_
   refine q_ hf rfl rfl rfl (e_field hf rfl Tryd.underlying128 rfl Tryd.sizeOf31 (o' := 1) rfl) fun a hf => ?_
   refine q_ hf rfl rfl rfl (e_load1 hf rfl Tryd.isAgg31 (hM.boxCell (k := 1) rfl rfl)) fun a hf => ?_
   refine pl_l hf rfl rfl rfl (w_slice hf hM (K := intRep) (xs := ([(-1)] : (List Int))) (os := [.const (.int .i64 (-1))]) Tryd.underlying31 ei_2 rfl rfl rfl rfl rfl ⟨⟨[vI ((-1))], rfl, ⟨rfl, (R64_lit rfl)⟩⟩, trivial⟩ rfl fun b34 w35 hx36 hM a hf => ?_)
   obtain ⟨xs37, hz38, h31⟩ := bind_some h31
   refine pl_l hf rfl rfl rfl (w_append hf hM Tryd.underlying31 ei_2 rfl rfl rfl (k := 1) rfl (hM.srcRow (k := 0) rfl) hz38 fun A39 c40 w41 hM a hf => ?_)
   dsimp only [List.set] at hM
   refine q_ hf rfl rfl rfl (e_nil hf rfl) fun a hf => ?_
   refine q_ hf rfl rfl rfl (e_field hf rfl Tryd.underlying128 rfl Tryd.sizeOf31 (o' := 1) rfl) fun a hf => ?_
   refine pl_0 hf rfl rfl (w_store hf hM (us := [vL A39 (xs37) c40]) (cs' := [vP b2 (o3), vL A39 (xs37) c40]) rfl rfl (k := 2) rfl rfl Tryd.sizeOf31 rfl rfl rfl fun w44 hM => ?_)
   dsimp only [List.set] at hM
   refine pl_nil ?_
   refine blk_n ?_
   refine then_n ?_
   refine region_pl ?_
   obtain ⟨z47, hz48, h31⟩ := bind_some h31
   refine q_ hf rfl rfl rfl (e_add hf rfl rfl hz48) fun a hf => ?_
   refine q_ hf rfl rfl rfl (e_move hf rfl) fun a hf => ?_
   refine pl_nil ?_
   obtain rfl := some_inj h31
   refine then_n ⟨_, rfl, ?_⟩
   exact ⟨xs37, z47, A39, c40, rfl, hf.keep ⟨rfl, rfl, rfl, rfl, trivial⟩, (hM.drop (.cons _ (.cons_cons _ (.cons_cons _ .slnil)))).pick [0, 1, 2] rfl, (chk_R hz48)⟩
  refine cond_f hf rfl hc33 ?_
  refine wp_exit ?_
  refine then_x ?_
  obtain rfl := some_inj h31
  obtain rfl := hd32 _ rfl
  try dsimp only at h13
  refine then_x ?_
  refine exit_hit ?_
  obtain rfl := some_inj h13
  refine then_n ?_
  exact ⟨xs19, A20, c21, rfl, hf.keep ⟨rfl, rfl, trivial⟩, hM.pick [2] rfl⟩
 rintro a w54 ⟨xs9, A10, c11, rfl, hf, hM⟩
 try dsimp only at h
 obtain ⟨x58, h59, h⟩ := bind_some h
 refine seq_join (fun a w => ∃ (xs55 : (List Int)) (A56 : Option Addr) (c57 : Nat), xs55 = x58 ∧ Has 41 a [(3, vP b5 (0))] ∧ Mem C w [.row intRep A56 c57 2 xs55 true, .box b5 [vP b2 (o3), vL A56 (xs55) c57] 128] [.dat (ptrRep DawgRep) d1 [vP b2 o3]]) ?_ ?_
 ·refine wp_seq ?_
  refine region_pl ?_
  refine q_ hf rfl rfl rfl (e_assign hf rfl) fun a hf => ?_
  refine pl_nil ?_
  refine then_n ?_
  refine wp_block ?_
  obtain ⟨x69, h70, h59⟩ := bind_some h59
  refine wp_loopM h70 (fun s a w => ∃ (xs60 : (List Int)) (n63 : Int) (A61 : Option Addr) (c62 : Nat), (xs60, n63) = s ∧ Has 41 a [(0, vP b2 (o3)), (3, vP b5 (0)), (4, vI (n63))] ∧ Mem C w [.row intRep A61 c62 2 xs60 true, .box b5 [vP b2 (o3), vL A61 (xs60) c62] 128] [.dat (ptrRep DawgRep) d1 [vP b2 o3]] ∧ R64 n63) ?_ ?_
  ·exact ⟨xs9, 0, A10, c11, rfl, hf.keep ⟨rfl, rfl, rfl, trivial⟩, hM.pick [0] rfl, (R64_lit rfl)⟩
  rintro s o71 a w65 ⟨xs60, n63, A61, c62, rfl, hf, hM, hv64⟩ h72 hd73
  replace h72 : m_spec_l07Counts_l2 d1 xs60 n63 = some o71 := h72
  unfold m_spec_l07Counts_l2 at h72
  iterate 2 refine wp_seq ?_
  refine region_pl ?_
  iterate 2 refine q_ hf rfl rfl rfl (e_move hf rfl) fun a hf => ?_
  refine q_ hf rfl rfl rfl (e_nil hf rfl) fun a hf => ?_
  obtain ⟨_, hr74, hM⟩ := hM.deref (hM.dat (k := 0) rfl)
  obtain ⟨A75, c76, rfl, hv77⟩ := DawgRep_open hr74
  have hM := hM.add (y := .dat (sliceRep NodeRep) d1.Nodes [vL A75 d1.Nodes c76]) hv77
  refine q_ hf rfl rfl rfl (e_field hf rfl Tryd.underlying26 rfl Tryd.sizeOf24 (o' := o3 + 0) rfl) fun a hf => ?_
  refine q_ hf rfl rfl rfl (e_load1 hf rfl Tryd.isAgg24 (hM.litCell (k := 1) (j := 0) rfl rfl rfl)) fun a hf => ?_
  have hl78 := slice_len (hM.dat (k := 0) rfl)
  refine q_ hf rfl rfl rfl (e_lenL hf (x := d1.Nodes) rfl Tryd.underlying24) fun a hf => ?_
  refine q_ hf rfl rfl rfl (e_lt hf (x := n63) (y := (d1.Nodes.length : Int)) rfl rfl) fun a hf => ?_
  refine pl_nil ?_
  refine then_n ?_
  rcases cond_some h72 with ⟨hc79, h72⟩ | ⟨hc79, h72⟩
  ·refine cond_t hf rfl hc79 ?_
   refine wp_skip ?_
   refine then_n ?_
   refine wp_seq ?_
   refine wp_block ?_
   refine region_pl ?_
   iterate 2 refine q_ hf rfl rfl rfl (e_move hf rfl) fun a hf => ?_
   have hM := hM.front (k := 0) rfl
   dsimp only [List.eraseIdx] at hM
   have hM := hM.front (k := 1) rfl
   dsimp only [List.eraseIdx] at hM
   have hM : Mem C _ ([.box b5 [vP b2 (o3), vL A61 (xs60) c62] 128, .row intRep A61 c62 2 xs60 true] ++ []) _ := hM
   obtain ⟨y80, hz81, h72⟩ := bind_some h72
   refine pl_l hf rfl rfl rfl (w_call hf Tryd.call91 rfl (r_spec_l07C_count ⟨_, Sh C _ _, ownB _, hM.sh_lt, sub_dis, C.G, hM.g_lt, hM.g_own, hM.tabs⟩ (⟨d1, xs60⟩ : l07C) _ _ _ (hM.dat (k := 2) rfl) _ _ n63 hv64 hM.sub sub_dis _ hz81) ?_)
   rintro _ w85 ⟨A82, c83, rfl, hM2, hv84⟩
   obtain ⟨hM, hup87⟩ := hM.backG hM2
   dsimp only [List.cons_append, List.nil_append] at hM hup87
   clear hM2
   refine ⟨_, rfl, fun a hf => ?_⟩
   refine pl_nil ?_
   refine blk_n ?_
   refine then_n ?_
   refine region_pl ?_
   refine q_ hf rfl rfl rfl (e_move hf rfl) fun a hf => ?_
   obtain ⟨z88, hz89, h72⟩ := bind_some h72
   refine q_ hf rfl rfl rfl (e_add hf rfl rfl hz89) fun a hf => ?_
   refine q_ hf rfl rfl rfl (e_assign hf rfl) fun a hf => ?_
   refine pl_nil ?_
   obtain rfl := some_inj h72
   refine then_n ⟨_, rfl, ?_⟩
   have hM := hM.front (k := 0) rfl
   dsimp only [List.eraseIdx] at hM
   have hM := hM.front (k := 1) rfl
   dsimp only [List.eraseIdx] at hM
   exact ⟨y80.2.out, z88, A82, c83, rfl, hf.keep ⟨rfl, rfl, rfl, trivial⟩, hM.pick [2] rfl, (chk_R hz89)⟩
  refine cond_f hf rfl hc79 ?_
  refine wp_exit ?_
  refine then_x ?_
  obtain rfl := some_inj h72
  obtain rfl := hd73 _ rfl
  try dsimp only at h59
  refine then_x ?_
  refine exit_hit ?_
  obtain rfl := some_inj h59
  refine then_n ?_
  exact ⟨xs60, A61, c62, rfl, hf.keep ⟨rfl, trivial⟩, hM.pick [2] rfl⟩
 rintro a w95 ⟨xs55, A56, c57, rfl, hf, hM⟩
 try dsimp only at h
 refine wp_seq ?_
 refine region_pl ?_
 refine q_ hf rfl rfl rfl (e_move hf rfl) fun a hf => ?_
 refine q_ hf rfl rfl rfl (e_nil hf rfl) fun a hf => ?_
 refine q_ hf rfl rfl rfl (e_field hf rfl Tryd.underlying128 rfl Tryd.sizeOf31 (o' := 1) rfl) fun a hf => ?_
 refine q_ hf rfl rfl rfl (e_load1 hf rfl Tryd.isAgg31 (hM.boxCell (k := 1) rfl rfl)) fun a hf => ?_
 refine q_ hf rfl rfl rfl (e_assign hf rfl) fun a hf => ?_
 refine pl_nil ?_
 refine then_n ?_
 refine wp_ret ?_
 obtain rfl := some_inj h
 have hM := hM.outs (own' := [.row intRep A56 c57 2 xs55 true]) 1 rfl
 exact leave1 hf rfl rfl ⟨A56, c57, rfl, hM.fin⟩

set_option maxRecDepth 100000 in
set_option maxHeartbeats 4000000 in
theorem r_spec_l07Less (C : Cx) (d1 : Dawg) (b2 : Nat) (o3 : Nat) (hp4 : (ptrRep DawgRep).R C.w0 C.S0 d1 [vP b2 o3]) (s5 : Str) (hp6 : s5.length ≤ maxLen) (r : Int) (h : m_spec_l07Less d1 s5 = some r) :
    Calls Tryd.prog 67 #[vP b2 (o3), vS (s5)] C.w0 fun e w => e = .returned (vI (r)) ∧ Mem C w [] [] ∧ R64 r := by
 have hM := Mem.begin C [.dat (ptrRep DawgRep) d1 [vP b2 o3]] ⟨hp4, trivial⟩
 refine enter Tryd.func67 rfl Tryd.ntmps67 rfl fun a hf => ?_
 unfold m_spec_l07Less at h
 refine wp_seq ?_
 refine region_pl ?_
 refine q_ hf rfl rfl rfl (e_assign hf rfl) fun a hf => ?_
 refine pl_nil ?_
 refine then_n ?_
 refine wp_seq ?_
 refine region_pl ?_
 refine q_ hf rfl rfl rfl (e_move hf rfl) fun a hf => ?_
 obtain ⟨y7, hz8, h⟩ := bind_some h
 refine pl_l hf rfl rfl rfl (w_call hf Tryd.call63 rfl (r_spec_l07Counts ⟨_, Sh C _ _, none_, hM.sh_lt, none_not, C.G, hM.g_lt, g_none, hM.tabs⟩ d1 _ _ (hM.dat (k := 0) rfl) _ hz8) ?_)
 rintro _ w11 ⟨A9, c10, rfl, hM2⟩
 obtain ⟨hM, hx12, hup13⟩ := hM.back hM2
 dsimp only [List.cons_append, List.nil_append] at hM hup13
 clear hM2
 refine ⟨_, rfl, fun a hf => ?_⟩
 refine q_ hf rfl rfl rfl (e_assign hf rfl) fun a hf => ?_
 refine pl_nil ?_
 refine then_n ?_
 refine wp_seq ?_
 refine region_pl ?_
 refine q_ hf rfl rfl rfl (e_assign hf rfl) fun a hf => ?_
 refine pl_nil ?_
 refine then_n ?_
 refine wp_seq ?_
 refine region_pl ?_
 refine q_ hf rfl rfl rfl (e_assign hf rfl) fun a hf => ?_
 refine pl_nil ?_
 refine then_n ?_
 obtain ⟨x16, h17, h⟩ := bind_some h
 refine seq_join (fun a w => ∃ (i14 : Int), (.inl i14) = x16 ∧ Has 85 a [(6, vI (i14))] ∧ Mem C w [.row intRep A9 c10 2 y7 true] [.dat (ptrRep DawgRep) d1 [vP b2 o3]] ∧ R64 i14) ?_ ?_
 ·refine wp_seq ?_
  refine region_pl ?_
  refine q_ hf rfl rfl rfl (e_assign hf rfl) fun a hf => ?_
  refine pl_nil ?_
  refine then_n ?_
  refine wp_block ?_
  obtain ⟨x27, h28, h17⟩ := bind_some h17
  refine wp_loopM h28 (fun s a w => ∃ (i18 : Int) (x20 : Int) (next22 : Int), (i18, x20, next22) = s ∧ Has 85 a [(0, vP b2 (o3)), (1, vS (s5)), (5, vL A9 (y7) c10), (6, vI (i18)), (7, vI (x20)), (8, vI (next22))] ∧ Mem C w [.row intRep A9 c10 2 y7 true] [.dat (ptrRep DawgRep) d1 [vP b2 o3]] ∧ R64 i18 ∧ R64 x20 ∧ R64 next22) ?_ ?_
  ·exact ⟨0, 0, 0, rfl, hf.keep ⟨rfl, rfl, rfl, rfl, rfl, rfl, trivial⟩, hM.pick [0] rfl, (R64_lit rfl), (R64_lit rfl), (R64_lit rfl)⟩
  rintro s o29 a w24 ⟨i18, x20, next22, rfl, hf, hM, hv19, hv21, hv23⟩ h30 hd31
  replace h30 : m_spec_l07Less_l1 s5 d1 y7 i18 x20 next22 = some o29 := h30
  unfold m_spec_l07Less_l1 at h30
  iterate 2 refine wp_seq ?_
  refine region_pl ?_
  iterate 2 refine q_ hf rfl rfl rfl (e_move hf rfl) fun a hf => ?_
  refine q_ hf rfl rfl rfl (e_lenS hf (x := s5) rfl Tryd.underlying9) fun a hf => ?_
  refine q_ hf rfl rfl rfl (e_lt hf (x := next22) (y := (s5.length : Int)) rfl rfl) fun a hf => ?_
  refine pl_nil ?_
  refine then_n ?_
  rcases cond_some h30 with ⟨hc32, h30⟩ | ⟨hc32, h30⟩
  ·refine cond_t hf rfl hc32 ?_
   refine wp_skip ?_
   refine then_n ?_
   obtain ⟨x37, h38, h30⟩ := bind_some h30
   refine seq_join (fun a w => ∃ (i33 : Int) (x35 : Int), (.inl (i33, x35)) = x37 ∧ Has 85 a [(0, vP b2 (o3)), (1, vS (s5)), (5, vL A9 (y7) c10), (6, vI (i33)), (7, vI (x35)), (8, vI (next22))] ∧ Mem C w [.row intRep A9 c10 2 y7 true] [.dat (ptrRep DawgRep) d1 [vP b2 o3]] ∧ R64 i33 ∧ R64 x35) ?_ ?_
   ·refine wp_block ?_
    refine wp_seq ?_
    refine region_pl ?_
    refine q_ hf rfl rfl rfl (e_move hf rfl) fun a hf => ?_
    refine q_ hf rfl rfl rfl (e_nil hf rfl) fun a hf => ?_
    obtain ⟨_, hr39, hM⟩ := hM.deref (hM.dat (k := 0) rfl)
    obtain ⟨A40, c41, rfl, hv42⟩ := DawgRep_open hr39
    have hM := hM.add (y := .dat (sliceRep NodeRep) d1.Nodes [vL A40 d1.Nodes c41]) hv42
    refine q_ hf rfl rfl rfl (e_field hf rfl Tryd.underlying26 rfl Tryd.sizeOf24 (o' := o3 + 0) rfl) fun a hf => ?_
    refine q_ hf rfl rfl rfl (e_load1 hf rfl Tryd.isAgg24 (hM.litCell (k := 1) (j := 0) rfl rfl rfl)) fun a hf => ?_
    refine q_ hf rfl rfl rfl (e_move hf rfl) fun a hf => ?_
    obtain ⟨e43, hz44, h38⟩ := bind_some h38
    obtain ⟨b48, o49, _, hA50, h45, h46, hr47, hM⟩ := hM.elem (hM.dat (k := 0) rfl) (n := 3) rfl hz44
    obtain ⟨A52, c53, rfl, hv51, hv54⟩ := NodeRep_open hr47
    have hM := hM.add (y := .dat (sliceRep intRep) e43.Next [vL A52 e43.Next c53]) hv54
    refine q_ hf rfl rfl rfl (e_indexAddr (A := A40) (b := b48) (o := o49) (xs := d1.Nodes) (i := x20) hf hA50 rfl rfl Tryd.underlying24 Tryd.sizeOf76 h45 h46) fun a hf => ?_
    refine q_ hf rfl rfl rfl (e_assign hf rfl) fun a hf => ?_
    refine pl_nil ?_
    refine then_n ?_
    obtain ⟨x57, h58, h38⟩ := bind_some h38
    refine seq_join (fun a w => ∃ (i55 : Int), i55 = x57 ∧ Has 85 a [(0, vP b2 (o3)), (1, vS (s5)), (5, vL A9 (y7) c10), (6, vI (i55)), (8, vI (next22)), (9, vP b48 (o49 + (x20 : Int).toNat * 3))] ∧ Mem C w [.row intRep A9 c10 2 y7 true] [.dat (sliceRep intRep) e43.Next [vL A52 e43.Next c53], .lit b48 (o49 + (x20 : Int).toNat * 3) [.bool (e43.Final), vS (e43.Letters), vL A52 (e43.Next) c53], .dat (sliceRep NodeRep) d1.Nodes [vL A40 d1.Nodes c41], .lit b2 (o3) [vL A40 (d1.Nodes) c41], .dat (ptrRep DawgRep) d1 [vP b2 o3]] ∧ R64 i55) ?_ ?_
    ·refine wp_seq ?_
     refine region_pl ?_
     refine q_ hf rfl rfl rfl (e_move hf rfl) fun a hf => ?_
     refine q_ hf rfl rfl rfl (e_nil hf rfl) fun a hf => ?_
     refine q_ hf rfl rfl rfl (e_field hf rfl Tryd.underlying76 rfl Tryd.sizeOf4 (o' := (o49 + (x20 : Int).toNat * 3) + 0) rfl) fun a hf => ?_
     refine q_ hf rfl rfl rfl (e_load1 hf rfl Tryd.isAgg4 (hM.litCell (k := 1) (j := 0) rfl rfl rfl)) fun a hf => ?_
     refine pl_nil ?_
     refine then_n ?_
     rcases cond_some h58 with ⟨hc59, h58⟩ | ⟨hc59, h58⟩
     ·refine cond_t hf rfl hc59 ?_
      refine region_pl ?_
      refine q_ hf rfl rfl rfl (e_move hf rfl) fun a hf => ?_
      obtain ⟨z60, hz61, h58⟩ := bind_some h58
      refine q_ hf rfl rfl rfl (e_add hf rfl rfl hz61) fun a hf => ?_
      refine q_ hf rfl rfl rfl (e_assign hf rfl) fun a hf => ?_
      refine pl_nil ?_
      obtain rfl := some_inj h58
      refine then_n ?_
      exact ⟨z60, rfl, hf.keep ⟨rfl, rfl, rfl, rfl, rfl, rfl, trivial⟩, hM.pick [0, 1, 2, 3, 4] rfl, (chk_R hz61)⟩
     refine cond_f hf rfl hc59 ?_
     refine wp_skip ?_
     obtain rfl := some_inj h58
     refine then_n ?_
     exact ⟨i18, rfl, hf.keep ⟨rfl, rfl, rfl, rfl, rfl, rfl, trivial⟩, hM.pick [0, 1, 2, 3, 4] rfl, hv19⟩
    rintro a w64 ⟨i55, rfl, hf, hM, hv56⟩
    try dsimp only at h38
    refine wp_seq ?_
    refine region_pl ?_
    refine q_ hf rfl rfl rfl (e_assign hf rfl) fun a hf => ?_
    refine pl_nil ?_
    refine then_n ?_
    obtain ⟨x69, h70, h38⟩ := bind_some h38
    refine seq_join (fun a w => ∃ (n65 : Int) (i67 : Int), (n65, i67) = x69 ∧ Has 85 a [(0, vP b2 (o3)), (1, vS (s5)), (5, vL A9 (y7) c10), (6, vI (i67)), (8, vI (next22)), (10, vI (n65))] ∧ Mem C w [.row intRep A9 c10 2 y7 true] [.dat (sliceRep intRep) e43.Next [vL A52 e43.Next c53], .lit b48 (o49 + (x20 : Int).toNat * 3) [.bool (e43.Final), vS (e43.Letters), vL A52 (e43.Next) c53], .dat (sliceRep NodeRep) d1.Nodes [vL A40 d1.Nodes c41], .lit b2 (o3) [vL A40 (d1.Nodes) c41], .dat (ptrRep DawgRep) d1 [vP b2 o3]] ∧ R64 n65 ∧ R64 i67) ?_ ?_
    ·refine wp_seq ?_
     refine region_pl ?_
     refine q_ hf rfl rfl rfl (e_assign hf rfl) fun a hf => ?_
     refine pl_nil ?_
     refine then_n ?_
     refine wp_block ?_
     obtain ⟨x82, h83, h70⟩ := bind_some h70
     refine wp_loopM h83 (fun s a w => ∃ (n71 : Int) (n73 : Int) (i75 : Int), (n71, n73, i75) = s ∧ Has 85 a [(0, vP b2 (o3)), (1, vS (s5)), (5, vL A9 (y7) c10), (6, vI (i75)), (8, vI (next22)), (9, vP b48 (o49 + (x20 : Int).toNat * 3)), (10, vI (n71)), (11, vI (n73))] ∧ Mem C w [.row intRep A9 c10 2 y7 true] [.dat (sliceRep intRep) e43.Next [vL A52 e43.Next c53], .lit b48 (o49 + (x20 : Int).toNat * 3) [.bool (e43.Final), vS (e43.Letters), vL A52 (e43.Next) c53], .dat (sliceRep NodeRep) d1.Nodes [vL A40 d1.Nodes c41], .lit b2 (o3) [vL A40 (d1.Nodes) c41], .dat (ptrRep DawgRep) d1 [vP b2 o3]] ∧ R64 n71 ∧ R64 n73 ∧ R64 i75) ?_ ?_
     ·exact ⟨(-1), 0, i55, rfl, hf.keep ⟨rfl, rfl, rfl, rfl, rfl, rfl, rfl, rfl, trivial⟩, hM.pick [0, 1, 2, 3, 4] rfl, (R64_lit rfl), (R64_lit rfl), hv56⟩
     rintro s o84 a w77 ⟨n71, n73, i75, rfl, hf, hM, hv72, hv74, hv76⟩ h85 hd86
     replace h85 : m_spec_l07Less_l2 e43 s5 next22 y7 n71 n73 i75 = some o84 := h85
     unfold m_spec_l07Less_l2 at h85
     iterate 2 refine wp_seq ?_
     refine region_pl ?_
     iterate 2 refine q_ hf rfl rfl rfl (e_move hf rfl) fun a hf => ?_
     refine q_ hf rfl rfl rfl (e_nil hf rfl) fun a hf => ?_
     refine q_ hf rfl rfl rfl (e_field hf rfl Tryd.underlying76 rfl Tryd.sizeOf31 (o' := (o49 + (x20 : Int).toNat * 3) + 2) rfl) fun a hf => ?_
     refine q_ hf rfl rfl rfl (e_load1 hf rfl Tryd.isAgg31 (hM.litCell (k := 1) (j := 2) rfl rfl rfl)) fun a hf => ?_
     have hl87 := slice_len (hM.dat (k := 0) rfl)
     refine q_ hf rfl rfl rfl (e_lenL hf (x := e43.Next) rfl Tryd.underlying31) fun a hf => ?_
     refine q_ hf rfl rfl rfl (e_lt hf (x := n73) (y := (e43.Next.length : Int)) rfl rfl) fun a hf => ?_
     refine pl_nil ?_
     refine then_n ?_
     rcases cond_some h85 with ⟨hc88, h85⟩ | ⟨hc88, h85⟩
     ·refine cond_t hf rfl hc88 ?_
      refine wp_skip ?_
      refine then_n ?_
      obtain ⟨x93, h94, h85⟩ := bind_some h85
      refine seq_join (fun a w => ∃ (n89 : Int) (i91 : Int), (n89, i91) = x93 ∧ Has 85 a [(0, vP b2 (o3)), (1, vS (s5)), (5, vL A9 (y7) c10), (6, vI (i91)), (8, vI (next22)), (9, vP b48 (o49 + (x20 : Int).toNat * 3)), (10, vI (n89)), (11, vI (n73))] ∧ Mem C w [.row intRep A9 c10 2 y7 true] [.dat (sliceRep intRep) e43.Next [vL A52 e43.Next c53], .lit b48 (o49 + (x20 : Int).toNat * 3) [.bool (e43.Final), vS (e43.Letters), vL A52 (e43.Next) c53], .dat (sliceRep NodeRep) d1.Nodes [vL A40 d1.Nodes c41], .lit b2 (o3) [vL A40 (d1.Nodes) c41], .dat (ptrRep DawgRep) d1 [vP b2 o3]] ∧ R64 n89 ∧ R64 i91) ?_ ?_
      ·refine wp_block ?_
       obtain ⟨x97, h98, h94⟩ := bind_some h94
       refine seq_join (fun a w => ∃ (i95 : Int), i95 = x97 ∧ Has 85 a [(0, vP b2 (o3)), (1, vS (s5)), (5, vL A9 (y7) c10), (6, vI (i95)), (8, vI (next22)), (9, vP b48 (o49 + (x20 : Int).toNat * 3)), (10, vI (n71)), (11, vI (n73))] ∧ Mem C w [.row intRep A9 c10 2 y7 true] [.dat (sliceRep intRep) e43.Next [vL A52 e43.Next c53], .lit b48 (o49 + (x20 : Int).toNat * 3) [.bool (e43.Final), vS (e43.Letters), vL A52 (e43.Next) c53], .dat (sliceRep NodeRep) d1.Nodes [vL A40 d1.Nodes c41], .lit b2 (o3) [vL A40 (d1.Nodes) c41], .dat (ptrRep DawgRep) d1 [vP b2 o3]] ∧ R64 i95) ?_ ?_
       ·refine wp_seq ?_
        obtain ⟨w99, hw⟩ : ∃ x, x = w77.drew := ⟨_, rfl⟩
        refine region_pi (.q 0 (.q 1 (.q 2 (.q 3 (.q 4 (.q 5 (.q 6 (.q 7 (.q 8 (.q 9 (.nil))))))))))) (Ext w99) rfl (by kernel_rfl) ?_
        have hM := hM.drew
        rw [← hw] at hM ⊢
        clear hw
        refine pi_q hf rfl rfl rfl rfl (Ext.refl _) (e_move hf rfl) fun a hf => ?_
        refine pi_q hf rfl rfl rfl rfl (Ext.refl _) (e_nil hf rfl) fun a hf => ?_
        refine pi_q hf rfl rfl rfl rfl (Ext.refl _) (e_field hf rfl Tryd.underlying76 rfl Tryd.sizeOf9 (o' := (o49 + (x20 : Int).toNat * 3) + 1) rfl) fun a hf => ?_
        refine pi_q hf rfl rfl rfl rfl (Ext.refl _) (e_load1 hf rfl Tryd.isAgg9 (hM.litCell (k := 1) (j := 1) rfl rfl rfl)) fun a hf => ?_
        refine pi_q hf rfl rfl rfl rfl (Ext.refl _) (e_move hf rfl) fun a hf => ?_
        obtain ⟨c100, hz101, h98⟩ := bind_some h98
        refine pi_q hf rfl rfl rfl rfl (Ext.refl _) (e_indexS hf (x := e43.Letters) rfl rfl Tryd.underlying9 hz101) fun a hf => ?_
        iterate 2 refine pi_q hf rfl rfl rfl rfl (Ext.refl _) (e_move hf rfl) fun a hf => ?_
        obtain ⟨c102, hz103, h98⟩ := bind_some h98
        refine pi_q hf rfl rfl rfl rfl (Ext.refl _) (e_indexS hf (x := s5) rfl rfl Tryd.underlying9 hz103) fun a hf => ?_
        refine pi_q hf rfl rfl rfl rfl (Ext.refl _) (e_ltB hf (x := c100) (y := c102) rfl rfl) fun a hf => ?_
        refine pi_nil ?_
        refine then_n ?_
        rcases cond_some h98 with ⟨hc104, h98⟩ | ⟨hc104, h98⟩
        ·refine cond_t hf rfl hc104 ?_
         refine region_pl ?_
         iterate 3 refine q_ hf rfl rfl rfl (e_move hf rfl) fun a hf => ?_
         refine q_ hf rfl rfl rfl (e_nil hf rfl) fun a hf => ?_
         refine q_ hf rfl rfl rfl (e_field hf rfl Tryd.underlying76 rfl Tryd.sizeOf31 (o' := (o49 + (x20 : Int).toNat * 3) + 2) rfl) fun a hf => ?_
         refine q_ hf rfl rfl rfl (e_load1 hf rfl Tryd.isAgg31 (hM.litCell (k := 1) (j := 2) rfl rfl rfl)) fun a hf => ?_
         refine q_ hf rfl rfl rfl (e_move hf rfl) fun a hf => ?_
         obtain ⟨e105, hz106, h98⟩ := bind_some h98
         obtain ⟨b110, o111, _, hA112, h107, h108, hr109, hM⟩ := hM.elem (hM.dat (k := 0) rfl) (n := 1) rfl hz106
         obtain ⟨rfl, hv113⟩ := hr109
         refine q_ hf rfl rfl rfl (e_indexAddr (A := A52) (b := b110) (o := o111) (xs := e43.Next) (i := n73) hf hA112 rfl rfl Tryd.underlying31 Tryd.sizeOf2 h107 h108) fun a hf => ?_
         refine q_ hf rfl rfl rfl (e_load1 hf rfl Tryd.isAgg2 (hM.litCell (k := 0) (j := 0) rfl rfl rfl)) fun a hf => ?_
         obtain ⟨e114, hz115, h98⟩ := bind_some h98
         obtain ⟨b120, _, hA121, h116, h117, hr118, hcell119⟩ := hM.rowElemN (k := 0) rfl (n := 1) rfl hz115
         obtain ⟨rfl, hv122⟩ := hr118
         refine q_ hf rfl rfl rfl (e_indexAddr (A := A9) (b := b120) (o := 0) (xs := y7) (i := e105) hf hA121 rfl rfl Tryd.underlying31 Tryd.sizeOf2 h116 h117) fun a hf => ?_
         refine q_ hf rfl rfl rfl (e_load1 hf rfl Tryd.isAgg2 (hcell119 0 _ rfl)) fun a hf => ?_
         obtain ⟨z123, hz124, h98⟩ := bind_some h98
         refine q_ hf rfl rfl rfl (e_add hf rfl rfl hz124) fun a hf => ?_
         refine q_ hf rfl rfl rfl (e_assign hf rfl) fun a hf => ?_
         refine pl_nil ?_
         obtain rfl := some_inj h98
         refine then_n ?_
         exact ⟨z123, rfl, hf.keep ⟨rfl, rfl, rfl, rfl, rfl, rfl, rfl, rfl, trivial⟩, hM.pick [1, 2, 3, 4, 5] rfl, (chk_R hz124)⟩
        refine cond_f hf rfl hc104 ?_
        refine wp_skip ?_
        obtain rfl := some_inj h98
        refine then_n ?_
        exact ⟨i75, rfl, hf.keep ⟨rfl, rfl, rfl, rfl, rfl, rfl, rfl, rfl, trivial⟩, hM.pick [0, 1, 2, 3, 4] rfl, hv76⟩
       rintro a w127 ⟨i95, rfl, hf, hM, hv96⟩
       try dsimp only at h94
       refine wp_seq ?_
       obtain ⟨w128, hw⟩ : ∃ x, x = w127.drew := ⟨_, rfl⟩
       refine region_pi (.q 0 (.q 1 (.q 2 (.q 3 (.q 4 (.q 5 (.q 6 (.q 7 (.q 8 (.q 9 (.nil))))))))))) (Ext w128) rfl (by kernel_rfl) ?_
       have hM := hM.drew
       rw [← hw] at hM ⊢
       clear hw
       refine pi_q hf rfl rfl rfl rfl (Ext.refl _) (e_move hf rfl) fun a hf => ?_
       refine pi_q hf rfl rfl rfl rfl (Ext.refl _) (e_nil hf rfl) fun a hf => ?_
       refine pi_q hf rfl rfl rfl rfl (Ext.refl _) (e_field hf rfl Tryd.underlying76 rfl Tryd.sizeOf9 (o' := (o49 + (x20 : Int).toNat * 3) + 1) rfl) fun a hf => ?_
       refine pi_q hf rfl rfl rfl rfl (Ext.refl _) (e_load1 hf rfl Tryd.isAgg9 (hM.litCell (k := 1) (j := 1) rfl rfl rfl)) fun a hf => ?_
       refine pi_q hf rfl rfl rfl rfl (Ext.refl _) (e_move hf rfl) fun a hf => ?_
       obtain ⟨c129, hz130, h94⟩ := bind_some h94
       refine pi_q hf rfl rfl rfl rfl (Ext.refl _) (e_indexS hf (x := e43.Letters) rfl rfl Tryd.underlying9 hz130) fun a hf => ?_
       iterate 2 refine pi_q hf rfl rfl rfl rfl (Ext.refl _) (e_move hf rfl) fun a hf => ?_
       obtain ⟨c131, hz132, h94⟩ := bind_some h94
       refine pi_q hf rfl rfl rfl rfl (Ext.refl _) (e_indexS hf (x := s5) rfl rfl Tryd.underlying9 hz132) fun a hf => ?_
       refine pi_q hf rfl rfl rfl rfl (Ext.refl _) (e_eqB hf (x := c129) (y := c131) rfl rfl) fun a hf => ?_
       refine pi_nil ?_
       refine then_n ?_
       rcases cond_some h94 with ⟨hc133, h94⟩ | ⟨hc133, h94⟩
       ·refine cond_t hf rfl hc133 ?_
        refine region_pl ?_
        refine q_ hf rfl rfl rfl (e_move hf rfl) fun a hf => ?_
        refine q_ hf rfl rfl rfl (e_nil hf rfl) fun a hf => ?_
        refine q_ hf rfl rfl rfl (e_field hf rfl Tryd.underlying76 rfl Tryd.sizeOf31 (o' := (o49 + (x20 : Int).toNat * 3) + 2) rfl) fun a hf => ?_
        refine q_ hf rfl rfl rfl (e_load1 hf rfl Tryd.isAgg31 (hM.litCell (k := 1) (j := 2) rfl rfl rfl)) fun a hf => ?_
        refine q_ hf rfl rfl rfl (e_move hf rfl) fun a hf => ?_
        obtain ⟨e134, hz135, h94⟩ := bind_some h94
        obtain ⟨b139, o140, _, hA141, h136, h137, hr138, hM⟩ := hM.elem (hM.dat (k := 0) rfl) (n := 1) rfl hz135
        obtain ⟨rfl, hv142⟩ := hr138
        refine q_ hf rfl rfl rfl (e_indexAddr (A := A52) (b := b139) (o := o140) (xs := e43.Next) (i := n73) hf hA141 rfl rfl Tryd.underlying31 Tryd.sizeOf2 h136 h137) fun a hf => ?_
        refine q_ hf rfl rfl rfl (e_load1 hf rfl Tryd.isAgg2 (hM.litCell (k := 0) (j := 0) rfl rfl rfl)) fun a hf => ?_
        refine q_ hf rfl rfl rfl (e_assign hf rfl) fun a hf => ?_
        refine pl_nil ?_
        refine blk_n ?_
        obtain rfl := some_inj h94
        refine then_n ?_
        exact ⟨e134, i95, rfl, hf.keep ⟨rfl, rfl, rfl, rfl, rfl, rfl, rfl, rfl, trivial⟩, hM.pick [1, 2, 3, 4, 5] rfl, hv142, hv96⟩
       refine cond_f hf rfl hc133 ?_
       refine wp_skip ?_
       refine blk_n ?_
       obtain rfl := some_inj h94
       refine then_n ?_
       exact ⟨n71, i95, rfl, hf.keep ⟨rfl, rfl, rfl, rfl, rfl, rfl, rfl, rfl, trivial⟩, hM.pick [0, 1, 2, 3, 4] rfl, hv72, hv96⟩
      rintro a w145 ⟨n89, i91, rfl, hf, hM, hv90, hv92⟩
      try dsimp only at h85
      refine region_pl ?_
      refine q_ hf rfl rfl rfl (e_move hf rfl) fun a hf => ?_
      obtain ⟨z146, hz147, h85⟩ := bind_some h85
      refine q_ hf rfl rfl rfl (e_add hf rfl rfl hz147) fun a hf => ?_
      refine q_ hf rfl rfl rfl (e_assign hf rfl) fun a hf => ?_
      refine pl_nil ?_
      obtain rfl := some_inj h85
      refine then_n ⟨_, rfl, ?_⟩
      exact ⟨n89, z146, i91, rfl, hf.keep ⟨rfl, rfl, rfl, rfl, rfl, rfl, rfl, rfl, trivial⟩, hM.pick [0, 1, 2, 3, 4] rfl, hv90, (chk_R hz147), hv92⟩
     refine cond_f hf rfl hc88 ?_
     refine wp_exit ?_
     refine then_x ?_
     obtain rfl := some_inj h85
     obtain rfl := hd86 _ rfl
     try dsimp only at h70
     refine then_x ?_
     refine exit_hit ?_
     obtain rfl := some_inj h70
     refine then_n ?_
     exact ⟨n71, i75, rfl, hf.keep ⟨rfl, rfl, rfl, rfl, rfl, rfl, trivial⟩, hM.pick [0, 1, 2, 3, 4] rfl, hv72, hv76⟩
    rintro a w153 ⟨n65, i67, rfl, hf, hM, hv66, hv68⟩
    try dsimp only at h38
    iterate 2 refine wp_seq ?_
    refine region_pl ?_
    refine q_ hf rfl rfl rfl (e_move hf rfl) fun a hf => ?_
    refine q_ hf rfl rfl rfl (e_lt hf (x := n65) (y := 0) rfl rfl) fun a hf => ?_
    refine pl_nil ?_
    refine then_n ?_
    rcases cond_some h38 with ⟨hc154, h38⟩ | ⟨hc154, h38⟩
    ·refine cond_t hf rfl hc154 ?_
     refine wp_seq ?_
     refine region_pl ?_
     refine q_ hf rfl rfl rfl (e_move hf rfl) fun a hf => ?_
     refine q_ hf rfl rfl rfl (e_assign hf rfl) fun a hf => ?_
     refine pl_nil ?_
     refine then_n ?_
     refine wp_ret ?_
     refine then_r ?_
     refine blk_r ?_
     obtain rfl := some_inj h38
     try dsimp only at h30
     refine then_r ?_
     obtain rfl := some_inj h30
     obtain rfl := hd31 _ rfl
     try dsimp only at h17
     refine then_r ?_
     refine blk_r ?_
     obtain rfl := some_inj h17
     try dsimp only at h
     refine then_r ?_
     obtain rfl := some_inj h
     have hM := hM.outs (own' := []) 0 rfl
     exact leave1 hf rfl rfl ⟨rfl, hM.fin, hv68⟩
    refine cond_f hf rfl hc154 ?_
    refine wp_skip ?_
    refine then_n ?_
    refine region_pl ?_
    refine q_ hf rfl rfl rfl (e_move hf rfl) fun a hf => ?_
    refine q_ hf rfl rfl rfl (e_assign hf rfl) fun a hf => ?_
    refine pl_nil ?_
    refine blk_n ?_
    obtain rfl := some_inj h38
    refine then_n ?_
    exact ⟨i67, n65, rfl, hf.keep ⟨rfl, rfl, rfl, rfl, rfl, rfl, trivial⟩, hM.pick [4] rfl, hv68, hv66⟩
   rintro a w156 ⟨i33, x35, rfl, hf, hM, hv34, hv36⟩
   try dsimp only at h30
   refine region_pl ?_
   refine q_ hf rfl rfl rfl (e_move hf rfl) fun a hf => ?_
   obtain ⟨z157, hz158, h30⟩ := bind_some h30
   refine q_ hf rfl rfl rfl (e_add hf rfl rfl hz158) fun a hf => ?_
   refine q_ hf rfl rfl rfl (e_assign hf rfl) fun a hf => ?_
   refine pl_nil ?_
   obtain rfl := some_inj h30
   refine then_n ⟨_, rfl, ?_⟩
   exact ⟨i33, x35, z157, rfl, hf.keep ⟨rfl, rfl, rfl, rfl, rfl, rfl, trivial⟩, hM.pick [0] rfl, hv34, hv36, (chk_R hz158)⟩
  refine cond_f hf rfl hc32 ?_
  refine wp_exit ?_
  refine then_x ?_
  obtain rfl := some_inj h30
  obtain rfl := hd31 _ rfl
  try dsimp only at h17
  refine then_x ?_
  refine exit_hit ?_
  obtain rfl := some_inj h17
  refine then_n ?_
  exact ⟨i18, rfl, hf.keep ⟨rfl, trivial⟩, hM.pick [0] rfl, hv19⟩
 rintro a w166 ⟨i14, rfl, hf, hM, hv15⟩
 try dsimp only at h
 refine wp_seq ?_
 refine region_pl ?_
 refine q_ hf rfl rfl rfl (e_move hf rfl) fun a hf => ?_
 refine q_ hf rfl rfl rfl (e_assign hf rfl) fun a hf => ?_
 refine pl_nil ?_
 refine then_n ?_
 refine wp_ret ?_
 obtain rfl := some_inj h
 have hM := hM.outs (own' := []) 0 rfl
 exact leave1 hf rfl rfl ⟨rfl, hM.fin, hv15⟩

set_option maxRecDepth 100000 in
set_option maxHeartbeats 4000000 in
theorem r_spec_RangeOf (C : Cx) (d1 : Dawg) (A2 : Option Addr) (c3 : Nat) (hp4 : (sliceRep NodeRep).R C.w0 C.S0 d1.Nodes [vL A2 d1.Nodes c3]) (prefix_5 : Str) (hp6 : prefix_5.length ≤ maxLen) (r : (Int × Int × Int)) (h : m_spec_RangeOf d1 prefix_5 = some r) :
    Calls Tryd.prog 36 #[.agg #[vL A2 (d1.Nodes) c3], vS (prefix_5)] C.w0 fun e w => e = .returned (.tuple #[vI (r.1), vI (r.2.1), vI (r.2.2)]) ∧ Mem C w [] [] ∧ R64 r.1 ∧ R64 r.2.1 ∧ R64 r.2.2 := by
 have hM := Mem.begin C [.dat (sliceRep NodeRep) d1.Nodes [vL A2 d1.Nodes c3]] ⟨hp4, trivial⟩
 refine enter Tryd.func36 rfl Tryd.ntmps36 rfl fun a hf => ?_
 unfold m_spec_RangeOf at h
 refine wp_seq ?_
 refine region_pl ?_
 refine pl_l hf rfl rfl rfl (w_box hf hM (cs := [vL A2 (d1.Nodes) c3]) rfl rfl fun b7 w8 hx9 hM a hf => ?_)
 iterate 3 refine q_ hf rfl rfl rfl (e_assign hf rfl) fun a hf => ?_
 refine pl_nil ?_
 refine then_n ?_
 iterate 2 refine wp_seq ?_
 refine region_pl ?_
 obtain ⟨y11, hz12, h⟩ := bind_some h
 refine pl_l hf rfl rfl rfl (w_call hf Tryd.call43 rfl (r_spec_l06Ok ⟨_, All C _ _, none_, hM.all_lt, none_not, C.G, hM.g_lt, g_none, hM.tabs⟩ d1 _ _ (hM.lendBox (k := 0) rfl (DawgRep_mk (x := d1) (hM.lendDat (k := 0) rfl))) _ hz12) ?_)
 rintro _ w13 ⟨rfl, hM2⟩
 obtain ⟨hM, hx14⟩ := hM.backA hM2
 clear hM2
 refine ⟨_, rfl, fun a hf => ?_⟩
 refine q_ hf rfl rfl rfl (e_not hf rfl) fun a hf => ?_
 refine pl_nil ?_
 refine then_n ?_
 rcases cond_some h with ⟨hc16, h⟩ | ⟨hc16, h⟩
 ·refine cond_t hf rfl hc16 ?_
  refine wp_seq ?_
  refine region_pl ?_
  iterate 3 refine q_ hf rfl rfl rfl (e_assign hf rfl) fun a hf => ?_
  refine pl_nil ?_
  refine then_n ?_
  refine wp_ret ?_
  refine then_r ?_
  obtain rfl := some_inj h
  have hres17 := leaveV3 (P := Tryd.prog) (w := w13) Tryd.results36 (res_tmp hf rfl) (res_tmp hf rfl) (res_tmp hf rfl)
  have hM := hM.outs (own' := []) 0 rfl
  exact bodyPost_ret hres17 hf.defers ⟨rfl, hM.fin, (R64_lit rfl), (R64_lit rfl), (R64_lit rfl)⟩
 refine cond_f hf rfl hc16 ?_
 refine wp_skip ?_
 refine then_n ?_
 refine wp_seq ?_
 refine region_pl ?_
 refine q_ hf rfl rfl rfl (e_move hf rfl) fun a hf => ?_
 obtain ⟨y18, hz19, h⟩ := bind_some h
 refine pl_l hf rfl rfl rfl (w_call hf Tryd.call61 rfl (r_spec_l06After ⟨_, All C _ _, none_, hM.all_lt, none_not, C.G, hM.g_lt, g_none, hM.tabs⟩ d1 _ _ (hM.lendBox (k := 0) rfl (DawgRep_mk (x := d1) (hM.lendDat (k := 0) rfl))) 0 (R64_lit rfl) prefix_5 hp6 _ hz19) ?_)
 rintro _ w21 ⟨rfl, hM2, hv20⟩
 obtain ⟨hM, hx22⟩ := hM.backA hM2
 clear hM2
 refine ⟨_, rfl, fun a hf => ?_⟩
 refine q_ hf rfl rfl rfl (e_assign hf rfl) fun a hf => ?_
 refine pl_nil ?_
 refine then_n ?_
 refine wp_seq ?_
 refine region_pl ?_
 refine q_ hf rfl rfl rfl (e_assign hf rfl) fun a hf => ?_
 refine pl_nil ?_
 refine then_n ?_
 obtain ⟨x26, h27, h⟩ := bind_some h
 refine seq_join (fun a w => ∃ (n24 : Int), n24 = x26 ∧ Has 22 a [(1, vS (prefix_5)), (2, vP b7 (0)), (8, vI (n24))] ∧ Mem C w [.box b7 [vL A2 (d1.Nodes) c3] 26] [.dat (sliceRep NodeRep) d1.Nodes [vL A2 d1.Nodes c3]] ∧ R64 n24) ?_ ?_
 ·refine wp_seq ?_
  refine region_pl ?_
  refine q_ hf rfl rfl rfl (e_move hf rfl) fun a hf => ?_
  refine q_ hf rfl rfl rfl (e_ge hf (x := y18) (y := 0) rfl rfl) fun a hf => ?_
  refine pl_nil ?_
  refine then_n ?_
  rcases cond_some h27 with ⟨hc28, h27⟩ | ⟨hc28, h27⟩
  ·refine cond_t hf rfl hc28 ?_
   refine region_pl ?_
   obtain ⟨y29, hz30, h27⟩ := bind_some h27
   refine pl_l hf rfl rfl rfl (w_call hf Tryd.call63 rfl (r_spec_l07Counts ⟨_, All C _ _, none_, hM.all_lt, none_not, C.G, hM.g_lt, g_none, hM.tabs⟩ d1 _ _ (hM.lendBox (k := 0) rfl (DawgRep_mk (x := d1) (hM.lendDat (k := 0) rfl))) _ hz30) ?_)
   rintro _ w33 ⟨A31, c32, rfl, hM2⟩
   obtain ⟨hM, hx34⟩ := hM.backAF intRep_flat hM2
   clear hM2
   refine ⟨_, rfl, fun a hf => ?_⟩
   refine q_ hf rfl rfl rfl (e_move hf rfl) fun a hf => ?_
   obtain ⟨e36, hz37, h27⟩ := bind_some h27
   obtain ⟨b42, _, hA43, h38, h39, hr40, hcell41⟩ := hM.rowElemN (k := 0) rfl (n := 1) rfl hz37
   obtain ⟨rfl, hv44⟩ := hr40
   refine q_ hf rfl rfl rfl (e_indexAddr (A := A31) (b := b42) (o := 0) (xs := y29) (i := y18) hf hA43 rfl rfl Tryd.underlying31 Tryd.sizeOf2 h38 h39) fun a hf => ?_
   refine q_ hf rfl rfl rfl (e_load1 hf rfl Tryd.isAgg2 (hcell41 0 _ rfl)) fun a hf => ?_
   refine q_ hf rfl rfl rfl (e_assign hf rfl) fun a hf => ?_
   refine pl_nil ?_
   obtain rfl := some_inj h27
   refine then_n ?_
   exact ⟨e36, rfl, hf.keep ⟨rfl, rfl, rfl, trivial⟩, (hM.drop (.cons _ (.cons_cons _ .slnil))).pick [0] rfl, hv44⟩
  refine cond_f hf rfl hc28 ?_
  refine wp_skip ?_
  obtain rfl := some_inj h27
  refine then_n ?_
  exact ⟨0, rfl, hf.keep ⟨rfl, rfl, rfl, trivial⟩, hM.pick [0] rfl, (R64_lit rfl)⟩
 rintro a w47 ⟨n24, rfl, hf, hM, hv25⟩
 try dsimp only at h
 refine wp_seq ?_
 refine region_pl ?_
 refine q_ hf rfl rfl rfl (e_move hf rfl) fun a hf => ?_
 obtain ⟨y48, hz49, h⟩ := bind_some h
 refine pl_l hf rfl rfl rfl (w_call hf Tryd.call67 rfl (r_spec_l07Less ⟨_, All C _ _, none_, hM.all_lt, none_not, C.G, hM.g_lt, g_none, hM.tabs⟩ d1 _ _ (hM.lendBox (k := 0) rfl (DawgRep_mk (x := d1) (hM.lendDat (k := 0) rfl))) prefix_5 hp6 _ hz49) ?_)
 rintro _ w51 ⟨rfl, hM2, hv50⟩
 obtain ⟨hM, hx52⟩ := hM.backA hM2
 clear hM2
 refine ⟨_, rfl, fun a hf => ?_⟩
 refine q_ hf rfl rfl rfl (e_move hf rfl) fun a hf => ?_
 iterate 3 refine q_ hf rfl rfl rfl (e_assign hf rfl) fun a hf => ?_
 refine pl_nil ?_
 refine then_n ?_
 refine wp_ret ?_
 obtain rfl := some_inj h
 have hres54 := leaveV3 (P := Tryd.prog) (w := w51) Tryd.results36 (res_tmp hf rfl) (res_tmp hf rfl) (res_tmp hf rfl)
 have hM := hM.outs (own' := []) 0 rfl
 exact bodyPost_ret hres54 hf.defers ⟨rfl, hM.fin, hv50, hv25, (R64_lit rfl)⟩

set_option maxRecDepth 100000 in
set_option maxHeartbeats 4000000 in
theorem r_impl_WordsOf (C : Cx) (d1 : Dawg) (A2 : Option Addr) (c3 : Nat) (hp4 : (sliceRep NodeRep).R C.w0 C.S0 d1.Nodes [vL A2 d1.Nodes c3]) (r : ((List Str) × Int)) (h : m_impl_WordsOf d1 = some r) :
    Calls Tryd.prog 39 #[.agg #[vL A2 (d1.Nodes) c3]] C.w0 fun e w => ∃ (A_1 : Option Addr), ∃ (c_1 : Nat), e = .returned (.tuple #[vL A_1 (r.1) c_1, vI (r.2)]) ∧ Mem C w [.row strRep A_1 c_1 9 r.1 true] [] ∧ R64 r.2 := by
 have hM := Mem.begin C [.dat (sliceRep NodeRep) d1.Nodes [vL A2 d1.Nodes c3]] ⟨hp4, trivial⟩
 refine enter Tryd.func39 rfl Tryd.ntmps39 rfl fun a hf => ?_
 unfold m_impl_WordsOf at h
 refine wp_seq ?_
 refine region_pl ?_
 refine pl_l hf rfl rfl rfl (w_box hf hM (cs := [vL A2 (d1.Nodes) c3]) rfl rfl fun b5 w6 hx7 hM a hf => ?_)
 iterate 2 refine q_ hf rfl rfl rfl (e_assign hf rfl) fun a hf => ?_
 refine pl_nil ?_
 refine then_n ?_
 iterate 2 refine wp_seq ?_
 refine region_pl ?_
 refine q_ hf rfl rfl rfl (e_loadA hf (us := [vL A2 (d1.Nodes) c3]) rfl ⟨Tryd.isAgg26, Tryd.sizeOf26⟩ rfl (hM.boxSub (k := 0) (us := [vL A2 (d1.Nodes) c3]) (o := 0) rfl rfl)) fun a hf => ?_
 obtain ⟨y9, hz10, h⟩ := bind_some h
 refine pl_l hf rfl rfl rfl (w_call hf Tryd.call45 rfl (r_impl_ValidDawg ⟨_, Sh C _ _, none_, hM.sh_lt, none_not, C.G, hM.g_lt, g_none, hM.tabs⟩ d1 _ _ (hM.dat (k := 0) rfl) _ hz10) ?_)
 rintro _ w11 ⟨rfl, hM2⟩
 obtain ⟨hM, hx12, hup13⟩ := hM.back hM2
 dsimp only [List.cons_append, List.nil_append] at hM hup13
 clear hM2
 refine ⟨_, rfl, fun a hf => ?_⟩
 refine q_ hf rfl rfl rfl (e_not hf rfl) fun a hf => ?_
 refine pl_nil ?_
 refine then_n ?_
 rcases cond_some h with ⟨hc14, h⟩ | ⟨hc14, h⟩
 ·refine cond_t hf rfl hc14 ?_
  refine wp_seq ?_
  refine region_pl ?_
  iterate 2 refine q_ hf rfl rfl rfl (e_assign hf rfl) fun a hf => ?_
  refine pl_nil ?_
  refine then_n ?_
  refine wp_ret ?_
  refine then_r ?_
  obtain rfl := some_inj h
  have hM := hM.nilRow strRep 9
  have hM := hM.outs (own' := [.row strRep none 0 9 ([] : (List Str)) true]) 1 rfl
  exact leave2 hf rfl rfl rfl ⟨none, 0, rfl, hM.fin, (R64_lit rfl)⟩
 refine cond_f hf rfl hc14 ?_
 refine wp_skip ?_
 refine then_n ?_
 refine wp_seq ?_
 refine region_pl ?_
 refine q_ hf rfl rfl rfl (e_loadA hf (us := [vL A2 (d1.Nodes) c3]) rfl ⟨Tryd.isAgg26, Tryd.sizeOf26⟩ rfl (hM.boxSub (k := 0) (us := [vL A2 (d1.Nodes) c3]) (o := 0) rfl rfl)) fun a hf => ?_
 obtain ⟨y15, hz16, h⟩ := bind_some h
 refine pl_l hf rfl rfl rfl (w_call hf Tryd.call49 rfl (r_impl_Dawg_words ⟨_, Sh C _ _, none_, hM.sh_lt, none_not, C.G, hM.g_lt, g_none, hM.tabs⟩ d1 _ _ (hM.dat (k := 0) rfl) _ hz16) ?_)
 rintro _ w19 ⟨A17, c18, rfl, hM2⟩
 obtain ⟨hM, hx20, hup21⟩ := hM.back hM2
 dsimp only [List.cons_append, List.nil_append] at hM hup21
 clear hM2
 refine ⟨_, rfl, fun a hf => ?_⟩
 iterate 2 refine q_ hf rfl rfl rfl (e_assign hf rfl) fun a hf => ?_
 refine pl_nil ?_
 refine then_n ?_
 refine wp_ret ?_
 obtain rfl := some_inj h
 have hM := hM.outs (own' := [.row strRep A17 c18 9 y15 true]) 1 rfl
 exact leave2 hf rfl rfl rfl ⟨A17, c18, rfl, hM.fin, (R64_lit rfl)⟩

set_option maxRecDepth 100000 in
set_option maxHeartbeats 4000000 in
theorem r_spec_l06Accepts (C : Cx) (d1 : Dawg) (b2 : Nat) (o3 : Nat) (hp4 : (ptrRep DawgRep).R C.w0 C.S0 d1 [vP b2 o3]) (s5 : Str) (hp6 : s5.length ≤ maxLen) (r : Bool) (h : m_spec_l06Accepts d1 s5 = some r) :
    Calls Tryd.prog 58 #[vP b2 (o3), vS (s5)] C.w0 fun e w => e = .returned (.bool (r)) ∧ Mem C w [] [] := by
 have hM := Mem.begin C [.dat (ptrRep DawgRep) d1 [vP b2 o3]] ⟨hp4, trivial⟩
 refine enter Tryd.func58 rfl Tryd.ntmps58 rfl fun a hf => ?_
 unfold m_spec_l06Accepts at h
 refine wp_seq ?_
 refine region_pl ?_
 refine q_ hf rfl rfl rfl (e_assign hf rfl) fun a hf => ?_
 refine pl_nil ?_
 refine then_n ?_
 refine wp_seq ?_
 refine region_pl ?_
 iterate 2 refine q_ hf rfl rfl rfl (e_move hf rfl) fun a hf => ?_
 obtain ⟨y7, hz8, h⟩ := bind_some h
 refine pl_l hf rfl rfl rfl (w_call hf Tryd.call61 rfl (r_spec_l06After ⟨_, Sh C _ _, none_, hM.sh_lt, none_not, C.G, hM.g_lt, g_none, hM.tabs⟩ d1 _ _ (hM.dat (k := 0) rfl) 0 (R64_lit rfl) s5 hp6 _ hz8) ?_)
 rintro _ w10 ⟨rfl, hM2, hv9⟩
 obtain ⟨hM, hx11, hup12⟩ := hM.back hM2
 dsimp only [List.cons_append, List.nil_append] at hM hup12
 clear hM2
 refine ⟨_, rfl, fun a hf => ?_⟩
 refine q_ hf rfl rfl rfl (e_assign hf rfl) fun a hf => ?_
 refine pl_nil ?_
 refine then_n ?_
 obtain ⟨x15, h16, h⟩ := bind_some h
 refine seq_join (fun a w => ∃ (t13 : Bool), t13 = x15 ∧ Has 21 a [(4, .bool (t13))] ∧ Mem C w [] [.dat (ptrRep DawgRep) d1 [vP b2 o3]]) ?_ ?_
 ·refine region_pl ?_
  refine q_ hf rfl rfl rfl (e_move hf rfl) fun a hf => ?_
  refine q_ hf rfl rfl rfl (e_ge hf (x := y7) (y := 0) rfl rfl) fun a hf => ?_
  refine q_ hf rfl rfl rfl (e_move hf rfl) fun a hf => ?_
  rcases cond_some h16 with ⟨hc17, h16⟩ | ⟨hc17, h16⟩
  ·refine gq (wanted_t hf rfl rfl rfl rfl hc17) hf rfl rfl (e_move hf rfl) fun a hf => ?_
   refine gq (wanted_t hf rfl rfl rfl rfl hc17) hf rfl rfl (e_nil hf rfl) fun a hf => ?_
   obtain ⟨_, hr18, hM⟩ := hM.deref (hM.dat (k := 0) rfl)
   obtain ⟨A19, c20, rfl, hv21⟩ := DawgRep_open hr18
   have hM := hM.add (y := .dat (sliceRep NodeRep) d1.Nodes [vL A19 d1.Nodes c20]) hv21
   refine gq (wanted_t hf rfl rfl rfl rfl hc17) hf rfl rfl (e_field hf rfl Tryd.underlying26 rfl Tryd.sizeOf24 (o' := o3 + 0) rfl) fun a hf => ?_
   refine gq (wanted_t hf rfl rfl rfl rfl hc17) hf rfl rfl (e_load1 hf rfl Tryd.isAgg24 (hM.litCell (k := 1) (j := 0) rfl rfl rfl)) fun a hf => ?_
   refine gq (wanted_t hf rfl rfl rfl rfl hc17) hf rfl rfl (e_move hf rfl) fun a hf => ?_
   obtain ⟨e22, hz23, h16⟩ := bind_some h16
   obtain ⟨b27, o28, _, hA29, h24, h25, hr26, hM⟩ := hM.elem (hM.dat (k := 0) rfl) (n := 3) rfl hz23
   obtain ⟨A31, c32, rfl, hv30, hv33⟩ := NodeRep_open hr26
   have hM := hM.add (y := .dat (sliceRep intRep) e22.Next [vL A31 e22.Next c32]) hv33
   refine gq (wanted_t hf rfl rfl rfl rfl hc17) hf rfl rfl (e_indexAddr (A := A19) (b := b27) (o := o28) (xs := d1.Nodes) (i := y7) hf hA29 rfl rfl Tryd.underlying24 Tryd.sizeOf76 h24 h25) fun a hf => ?_
   refine gq (wanted_t hf rfl rfl rfl rfl hc17) hf rfl rfl (e_field hf rfl Tryd.underlying76 rfl Tryd.sizeOf4 (o' := (o28 + (y7 : Int).toNat * 3) + 0) rfl) fun a hf => ?_
   refine gq (wanted_t hf rfl rfl rfl rfl hc17) hf rfl rfl (e_load1 hf rfl Tryd.isAgg4 (hM.litCell (k := 1) (j := 0) rfl rfl rfl)) fun a hf => ?_
   refine q_ hf rfl rfl rfl (e_pick_t hf rfl hc17 rfl) fun a hf => ?_
   refine q_ hf rfl rfl rfl (e_assign hf rfl) fun a hf => ?_
   refine pl_nil ?_
   obtain rfl := some_inj h16
   refine then_n ?_
   exact ⟨e22.Final, rfl, hf.keep ⟨rfl, trivial⟩, hM.pick [4] rfl⟩
  iterate 8 refine pl_gs (wanted_f hf rfl rfl rfl rfl hc17) hf rfl rfl fun a hf => ?_
  refine q_ hf rfl rfl rfl (e_pick_f hf rfl hc17 rfl) fun a hf => ?_
  refine q_ hf rfl rfl rfl (e_assign hf rfl) fun a hf => ?_
  refine pl_nil ?_
  obtain rfl := some_inj h16
  refine then_n ?_
  exact ⟨false, rfl, hf.keep ⟨rfl, trivial⟩, hM.pick [0] rfl⟩
 rintro a w36 ⟨t13, rfl, hf, hM⟩
 try dsimp only at h
 refine wp_ret ?_
 obtain rfl := some_inj h
 exact leave1 hf rfl rfl ⟨rfl, hM.fin⟩

set_option maxRecDepth 100000 in
set_option maxHeartbeats 4000000 in
theorem r_spec_AcceptsWord (C : Cx) (d1 : Dawg) (A2 : Option Addr) (c3 : Nat) (hp4 : (sliceRep NodeRep).R C.w0 C.S0 d1.Nodes [vL A2 d1.Nodes c3]) (s5 : Str) (hp6 : s5.length ≤ maxLen) (r : Bool) (h : m_spec_AcceptsWord d1 s5 = some r) :
    Calls Tryd.prog 24 #[.agg #[vL A2 (d1.Nodes) c3], vS (s5)] C.w0 fun e w => e = .returned (.bool (r)) ∧ Mem C w [] [] := by
 have hM := Mem.begin C [.dat (sliceRep NodeRep) d1.Nodes [vL A2 d1.Nodes c3]] ⟨hp4, trivial⟩
 refine enter Tryd.func24 rfl Tryd.ntmps24 rfl fun a hf => ?_
 unfold m_spec_AcceptsWord at h
 refine wp_seq ?_
 refine region_pl ?_
 refine pl_l hf rfl rfl rfl (w_box hf hM (cs := [vL A2 (d1.Nodes) c3]) rfl rfl fun b7 w8 hx9 hM a hf => ?_)
 refine q_ hf rfl rfl rfl (e_assign hf rfl) fun a hf => ?_
 refine pl_nil ?_
 refine then_n ?_
 obtain ⟨x13, h14, h⟩ := bind_some h
 refine seq_join (fun a w => ∃ (t11 : Bool), t11 = x13 ∧ Has 10 a [(4, .bool (t11))] ∧ Mem C w [.box b7 [vL A2 (d1.Nodes) c3] 26] [.dat (sliceRep NodeRep) d1.Nodes [vL A2 d1.Nodes c3]]) ?_ ?_
 ·refine region_pl ?_
  obtain ⟨y15, hz16, h14⟩ := bind_some h14
  refine pl_l hf rfl rfl rfl (w_call hf Tryd.call43 rfl (r_spec_l06Ok ⟨_, All C _ _, none_, hM.all_lt, none_not, C.G, hM.g_lt, g_none, hM.tabs⟩ d1 _ _ (hM.lendBox (k := 0) rfl (DawgRep_mk (x := d1) (hM.lendDat (k := 0) rfl))) _ hz16) ?_)
  rintro _ w17 ⟨rfl, hM2⟩
  obtain ⟨hM, hx18⟩ := hM.backA hM2
  clear hM2
  refine ⟨_, rfl, fun a hf => ?_⟩
  refine q_ hf rfl rfl rfl (e_move hf rfl) fun a hf => ?_
  rcases cond_some h14 with ⟨hc20, h14⟩ | ⟨hc20, h14⟩
  ·refine gq (wanted_t hf rfl rfl rfl rfl hc20) hf rfl rfl (e_move hf rfl) fun a hf => ?_
   obtain ⟨y21, hz22, h14⟩ := bind_some h14
   refine pl_gl (wanted_t hf rfl rfl rfl rfl hc20) hf rfl rfl (w_call hf Tryd.call58 rfl (r_spec_l06Accepts ⟨_, All C _ _, none_, hM.all_lt, none_not, C.G, hM.g_lt, g_none, hM.tabs⟩ d1 _ _ (hM.lendBox (k := 0) rfl (DawgRep_mk (x := d1) (hM.lendDat (k := 0) rfl))) s5 hp6 _ hz22) ?_)
   rintro _ w23 ⟨rfl, hM2⟩
   obtain ⟨hM, hx24⟩ := hM.backA hM2
   clear hM2
   refine ⟨_, rfl, fun a hf => ?_⟩
   refine q_ hf rfl rfl rfl (e_pick_t hf rfl hc20 rfl) fun a hf => ?_
   refine q_ hf rfl rfl rfl (e_assign hf rfl) fun a hf => ?_
   refine pl_nil ?_
   obtain rfl := some_inj h14
   refine then_n ?_
   exact ⟨y21, rfl, hf.keep ⟨rfl, trivial⟩, hM.pick [0] rfl⟩
  iterate 2 refine pl_gs (wanted_f hf rfl rfl rfl rfl hc20) hf rfl rfl fun a hf => ?_
  refine q_ hf rfl rfl rfl (e_pick_f hf rfl hc20 rfl) fun a hf => ?_
  refine q_ hf rfl rfl rfl (e_assign hf rfl) fun a hf => ?_
  refine pl_nil ?_
  obtain rfl := some_inj h14
  refine then_n ?_
  exact ⟨false, rfl, hf.keep ⟨rfl, trivial⟩, hM.pick [0] rfl⟩
 rintro a w28 ⟨t11, rfl, hf, hM⟩
 try dsimp only at h
 refine wp_ret ?_
 obtain rfl := some_inj h
 have hM := hM.outs (own' := []) 0 rfl
 exact leave1 hf rfl rfl ⟨rfl, hM.fin⟩

set_option maxRecDepth 100000 in
set_option maxHeartbeats 4000000 in
theorem r_impl_Dawg_step (C : Cx) (d1 : Dawg) (A2 : Option Addr) (c3 : Nat) (hp4 : (sliceRep NodeRep).R C.w0 C.S0 d1.Nodes [vL A2 d1.Nodes c3]) (node5 : Int) (hp6 : R64 node5) (letter7 : UInt8) (r : Int) (h : m_impl_Dawg_step d1 node5 letter7 = some r) :
    Calls Tryd.prog 90 #[.agg #[vL A2 (d1.Nodes) c3], vI (node5), vB (letter7)] C.w0 fun e w => e = .returned (vI (r)) ∧ Mem C w [] [] ∧ R64 r := by
 have hM := Mem.begin C [.dat (sliceRep NodeRep) d1.Nodes [vL A2 d1.Nodes c3]] ⟨hp4, trivial⟩
 refine enter Tryd.func90 rfl Tryd.ntmps90 rfl fun a hf => ?_
 unfold m_impl_Dawg_step at h
 refine wp_seq ?_
 refine region_pl ?_
 refine pl_l hf rfl rfl rfl (w_box hf hM (cs := [vL A2 (d1.Nodes) c3]) rfl rfl fun b8 w9 hx10 hM a hf => ?_)
 refine q_ hf rfl rfl rfl (e_assign hf rfl) fun a hf => ?_
 refine pl_nil ?_
 refine then_n ?_
 iterate 2 refine wp_seq ?_
 refine region_pl ?_
 refine q_ hf rfl rfl rfl (e_move hf rfl) fun a hf => ?_
 refine q_ hf rfl rfl rfl (e_field hf rfl Tryd.underlying26 rfl Tryd.sizeOf24 (o' := 0) rfl) fun a hf => ?_
 refine q_ hf rfl rfl rfl (e_load1 hf rfl Tryd.isAgg24 (hM.boxCell (k := 0) rfl rfl)) fun a hf => ?_
 have hl12 := slice_len (hM.dat (k := 0) rfl)
 refine q_ hf rfl rfl rfl (e_lenL hf (x := d1.Nodes) rfl Tryd.underlying24) fun a hf => ?_
 obtain ⟨z13, hz14, h⟩ := bind_some h
 refine q_ hf rfl rfl rfl (e_sub hf rfl rfl hz14) fun a hf => ?_
 obtain ⟨y15, hz16, h⟩ := bind_some h
 refine pl_l hf rfl rfl rfl (w_call hf Tryd.call50 rfl (r_impl_within ⟨_, Sh C _ _, none_, hM.sh_lt, none_not, C.G, hM.g_lt, g_none, hM.tabs⟩ node5 hp6 0 (R64_lit rfl) z13 (chk_R hz14) _ hz16) ?_)
 rintro _ w17 ⟨rfl, hM2⟩
 obtain ⟨hM, hx18, hup19⟩ := hM.back hM2
 dsimp only [List.cons_append, List.nil_append] at hM hup19
 clear hM2
 refine ⟨_, rfl, fun a hf => ?_⟩
 refine q_ hf rfl rfl rfl (e_not hf rfl) fun a hf => ?_
 refine pl_nil ?_
 refine then_n ?_
 rcases cond_some h with ⟨hc20, h⟩ | ⟨hc20, h⟩
 ·refine cond_t hf rfl hc20 ?_
  refine wp_seq ?_
  refine region_pl ?_
  refine q_ hf rfl rfl rfl (e_assign hf rfl) fun a hf => ?_
  refine pl_nil ?_
  refine then_n ?_
  refine wp_ret ?_
  refine then_r ?_
  obtain rfl := some_inj h
  have hM := hM.outs (own' := []) 0 rfl
  exact leave1 hf rfl rfl ⟨rfl, hM.fin, (R64_lit rfl)⟩
 refine cond_f hf rfl hc20 ?_
 refine wp_skip ?_
 refine then_n ?_
 refine wp_seq ?_
 refine region_pl ?_
 refine q_ hf rfl rfl rfl (e_field hf rfl Tryd.underlying26 rfl Tryd.sizeOf24 (o' := 0) rfl) fun a hf => ?_
 refine q_ hf rfl rfl rfl (e_load1 hf rfl Tryd.isAgg24 (hM.boxCell (k := 0) rfl rfl)) fun a hf => ?_
 refine q_ hf rfl rfl rfl (e_move hf rfl) fun a hf => ?_
 obtain ⟨e21, hz22, h⟩ := bind_some h
 obtain ⟨b26, o27, _, hA28, h23, h24, hr25, hM⟩ := hM.elem (hM.dat (k := 0) rfl) (n := 3) rfl hz22
 obtain ⟨A30, c31, rfl, hv29, hv32⟩ := NodeRep_open hr25
 have hM := hM.add (y := .dat (sliceRep intRep) e21.Next [vL A30 e21.Next c31]) hv32
 refine q_ hf rfl rfl rfl (e_indexAddr (A := A2) (b := b26) (o := o27) (xs := d1.Nodes) (i := node5) hf hA28 rfl rfl Tryd.underlying24 Tryd.sizeOf76 h23 h24) fun a hf => ?_
 refine q_ hf rfl rfl rfl (e_loadA hf (us := [.bool (e21.Final), vS (e21.Letters), vL A30 (e21.Next) c31]) rfl ⟨Tryd.isAgg76, Tryd.sizeOf76⟩ rfl (hM.litSub (k := 1) (d := 0) (us := [.bool (e21.Final), vS (e21.Letters), vL A30 (e21.Next) c31]) rfl rfl rfl)) fun a hf => ?_
 refine pl_l hf rfl rfl rfl (w_alloc hM (cs := [.bool (false), vS (([] : Str)), vL none (([] : (List Int))) 0]) Tryd.zeroValue76 rfl fun b33 w34 hx35 hM a hf => ?_)
 refine pl_0 hf rfl rfl (w_store hf hM (us := [.bool (e21.Final), vS (e21.Letters), vL A30 (e21.Next) c31]) (cs' := [.bool (e21.Final), vS (e21.Letters), vL A30 (e21.Next) c31]) rfl rfl (k := 0) rfl rfl Tryd.sizeOf76 rfl rfl rfl fun w37 hM => ?_)
 dsimp only [List.set] at hM
 refine pl_nil ?_
 refine then_n ?_
 iterate 2 refine wp_seq ?_
 refine region_pl ?_
 refine q_ hf rfl rfl rfl (e_field hf rfl Tryd.underlying76 rfl Tryd.sizeOf9 (o' := 1) rfl) fun a hf => ?_
 refine q_ hf rfl rfl rfl (e_load1 hf rfl Tryd.isAgg9 (hM.boxCell (k := 0) rfl rfl)) fun a hf => ?_
 refine q_ hf rfl rfl rfl (e_move hf rfl) fun a hf => ?_
 obtain ⟨y40, hz41, h⟩ := bind_some h
 refine pl_l hf rfl rfl rfl (w_call hf Tryd.call112 rfl (r_strings_IndexByte ⟨_, Sh C _ _, none_, hM.sh_lt, none_not, C.G, hM.g_lt, g_none, hM.tabs⟩ e21.Letters hv29 letter7 _ hz41) ?_)
 rintro _ w43 ⟨rfl, hM2, hv42⟩
 obtain ⟨hM, hx44, hup45⟩ := hM.back hM2
 dsimp only [List.cons_append, List.nil_append] at hM hup45
 clear hM2
 refine ⟨_, rfl, fun a hf => ?_⟩
 refine q_ hf rfl rfl rfl (e_assign hf rfl) fun a hf => ?_
 refine pl_nil ?_
 refine then_n ?_
 refine wp_seq ?_
 refine region_pl ?_
 refine q_ hf rfl rfl rfl (e_move hf rfl) fun a hf => ?_
 refine q_ hf rfl rfl rfl (e_ge hf (x := y40) (y := 0) rfl rfl) fun a hf => ?_
 refine pl_nil ?_
 refine then_n ?_
 rcases cond_some h with ⟨hc46, h⟩ | ⟨hc46, h⟩
 ·refine cond_t hf rfl hc46 ?_
  refine wp_seq ?_
  refine region_pl ?_
  refine q_ hf rfl rfl rfl (e_field hf rfl Tryd.underlying76 rfl Tryd.sizeOf31 (o' := 2) rfl) fun a hf => ?_
  refine q_ hf rfl rfl rfl (e_load1 hf rfl Tryd.isAgg31 (hM.boxCell (k := 0) rfl rfl)) fun a hf => ?_
  refine q_ hf rfl rfl rfl (e_move hf rfl) fun a hf => ?_
  obtain ⟨e47, hz48, h⟩ := bind_some h
  obtain ⟨b52, o53, _, hA54, h49, h50, hr51, hM⟩ := hM.elem (hM.dat (k := 0) rfl) (n := 1) rfl hz48
  obtain ⟨rfl, hv55⟩ := hr51
  refine q_ hf rfl rfl rfl (e_indexAddr (A := A30) (b := b52) (o := o53) (xs := e21.Next) (i := y40) hf hA54 rfl rfl Tryd.underlying31 Tryd.sizeOf2 h49 h50) fun a hf => ?_
  refine q_ hf rfl rfl rfl (e_load1 hf rfl Tryd.isAgg2 (hM.litCell (k := 0) (j := 0) rfl rfl rfl)) fun a hf => ?_
  refine q_ hf rfl rfl rfl (e_assign hf rfl) fun a hf => ?_
  refine pl_nil ?_
  refine then_n ?_
  refine wp_ret ?_
  refine then_r ?_
  obtain rfl := some_inj h
  have hM := hM.outs (own' := []) 0 rfl
  exact leave1 hf rfl rfl ⟨rfl, hM.fin, hv55⟩
 refine cond_f hf rfl hc46 ?_
 refine wp_skip ?_
 refine then_n ?_
 refine wp_seq ?_
 refine region_pl ?_
 refine q_ hf rfl rfl rfl (e_assign hf rfl) fun a hf => ?_
 refine pl_nil ?_
 refine then_n ?_
 refine wp_ret ?_
 obtain rfl := some_inj h
 have hM := hM.outs (own' := []) 0 rfl
 exact leave1 hf rfl rfl ⟨rfl, hM.fin, (R64_lit rfl)⟩

set_option maxRecDepth 100000 in
set_option maxHeartbeats 4000000 in
theorem r_impl_Dawg_after (C : Cx) (d1 : Dawg) (A2 : Option Addr) (c3 : Nat) (hp4 : (sliceRep NodeRep).R C.w0 C.S0 d1.Nodes [vL A2 d1.Nodes c3]) (s5 : Str) (hp6 : s5.length ≤ maxLen) (r : Int) (h : m_impl_Dawg_after d1 s5 = some r) :
    Calls Tryd.prog 62 #[.agg #[vL A2 (d1.Nodes) c3], vS (s5)] C.w0 fun e w => e = .returned (vI (r)) ∧ Mem C w [] [] ∧ R64 r := by
 have hM := Mem.begin C [.dat (sliceRep NodeRep) d1.Nodes [vL A2 d1.Nodes c3]] ⟨hp4, trivial⟩
 refine enter Tryd.func62 rfl Tryd.ntmps62 rfl fun a hf => ?_
 unfold m_impl_Dawg_after at h
 refine wp_seq ?_
 refine region_pl ?_
 refine pl_l hf rfl rfl rfl (w_box hf hM (cs := [vL A2 (d1.Nodes) c3]) rfl rfl fun b7 w8 hx9 hM a hf => ?_)
 refine q_ hf rfl rfl rfl (e_assign hf rfl) fun a hf => ?_
 refine pl_nil ?_
 refine then_n ?_
 refine wp_seq ?_
 refine region_pl ?_
 refine q_ hf rfl rfl rfl (e_assign hf rfl) fun a hf => ?_
 refine pl_nil ?_
 refine then_n ?_
 obtain ⟨x13, h14, h⟩ := bind_some h
 refine seq_join (fun a w => ∃ (n11 : Int), n11 = x13 ∧ Has 24 a [(5, vI (n11))] ∧ Mem C w [.box b7 [vL A2 (d1.Nodes) c3] 26] [.dat (sliceRep NodeRep) d1.Nodes [vL A2 d1.Nodes c3]] ∧ R64 n11) ?_ ?_
 ·refine wp_seq ?_
  refine region_pl ?_
  refine q_ hf rfl rfl rfl (e_assign hf rfl) fun a hf => ?_
  refine pl_nil ?_
  refine then_n ?_
  refine wp_block ?_
  obtain ⟨x22, h23, h14⟩ := bind_some h14
  refine wp_loopM h23 (fun s a w => ∃ (n15 : Int) (n17 : Int), (n15, n17) = s ∧ Has 24 a [(1, vS (s5)), (2, vP b7 (0)), (5, vI (n15)), (6, vI (n17))] ∧ Mem C w [.box b7 [vL A2 (d1.Nodes) c3] 26] [.dat (sliceRep NodeRep) d1.Nodes [vL A2 d1.Nodes c3]] ∧ R64 n15 ∧ R64 n17) ?_ ?_
  ·exact ⟨0, 0, rfl, hf.keep ⟨rfl, rfl, rfl, rfl, trivial⟩, hM.pick [0] rfl, (R64_lit rfl), (R64_lit rfl)⟩
  rintro s o24 a w19 ⟨n15, n17, rfl, hf, hM, hv16, hv18⟩ h25 hd26
  replace h25 : m_impl_Dawg_after_l1 s5 d1 n15 n17 = some o24 := h25
  unfold m_impl_Dawg_after_l1 at h25
  refine wp_seq ?_
  obtain ⟨x29, h30, h25⟩ := bind_some h25
  refine seq_join (fun a w => ∃ (t27 : Bool), t27 = x29 ∧ Has 24 a [(1, vS (s5)), (2, vP b7 (0)), (5, vI (n15)), (6, vI (n17)), (14, .bool (t27))] ∧ Mem C w [.box b7 [vL A2 (d1.Nodes) c3] 26] [.dat (sliceRep NodeRep) d1.Nodes [vL A2 d1.Nodes c3]]) ?_ ?_
  ·refine region_pl ?_
   iterate 2 refine q_ hf rfl rfl rfl (e_move hf rfl) fun a hf => ?_
   refine q_ hf rfl rfl rfl (e_lenS hf (x := s5) rfl Tryd.underlying9) fun a hf => ?_
   refine q_ hf rfl rfl rfl (e_lt hf (x := n17) (y := (s5.length : Int)) rfl rfl) fun a hf => ?_
   refine q_ hf rfl rfl rfl (e_move hf rfl) fun a hf => ?_
   rcases cond_some h30 with ⟨hc31, h30⟩ | ⟨hc31, h30⟩
   ·refine gq (wanted_t hf rfl rfl rfl rfl hc31) hf rfl rfl (e_move hf rfl) fun a hf => ?_
    refine gq (wanted_t hf rfl rfl rfl rfl hc31) hf rfl rfl (e_ge hf (x := n15) (y := 0) rfl rfl) fun a hf => ?_
    refine q_ hf rfl rfl rfl (e_pick_t hf rfl hc31 rfl) fun a hf => ?_
    refine pl_nil ?_
    obtain rfl := some_inj h30
    refine then_n ?_
    exact ⟨(decide (0 ≤ n15)), rfl, hf.keep ⟨rfl, rfl, rfl, rfl, rfl, trivial⟩, hM.pick [0] rfl⟩
   iterate 2 refine pl_gs (wanted_f hf rfl rfl rfl rfl hc31) hf rfl rfl fun a hf => ?_
   refine q_ hf rfl rfl rfl (e_pick_f hf rfl hc31 rfl) fun a hf => ?_
   refine pl_nil ?_
   obtain rfl := some_inj h30
   refine then_n ?_
   exact ⟨false, rfl, hf.keep ⟨rfl, rfl, rfl, rfl, rfl, trivial⟩, hM.pick [0] rfl⟩
  rintro a w34 ⟨t27, rfl, hf, hM⟩
  try dsimp only at h25
  rcases cond_some h25 with ⟨hc35, h25⟩ | ⟨hc35, h25⟩
  ·refine cond_t hf rfl hc35 ?_
   refine wp_skip ?_
   refine then_n ?_
   refine wp_seq ?_
   refine wp_block ?_
   obtain ⟨w36, hw⟩ : ∃ x, x = w34.drew := ⟨_, rfl⟩
   refine region_pi (.q 0 (.q 1 (.q 2 (.q 3 (.q 4 (.l 5 (.q 6 (.nil)))))))) (Ext w36) rfl (by kernel_rfl) ?_
   have hM := hM.drew
   rw [← hw] at hM ⊢
   clear hw
   refine pi_q hf rfl rfl rfl rfl (Ext.refl _) (e_loadA hf (us := [vL A2 (d1.Nodes) c3]) rfl ⟨Tryd.isAgg26, Tryd.sizeOf26⟩ rfl (hM.boxSub (k := 0) (us := [vL A2 (d1.Nodes) c3]) (o := 0) rfl rfl)) fun a hf => ?_
   iterate 3 refine pi_q hf rfl rfl rfl rfl (Ext.refl _) (e_move hf rfl) fun a hf => ?_
   obtain ⟨c37, hz38, h25⟩ := bind_some h25
   refine pi_q hf rfl rfl rfl rfl (Ext.refl _) (e_indexS hf (x := s5) rfl rfl Tryd.underlying9 hz38) fun a hf => ?_
   refine pi_one ?_
   obtain ⟨y39, hz40, h25⟩ := bind_some h25
   refine pi_l hf rfl rfl rfl rfl (w_call hf Tryd.call90 rfl (r_impl_Dawg_step ⟨_, Sh C _ _, none_, hM.sh_lt, none_not, C.G, hM.g_lt, g_none, hM.tabs⟩ d1 _ _ (hM.dat (k := 0) rfl) n15 hv16 c37 _ hz40) ?_)
   rintro _ w42 ⟨rfl, hM2, hv41⟩
   obtain ⟨hM, hx43, hup44⟩ := hM.back hM2
   dsimp only [List.cons_append, List.nil_append] at hM hup44
   clear hM2
   refine ⟨_, rfl, Ext w42, fun _ h => Ext.trans hx43 h, Ext.refl _, fun a hf => ?_⟩
   refine pi_q hf rfl rfl rfl rfl (Ext.refl _) (e_assign hf rfl) fun a hf => ?_
   refine pi_nil ?_
   refine blk_n ?_
   refine then_n ?_
   refine region_pl ?_
   refine q_ hf rfl rfl rfl (e_move hf rfl) fun a hf => ?_
   obtain ⟨z45, hz46, h25⟩ := bind_some h25
   refine q_ hf rfl rfl rfl (e_add hf rfl rfl hz46) fun a hf => ?_
   refine q_ hf rfl rfl rfl (e_assign hf rfl) fun a hf => ?_
   refine pl_nil ?_
   obtain rfl := some_inj h25
   refine then_n ⟨_, rfl, ?_⟩
   exact ⟨y39, z45, rfl, hf.keep ⟨rfl, rfl, rfl, rfl, trivial⟩, hM.pick [0] rfl, hv41, (chk_R hz46)⟩
  refine cond_f hf rfl hc35 ?_
  refine wp_exit ?_
  refine then_x ?_
  obtain rfl := some_inj h25
  obtain rfl := hd26 _ rfl
  try dsimp only at h14
  refine then_x ?_
  refine exit_hit ?_
  obtain rfl := some_inj h14
  refine then_n ?_
  exact ⟨n15, rfl, hf.keep ⟨rfl, trivial⟩, hM.pick [0] rfl, hv16⟩
 rintro a w52 ⟨n11, rfl, hf, hM, hv12⟩
 try dsimp only at h
 refine wp_seq ?_
 refine region_pl ?_
 refine q_ hf rfl rfl rfl (e_move hf rfl) fun a hf => ?_
 refine q_ hf rfl rfl rfl (e_assign hf rfl) fun a hf => ?_
 refine pl_nil ?_
 refine then_n ?_
 refine wp_ret ?_
 obtain rfl := some_inj h
 have hM := hM.outs (own' := []) 0 rfl
 exact leave1 hf rfl rfl ⟨rfl, hM.fin, hv12⟩

set_option maxRecDepth 100000 in
set_option maxHeartbeats 4000000 in
theorem r_impl_Dawg_accepts (C : Cx) (d1 : Dawg) (A2 : Option Addr) (c3 : Nat) (hp4 : (sliceRep NodeRep).R C.w0 C.S0 d1.Nodes [vL A2 d1.Nodes c3]) (s5 : Str) (hp6 : s5.length ≤ maxLen) (r : Bool) (h : m_impl_Dawg_accepts d1 s5 = some r) :
    Calls Tryd.prog 47 #[.agg #[vL A2 (d1.Nodes) c3], vS (s5)] C.w0 fun e w => e = .returned (.bool (r)) ∧ Mem C w [] [] := by
 have hM := Mem.begin C [.dat (sliceRep NodeRep) d1.Nodes [vL A2 d1.Nodes c3]] ⟨hp4, trivial⟩
 refine enter Tryd.func47 rfl Tryd.ntmps47 rfl fun a hf => ?_
 unfold m_impl_Dawg_accepts at h
 refine wp_seq ?_
 refine region_pl ?_
 refine pl_l hf rfl rfl rfl (w_box hf hM (cs := [vL A2 (d1.Nodes) c3]) rfl rfl fun b7 w8 hx9 hM a hf => ?_)
 refine q_ hf rfl rfl rfl (e_assign hf rfl) fun a hf => ?_
 refine pl_nil ?_
 refine then_n ?_
 refine wp_seq ?_
 refine region_pl ?_
 refine q_ hf rfl rfl rfl (e_loadA hf (us := [vL A2 (d1.Nodes) c3]) rfl ⟨Tryd.isAgg26, Tryd.sizeOf26⟩ rfl (hM.boxSub (k := 0) (us := [vL A2 (d1.Nodes) c3]) (o := 0) rfl rfl)) fun a hf => ?_
 refine q_ hf rfl rfl rfl (e_move hf rfl) fun a hf => ?_
 obtain ⟨y11, hz12, h⟩ := bind_some h
 refine pl_l hf rfl rfl rfl (w_call hf Tryd.call62 rfl (r_impl_Dawg_after ⟨_, Sh C _ _, none_, hM.sh_lt, none_not, C.G, hM.g_lt, g_none, hM.tabs⟩ d1 _ _ (hM.dat (k := 0) rfl) s5 hp6 _ hz12) ?_)
 rintro _ w14 ⟨rfl, hM2, hv13⟩
 obtain ⟨hM, hx15, hup16⟩ := hM.back hM2
 dsimp only [List.cons_append, List.nil_append] at hM hup16
 clear hM2
 refine ⟨_, rfl, fun a hf => ?_⟩
 refine q_ hf rfl rfl rfl (e_assign hf rfl) fun a hf => ?_
 refine pl_nil ?_
 refine then_n ?_
 obtain ⟨x19, h20, h⟩ := bind_some h
 refine seq_join (fun a w => ∃ (t17 : Bool), t17 = x19 ∧ Has 19 a [(4, .bool (t17))] ∧ Mem C w [.box b7 [vL A2 (d1.Nodes) c3] 26] [.dat (sliceRep NodeRep) d1.Nodes [vL A2 d1.Nodes c3]]) ?_ ?_
 ·refine region_pl ?_
  refine q_ hf rfl rfl rfl (e_move hf rfl) fun a hf => ?_
  refine q_ hf rfl rfl rfl (e_ge hf (x := y11) (y := 0) rfl rfl) fun a hf => ?_
  refine q_ hf rfl rfl rfl (e_move hf rfl) fun a hf => ?_
  rcases cond_some h20 with ⟨hc21, h20⟩ | ⟨hc21, h20⟩
  ·refine gq (wanted_t hf rfl rfl rfl rfl hc21) hf rfl rfl (e_field hf rfl Tryd.underlying26 rfl Tryd.sizeOf24 (o' := 0) rfl) fun a hf => ?_
   refine gq (wanted_t hf rfl rfl rfl rfl hc21) hf rfl rfl (e_load1 hf rfl Tryd.isAgg24 (hM.boxCell (k := 0) rfl rfl)) fun a hf => ?_
   refine gq (wanted_t hf rfl rfl rfl rfl hc21) hf rfl rfl (e_move hf rfl) fun a hf => ?_
   obtain ⟨e22, hz23, h20⟩ := bind_some h20
   obtain ⟨b27, o28, _, hA29, h24, h25, hr26, hM⟩ := hM.elem (hM.dat (k := 0) rfl) (n := 3) rfl hz23
   obtain ⟨A31, c32, rfl, hv30, hv33⟩ := NodeRep_open hr26
   have hM := hM.add (y := .dat (sliceRep intRep) e22.Next [vL A31 e22.Next c32]) hv33
   refine gq (wanted_t hf rfl rfl rfl rfl hc21) hf rfl rfl (e_indexAddr (A := A2) (b := b27) (o := o28) (xs := d1.Nodes) (i := y11) hf hA29 rfl rfl Tryd.underlying24 Tryd.sizeOf76 h24 h25) fun a hf => ?_
   refine gq (wanted_t hf rfl rfl rfl rfl hc21) hf rfl rfl (e_field hf rfl Tryd.underlying76 rfl Tryd.sizeOf4 (o' := (o28 + (y11 : Int).toNat * 3) + 0) rfl) fun a hf => ?_
   refine gq (wanted_t hf rfl rfl rfl rfl hc21) hf rfl rfl (e_load1 hf rfl Tryd.isAgg4 (hM.litCell (k := 1) (j := 0) rfl rfl rfl)) fun a hf => ?_
   refine q_ hf rfl rfl rfl (e_pick_t hf rfl hc21 rfl) fun a hf => ?_
   refine q_ hf rfl rfl rfl (e_assign hf rfl) fun a hf => ?_
   refine pl_nil ?_
   obtain rfl := some_inj h20
   refine then_n ?_
   exact ⟨e22.Final, rfl, hf.keep ⟨rfl, trivial⟩, hM.pick [2] rfl⟩
  iterate 6 refine pl_gs (wanted_f hf rfl rfl rfl rfl hc21) hf rfl rfl fun a hf => ?_
  refine q_ hf rfl rfl rfl (e_pick_f hf rfl hc21 rfl) fun a hf => ?_
  refine q_ hf rfl rfl rfl (e_assign hf rfl) fun a hf => ?_
  refine pl_nil ?_
  obtain rfl := some_inj h20
  refine then_n ?_
  exact ⟨false, rfl, hf.keep ⟨rfl, trivial⟩, hM.pick [0] rfl⟩
 rintro a w36 ⟨t17, rfl, hf, hM⟩
 try dsimp only at h
 refine wp_ret ?_
 obtain rfl := some_inj h
 have hM := hM.outs (own' := []) 0 rfl
 exact leave1 hf rfl rfl ⟨rfl, hM.fin⟩

set_option maxRecDepth 100000 in
set_option maxHeartbeats 4000000 in
theorem r_impl_AcceptsWord (C : Cx) (d1 : Dawg) (A2 : Option Addr) (c3 : Nat) (hp4 : (sliceRep NodeRep).R C.w0 C.S0 d1.Nodes [vL A2 d1.Nodes c3]) (s5 : Str) (hp6 : s5.length ≤ maxLen) (r : Bool) (h : m_impl_AcceptsWord d1 s5 = some r) :
    Calls Tryd.prog 26 #[.agg #[vL A2 (d1.Nodes) c3], vS (s5)] C.w0 fun e w => e = .returned (.bool (r)) ∧ Mem C w [] [] := by
 have hM := Mem.begin C [.dat (sliceRep NodeRep) d1.Nodes [vL A2 d1.Nodes c3]] ⟨hp4, trivial⟩
 refine enter Tryd.func26 rfl Tryd.ntmps26 rfl fun a hf => ?_
 unfold m_impl_AcceptsWord at h
 refine wp_seq ?_
 refine region_pl ?_
 refine pl_l hf rfl rfl rfl (w_box hf hM (cs := [vL A2 (d1.Nodes) c3]) rfl rfl fun b7 w8 hx9 hM a hf => ?_)
 refine q_ hf rfl rfl rfl (e_assign hf rfl) fun a hf => ?_
 refine pl_nil ?_
 refine then_n ?_
 obtain ⟨x13, h14, h⟩ := bind_some h
 refine seq_join (fun a w => ∃ (t11 : Bool), t11 = x13 ∧ Has 12 a [(4, .bool (t11))] ∧ Mem C w [.box b7 [vL A2 (d1.Nodes) c3] 26] [.dat (sliceRep NodeRep) d1.Nodes [vL A2 d1.Nodes c3]]) ?_ ?_
 ·refine region_pl ?_
  refine q_ hf rfl rfl rfl (e_loadA hf (us := [vL A2 (d1.Nodes) c3]) rfl ⟨Tryd.isAgg26, Tryd.sizeOf26⟩ rfl (hM.boxSub (k := 0) (us := [vL A2 (d1.Nodes) c3]) (o := 0) rfl rfl)) fun a hf => ?_
  obtain ⟨y15, hz16, h14⟩ := bind_some h14
  refine pl_l hf rfl rfl rfl (w_call hf Tryd.call45 rfl (r_impl_ValidDawg ⟨_, Sh C _ _, none_, hM.sh_lt, none_not, C.G, hM.g_lt, g_none, hM.tabs⟩ d1 _ _ (hM.dat (k := 0) rfl) _ hz16) ?_)
  rintro _ w17 ⟨rfl, hM2⟩
  obtain ⟨hM, hx18, hup19⟩ := hM.back hM2
  dsimp only [List.cons_append, List.nil_append] at hM hup19
  clear hM2
  refine ⟨_, rfl, fun a hf => ?_⟩
  refine q_ hf rfl rfl rfl (e_move hf rfl) fun a hf => ?_
  rcases cond_some h14 with ⟨hc20, h14⟩ | ⟨hc20, h14⟩
  ·refine gq (wanted_t hf rfl rfl rfl rfl hc20) hf rfl rfl (e_loadA hf (us := [vL A2 (d1.Nodes) c3]) rfl ⟨Tryd.isAgg26, Tryd.sizeOf26⟩ rfl (hM.boxSub (k := 0) (us := [vL A2 (d1.Nodes) c3]) (o := 0) rfl rfl)) fun a hf => ?_
   refine gq (wanted_t hf rfl rfl rfl rfl hc20) hf rfl rfl (e_move hf rfl) fun a hf => ?_
   obtain ⟨y21, hz22, h14⟩ := bind_some h14
   refine pl_gl (wanted_t hf rfl rfl rfl rfl hc20) hf rfl rfl (w_call hf Tryd.call47 rfl (r_impl_Dawg_accepts ⟨_, Sh C _ _, none_, hM.sh_lt, none_not, C.G, hM.g_lt, g_none, hM.tabs⟩ d1 _ _ (hM.dat (k := 0) rfl) s5 hp6 _ hz22) ?_)
   rintro _ w23 ⟨rfl, hM2⟩
   obtain ⟨hM, hx24, hup25⟩ := hM.back hM2
   dsimp only [List.cons_append, List.nil_append] at hM hup25
   clear hM2
   refine ⟨_, rfl, fun a hf => ?_⟩
   refine q_ hf rfl rfl rfl (e_pick_t hf rfl hc20 rfl) fun a hf => ?_
   refine q_ hf rfl rfl rfl (e_assign hf rfl) fun a hf => ?_
   refine pl_nil ?_
   obtain rfl := some_inj h14
   refine then_n ?_
   exact ⟨y21, rfl, hf.keep ⟨rfl, trivial⟩, hM.pick [0] rfl⟩
  iterate 3 refine pl_gs (wanted_f hf rfl rfl rfl rfl hc20) hf rfl rfl fun a hf => ?_
  refine q_ hf rfl rfl rfl (e_pick_f hf rfl hc20 rfl) fun a hf => ?_
  refine q_ hf rfl rfl rfl (e_assign hf rfl) fun a hf => ?_
  refine pl_nil ?_
  obtain rfl := some_inj h14
  refine then_n ?_
  exact ⟨false, rfl, hf.keep ⟨rfl, trivial⟩, hM.pick [0] rfl⟩
 rintro a w28 ⟨t11, rfl, hf, hM⟩
 try dsimp only at h
 refine wp_ret ?_
 obtain rfl := some_inj h
 have hM := hM.outs (own' := []) 0 rfl
 exact leave1 hf rfl rfl ⟨rfl, hM.fin⟩

end Go.Proofs.YtdaoecpkgobelaaDoor
