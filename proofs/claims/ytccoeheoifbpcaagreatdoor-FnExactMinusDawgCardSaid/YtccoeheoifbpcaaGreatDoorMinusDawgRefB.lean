/- The functions that this law reaches do what their models say. Printed by gen.py. -/
import Derived.Test.YtccoeheoifbpcaaGreatDoorMod
import Derived.Test.YtccoeheoifbpcaaGreatDoorLib
import Derived.Test.YtccoeheoifbpcaaGreatDoorMinusDawgRef
namespace Go.Proofs.YtccoeheoifbpcaaGreatDoor
open Go Go.RowKit
set_option linter.unusedSimpArgs false
set_option linter.unusedVariables false
set_option maxRecDepth 100000
set_option maxHeartbeats 4000000
theorem r_spec_l05First (C : Cx) (list1 : (List Str)) (A2 : Option Addr) (c3 : Nat) (hp4 : (sliceRep strRep).R C.w0 C.S0 list1 [vL A2 list1 c3]) (s5 : Str) (hp6 : s5.length ≤ maxLen) (r : Int) (h : m_spec_l05First list1 s5 = some r) :
    Calls Tryz.prog 99 #[vL A2 (list1) c3, vS (s5)] C.w0 fun e w => e = .returned (vI (r)) ∧ Mem C w [] [] ∧ R64 r := by
 have hM := Mem.begin C [.dat (sliceRep strRep) list1 [vL A2 list1 c3]] ⟨hp4, trivial⟩
 refine enter Tryz.func99 rfl Tryz.ntmps99 rfl fun a hf => ?_
 unfold m_spec_l05First at h
 refine wp_seq ?_
 refine region_pl ?_
 refine q_ hf rfl rfl rfl (e_assign hf rfl) fun a hf => ?_
 refine pl_nil ?_
 refine then_n ?_
 refine wp_seq ?_
 refine region_pl ?_
 refine q_ hf rfl rfl rfl (e_assign hf rfl) fun a hf => ?_
 refine pl_nil ?_
 refine then_n ?_
 obtain ⟨x9, h10, h⟩ := bind_some h
 refine seq_join (fun a w => ∃ (n7 : Int), n7 = x9 ∧ Has 21 a [(5, vI (n7))] ∧ Mem C w [] [.dat (sliceRep strRep) list1 [vL A2 list1 c3]] ∧ R64 n7) ?_ ?_
 ·refine wp_block ?_
  obtain ⟨x16, h17, h10⟩ := bind_some h10
  refine wp_loopM h17 (fun s a w => ∃ (n11 : Int), n11 = s ∧ Has 21 a [(0, vL A2 (list1) c3), (1, vS (s5)), (5, vI (n11))] ∧ Mem C w [] [.dat (sliceRep strRep) list1 [vL A2 list1 c3]] ∧ R64 n11) ?_ ?_
  ·exact ⟨0, rfl, hf.keep ⟨rfl, rfl, rfl, trivial⟩, hM.pick [0] rfl, (R64_lit rfl)⟩
  rintro s o18 a w13 ⟨n11, rfl, hf, hM, hv12⟩ h19 hd20
  replace h19 : m_spec_l05First_l1 list1 s5 n11 = some o18 := h19
  unfold m_spec_l05First_l1 at h19
  refine wp_seq ?_
  obtain ⟨x23, h24, h19⟩ := bind_some h19
  refine seq_join (fun a w => ∃ (t21 : Bool), t21 = x23 ∧ Has 21 a [(0, vL A2 (list1) c3), (1, vS (s5)), (5, vI (n11)), (17, .bool (t21))] ∧ Mem C w [] [.dat (sliceRep strRep) list1 [vL A2 list1 c3]]) ?_ ?_
  ·refine region_pl ?_
   iterate 2 refine q_ hf rfl rfl rfl (e_move hf rfl) fun a hf => ?_
   have hl25 := slice_len (hM.dat (k := 0) rfl)
   refine q_ hf rfl rfl rfl (e_lenL hf (x := list1) rfl Tryz.underlying30) fun a hf => ?_
   refine q_ hf rfl rfl rfl (e_lt hf (x := n11) (y := (list1.length : Int)) rfl rfl) fun a hf => ?_
   refine q_ hf rfl rfl rfl (e_move hf rfl) fun a hf => ?_
   rcases cond_some h24 with ⟨hc26, h24⟩ | ⟨hc26, h24⟩
   ·iterate 2 refine gq (wanted_t hf rfl rfl rfl rfl hc26) hf rfl rfl (e_move hf rfl) fun a hf => ?_
    obtain ⟨e27, hz28, h24⟩ := bind_some h24
    obtain ⟨b32, o33, _, hA34, h29, h30, hr31, hM⟩ := hM.elem (hM.dat (k := 0) rfl) (n := 1) rfl hz28
    obtain ⟨rfl, hv35⟩ := hr31
    refine gq (wanted_t hf rfl rfl rfl rfl hc26) hf rfl rfl (e_indexAddr (A := A2) (b := b32) (o := o33) (xs := list1) (i := n11) hf hA34 rfl rfl Tryz.underlying30 Tryz.sizeOf9 h29 h30) fun a hf => ?_
    refine gq (wanted_t hf rfl rfl rfl rfl hc26) hf rfl rfl (e_load1 hf rfl Tryz.isAgg9 (hM.litCell (k := 0) (j := 0) rfl rfl rfl)) fun a hf => ?_
    refine gq (wanted_t hf rfl rfl rfl rfl hc26) hf rfl rfl (e_move hf rfl) fun a hf => ?_
    refine gq (wanted_t hf rfl rfl rfl rfl hc26) hf rfl rfl (e_ltS hf (x := e27) (y := s5) rfl rfl) fun a hf => ?_
    refine q_ hf rfl rfl rfl (e_pick_t hf rfl hc26 rfl) fun a hf => ?_
    refine pl_nil ?_
    obtain rfl := some_inj h24
    refine then_n ?_
    exact ⟨(ltS e27 s5), rfl, hf.keep ⟨rfl, rfl, rfl, rfl, trivial⟩, hM.pick [1] rfl⟩
   iterate 6 refine pl_gs (wanted_f hf rfl rfl rfl rfl hc26) hf rfl rfl fun a hf => ?_
   refine q_ hf rfl rfl rfl (e_pick_f hf rfl hc26 rfl) fun a hf => ?_
   refine pl_nil ?_
   obtain rfl := some_inj h24
   refine then_n ?_
   exact ⟨false, rfl, hf.keep ⟨rfl, rfl, rfl, rfl, trivial⟩, hM.pick [0] rfl⟩
  rintro a w38 ⟨t21, rfl, hf, hM⟩
  try dsimp only at h19
  rcases cond_some h19 with ⟨hc39, h19⟩ | ⟨hc39, h19⟩
  ·refine cond_t hf rfl hc39 ?_
   refine wp_skip ?_
   refine then_n ?_
   refine wp_block ?_
   refine region_pl ?_
   refine q_ hf rfl rfl rfl (e_move hf rfl) fun a hf => ?_
   obtain ⟨z40, hz41, h19⟩ := bind_some h19
   refine q_ hf rfl rfl rfl (e_add hf rfl rfl hz41) fun a hf => ?_
   refine q_ hf rfl rfl rfl (e_assign hf rfl) fun a hf => ?_
   refine pl_nil ?_
   refine blk_n ?_
   obtain rfl := some_inj h19
   refine then_n ⟨_, rfl, ?_⟩
   exact ⟨z40, rfl, hf.keep ⟨rfl, rfl, rfl, trivial⟩, hM.pick [0] rfl, (chk_R hz41)⟩
  refine cond_f hf rfl hc39 ?_
  refine wp_exit ?_
  refine then_x ?_
  obtain rfl := some_inj h19
  obtain rfl := hd20 _ rfl
  try dsimp only at h10
  refine then_x ?_
  refine exit_hit ?_
  obtain rfl := some_inj h10
  refine then_n ?_
  exact ⟨n11, rfl, hf.keep ⟨rfl, trivial⟩, hM.pick [0] rfl, hv12⟩
 rintro a w47 ⟨n7, rfl, hf, hM, hv8⟩
 try dsimp only at h
 refine wp_seq ?_
 refine region_pl ?_
 refine q_ hf rfl rfl rfl (e_move hf rfl) fun a hf => ?_
 refine q_ hf rfl rfl rfl (e_assign hf rfl) fun a hf => ?_
 refine pl_nil ?_
 refine then_n ?_
 refine wp_ret ?_
 obtain rfl := some_inj h
 exact leave1 hf rfl rfl ⟨rfl, hM.fin, hv8⟩
theorem r_spec_l05Has (C : Cx) (list1 : (List Str)) (A2 : Option Addr) (c3 : Nat) (hp4 : (sliceRep strRep).R C.w0 C.S0 list1 [vL A2 list1 c3]) (s5 : Str) (hp6 : s5.length ≤ maxLen) (r : Bool) (h : m_spec_l05Has list1 s5 = some r) :
    Calls Tryz.prog 67 #[vL A2 (list1) c3, vS (s5)] C.w0 fun e w => e = .returned (.bool (r)) ∧ Mem C w [] [] := by
 have hM := Mem.begin C [.dat (sliceRep strRep) list1 [vL A2 list1 c3]] ⟨hp4, trivial⟩
 refine enter Tryz.func67 rfl Tryz.ntmps67 rfl fun a hf => ?_
 unfold m_spec_l05Has at h
 refine wp_seq ?_
 refine region_pl ?_
 refine q_ hf rfl rfl rfl (e_assign hf rfl) fun a hf => ?_
 refine pl_nil ?_
 refine then_n ?_
 refine wp_seq ?_
 refine region_pl ?_
 iterate 2 refine q_ hf rfl rfl rfl (e_move hf rfl) fun a hf => ?_
 obtain ⟨y7, hz8, h⟩ := bind_some h
 refine pl_l hf rfl rfl rfl (w_call hf Tryz.call99 rfl (r_spec_l05First ⟨_, Sh C _ _, none_, hM.sh_lt, none_not, C.G, hM.g_lt, g_none, hM.tabs⟩ list1 _ _ (hM.dat (k := 0) rfl) s5 hp6 _ hz8) ?_)
 rintro _ w10 ⟨rfl, hM2, hv9⟩
 obtain ⟨hM, hx11, hup12⟩ := hM.back hM2
 dsimp only [List.cons_append, List.nil_append] at hM hup12
 clear hM2
 refine ⟨_, rfl, fun a hf => ?_⟩
 refine q_ hf rfl rfl rfl (e_assign hf rfl) fun a hf => ?_
 refine pl_nil ?_
 refine then_n ?_
 obtain ⟨x15, h16, h⟩ := bind_some h
 refine seq_join (fun a w => ∃ (t13 : Bool), t13 = x15 ∧ Has 21 a [(4, .bool (t13))] ∧ Mem C w [] [.dat (sliceRep strRep) list1 [vL A2 list1 c3]]) ?_ ?_
 ·refine region_pl ?_
  iterate 2 refine q_ hf rfl rfl rfl (e_move hf rfl) fun a hf => ?_
  have hl17 := slice_len (hM.dat (k := 0) rfl)
  refine q_ hf rfl rfl rfl (e_lenL hf (x := list1) rfl Tryz.underlying30) fun a hf => ?_
  refine q_ hf rfl rfl rfl (e_lt hf (x := y7) (y := (list1.length : Int)) rfl rfl) fun a hf => ?_
  refine q_ hf rfl rfl rfl (e_move hf rfl) fun a hf => ?_
  rcases cond_some h16 with ⟨hc18, h16⟩ | ⟨hc18, h16⟩
  ·iterate 2 refine gq (wanted_t hf rfl rfl rfl rfl hc18) hf rfl rfl (e_move hf rfl) fun a hf => ?_
   obtain ⟨e19, hz20, h16⟩ := bind_some h16
   obtain ⟨b24, o25, _, hA26, h21, h22, hr23, hM⟩ := hM.elem (hM.dat (k := 0) rfl) (n := 1) rfl hz20
   obtain ⟨rfl, hv27⟩ := hr23
   refine gq (wanted_t hf rfl rfl rfl rfl hc18) hf rfl rfl (e_indexAddr (A := A2) (b := b24) (o := o25) (xs := list1) (i := y7) hf hA26 rfl rfl Tryz.underlying30 Tryz.sizeOf9 h21 h22) fun a hf => ?_
   refine gq (wanted_t hf rfl rfl rfl rfl hc18) hf rfl rfl (e_load1 hf rfl Tryz.isAgg9 (hM.litCell (k := 0) (j := 0) rfl rfl rfl)) fun a hf => ?_
   refine gq (wanted_t hf rfl rfl rfl rfl hc18) hf rfl rfl (e_move hf rfl) fun a hf => ?_
   refine gq (wanted_t hf rfl rfl rfl rfl hc18) hf rfl rfl (e_eqS hf (x := e19) (y := s5) rfl rfl) fun a hf => ?_
   refine q_ hf rfl rfl rfl (e_pick_t hf rfl hc18 rfl) fun a hf => ?_
   refine q_ hf rfl rfl rfl (e_assign hf rfl) fun a hf => ?_
   refine pl_nil ?_
   obtain rfl := some_inj h16
   refine then_n ?_
   exact ⟨(e19 == s5), rfl, hf.keep ⟨rfl, trivial⟩, hM.pick [1] rfl⟩
  iterate 6 refine pl_gs (wanted_f hf rfl rfl rfl rfl hc18) hf rfl rfl fun a hf => ?_
  refine q_ hf rfl rfl rfl (e_pick_f hf rfl hc18 rfl) fun a hf => ?_
  refine q_ hf rfl rfl rfl (e_assign hf rfl) fun a hf => ?_
  refine pl_nil ?_
  obtain rfl := some_inj h16
  refine then_n ?_
  exact ⟨false, rfl, hf.keep ⟨rfl, trivial⟩, hM.pick [0] rfl⟩
 rintro a w30 ⟨t13, rfl, hf, hM⟩
 try dsimp only at h
 refine wp_ret ?_
 obtain rfl := some_inj h
 exact leave1 hf rfl rfl ⟨rfl, hM.fin⟩
theorem r_spec_l08Only (C : Cx) (a1 : (List Str)) (A2 : Option Addr) (c3 : Nat) (hp4 : (sliceRep strRep).R C.w0 C.S0 a1 [vL A2 a1 c3]) (b5 : (List Str)) (A6 : Option Addr) (c7 : Nat) (hp8 : (sliceRep strRep).R C.w0 C.S0 b5 [vL A6 b5 c7]) (in_9 : Bool) (r : (List Str)) (h : m_spec_l08Only a1 b5 in_9 = some r) :
    Calls Tryz.prog 43 #[vL A2 (a1) c3, vL A6 (b5) c7, .bool (in_9)] C.w0 fun e w => ∃ (A_1 : Option Addr), ∃ (c_1 : Nat), e = .returned (vL A_1 (r) c_1) ∧ Mem C w [.row strRep A_1 c_1 9 r true] [] := by
 have hM := Mem.begin C [.dat (sliceRep strRep) b5 [vL A6 b5 c7], .dat (sliceRep strRep) a1 [vL A2 a1 c3]] ⟨hp8, hp4, trivial⟩
 refine enter Tryz.func43 rfl Tryz.ntmps43 rfl fun a hf => ?_
 unfold m_spec_l08Only at h
 refine wp_seq ?_
 refine region_pl ?_
 refine q_ hf rfl rfl rfl (e_assign hf rfl) fun a hf => ?_
 refine pl_nil ?_
 refine then_n ?_
 refine wp_seq ?_
 refine region_pl ?_
 refine pl_l hf rfl rfl rfl (w_slice0 (K := strRep) hM Tryz.underlying30 ei_9 fun b10 w11 hx12 hM a hf => ?_)
 refine q_ hf rfl rfl rfl (e_assign hf rfl) fun a hf => ?_
 refine pl_nil ?_
 refine then_n ?_
 obtain ⟨x16, h17, h⟩ := bind_some h
 refine seq_join (fun a w => ∃ (xs13 : (List Str)) (A14 : Option Addr) (c15 : Nat), xs13 = x16 ∧ Has 32 a [(7, vL A14 (xs13) c15)] ∧ Mem C w [.row strRep A14 c15 9 xs13 true] [.dat (sliceRep strRep) b5 [vL A6 b5 c7], .dat (sliceRep strRep) a1 [vL A2 a1 c3]]) ?_ ?_
 ·refine wp_seq ?_
  refine region_pl ?_
  refine q_ hf rfl rfl rfl (e_assign hf rfl) fun a hf => ?_
  refine pl_nil ?_
  refine then_n ?_
  refine wp_block ?_
  obtain ⟨x27, h28, h17⟩ := bind_some h17
  refine wp_loopM h28 (fun s a w => ∃ (xs18 : (List Str)) (n21 : Int) (A19 : Option Addr) (c20 : Nat), (xs18, n21) = s ∧ Has 32 a [(0, vL A2 (a1) c3), (1, vL A6 (b5) c7), (2, .bool (in_9)), (7, vL A19 (xs18) c20), (8, vI (n21))] ∧ Mem C w [.row strRep A19 c20 9 xs18 true] [.dat (sliceRep strRep) b5 [vL A6 b5 c7], .dat (sliceRep strRep) a1 [vL A2 a1 c3]] ∧ R64 n21) ?_ ?_
  ·exact ⟨([] : (List Str)), 0, (some ⟨b10, 0, none⟩), 0, rfl, hf.keep ⟨rfl, rfl, rfl, rfl, rfl, trivial⟩, hM.pick [0, 1] rfl, (R64_lit rfl)⟩
  rintro s o29 a w23 ⟨xs18, n21, A19, c20, rfl, hf, hM, hv22⟩ h30 hd31
  replace h30 : m_spec_l08Only_l1 a1 b5 in_9 xs18 n21 = some o29 := h30
  unfold m_spec_l08Only_l1 at h30
  iterate 2 refine wp_seq ?_
  refine region_pl ?_
  iterate 2 refine q_ hf rfl rfl rfl (e_move hf rfl) fun a hf => ?_
  have hl32 := slice_len (hM.dat (k := 1) rfl)
  refine q_ hf rfl rfl rfl (e_lenL hf (x := a1) rfl Tryz.underlying30) fun a hf => ?_
  refine q_ hf rfl rfl rfl (e_lt hf (x := n21) (y := (a1.length : Int)) rfl rfl) fun a hf => ?_
  refine pl_nil ?_
  refine then_n ?_
  rcases cond_some h30 with ⟨hc33, h30⟩ | ⟨hc33, h30⟩
  ·refine cond_t hf rfl hc33 ?_
   refine wp_skip ?_
   refine then_n ?_
   obtain ⟨x37, h38, h30⟩ := bind_some h30
   refine seq_join (fun a w => ∃ (xs34 : (List Str)) (A35 : Option Addr) (c36 : Nat), xs34 = x37 ∧ Has 32 a [(0, vL A2 (a1) c3), (1, vL A6 (b5) c7), (2, .bool (in_9)), (7, vL A35 (xs34) c36), (8, vI (n21))] ∧ Mem C w [.row strRep A35 c36 9 xs34 true] [.dat (sliceRep strRep) b5 [vL A6 b5 c7], .dat (sliceRep strRep) a1 [vL A2 a1 c3]]) ?_ ?_
   ·refine wp_block ?_
    refine wp_seq ?_
    refine region_pl ?_
    iterate 3 refine q_ hf rfl rfl rfl (e_move hf rfl) fun a hf => ?_
    obtain ⟨e39, hz40, h38⟩ := bind_some h38
    obtain ⟨b44, o45, _, hA46, h41, h42, hr43, hM⟩ := hM.elem (hM.dat (k := 1) rfl) (n := 1) rfl hz40
    obtain ⟨rfl, hv47⟩ := hr43
    refine q_ hf rfl rfl rfl (e_indexAddr (A := A2) (b := b44) (o := o45) (xs := a1) (i := n21) hf hA46 rfl rfl Tryz.underlying30 Tryz.sizeOf9 h41 h42) fun a hf => ?_
    refine q_ hf rfl rfl rfl (e_load1 hf rfl Tryz.isAgg9 (hM.litCell (k := 0) (j := 0) rfl rfl rfl)) fun a hf => ?_
    obtain ⟨y48, hz49, h38⟩ := bind_some h38
    refine pl_l hf rfl rfl rfl (w_call hf Tryz.call67 rfl (r_spec_l05Has ⟨_, Sh C _ _, none_, hM.sh_lt, none_not, C.G, hM.g_lt, g_none, hM.tabs⟩ b5 _ _ (hM.dat (k := 1) rfl) e39 hv47 _ hz49) ?_)
    rintro _ w50 ⟨rfl, hM2⟩
    obtain ⟨hM, hx51, hup52⟩ := hM.back hM2
    dsimp only [List.cons_append, List.nil_append] at hM hup52
    clear hM2
    refine ⟨_, rfl, fun a hf => ?_⟩
    refine q_ hf rfl rfl rfl (e_move hf rfl) fun a hf => ?_
    refine q_ hf rfl rfl rfl (e_eqT hf rfl rfl Tryz.underlying4) fun a hf => ?_
    refine pl_nil ?_
    refine then_n ?_
    rcases cond_some h38 with ⟨hc53, h38⟩ | ⟨hc53, h38⟩
    ·refine cond_t hf rfl hc53 ?_
     refine region_pl ?_
     iterate 3 refine q_ hf rfl rfl rfl (e_move hf rfl) fun a hf => ?_
     obtain ⟨e54, hz55, h38⟩ := bind_some h38
     obtain ⟨b59, o60, _, hA61, h56, h57, hr58, hM⟩ := hM.elem (hM.dat (k := 2) rfl) (n := 1) rfl hz55
     obtain ⟨rfl, hv62⟩ := hr58
     refine q_ hf rfl rfl rfl (e_indexAddr (A := A2) (b := b59) (o := o60) (xs := a1) (i := n21) hf hA61 rfl rfl Tryz.underlying30 Tryz.sizeOf9 h56 h57) fun a hf => ?_
     refine q_ hf rfl rfl rfl (e_load1 hf rfl Tryz.isAgg9 (hM.litCell (k := 0) (j := 0) rfl rfl rfl)) fun a hf => ?_
     refine pl_l hf rfl rfl rfl (w_slice hf hM (K := strRep) (xs := ([e54] : (List Str))) (os := [.tmp 28]) Tryz.underlying30 ei_9 rfl rfl rfl rfl rfl ⟨⟨[vS (e54)], rfl, ⟨rfl, hv62⟩⟩, trivial⟩ rfl fun b63 w64 hx65 hM a hf => ?_)
     obtain ⟨xs66, hz67, h38⟩ := bind_some h38
     refine pl_l hf rfl rfl rfl (w_append hf hM Tryz.underlying30 ei_9 rfl rfl rfl (k := 1) rfl (hM.srcRow (k := 0) rfl) hz67 fun A68 c69 w70 hM a hf => ?_)
     dsimp only [List.set] at hM
     refine q_ hf rfl rfl rfl (e_assign hf rfl) fun a hf => ?_
     refine pl_nil ?_
     refine blk_n ?_
     obtain rfl := some_inj h38
     refine then_n ?_
     exact ⟨xs66, A68, c69, rfl, hf.keep ⟨rfl, rfl, rfl, rfl, rfl, trivial⟩, (hM.drop (.cons _ (.cons_cons _ .slnil))).pick [2, 3] rfl⟩
    refine cond_f hf rfl hc53 ?_
    refine wp_skip ?_
    refine blk_n ?_
    obtain rfl := some_inj h38
    refine then_n ?_
    exact ⟨xs18, A19, c20, rfl, hf.keep ⟨rfl, rfl, rfl, rfl, rfl, trivial⟩, hM.pick [1, 2] rfl⟩
   rintro a w75 ⟨xs34, A35, c36, rfl, hf, hM⟩
   try dsimp only at h30
   refine region_pl ?_
   refine q_ hf rfl rfl rfl (e_move hf rfl) fun a hf => ?_
   obtain ⟨z76, hz77, h30⟩ := bind_some h30
   refine q_ hf rfl rfl rfl (e_add hf rfl rfl hz77) fun a hf => ?_
   refine q_ hf rfl rfl rfl (e_assign hf rfl) fun a hf => ?_
   refine pl_nil ?_
   obtain rfl := some_inj h30
   refine then_n ⟨_, rfl, ?_⟩
   exact ⟨xs34, z76, A35, c36, rfl, hf.keep ⟨rfl, rfl, rfl, rfl, rfl, trivial⟩, hM.pick [0, 1] rfl, (chk_R hz77)⟩
  refine cond_f hf rfl hc33 ?_
  refine wp_exit ?_
  refine then_x ?_
  obtain rfl := some_inj h30
  obtain rfl := hd31 _ rfl
  try dsimp only at h17
  refine then_x ?_
  refine exit_hit ?_
  obtain rfl := some_inj h17
  refine then_n ?_
  exact ⟨xs18, A19, c20, rfl, hf.keep ⟨rfl, trivial⟩, hM.pick [0, 1] rfl⟩
 rintro a w83 ⟨xs13, A14, c15, rfl, hf, hM⟩
 try dsimp only at h
 refine wp_seq ?_
 refine region_pl ?_
 refine q_ hf rfl rfl rfl (e_move hf rfl) fun a hf => ?_
 refine q_ hf rfl rfl rfl (e_assign hf rfl) fun a hf => ?_
 refine pl_nil ?_
 refine then_n ?_
 refine wp_ret ?_
 obtain rfl := some_inj h
 exact leave1 hf rfl rfl ⟨A14, c15, rfl, hM.fin⟩
theorem r_spec_l08Code (C : Cx) (list1 : (List Str)) (A2 : Option Addr) (c3 : Nat) (hp4 : (sliceRep strRep).R C.w0 C.S0 list1 [vL A2 list1 c3]) (r : (Dawg × Int)) (h : m_spec_l08Code list1 = some r) :
    Calls Tryz.prog 36 #[vL A2 (list1) c3] C.w0 fun e w => ∃ (A_1 : Option Addr), ∃ (c_1 : Nat), e = .returned (.tuple #[.agg #[vL A_1 (r.1.Nodes) c_1], vI (r.2)]) ∧ Mem C w [] [] ∧ (sliceRep NodeRep).R w (Sh C [] w) r.1.Nodes [vL A_1 r.1.Nodes c_1] ∧ R64 r.2 := by
 have hM := Mem.begin C [.dat (sliceRep strRep) list1 [vL A2 list1 c3]] ⟨hp4, trivial⟩
 refine enter Tryz.func36 rfl Tryz.ntmps36 rfl fun a hf => ?_
 unfold m_spec_l08Code at h
 refine wp_seq ?_
 refine region_pl ?_
 refine pl_l hf rfl rfl rfl (w_alloc hM (cs := [vL none (([] : (List Node))) 0]) Tryz.zeroValue26 rfl fun b5 w6 hx7 hM a hf => ?_)
 refine q_ hf rfl rfl rfl (e_assign hf rfl) fun a hf => ?_
 refine pl_nil ?_
 refine then_n ?_
 iterate 2 refine wp_seq ?_
 refine region_pl ?_
 refine q_ hf rfl rfl rfl (e_move hf rfl) fun a hf => ?_
 have hl9 := slice_len (hM.dat (k := 0) rfl)
 refine q_ hf rfl rfl rfl (e_lenL hf (x := list1) rfl Tryz.underlying30) fun a hf => ?_
 refine q_ hf rfl rfl rfl (e_gt hf (x := (list1.length : Int)) (y := 3000) rfl rfl) fun a hf => ?_
 refine pl_nil ?_
 refine then_n ?_
 rcases cond_some h with ⟨hc10, h⟩ | ⟨hc10, h⟩
 ·refine cond_t hf rfl hc10 ?_
  refine wp_seq ?_
  refine region_pl ?_
  refine q_ hf rfl rfl rfl (e_build hf Tryz.zeroValue26 Tryz.underlying26 (bp_26 _ Tryz.underlying26.symm) rfl (cs := #[vL none (([] : (List Node))) 0]) (by kernel_rfl)) fun a hf => ?_
  refine pl_0 hf rfl rfl (w_store hf hM (us := [vL none (([] : (List Node))) 0]) (cs' := [vL none (([] : (List Node))) 0]) rfl rfl (k := 0) rfl rfl Tryz.sizeOf26 rfl rfl rfl fun w11 hM => ?_)
  dsimp only [List.set] at hM
  refine q_ hf rfl rfl rfl (e_assign hf rfl) fun a hf => ?_
  refine pl_nil ?_
  refine then_n ?_
  refine wp_ret ?_
  refine then_r ?_
  obtain rfl := some_inj h
  have hres14 := leaveV2 (P := Tryz.prog) (w := w11) Tryz.results36 (res_agg hf rfl ⟨Tryz.isAgg26, Tryz.sizeOf26⟩ (us := [vL none (([] : (List Node))) 0]) rfl (hM.boxSub (k := 0) (o := 0) rfl rfl)) (res_tmp hf rfl)
  have hM := hM.add (y := .dat (sliceRep NodeRep) ([] : (List Node)) [vL none ([] : (List Node)) 0]) (nil_slice _ _ _)
  have hM := hM.outs (own' := []) 0 rfl
  exact bodyPost_ret hres14 hf.defers ⟨none, 0, rfl, hM.fin, (hM.dat (k := 0) rfl), (R64_lit rfl)⟩
 refine cond_f hf rfl hc10 ?_
 refine wp_skip ?_
 refine then_n ?_
 refine wp_seq ?_
 refine region_pl ?_
 refine q_ hf rfl rfl rfl (e_move hf rfl) fun a hf => ?_
 obtain ⟨y15, hz16, h⟩ := bind_some h
 refine pl_l hf rfl rfl rfl (w_call hf Tryz.call45 rfl (r_spec_l06Build ⟨_, Sh C _ _, none_, hM.sh_lt, none_not, C.G, hM.g_lt, g_none, hM.tabs⟩ list1 _ _ (hM.dat (k := 0) rfl) _ hz16) ?_)
 rintro _ w20 ⟨A17, c18, rfl, hM2, hv19⟩
 obtain ⟨hM, hx21, hup22⟩ := hM.back hM2
 dsimp only [List.cons_append, List.nil_append] at hM hup22
 clear hM2
 have hM := hM.add (y := .dat (sliceRep NodeRep) y15.Nodes [vL A17 y15.Nodes c18]) (hup22 hv19)
 refine ⟨_, rfl, fun a hf => ?_⟩
 refine pl_l hf rfl rfl rfl (w_alloc hM (cs := [vL none (([] : (List Node))) 0]) Tryz.zeroValue26 rfl fun b23 w24 hx25 hM a hf => ?_)
 refine pl_0 hf rfl rfl (w_store hf hM (us := [vL A17 (y15.Nodes) c18]) (cs' := [vL A17 (y15.Nodes) c18]) rfl rfl (k := 0) rfl rfl Tryz.sizeOf26 rfl rfl rfl fun w27 hM => ?_)
 dsimp only [List.set] at hM
 refine pl_nil ?_
 refine then_n ?_
 iterate 2 refine wp_seq ?_
 refine region_pl ?_
 refine q_ hf rfl rfl rfl (e_field hf rfl Tryz.underlying26 rfl Tryz.sizeOf24 (o' := 0) rfl) fun a hf => ?_
 refine q_ hf rfl rfl rfl (e_load1 hf rfl Tryz.isAgg24 (hM.boxCell (k := 0) rfl rfl)) fun a hf => ?_
 have hl30 := slice_len (hM.dat (k := 0) rfl)
 refine q_ hf rfl rfl rfl (e_lenL hf (x := y15.Nodes) rfl Tryz.underlying24) fun a hf => ?_
 refine q_ hf rfl rfl rfl (e_gt hf (x := (y15.Nodes.length : Int)) (y := 3000) rfl rfl) fun a hf => ?_
 refine pl_nil ?_
 refine then_n ?_
 rcases cond_some h with ⟨hc31, h⟩ | ⟨hc31, h⟩
 ·refine cond_t hf rfl hc31 ?_
  refine wp_seq ?_
  refine region_pl ?_
  refine q_ hf rfl rfl rfl (e_build hf Tryz.zeroValue26 Tryz.underlying26 (bp_26 _ Tryz.underlying26.symm) rfl (cs := #[vL none (([] : (List Node))) 0]) (by kernel_rfl)) fun a hf => ?_
  refine pl_0 hf rfl rfl (w_store hf hM (us := [vL none (([] : (List Node))) 0]) (cs' := [vL none (([] : (List Node))) 0]) rfl rfl (k := 1) rfl rfl Tryz.sizeOf26 rfl rfl rfl fun w32 hM => ?_)
  dsimp only [List.set] at hM
  refine q_ hf rfl rfl rfl (e_assign hf rfl) fun a hf => ?_
  refine pl_nil ?_
  refine then_n ?_
  refine wp_ret ?_
  refine then_r ?_
  obtain rfl := some_inj h
  have hres35 := leaveV2 (P := Tryz.prog) (w := w32) Tryz.results36 (res_agg hf rfl ⟨Tryz.isAgg26, Tryz.sizeOf26⟩ (us := [vL none (([] : (List Node))) 0]) rfl (hM.boxSub (k := 1) (o := 0) rfl rfl)) (res_tmp hf rfl)
  have hM := hM.add (y := .dat (sliceRep NodeRep) ([] : (List Node)) [vL none ([] : (List Node)) 0]) (nil_slice _ _ _)
  have hM := hM.outs (own' := []) 0 rfl
  exact bodyPost_ret hres35 hf.defers ⟨none, 0, rfl, hM.fin, (hM.dat (k := 0) rfl), (R64_lit rfl)⟩
 refine cond_f hf rfl hc31 ?_
 refine wp_skip ?_
 refine then_n ?_
 refine wp_seq ?_
 refine region_pl ?_
 refine q_ hf rfl rfl rfl (e_loadA hf (us := [vL A17 (y15.Nodes) c18]) rfl ⟨Tryz.isAgg26, Tryz.sizeOf26⟩ rfl (hM.boxSub (k := 0) (us := [vL A17 (y15.Nodes) c18]) (o := 0) rfl rfl)) fun a hf => ?_
 refine pl_0 hf rfl rfl (w_store hf hM (us := [vL A17 (y15.Nodes) c18]) (cs' := [vL A17 (y15.Nodes) c18]) rfl rfl (k := 1) rfl rfl Tryz.sizeOf26 rfl rfl rfl fun w36 hM => ?_)
 dsimp only [List.set] at hM
 refine q_ hf rfl rfl rfl (e_assign hf rfl) fun a hf => ?_
 refine pl_nil ?_
 refine then_n ?_
 refine wp_ret ?_
 obtain rfl := some_inj h
 have hres39 := leaveV2 (P := Tryz.prog) (w := w36) Tryz.results36 (res_agg hf rfl ⟨Tryz.isAgg26, Tryz.sizeOf26⟩ (us := [vL A17 (y15.Nodes) c18]) rfl (hM.boxSub (k := 1) (o := 0) rfl rfl)) (res_tmp hf rfl)
 have hM := hM.outs (own' := []) 0 rfl
 exact bodyPost_ret hres39 hf.defers ⟨A17, c18, rfl, hM.fin, (hM.dat (k := 0) rfl), (R64_lit rfl)⟩
theorem r_spec_MinusDawg (C : Cx) (a1 : Dawg) (A2 : Option Addr) (c3 : Nat) (hp4 : (sliceRep NodeRep).R C.w0 C.S0 a1.Nodes [vL A2 a1.Nodes c3]) (b5 : Dawg) (A6 : Option Addr) (c7 : Nat) (hp8 : (sliceRep NodeRep).R C.w0 C.S0 b5.Nodes [vL A6 b5.Nodes c7]) (r : (Dawg × Int)) (h : m_spec_MinusDawg a1 b5 = some r) :
    Calls Tryz.prog 23 #[.agg #[vL A2 (a1.Nodes) c3], .agg #[vL A6 (b5.Nodes) c7]] C.w0 fun e w => ∃ (A_1 : Option Addr), ∃ (c_1 : Nat), e = .returned (.tuple #[.agg #[vL A_1 (r.1.Nodes) c_1], vI (r.2)]) ∧ Mem C w [] [] ∧ (sliceRep NodeRep).R w (Sh C [] w) r.1.Nodes [vL A_1 r.1.Nodes c_1] ∧ R64 r.2 := by
 have hM := Mem.begin C [.dat (sliceRep NodeRep) b5.Nodes [vL A6 b5.Nodes c7], .dat (sliceRep NodeRep) a1.Nodes [vL A2 a1.Nodes c3]] ⟨hp8, hp4, trivial⟩
 refine enter Tryz.func23 rfl Tryz.ntmps23 rfl fun a hf => ?_
 unfold m_spec_MinusDawg at h
 refine wp_seq ?_
 refine region_pl ?_
 refine pl_l hf rfl rfl rfl (w_box hf hM (cs := [vL A2 (a1.Nodes) c3]) rfl rfl fun b9 w10 hx11 hM a hf => ?_)
 refine pl_l hf rfl rfl rfl (w_box hf hM (cs := [vL A6 (b5.Nodes) c7]) rfl rfl fun b13 w14 hx15 hM a hf => ?_)
 refine pl_l hf rfl rfl rfl (w_alloc hM (cs := [vL none (([] : (List Node))) 0]) Tryz.zeroValue26 rfl fun b17 w18 hx19 hM a hf => ?_)
 refine q_ hf rfl rfl rfl (e_assign hf rfl) fun a hf => ?_
 refine pl_nil ?_
 refine then_n ?_
 refine wp_seq ?_
 obtain ⟨x23, h24, h⟩ := bind_some h
 refine seq_join (fun a w => ∃ (t21 : Bool), t21 = x23 ∧ Has 19 a [(2, vP b9 (0)), (3, vP b13 (0)), (4, vP b17 (0)), (11, .bool (t21))] ∧ Mem C w [.box b17 [vL none (([] : (List Node))) 0] 26, .box b13 [vL A6 (b5.Nodes) c7] 26, .box b9 [vL A2 (a1.Nodes) c3] 26] [.dat (sliceRep NodeRep) b5.Nodes [vL A6 b5.Nodes c7], .dat (sliceRep NodeRep) a1.Nodes [vL A2 a1.Nodes c3]]) ?_ ?_
 ·refine region_pl ?_
  obtain ⟨y25, hz26, h24⟩ := bind_some h24
  refine pl_l hf rfl rfl rfl (w_call hf Tryz.call29 rfl (r_spec_l06Ok ⟨_, All C _ _, none_, hM.all_lt, none_not, C.G, hM.g_lt, g_none, hM.tabs⟩ a1 _ _ (hM.lendBox (k := 2) rfl (DawgRep_mk (x := a1) (hM.lendDat (k := 1) rfl))) _ hz26) ?_)
  rintro _ w27 ⟨rfl, hM2⟩
  obtain ⟨hM, hx28⟩ := hM.backA hM2
  clear hM2
  refine ⟨_, rfl, fun a hf => ?_⟩
  refine q_ hf rfl rfl rfl (e_not hf rfl) fun a hf => ?_
  refine q_ hf rfl rfl rfl (e_move hf rfl) fun a hf => ?_
  rcases cond_some h24 with ⟨hc30, h24⟩ | ⟨hc30, h24⟩
  ·iterate 2 refine pl_gs (wanted_f hf rfl rfl rfl rfl hc30) hf rfl rfl fun a hf => ?_
   refine q_ hf rfl rfl rfl (e_pick_t hf rfl hc30 rfl) fun a hf => ?_
   refine pl_nil ?_
   obtain rfl := some_inj h24
   refine then_n ?_
   exact ⟨true, rfl, hf.keep ⟨rfl, rfl, rfl, rfl, trivial⟩, hM.pick [0, 1] rfl⟩
  obtain ⟨y32, hz33, h24⟩ := bind_some h24
  refine pl_gl (wanted_t hf rfl rfl rfl rfl hc30) hf rfl rfl (w_call hf Tryz.call29 rfl (r_spec_l06Ok ⟨_, All C _ _, none_, hM.all_lt, none_not, C.G, hM.g_lt, g_none, hM.tabs⟩ b5 _ _ (hM.lendBox (k := 1) rfl (DawgRep_mk (x := b5) (hM.lendDat (k := 0) rfl))) _ hz33) ?_)
  rintro _ w34 ⟨rfl, hM2⟩
  obtain ⟨hM, hx35⟩ := hM.backA hM2
  clear hM2
  refine ⟨_, rfl, fun a hf => ?_⟩
  refine gq (wanted_t hf rfl rfl rfl rfl hc30) hf rfl rfl (e_not hf rfl) fun a hf => ?_
  refine q_ hf rfl rfl rfl (e_pick_f hf rfl hc30 rfl) fun a hf => ?_
  refine pl_nil ?_
  obtain rfl := some_inj h24
  refine then_n ?_
  exact ⟨(!y32), rfl, hf.keep ⟨rfl, rfl, rfl, rfl, trivial⟩, hM.pick [0, 1] rfl⟩
 rintro a w38 ⟨t21, rfl, hf, hM⟩
 try dsimp only at h
 rcases cond_some h with ⟨hc39, h⟩ | ⟨hc39, h⟩
 ·refine cond_t hf rfl hc39 ?_
  refine wp_seq ?_
  refine region_pl ?_
  refine q_ hf rfl rfl rfl (e_build hf Tryz.zeroValue26 Tryz.underlying26 (bp_26 _ Tryz.underlying26.symm) rfl (cs := #[vL none (([] : (List Node))) 0]) (by kernel_rfl)) fun a hf => ?_
  refine pl_0 hf rfl rfl (w_store hf hM (us := [vL none (([] : (List Node))) 0]) (cs' := [vL none (([] : (List Node))) 0]) rfl rfl (k := 0) rfl rfl Tryz.sizeOf26 rfl rfl rfl fun w40 hM => ?_)
  dsimp only [List.set] at hM
  refine q_ hf rfl rfl rfl (e_assign hf rfl) fun a hf => ?_
  refine pl_nil ?_
  refine then_n ?_
  refine wp_ret ?_
  refine then_r ?_
  obtain rfl := some_inj h
  have hres43 := leaveV2 (P := Tryz.prog) (w := w40) Tryz.results23 (res_agg hf rfl ⟨Tryz.isAgg26, Tryz.sizeOf26⟩ (us := [vL none (([] : (List Node))) 0]) rfl (hM.boxSub (k := 0) (o := 0) rfl rfl)) (res_tmp hf rfl)
  have hM := hM.add (y := .dat (sliceRep NodeRep) ([] : (List Node)) [vL none ([] : (List Node)) 0]) (nil_slice _ _ _)
  have hM := hM.outs (own' := []) 0 rfl
  exact bodyPost_ret hres43 hf.defers ⟨none, 0, rfl, hM.fin, (hM.dat (k := 0) rfl), (R64_lit rfl)⟩
 refine cond_f hf rfl hc39 ?_
 refine wp_skip ?_
 refine then_n ?_
 refine wp_seq ?_
 refine region_pl ?_
 obtain ⟨y44, hz45, h⟩ := bind_some h
 refine pl_l hf rfl rfl rfl (w_call hf Tryz.call38 rfl (r_spec_l08List ⟨_, All C _ _, none_, hM.all_lt, none_not, C.G, hM.g_lt, g_none, hM.tabs⟩ a1 _ _ (hM.lendBox (k := 2) rfl (DawgRep_mk (x := a1) (hM.lendDat (k := 1) rfl))) _ hz45) ?_)
 rintro _ w48 ⟨A46, c47, rfl, hM2⟩
 obtain ⟨hM, hx49⟩ := hM.backAF strRep_flat hM2
 clear hM2
 refine ⟨_, rfl, fun a hf => ?_⟩
 obtain ⟨y51, hz52, h⟩ := bind_some h
 refine pl_l hf rfl rfl rfl (w_call hf Tryz.call38 rfl (r_spec_l08List ⟨_, All C _ _, none_, hM.all_lt, none_not, C.G, hM.g_lt, g_none, hM.tabs⟩ b5 _ _ (hM.lendBox (k := 2) rfl (DawgRep_mk (x := b5) (hM.lendDat (k := 0) rfl))) _ hz52) ?_)
 rintro _ w55 ⟨A53, c54, rfl, hM2⟩
 obtain ⟨hM, hx56⟩ := hM.backAF strRep_flat hM2
 clear hM2
 refine ⟨_, rfl, fun a hf => ?_⟩
 obtain ⟨y58, hz59, h⟩ := bind_some h
 refine pl_l hf rfl rfl rfl (w_call hf Tryz.call43 rfl (r_spec_l08Only ⟨_, All C _ _, none_, hM.all_lt, none_not, C.G, hM.g_lt, g_none, hM.tabs⟩ y44 _ _ (hM.lendRow (k := 1) rfl) y51 _ _ (hM.lendRow (k := 0) rfl) false _ hz59) ?_)
 rintro _ w62 ⟨A60, c61, rfl, hM2⟩
 obtain ⟨hM, hx63⟩ := hM.backAF strRep_flat hM2
 clear hM2
 refine ⟨_, rfl, fun a hf => ?_⟩
 have hM := hM.freezeRow (k := 0) rfl rfl
 dsimp only [List.eraseIdx] at hM
 obtain ⟨y65, hz66, h⟩ := bind_some h
 refine pl_l hf rfl rfl rfl (w_call hf Tryz.call36 rfl (r_spec_l08Code ⟨_, Sh C _ _, none_, hM.sh_lt, none_not, C.G, hM.g_lt, g_none, hM.tabs⟩ y58 _ _ (hM.dat (k := 0) rfl) _ hz66) ?_)
 rintro _ w71 ⟨A67, c68, rfl, hM2, hv69, hv70⟩
 obtain ⟨hM, hx72, hup73⟩ := hM.back hM2
 dsimp only [List.cons_append, List.nil_append] at hM hup73
 clear hM2
 have hM := hM.add (y := .dat (sliceRep NodeRep) y65.1.Nodes [vL A67 y65.1.Nodes c68]) (hup73 hv69)
 refine ⟨_, rfl, fun a hf => ?_⟩
 iterate 2 refine q_ hf rfl rfl rfl (e_extract hf rfl rfl) fun a hf => ?_
 refine pl_0 hf rfl rfl (w_store hf hM (us := [vL A67 (y65.1.Nodes) c68]) (cs' := [vL A67 (y65.1.Nodes) c68]) rfl rfl (k := 2) rfl rfl Tryz.sizeOf26 rfl rfl rfl fun w74 hM => ?_)
 dsimp only [List.set] at hM
 refine q_ hf rfl rfl rfl (e_assign hf rfl) fun a hf => ?_
 refine pl_nil ?_
 refine then_n ?_
 refine wp_ret ?_
 obtain rfl := some_inj h
 have hres77 := leaveV2 (P := Tryz.prog) (w := w74) Tryz.results23 (res_agg hf rfl ⟨Tryz.isAgg26, Tryz.sizeOf26⟩ (us := [vL A67 (y65.1.Nodes) c68]) rfl (hM.boxSub (k := 2) (o := 0) rfl rfl)) (res_tmp hf rfl)
 have hM := hM.outs (own' := []) 0 rfl
 exact bodyPost_ret hres77 hf.defers ⟨A67, c68, rfl, hM.fin, (hM.dat (k := 0) rfl), hv70⟩
theorem r_impl_small (C : Cx) (c1 : UInt8) (r : Bool) (h : m_impl_small c1 = some r) :
    Calls Tryz.prog 103 #[vB (c1)] C.w0 fun e w => e = .returned (.bool (r)) ∧ Mem C w [] [] := by
 have hM := Mem.begin C [] trivial
 refine enter Tryz.func103 rfl Tryz.ntmps103 rfl fun a hf => ?_
 unfold m_impl_small at h
 refine wp_seq ?_
 refine region_pl ?_
 refine q_ hf rfl rfl rfl (e_assign hf rfl) fun a hf => ?_
 refine pl_nil ?_
 refine then_n ?_
 obtain ⟨x4, h5, h⟩ := bind_some h
 refine seq_join (fun a w => ∃ (t2 : Bool), t2 = x4 ∧ Has 9 a [(2, .bool (t2))] ∧ Mem C w [] []) ?_ ?_
 ·refine region_pl ?_
  refine q_ hf rfl rfl rfl (e_move hf rfl) fun a hf => ?_
  refine q_ hf rfl rfl rfl (e_leB hf (x := 97) (y := c1) rfl rfl) fun a hf => ?_
  refine q_ hf rfl rfl rfl (e_move hf rfl) fun a hf => ?_
  rcases cond_some h5 with ⟨hc6, h5⟩ | ⟨hc6, h5⟩
  ·refine gq (wanted_t hf rfl rfl rfl rfl hc6) hf rfl rfl (e_move hf rfl) fun a hf => ?_
   refine gq (wanted_t hf rfl rfl rfl rfl hc6) hf rfl rfl (e_leB hf (x := c1) (y := 122) rfl rfl) fun a hf => ?_
   refine q_ hf rfl rfl rfl (e_pick_t hf rfl hc6 rfl) fun a hf => ?_
   refine q_ hf rfl rfl rfl (e_assign hf rfl) fun a hf => ?_
   refine pl_nil ?_
   obtain rfl := some_inj h5
   refine then_n ?_
   exact ⟨(decide (c1 ≤ 122)), rfl, hf.keep ⟨rfl, trivial⟩, hM.pick [] rfl⟩
  iterate 2 refine pl_gs (wanted_f hf rfl rfl rfl rfl hc6) hf rfl rfl fun a hf => ?_
  refine q_ hf rfl rfl rfl (e_pick_f hf rfl hc6 rfl) fun a hf => ?_
  refine q_ hf rfl rfl rfl (e_assign hf rfl) fun a hf => ?_
  refine pl_nil ?_
  obtain rfl := some_inj h5
  refine then_n ?_
  exact ⟨false, rfl, hf.keep ⟨rfl, trivial⟩, hM.pick [] rfl⟩
 rintro a w9 ⟨t2, rfl, hf, hM⟩
 try dsimp only at h
 refine wp_ret ?_
 obtain rfl := some_inj h
 exact leave1 hf rfl rfl ⟨rfl, hM.fin⟩
theorem r_impl_formByte (C : Cx) (c1 : UInt8) (r : Bool) (h : m_impl_formByte c1 = some r) :
    Calls Tryz.prog 74 #[vB (c1)] C.w0 fun e w => e = .returned (.bool (r)) ∧ Mem C w [] [] := by
 have hM := Mem.begin C [] trivial
 refine enter Tryz.func74 rfl Tryz.ntmps74 rfl fun a hf => ?_
 unfold m_impl_formByte at h
 refine wp_seq ?_
 refine region_pl ?_
 refine q_ hf rfl rfl rfl (e_assign hf rfl) fun a hf => ?_
 refine pl_nil ?_
 refine then_n ?_
 obtain ⟨x4, h5, h⟩ := bind_some h
 refine seq_join (fun a w => ∃ (t2 : Bool), t2 = x4 ∧ Has 9 a [(2, .bool (t2))] ∧ Mem C w [] []) ?_ ?_
 ·refine region_pl ?_
  refine q_ hf rfl rfl rfl (e_move hf rfl) fun a hf => ?_
  obtain ⟨y6, hz7, h5⟩ := bind_some h5
  refine pl_l hf rfl rfl rfl (w_call hf Tryz.call103 rfl (r_impl_small ⟨_, Sh C _ _, none_, hM.sh_lt, none_not, C.G, hM.g_lt, g_none, hM.tabs⟩ c1 _ hz7) ?_)
  rintro _ w8 ⟨rfl, hM2⟩
  obtain ⟨hM, hx9, hup10⟩ := hM.back hM2
  dsimp only [List.cons_append, List.nil_append] at hM hup10
  clear hM2
  refine ⟨_, rfl, fun a hf => ?_⟩
  refine q_ hf rfl rfl rfl (e_move hf rfl) fun a hf => ?_
  rcases cond_some h5 with ⟨hc11, h5⟩ | ⟨hc11, h5⟩
  ·iterate 2 refine pl_gs (wanted_f hf rfl rfl rfl rfl hc11) hf rfl rfl fun a hf => ?_
   refine q_ hf rfl rfl rfl (e_pick_t hf rfl hc11 rfl) fun a hf => ?_
   refine q_ hf rfl rfl rfl (e_assign hf rfl) fun a hf => ?_
   refine pl_nil ?_
   obtain rfl := some_inj h5
   refine then_n ?_
   exact ⟨true, rfl, hf.keep ⟨rfl, trivial⟩, hM.pick [] rfl⟩
  refine gq (wanted_t hf rfl rfl rfl rfl hc11) hf rfl rfl (e_move hf rfl) fun a hf => ?_
  refine gq (wanted_t hf rfl rfl rfl rfl hc11) hf rfl rfl (e_eqB hf (x := c1) (y := 62) rfl rfl) fun a hf => ?_
  refine q_ hf rfl rfl rfl (e_pick_f hf rfl hc11 rfl) fun a hf => ?_
  refine q_ hf rfl rfl rfl (e_assign hf rfl) fun a hf => ?_
  refine pl_nil ?_
  obtain rfl := some_inj h5
  refine then_n ?_
  exact ⟨(c1 == 62), rfl, hf.keep ⟨rfl, trivial⟩, hM.pick [] rfl⟩
 rintro a w14 ⟨t2, rfl, hf, hM⟩
 try dsimp only at h
 refine wp_ret ?_
 obtain rfl := some_inj h
 exact leave1 hf rfl rfl ⟨rfl, hM.fin⟩
theorem r_impl_within (C : Cx) (x1 : Int) (hp2 : R64 x1) (low3 : Int) (hp4 : R64 low3) (high5 : Int) (hp6 : R64 high5) (r : Bool) (h : m_impl_within x1 low3 high5 = some r) :
    Calls Tryz.prog 75 #[vI (x1), vI (low3), vI (high5)] C.w0 fun e w => e = .returned (.bool (r)) ∧ Mem C w [] [] := by
 have hM := Mem.begin C [] trivial
 refine enter Tryz.func75 rfl Tryz.ntmps75 rfl fun a hf => ?_
 unfold m_impl_within at h
 refine wp_seq ?_
 refine region_pl ?_
 refine q_ hf rfl rfl rfl (e_assign hf rfl) fun a hf => ?_
 refine pl_nil ?_
 refine then_n ?_
 obtain ⟨x9, h10, h⟩ := bind_some h
 refine seq_join (fun a w => ∃ (t7 : Bool), t7 = x9 ∧ Has 15 a [(6, .bool (t7))] ∧ Mem C w [] []) ?_ ?_
 ·refine region_pl ?_
  iterate 2 refine q_ hf rfl rfl rfl (e_move hf rfl) fun a hf => ?_
  refine q_ hf rfl rfl rfl (e_le hf (x := low3) (y := x1) rfl rfl) fun a hf => ?_
  refine q_ hf rfl rfl rfl (e_move hf rfl) fun a hf => ?_
  rcases cond_some h10 with ⟨hc11, h10⟩ | ⟨hc11, h10⟩
  ·iterate 2 refine gq (wanted_t hf rfl rfl rfl rfl hc11) hf rfl rfl (e_move hf rfl) fun a hf => ?_
   refine gq (wanted_t hf rfl rfl rfl rfl hc11) hf rfl rfl (e_le hf (x := x1) (y := high5) rfl rfl) fun a hf => ?_
   refine q_ hf rfl rfl rfl (e_pick_t hf rfl hc11 rfl) fun a hf => ?_
   refine q_ hf rfl rfl rfl (e_assign hf rfl) fun a hf => ?_
   refine pl_nil ?_
   obtain rfl := some_inj h10
   refine then_n ?_
   exact ⟨(decide (x1 ≤ high5)), rfl, hf.keep ⟨rfl, trivial⟩, hM.pick [] rfl⟩
  iterate 3 refine pl_gs (wanted_f hf rfl rfl rfl rfl hc11) hf rfl rfl fun a hf => ?_
  refine q_ hf rfl rfl rfl (e_pick_f hf rfl hc11 rfl) fun a hf => ?_
  refine q_ hf rfl rfl rfl (e_assign hf rfl) fun a hf => ?_
  refine pl_nil ?_
  obtain rfl := some_inj h10
  refine then_n ?_
  exact ⟨false, rfl, hf.keep ⟨rfl, trivial⟩, hM.pick [] rfl⟩
 rintro a w14 ⟨t7, rfl, hf, hM⟩
 try dsimp only at h
 refine wp_ret ?_
 obtain rfl := some_inj h
 exact leave1 hf rfl rfl ⟨rfl, hM.fin⟩
theorem r_impl_nodesOk (C : Cx) (d1 : Dawg) (A2 : Option Addr) (c3 : Nat) (hp4 : (sliceRep NodeRep).R C.w0 C.S0 d1.Nodes [vL A2 d1.Nodes c3]) (r : Bool) (h : m_impl_nodesOk d1 = some r) :
    Calls Tryz.prog 47 #[.agg #[vL A2 (d1.Nodes) c3]] C.w0 fun e w => e = .returned (.bool (r)) ∧ Mem C w [] [] := by
 have hM := Mem.begin C [.dat (sliceRep NodeRep) d1.Nodes [vL A2 d1.Nodes c3]] ⟨hp4, trivial⟩
 refine enter Tryz.func47 rfl Tryz.ntmps47 rfl fun a hf => ?_
 unfold m_impl_nodesOk at h
 refine wp_seq ?_
 refine region_pl ?_
 refine pl_l hf rfl rfl rfl (w_box hf hM (cs := [vL A2 (d1.Nodes) c3]) rfl rfl fun b5 w6 hx7 hM a hf => ?_)
 refine q_ hf rfl rfl rfl (e_assign hf rfl) fun a hf => ?_
 refine pl_nil ?_
 refine then_n ?_
 refine wp_seq ?_
 obtain ⟨x11, h12, h⟩ := bind_some h
 refine seq_join (fun a w => ∃ (t9 : Bool), t9 = x11 ∧ Has 72 a [(1, vP b5 (0)), (16, .bool (t9))] ∧ Mem C w [.box b5 [vL A2 (d1.Nodes) c3] 26] [.dat (sliceRep NodeRep) d1.Nodes [vL A2 d1.Nodes c3]]) ?_ ?_
 ·refine region_pl ?_
  refine q_ hf rfl rfl rfl (e_field hf rfl Tryz.underlying26 rfl Tryz.sizeOf24 (o' := 0) rfl) fun a hf => ?_
  refine q_ hf rfl rfl rfl (e_load1 hf rfl Tryz.isAgg24 (hM.boxCell (k := 0) rfl rfl)) fun a hf => ?_
  have hl13 := slice_len (hM.dat (k := 0) rfl)
  refine q_ hf rfl rfl rfl (e_lenL hf (x := d1.Nodes) rfl Tryz.underlying24) fun a hf => ?_
  refine q_ hf rfl rfl rfl (e_lt hf (x := (d1.Nodes.length : Int)) (y := 1) rfl rfl) fun a hf => ?_
  refine q_ hf rfl rfl rfl (e_move hf rfl) fun a hf => ?_
  rcases cond_some h12 with ⟨hc14, h12⟩ | ⟨hc14, h12⟩
  ·iterate 4 refine pl_gs (wanted_f hf rfl rfl rfl rfl hc14) hf rfl rfl fun a hf => ?_
   refine q_ hf rfl rfl rfl (e_pick_t hf rfl hc14 rfl) fun a hf => ?_
   refine pl_nil ?_
   obtain rfl := some_inj h12
   refine then_n ?_
   exact ⟨true, rfl, hf.keep ⟨rfl, rfl, trivial⟩, hM.pick [0] rfl⟩
  refine gq (wanted_t hf rfl rfl rfl rfl hc14) hf rfl rfl (e_field hf rfl Tryz.underlying26 rfl Tryz.sizeOf24 (o' := 0) rfl) fun a hf => ?_
  refine gq (wanted_t hf rfl rfl rfl rfl hc14) hf rfl rfl (e_load1 hf rfl Tryz.isAgg24 (hM.boxCell (k := 0) rfl rfl)) fun a hf => ?_
  have hl16 := slice_len (hM.dat (k := 0) rfl)
  refine gq (wanted_t hf rfl rfl rfl rfl hc14) hf rfl rfl (e_lenL hf (x := d1.Nodes) rfl Tryz.underlying24) fun a hf => ?_
  refine gq (wanted_t hf rfl rfl rfl rfl hc14) hf rfl rfl (e_gt hf (x := (d1.Nodes.length : Int)) (y := 3000) rfl rfl) fun a hf => ?_
  refine q_ hf rfl rfl rfl (e_pick_f hf rfl hc14 rfl) fun a hf => ?_
  refine pl_nil ?_
  obtain rfl := some_inj h12
  refine then_n ?_
  exact ⟨(decide (3000 < (d1.Nodes.length : Int))), rfl, hf.keep ⟨rfl, rfl, trivial⟩, hM.pick [0] rfl⟩
 rintro a w18 ⟨t9, rfl, hf, hM⟩
 try dsimp only at h
 rcases cond_some h with ⟨hc19, h⟩ | ⟨hc19, h⟩
 ·refine cond_t hf rfl hc19 ?_
  refine wp_seq ?_
  refine region_pl ?_
  refine q_ hf rfl rfl rfl (e_assign hf rfl) fun a hf => ?_
  refine pl_nil ?_
  refine then_n ?_
  refine wp_ret ?_
  refine then_r ?_
  obtain rfl := some_inj h
  have hM := hM.outs (own' := []) 0 rfl
  exact leave1 hf rfl rfl ⟨rfl, hM.fin⟩
 refine cond_f hf rfl hc19 ?_
 refine wp_skip ?_
 refine then_n ?_
 obtain ⟨x20, h21, h⟩ := bind_some h
 refine seq_join (fun a w => (.inl ()) = x20 ∧ Has 72 a [] ∧ Mem C w [.box b5 [vL A2 (d1.Nodes) c3] 26] [.dat (sliceRep NodeRep) d1.Nodes [vL A2 d1.Nodes c3]]) ?_ ?_
 ·refine wp_seq ?_
  refine region_pl ?_
  refine q_ hf rfl rfl rfl (e_field hf rfl Tryz.underlying26 rfl Tryz.sizeOf24 (o' := 0) rfl) fun a hf => ?_
  refine q_ hf rfl rfl rfl (e_load1 hf rfl Tryz.isAgg24 (hM.boxCell (k := 0) rfl rfl)) fun a hf => ?_
  have hl22 := slice_len (hM.dat (k := 0) rfl)
  refine q_ hf rfl rfl rfl (e_lenL hf (x := d1.Nodes) rfl Tryz.underlying24) fun a hf => ?_
  refine q_ hf rfl rfl rfl (e_move hf rfl) fun a hf => ?_
  refine pl_nil ?_
  refine then_n ?_
  refine wp_block ?_
  obtain ⟨x26, h27, h21⟩ := bind_some h21
  refine wp_loopM h27 (fun s a w => ∃ (n23 : Int), n23 = s ∧ Has 72 a [(1, vP b5 (0)), (18, vL A2 (d1.Nodes) c3), (19, vI ((d1.Nodes.length : Int))), (20, vI (n23))] ∧ Mem C w [.box b5 [vL A2 (d1.Nodes) c3] 26] [.dat (sliceRep NodeRep) d1.Nodes [vL A2 d1.Nodes c3]] ∧ R64 n23) ?_ ?_
  ·exact ⟨0, rfl, hf.keep ⟨rfl, rfl, rfl, rfl, trivial⟩, hM.pick [0] rfl, (R64_lit rfl)⟩
  rintro s o28 a w25 ⟨n23, rfl, hf, hM, hv24⟩ h29 hd30
  replace h29 : m_impl_nodesOk_l1 d1 n23 = some o28 := h29
  unfold m_impl_nodesOk_l1 at h29
  refine wp_seq ?_
  refine region_pl ?_
  refine q_ hf rfl rfl rfl (e_lt hf (x := n23) (y := (d1.Nodes.length : Int)) rfl rfl) fun a hf => ?_
  refine pl_nil ?_
  refine then_n ?_
  refine wp_seq ?_
  rcases cond_some h29 with ⟨hc31, h29⟩ | ⟨hc31, h29⟩
  ·refine cond_t hf rfl hc31 ?_
   refine wp_skip ?_
   refine then_n ?_
   obtain ⟨x32, h33, h29⟩ := bind_some h29
   refine seq_join (fun a w => (.inl ()) = x32 ∧ Has 72 a [(1, vP b5 (0)), (18, vL A2 (d1.Nodes) c3), (19, vI ((d1.Nodes.length : Int))), (20, vI (n23))] ∧ Mem C w [.box b5 [vL A2 (d1.Nodes) c3] 26] [.dat (sliceRep NodeRep) d1.Nodes [vL A2 d1.Nodes c3]]) ?_ ?_
   ·refine wp_block ?_
    refine wp_seq ?_
    refine region_pl ?_
    obtain ⟨e34, hz35, h33⟩ := bind_some h33
    obtain ⟨b39, o40, _, hA41, h36, h37, hr38, hM⟩ := hM.elem (hM.dat (k := 0) rfl) (n := 3) rfl hz35
    obtain ⟨A43, c44, rfl, hv42, hv45⟩ := NodeRep_open hr38
    have hM := hM.add (y := .dat (sliceRep intRep) e34.Next [vL A43 e34.Next c44]) hv45
    refine q_ hf rfl rfl rfl (e_indexAddr (A := A2) (b := b39) (o := o40) (xs := d1.Nodes) (i := n23) hf hA41 rfl rfl Tryz.underlying24 Tryz.sizeOf79 h36 h37) fun a hf => ?_
    refine q_ hf rfl rfl rfl (e_loadA hf (us := [.bool (e34.Final), vS (e34.Letters), vL A43 (e34.Next) c44]) rfl ⟨Tryz.isAgg79, Tryz.sizeOf79⟩ rfl (hM.litSub (k := 1) (d := 0) (us := [.bool (e34.Final), vS (e34.Letters), vL A43 (e34.Next) c44]) rfl rfl rfl)) fun a hf => ?_
    refine pl_l hf rfl rfl rfl (w_alloc hM (cs := [.bool (false), vS (([] : Str)), vL none (([] : (List Int))) 0]) Tryz.zeroValue79 rfl fun b46 w47 hx48 hM a hf => ?_)
    refine pl_0 hf rfl rfl (w_store hf hM (us := [.bool (e34.Final), vS (e34.Letters), vL A43 (e34.Next) c44]) (cs' := [.bool (e34.Final), vS (e34.Letters), vL A43 (e34.Next) c44]) rfl rfl (k := 0) rfl rfl Tryz.sizeOf79 rfl rfl rfl fun w50 hM => ?_)
    dsimp only [List.set] at hM
    refine pl_nil ?_
    refine then_n ?_
    iterate 2 refine wp_seq ?_
    refine region_pl ?_
    refine q_ hf rfl rfl rfl (e_field hf rfl Tryz.underlying79 rfl Tryz.sizeOf9 (o' := 1) rfl) fun a hf => ?_
    refine q_ hf rfl rfl rfl (e_load1 hf rfl Tryz.isAgg9 (hM.boxCell (k := 0) rfl rfl)) fun a hf => ?_
    refine q_ hf rfl rfl rfl (e_lenS hf (x := e34.Letters) rfl Tryz.underlying9) fun a hf => ?_
    refine q_ hf rfl rfl rfl (e_field hf rfl Tryz.underlying79 rfl Tryz.sizeOf77 (o' := 2) rfl) fun a hf => ?_
    refine q_ hf rfl rfl rfl (e_load1 hf rfl Tryz.isAgg77 (hM.boxCell (k := 0) rfl rfl)) fun a hf => ?_
    have hl53 := slice_len (hM.dat (k := 0) rfl)
    refine q_ hf rfl rfl rfl (e_lenL hf (x := e34.Next) rfl Tryz.underlying77) fun a hf => ?_
    refine q_ hf rfl rfl rfl (e_ne hf (x := (e34.Letters.length : Int)) (y := (e34.Next.length : Int)) rfl rfl) fun a hf => ?_
    refine pl_nil ?_
    refine then_n ?_
    rcases cond_some h33 with ⟨hc54, h33⟩ | ⟨hc54, h33⟩
    ·refine cond_t hf rfl hc54 ?_
     refine wp_seq ?_
     refine region_pl ?_
     refine q_ hf rfl rfl rfl (e_assign hf rfl) fun a hf => ?_
     refine pl_nil ?_
     refine then_n ?_
     refine wp_ret ?_
     refine then_r ?_
     refine blk_r ?_
     obtain rfl := some_inj h33
     try dsimp only at h29
     refine then_r ?_
     obtain rfl := some_inj h29
     obtain rfl := hd30 _ rfl
     try dsimp only at h21
     refine then_r ?_
     refine blk_r ?_
     obtain rfl := some_inj h21
     try dsimp only at h
     refine then_r ?_
     obtain rfl := some_inj h
     have hM := hM.outs (own' := []) 0 rfl
     exact leave1 hf rfl rfl ⟨rfl, hM.fin⟩
    refine cond_f hf rfl hc54 ?_
    refine wp_skip ?_
    refine then_n ?_
    refine wp_seq ?_
    refine region_pl ?_
    refine q_ hf rfl rfl rfl (e_field hf rfl Tryz.underlying79 rfl Tryz.sizeOf77 (o' := 2) rfl) fun a hf => ?_
    refine q_ hf rfl rfl rfl (e_load1 hf rfl Tryz.isAgg77 (hM.boxCell (k := 0) rfl rfl)) fun a hf => ?_
    have hl55 := slice_len (hM.dat (k := 0) rfl)
    refine q_ hf rfl rfl rfl (e_lenL hf (x := e34.Next) rfl Tryz.underlying77) fun a hf => ?_
    refine q_ hf rfl rfl rfl (e_move hf rfl) fun a hf => ?_
    refine pl_nil ?_
    refine then_n ?_
    refine wp_block ?_
    obtain ⟨x59, h60, h33⟩ := bind_some h33
    refine wp_loopM h60 (fun s a w => ∃ (n56 : Int), n56 = s ∧ Has 72 a [(1, vP b5 (0)), (4, vP b46 (0)), (18, vL A2 (d1.Nodes) c3), (19, vI ((d1.Nodes.length : Int))), (20, vI (n23)), (32, vL A43 (e34.Next) c44), (33, vI ((e34.Next.length : Int))), (34, vI (n56))] ∧ Mem C w [.box b46 [.bool (e34.Final), vS (e34.Letters), vL A43 (e34.Next) c44] 79, .box b5 [vL A2 (d1.Nodes) c3] 26] [.dat (sliceRep intRep) e34.Next [vL A43 e34.Next c44], .lit b39 (o40 + (n23 : Int).toNat * 3) [.bool (e34.Final), vS (e34.Letters), vL A43 (e34.Next) c44], .dat (sliceRep NodeRep) d1.Nodes [vL A2 d1.Nodes c3]] ∧ R64 n56) ?_ ?_
    ·exact ⟨0, rfl, hf.keep ⟨rfl, rfl, rfl, rfl, rfl, rfl, rfl, rfl, trivial⟩, hM.pick [0, 1, 2] rfl, (R64_lit rfl)⟩
    rintro s o61 a w58 ⟨n56, rfl, hf, hM, hv57⟩ h62 hd63
    replace h62 : m_impl_nodesOk_l2 e34 d1 n56 = some o61 := h62
    unfold m_impl_nodesOk_l2 at h62
    refine wp_seq ?_
    refine region_pl ?_
    refine q_ hf rfl rfl rfl (e_lt hf (x := n56) (y := (e34.Next.length : Int)) rfl rfl) fun a hf => ?_
    refine pl_nil ?_
    refine then_n ?_
    refine wp_seq ?_
    rcases cond_some h62 with ⟨hc64, h62⟩ | ⟨hc64, h62⟩
    ·refine cond_t hf rfl hc64 ?_
     refine wp_skip ?_
     refine then_n ?_
     refine wp_seq ?_
     refine wp_block ?_
     refine wp_seq ?_
     refine region_pl ?_
     refine q_ hf rfl rfl rfl (e_move hf rfl) fun a hf => ?_
     obtain ⟨e65, hz66, h62⟩ := bind_some h62
     obtain ⟨b70, o71, _, hA72, h67, h68, hr69, hM⟩ := hM.elem (hM.dat (k := 0) rfl) (n := 1) rfl hz66
     obtain ⟨rfl, hv73⟩ := hr69
     refine q_ hf rfl rfl rfl (e_indexAddr (A := A43) (b := b70) (o := o71) (xs := e34.Next) (i := n56) hf hA72 rfl rfl Tryz.underlying77 Tryz.sizeOf2 h67 h68) fun a hf => ?_
     refine q_ hf rfl rfl rfl (e_load1 hf rfl Tryz.isAgg2 (hM.litCell (k := 0) (j := 0) rfl rfl rfl)) fun a hf => ?_
     iterate 2 refine q_ hf rfl rfl rfl (e_assign hf rfl) fun a hf => ?_
     refine pl_nil ?_
     refine then_n ?_
     obtain ⟨x76, h77, h62⟩ := bind_some h62
     refine seq_join (fun a w => ∃ (t74 : Bool), t74 = x76 ∧ Has 72 a [(1, vP b5 (0)), (4, vP b46 (0)), (18, vL A2 (d1.Nodes) c3), (19, vI ((d1.Nodes.length : Int))), (20, vI (n23)), (32, vL A43 (e34.Next) c44), (33, vI ((e34.Next.length : Int))), (34, vI (n56)), (69, .bool (t74))] ∧ Mem C w [.box b46 [.bool (e34.Final), vS (e34.Letters), vL A43 (e34.Next) c44] 79, .box b5 [vL A2 (d1.Nodes) c3] 26] [.lit b70 (o71 + (n56 : Int).toNat * 1) [vI (e65)], .dat (sliceRep intRep) e34.Next [vL A43 e34.Next c44], .lit b39 (o40 + (n23 : Int).toNat * 3) [.bool (e34.Final), vS (e34.Letters), vL A43 (e34.Next) c44], .dat (sliceRep NodeRep) d1.Nodes [vL A2 d1.Nodes c3]]) ?_ ?_
     ·obtain ⟨w78, hw⟩ : ∃ x, x = w58.drew := ⟨_, rfl⟩
      refine region_pi (.q 0 (.q 1 (.q 2 (.q 3 (.l 4 (.q 5 (.q 6 (.q 7 (.q 8 (.q 9 (.q 10 (.q 11 (.q 12 (.q 13 (.q 14 (.q 15 (.q 16 (.q 17 (.q 18 (.q 19 (.q 20 (.q 21 (.q 22 (.q 23 (.q 24 (.q 25 (.q 26 (.q 27 (.l 28 (.q 29 (.q 30 (.nil)))))))))))))))))))))))))))))))) (Ext w78) rfl (by kernel_rfl) ?_
      have hM := hM.drew
      rw [← hw] at hM ⊢
      clear hw
      refine pi_q hf rfl rfl rfl rfl (Ext.refl _) (e_field hf rfl Tryz.underlying79 rfl Tryz.sizeOf9 (o' := 1) rfl) fun a hf => ?_
      refine pi_q hf rfl rfl rfl rfl (Ext.refl _) (e_load1 hf rfl Tryz.isAgg9 (hM.boxCell (k := 0) rfl rfl)) fun a hf => ?_
      refine pi_q hf rfl rfl rfl rfl (Ext.refl _) (e_move hf rfl) fun a hf => ?_
      obtain ⟨c79, hz80, h77⟩ := bind_some h77
      refine pi_q hf rfl rfl rfl rfl (Ext.refl _) (e_indexS hf (x := e34.Letters) rfl rfl Tryz.underlying9 hz80) fun a hf => ?_
      refine pi_one ?_
      obtain ⟨y81, hz82, h77⟩ := bind_some h77
      refine pi_l hf rfl rfl rfl rfl (w_call hf Tryz.call74 rfl (r_impl_formByte ⟨_, Sh C _ _, none_, hM.sh_lt, none_not, C.G, hM.g_lt, g_none, hM.tabs⟩ c79 _ hz82) ?_)
      rintro _ w83 ⟨rfl, hM2⟩
      obtain ⟨hM, hx84, hup85⟩ := hM.back hM2
      dsimp only [List.cons_append, List.nil_append] at hM hup85
      clear hM2
      refine ⟨_, rfl, Ext w83, fun _ h => Ext.trans hx84 h, Ext.refl _, fun a hf => ?_⟩
      refine pi_q hf rfl rfl rfl rfl (Ext.refl _) (e_not hf rfl) fun a hf => ?_
      refine pi_q hf rfl rfl rfl rfl (Ext.refl _) (e_move hf rfl) fun a hf => ?_
      rcases cond_some h77 with ⟨hc86, h77⟩ | ⟨hc86, h77⟩
      ·iterate 3 refine pi_gs hf rfl (wanted_f hf rfl rfl rfl rfl hc86) rfl rfl (Ext.refl _) fun a hf => ?_
       iterate 10 refine pi_gs hf rfl (wanted_u hf rfl rfl rfl rfl) rfl rfl (Ext.refl _) fun a hf => ?_
       refine pi_gs hf rfl (wanted_f hf rfl rfl rfl rfl hc86) rfl rfl (Ext.refl _) fun a hf => ?_
       refine pi_q hf rfl rfl rfl rfl (Ext.refl _) (e_pick_t hf rfl hc86 rfl) fun a hf => ?_
       refine pi_q hf rfl rfl rfl rfl (Ext.refl _) (e_move hf rfl) fun a hf => ?_
       iterate 5 refine pi_gs hf rfl (wanted_f hf rfl rfl rfl rfl rfl) rfl rfl (Ext.refl _) fun a hf => ?_
       refine pi_one ?_
       refine pi_ls hf rfl (wanted_f hf rfl rfl rfl rfl rfl) rfl rfl (Ext.refl _) fun a hf => ?_
       refine pi_gs hf rfl (wanted_f hf rfl rfl rfl rfl rfl) rfl rfl (Ext.refl _) fun a hf => ?_
       refine pi_q hf rfl rfl rfl rfl (Ext.refl _) (e_pick_t hf rfl rfl rfl) fun a hf => ?_
       refine pi_nil ?_
       obtain rfl := some_inj h77
       refine then_n ?_
       exact ⟨true, rfl, hf.keep ⟨rfl, rfl, rfl, rfl, rfl, rfl, rfl, rfl, rfl, trivial⟩, hM.pick [0, 1, 2, 3] rfl⟩
      refine pi_gq hf rfl (wanted_t hf rfl rfl rfl rfl hc86) rfl rfl (Ext.refl _) (e_move hf rfl) fun a hf => ?_
      refine pi_gq hf rfl (wanted_t hf rfl rfl rfl rfl hc86) rfl rfl (Ext.refl _) (e_gt hf (x := n56) (y := 0) rfl rfl) fun a hf => ?_
      refine pi_gq hf rfl (wanted_t hf rfl rfl rfl rfl hc86) rfl rfl (Ext.refl _) (e_move hf rfl) fun a hf => ?_
      rcases cond_some h77 with ⟨hc88, h77⟩ | ⟨hc88, h77⟩
      ·refine pi_gq hf rfl (wanted_t hf rfl rfl rfl rfl hc88) rfl rfl (Ext.refl _) (e_field hf rfl Tryz.underlying79 rfl Tryz.sizeOf9 (o' := 1) rfl) fun a hf => ?_
       refine pi_gq hf rfl (wanted_t hf rfl rfl rfl rfl hc88) rfl rfl (Ext.refl _) (e_load1 hf rfl Tryz.isAgg9 (hM.boxCell (k := 0) rfl rfl)) fun a hf => ?_
       refine pi_gq hf rfl (wanted_t hf rfl rfl rfl rfl hc88) rfl rfl (Ext.refl _) (e_move hf rfl) fun a hf => ?_
       obtain ⟨z89, hz90, h77⟩ := bind_some h77
       refine pi_gq hf rfl (wanted_t hf rfl rfl rfl rfl hc88) rfl rfl (Ext.refl _) (e_sub hf rfl rfl hz90) fun a hf => ?_
       obtain ⟨c91, hz92, h77⟩ := bind_some h77
       refine pi_gq hf rfl (wanted_t hf rfl rfl rfl rfl hc88) rfl rfl (Ext.refl _) (e_indexS hf (x := e34.Letters) rfl rfl Tryz.underlying9 hz92) fun a hf => ?_
       refine pi_gq hf rfl (wanted_t hf rfl rfl rfl rfl hc88) rfl rfl (Ext.refl _) (e_field hf rfl Tryz.underlying79 rfl Tryz.sizeOf9 (o' := 1) rfl) fun a hf => ?_
       refine pi_gq hf rfl (wanted_t hf rfl rfl rfl rfl hc88) rfl rfl (Ext.refl _) (e_load1 hf rfl Tryz.isAgg9 (hM.boxCell (k := 0) rfl rfl)) fun a hf => ?_
       refine pi_gq hf rfl (wanted_t hf rfl rfl rfl rfl hc88) rfl rfl (Ext.refl _) (e_move hf rfl) fun a hf => ?_
       obtain ⟨c93, hz94, h77⟩ := bind_some h77
       refine pi_gq hf rfl (wanted_t hf rfl rfl rfl rfl hc88) rfl rfl (Ext.refl _) (e_indexS hf (x := e34.Letters) rfl rfl Tryz.underlying9 hz94) fun a hf => ?_
       refine pi_gq hf rfl (wanted_t hf rfl rfl rfl rfl hc88) rfl rfl (Ext.refl _) (e_geB hf (x := c91) (y := c93) rfl rfl) fun a hf => ?_
       refine pi_gq hf rfl (wanted_t hf rfl rfl rfl rfl hc86) rfl rfl (Ext.refl _) (e_pick_t hf rfl hc88 rfl) fun a hf => ?_
       refine pi_q hf rfl rfl rfl rfl (Ext.refl _) (e_pick_f hf rfl hc86 rfl) fun a hf => ?_
       refine pi_q hf rfl rfl rfl rfl (Ext.refl _) (e_move hf rfl) fun a hf => ?_
       rcases cond_some h77 with ⟨hc95, h77⟩ | ⟨hc95, h77⟩
       ·iterate 5 refine pi_gs hf rfl (wanted_f hf rfl rfl rfl rfl hc95) rfl rfl (Ext.refl _) fun a hf => ?_
        refine pi_one ?_
        refine pi_ls hf rfl (wanted_f hf rfl rfl rfl rfl hc95) rfl rfl (Ext.refl _) fun a hf => ?_
        refine pi_gs hf rfl (wanted_f hf rfl rfl rfl rfl hc95) rfl rfl (Ext.refl _) fun a hf => ?_
        refine pi_q hf rfl rfl rfl rfl (Ext.refl _) (e_pick_t hf rfl hc95 rfl) fun a hf => ?_
        refine pi_nil ?_
        obtain rfl := some_inj h77
        refine then_n ?_
        exact ⟨true, rfl, hf.keep ⟨rfl, rfl, rfl, rfl, rfl, rfl, rfl, rfl, rfl, trivial⟩, hM.pick [0, 1, 2, 3] rfl⟩
       refine pi_gq hf rfl (wanted_t hf rfl rfl rfl rfl hc95) rfl rfl (Ext.refl _) (e_move hf rfl) fun a hf => ?_
       refine pi_gq hf rfl (wanted_t hf rfl rfl rfl rfl hc95) rfl rfl (Ext.refl _) (e_field hf rfl Tryz.underlying26 rfl Tryz.sizeOf24 (o' := 0) rfl) fun a hf => ?_
       refine pi_gq hf rfl (wanted_t hf rfl rfl rfl rfl hc95) rfl rfl (Ext.refl _) (e_load1 hf rfl Tryz.isAgg24 (hM.boxCell (k := 1) rfl rfl)) fun a hf => ?_
       have hl97 := slice_len (hM.dat (k := 3) rfl)
       refine pi_gq hf rfl (wanted_t hf rfl rfl rfl rfl hc95) rfl rfl (Ext.refl _) (e_lenL hf (x := d1.Nodes) rfl Tryz.underlying24) fun a hf => ?_
       obtain ⟨z98, hz99, h77⟩ := bind_some h77
       refine pi_gq hf rfl (wanted_t hf rfl rfl rfl rfl hc95) rfl rfl (Ext.refl _) (e_sub hf rfl rfl hz99) fun a hf => ?_
       refine pi_one ?_
       obtain ⟨y100, hz101, h77⟩ := bind_some h77
       refine pi_gl hf rfl (wanted_t hf rfl rfl rfl rfl hc95) rfl rfl (w_call hf Tryz.call75 rfl (r_impl_within ⟨_, Sh C _ _, none_, hM.sh_lt, none_not, C.G, hM.g_lt, g_none, hM.tabs⟩ e65 hv73 0 (R64_lit rfl) z98 (chk_R hz99) _ hz101) ?_)
       rintro _ w102 ⟨rfl, hM2⟩
       obtain ⟨hM, hx103, hup104⟩ := hM.back hM2
       dsimp only [List.cons_append, List.nil_append] at hM hup104
       clear hM2
       refine ⟨_, rfl, Ext w102, fun _ h => Ext.trans hx103 h, Ext.refl _, fun a hf => ?_⟩
       refine pi_gq hf rfl (wanted_t hf rfl rfl rfl rfl hc95) rfl rfl (Ext.refl _) (e_not hf rfl) fun a hf => ?_
       refine pi_q hf rfl rfl rfl rfl (Ext.refl _) (e_pick_f hf rfl hc95 rfl) fun a hf => ?_
       refine pi_nil ?_
       obtain rfl := some_inj h77
       refine then_n ?_
       exact ⟨(!y100), rfl, hf.keep ⟨rfl, rfl, rfl, rfl, rfl, rfl, rfl, rfl, rfl, trivial⟩, hM.pick [0, 1, 2, 3] rfl⟩
      iterate 10 refine pi_gs hf rfl (wanted_f hf rfl rfl rfl rfl hc88) rfl rfl (Ext.refl _) fun a hf => ?_
      refine pi_gq hf rfl (wanted_t hf rfl rfl rfl rfl hc86) rfl rfl (Ext.refl _) (e_pick_f hf rfl hc88 rfl) fun a hf => ?_
      refine pi_q hf rfl rfl rfl rfl (Ext.refl _) (e_pick_f hf rfl hc86 rfl) fun a hf => ?_
      refine pi_q hf rfl rfl rfl rfl (Ext.refl _) (e_move hf rfl) fun a hf => ?_
      refine pi_gq hf rfl (wanted_t hf rfl rfl rfl rfl rfl) rfl rfl (Ext.refl _) (e_move hf rfl) fun a hf => ?_
      refine pi_gq hf rfl (wanted_t hf rfl rfl rfl rfl rfl) rfl rfl (Ext.refl _) (e_field hf rfl Tryz.underlying26 rfl Tryz.sizeOf24 (o' := 0) rfl) fun a hf => ?_
      refine pi_gq hf rfl (wanted_t hf rfl rfl rfl rfl rfl) rfl rfl (Ext.refl _) (e_load1 hf rfl Tryz.isAgg24 (hM.boxCell (k := 1) rfl rfl)) fun a hf => ?_
      have hl106 := slice_len (hM.dat (k := 3) rfl)
      refine pi_gq hf rfl (wanted_t hf rfl rfl rfl rfl rfl) rfl rfl (Ext.refl _) (e_lenL hf (x := d1.Nodes) rfl Tryz.underlying24) fun a hf => ?_
      obtain ⟨z107, hz108, h77⟩ := bind_some h77
      refine pi_gq hf rfl (wanted_t hf rfl rfl rfl rfl rfl) rfl rfl (Ext.refl _) (e_sub hf rfl rfl hz108) fun a hf => ?_
      refine pi_one ?_
      obtain ⟨y109, hz110, h77⟩ := bind_some h77
      refine pi_gl hf rfl (wanted_t hf rfl rfl rfl rfl rfl) rfl rfl (w_call hf Tryz.call75 rfl (r_impl_within ⟨_, Sh C _ _, none_, hM.sh_lt, none_not, C.G, hM.g_lt, g_none, hM.tabs⟩ e65 hv73 0 (R64_lit rfl) z107 (chk_R hz108) _ hz110) ?_)
      rintro _ w111 ⟨rfl, hM2⟩
      obtain ⟨hM, hx112, hup113⟩ := hM.back hM2
      dsimp only [List.cons_append, List.nil_append] at hM hup113
      clear hM2
      refine ⟨_, rfl, Ext w111, fun _ h => Ext.trans hx112 h, Ext.refl _, fun a hf => ?_⟩
      refine pi_gq hf rfl (wanted_t hf rfl rfl rfl rfl rfl) rfl rfl (Ext.refl _) (e_not hf rfl) fun a hf => ?_
      refine pi_q hf rfl rfl rfl rfl (Ext.refl _) (e_pick_f hf rfl rfl rfl) fun a hf => ?_
      refine pi_nil ?_
      obtain rfl := some_inj h77
      refine then_n ?_
      exact ⟨(!y109), rfl, hf.keep ⟨rfl, rfl, rfl, rfl, rfl, rfl, rfl, rfl, rfl, trivial⟩, hM.pick [0, 1, 2, 3] rfl⟩
     rintro a w115 ⟨t74, rfl, hf, hM⟩
     try dsimp only at h62
     rcases cond_some h62 with ⟨hc116, h62⟩ | ⟨hc116, h62⟩
     ·refine cond_t hf rfl hc116 ?_
      refine wp_seq ?_
      refine region_pl ?_
      refine q_ hf rfl rfl rfl (e_assign hf rfl) fun a hf => ?_
      refine pl_nil ?_
      refine then_n ?_
      refine wp_ret ?_
      refine blk_r ?_
      refine then_r ?_
      obtain rfl := some_inj h62
      obtain rfl := hd63 _ rfl
      try dsimp only at h33
      refine then_r ?_
      iterate 2 refine blk_r ?_
      obtain rfl := some_inj h33
      try dsimp only at h29
      refine then_r ?_
      obtain rfl := some_inj h29
      obtain rfl := hd30 _ rfl
      try dsimp only at h21
      refine then_r ?_
      refine blk_r ?_
      obtain rfl := some_inj h21
      try dsimp only at h
      refine then_r ?_
      obtain rfl := some_inj h
      have hM := hM.outs (own' := []) 0 rfl
      exact leave1 hf rfl rfl ⟨rfl, hM.fin⟩
     refine cond_f hf rfl hc116 ?_
     refine wp_skip ?_
     refine blk_n ?_
     refine then_n ?_
     refine region_pl ?_
     obtain ⟨z117, hz118, h62⟩ := bind_some h62
     refine q_ hf rfl rfl rfl (e_add hf rfl rfl hz118) fun a hf => ?_
     refine q_ hf rfl rfl rfl (e_move hf rfl) fun a hf => ?_
     refine pl_nil ?_
     obtain rfl := some_inj h62
     refine then_n ⟨_, rfl, ?_⟩
     exact ⟨z117, rfl, hf.keep ⟨rfl, rfl, rfl, rfl, rfl, rfl, rfl, rfl, trivial⟩, hM.pick [1, 2, 3] rfl, (chk_R hz118)⟩
    refine cond_f hf rfl hc64 ?_
    refine wp_exit ?_
    refine then_x ?_
    obtain rfl := some_inj h62
    obtain rfl := hd63 _ rfl
    try dsimp only at h33
    refine then_x ?_
    refine exit_hit ?_
    refine blk_n ?_
    obtain rfl := some_inj h33
    refine then_n ?_
    exact ⟨rfl, hf.keep ⟨rfl, rfl, rfl, rfl, trivial⟩, (hM.drop (.cons _ (.cons_cons _ .slnil))).pick [2] rfl⟩
   rintro a w125 ⟨rfl, hf, hM⟩
   try dsimp only at h29
   refine region_pl ?_
   obtain ⟨z126, hz127, h29⟩ := bind_some h29
   refine q_ hf rfl rfl rfl (e_add hf rfl rfl hz127) fun a hf => ?_
   refine q_ hf rfl rfl rfl (e_move hf rfl) fun a hf => ?_
   refine pl_nil ?_
   obtain rfl := some_inj h29
   refine then_n ⟨_, rfl, ?_⟩
   exact ⟨z126, rfl, hf.keep ⟨rfl, rfl, rfl, rfl, trivial⟩, hM.pick [0] rfl, (chk_R hz127)⟩
  refine cond_f hf rfl hc31 ?_
  refine wp_exit ?_
  refine then_x ?_
  obtain rfl := some_inj h29
  obtain rfl := hd30 _ rfl
  try dsimp only at h21
  refine then_x ?_
  refine exit_hit ?_
  obtain rfl := some_inj h21
  refine then_n ?_
  exact ⟨rfl, hf.keep trivial, hM.pick [0] rfl⟩
 rintro a w135 ⟨rfl, hf, hM⟩
 try dsimp only at h
 refine wp_seq ?_
 refine region_pl ?_
 refine q_ hf rfl rfl rfl (e_assign hf rfl) fun a hf => ?_
 refine pl_nil ?_
 refine then_n ?_
 refine wp_ret ?_
 obtain rfl := some_inj h
 have hM := hM.outs (own' := []) 0 rfl
 exact leave1 hf rfl rfl ⟨rfl, hM.fin⟩
def Ct_impl_inspector_visit (rc : inspector → Int → Option (Bool × inspector)) : Prop := ∀ (C : Cx) (x1 : inspector) (b2 : Nat) (A3 : Option Addr) (c4 : Nat) (hp5 : (sliceRep NodeRep).R C.w0 C.S0 x1.d.Nodes [vL A3 x1.d.Nodes c4]) (hp6 : R64 x1.met) (A7 : Option Addr) (c8 : Nat) (A9 : Option Addr) (c10 : Nat) (A11 : Option Addr) (c12 : Nat) (k13 : Int) (hp14 : R64 k13) (hO : Mem C C.w0 [.box b2 [vL A3 (x1.d.Nodes) c4, vI (x1.met), vL A7 (x1.open_) c8, vL A9 (x1.strings) c10, vL A11 (x1.longest) c12] 84, .row boolRep A7 c8 4 x1.open_ true, .row intRep A9 c10 2 x1.strings true, .row intRep A11 c12 3 x1.longest true] []) (hd : ∀ b, C.S0 b → ¬ ownB [.box b2 [vL A3 (x1.d.Nodes) c4, vI (x1.met), vL A7 (x1.open_) c8, vL A9 (x1.strings) c10, vL A11 (x1.longest) c12] 84, .row boolRep A7 c8 4 x1.open_ true, .row intRep A9 c10 2 x1.strings true, .row intRep A11 c12 3 x1.longest true] b) (r : (Bool × inspector)) (h : rc x1 k13 = some r),
    Calls Tryz.prog 48 #[vP b2 (0), vI (k13)] C.w0 fun e w => ∃ (A_1 : Option Addr), ∃ (c_1 : Nat), ∃ (A_2 : Option Addr), ∃ (c_2 : Nat), ∃ (A_3 : Option Addr), ∃ (c_3 : Nat), e = .returned (.bool (r.1)) ∧ Mem C w [.box b2 [vL A3 (x1.d.Nodes) c4, vI (r.2.met), vL A_1 (r.2.open_) c_1, vL A_2 (r.2.strings) c_2, vL A_3 (r.2.longest) c_3] 84, .row boolRep A_1 c_1 4 r.2.open_ true, .row intRep A_2 c_2 2 r.2.strings true, .row intRep A_3 c_3 3 r.2.longest true] [] ∧ R64 r.2.met
theorem r_impl_inspector_visit_b (rc : inspector → Int → Option (Bool × inspector)) (ih : Ct_impl_inspector_visit rc) : Ct_impl_inspector_visit (m_impl_inspector_visit_b rc) := by
 intro C x1 b2 A3 c4 hp5 hp6 A7 c8 A9 c10 A11 c12 k13 hp14 hO hd r h
 have hM := hO
 have hM := hM.addIn hd (y := .dat (sliceRep NodeRep) x1.d.Nodes [vL A3 x1.d.Nodes c4]) hp5
 refine enter Tryz.func48 rfl Tryz.ntmps48 rfl fun a hf => ?_
 unfold m_impl_inspector_visit_b at h
 refine wp_seq ?_
 refine region_pl ?_
 refine q_ hf rfl rfl rfl (e_assign hf rfl) fun a hf => ?_
 refine pl_nil ?_
 refine then_n ?_
 iterate 2 refine wp_seq ?_
 refine region_pl ?_
 iterate 2 refine q_ hf rfl rfl rfl (e_move hf rfl) fun a hf => ?_
 refine q_ hf rfl rfl rfl (e_nil hf rfl) fun a hf => ?_
 refine q_ hf rfl rfl rfl (e_field hf rfl Tryz.underlying84 rfl Tryz.sizeOf2 (o' := 1) rfl) fun a hf => ?_
 refine q_ hf rfl rfl rfl (e_load1 hf rfl Tryz.isAgg2 (hM.boxCell (k := 0) rfl rfl)) fun a hf => ?_
 refine q_ hf rfl rfl rfl (e_lt hf (x := k13) (y := x1.met) rfl rfl) fun a hf => ?_
 refine pl_nil ?_
 refine then_n ?_
 rcases cond_some h with ⟨hc15, h⟩ | ⟨hc15, h⟩
 ·refine cond_t hf rfl hc15 ?_
  refine wp_seq ?_
  refine region_pl ?_
  refine q_ hf rfl rfl rfl (e_move hf rfl) fun a hf => ?_
  refine q_ hf rfl rfl rfl (e_nil hf rfl) fun a hf => ?_
  refine q_ hf rfl rfl rfl (e_field hf rfl Tryz.underlying84 rfl Tryz.sizeOf81 (o' := 2) rfl) fun a hf => ?_
  refine q_ hf rfl rfl rfl (e_load1 hf rfl Tryz.isAgg81 (hM.boxCell (k := 0) rfl rfl)) fun a hf => ?_
  refine q_ hf rfl rfl rfl (e_move hf rfl) fun a hf => ?_
  obtain ⟨e16, hz17, h⟩ := bind_some h
  obtain ⟨b22, _, hA23, h18, h19, hr20, hcell21⟩ := hM.rowElemN (k := 1) rfl (n := 1) rfl hz17
  obtain rfl : _ = _ := hr20
  refine q_ hf rfl rfl rfl (e_indexAddr (A := A7) (b := b22) (o := 0) (xs := x1.open_) (i := k13) hf hA23 rfl rfl Tryz.underlying81 Tryz.sizeOf4 h18 h19) fun a hf => ?_
  refine q_ hf rfl rfl rfl (e_load1 hf rfl Tryz.isAgg4 (hcell21 0 _ rfl)) fun a hf => ?_
  refine q_ hf rfl rfl rfl (e_not hf rfl) fun a hf => ?_
  refine q_ hf rfl rfl rfl (e_assign hf rfl) fun a hf => ?_
  refine pl_nil ?_
  refine then_n ?_
  refine wp_ret ?_
  refine then_r ?_
  obtain rfl := some_inj h
  exact leave1 hf rfl rfl ⟨A7, c8, A9, c10, A11, c12, rfl, hM.fin, hp6⟩
 refine cond_f hf rfl hc15 ?_
 refine wp_skip ?_
 refine then_n ?_
 iterate 2 refine wp_seq ?_
 refine region_pl ?_
 iterate 2 refine q_ hf rfl rfl rfl (e_move hf rfl) fun a hf => ?_
 refine q_ hf rfl rfl rfl (e_nil hf rfl) fun a hf => ?_
 refine q_ hf rfl rfl rfl (e_field hf rfl Tryz.underlying84 rfl Tryz.sizeOf2 (o' := 1) rfl) fun a hf => ?_
 refine q_ hf rfl rfl rfl (e_load1 hf rfl Tryz.isAgg2 (hM.boxCell (k := 0) rfl rfl)) fun a hf => ?_
 refine q_ hf rfl rfl rfl (e_gt hf (x := k13) (y := x1.met) rfl rfl) fun a hf => ?_
 refine pl_nil ?_
 refine then_n ?_
 rcases cond_some h with ⟨hc24, h⟩ | ⟨hc24, h⟩
 ·refine cond_t hf rfl hc24 ?_
  refine wp_seq ?_
  refine region_pl ?_
  refine q_ hf rfl rfl rfl (e_assign hf rfl) fun a hf => ?_
  refine pl_nil ?_
  refine then_n ?_
  refine wp_ret ?_
  refine then_r ?_
  obtain rfl := some_inj h
  exact leave1 hf rfl rfl ⟨A7, c8, A9, c10, A11, c12, rfl, hM.fin, hp6⟩
 refine cond_f hf rfl hc24 ?_
 refine wp_skip ?_
 refine then_n ?_
 refine wp_seq ?_
 refine region_pl ?_
 refine q_ hf rfl rfl rfl (e_move hf rfl) fun a hf => ?_
 refine q_ hf rfl rfl rfl (e_nil hf rfl) fun a hf => ?_
 refine q_ hf rfl rfl rfl (e_field hf rfl Tryz.underlying84 rfl Tryz.sizeOf2 (o' := 1) rfl) fun a hf => ?_
 refine q_ hf rfl rfl rfl (e_load1 hf rfl Tryz.isAgg2 (hM.boxCell (k := 0) rfl rfl)) fun a hf => ?_
 obtain ⟨z25, hz26, h⟩ := bind_some h
 refine q_ hf rfl rfl rfl (e_add hf rfl rfl hz26) fun a hf => ?_
 refine q_ hf rfl rfl rfl (e_nil hf rfl) fun a hf => ?_
 refine q_ hf rfl rfl rfl (e_field hf rfl Tryz.underlying84 rfl Tryz.sizeOf2 (o' := 1) rfl) fun a hf => ?_
 refine pl_0 hf rfl rfl (w_store hf hM (us := [vI (z25)]) (cs' := [vL A3 (x1.d.Nodes) c4, vI (z25), vL A7 (x1.open_) c8, vL A9 (x1.strings) c10, vL A11 (x1.longest) c12]) rfl rfl (k := 0) rfl rfl Tryz.sizeOf2 rfl rfl rfl fun w27 hM => ?_)
 dsimp only [List.set] at hM
 refine pl_nil ?_
 refine then_n ?_
 refine wp_seq ?_
 refine region_pl ?_
 refine q_ hf rfl rfl rfl (e_move hf rfl) fun a hf => ?_
 refine q_ hf rfl rfl rfl (e_nil hf rfl) fun a hf => ?_
 refine q_ hf rfl rfl rfl (e_field hf rfl Tryz.underlying84 rfl Tryz.sizeOf81 (o' := 2) rfl) fun a hf => ?_
 refine q_ hf rfl rfl rfl (e_load1 hf rfl Tryz.isAgg81 (hM.boxCell (k := 0) rfl rfl)) fun a hf => ?_
 refine q_ hf rfl rfl rfl (e_move hf rfl) fun a hf => ?_
 obtain ⟨e30, hz31, h⟩ := bind_some h
 obtain ⟨b36, _, hA37, h32, h33, hr34, hcell35⟩ := hM.rowElemN (k := 1) rfl (n := 1) rfl hz31
 obtain rfl : _ = _ := hr34
 refine q_ hf rfl rfl rfl (e_indexAddr (A := A7) (b := b36) (o := 0) (xs := x1.open_) (i := k13) hf hA37 rfl rfl Tryz.underlying81 Tryz.sizeOf4 h32 h33) fun a hf => ?_
 obtain ⟨xs39, hz40, h⟩ := bind_some h
 refine pl_0 hf rfl rfl (w_storeElem hf hM (x := true) (row := [.bool (true)]) (i := k13) rfl rfl rfl hA37 (k := 1) rfl rfl Tryz.sizeOf4 rfl hz40 fun w38 hM => ?_)
 dsimp only [List.set] at hM
 have hf := hf.alter (d := 38) (v := vL A7 (xs39) c8) rfl (vL_len (setL_len hz40))
 rw [vL_len (A := A7) (c := c8) (setL_len hz40)] at hM
 refine pl_nil ?_
 refine then_n ?_
 refine wp_seq ?_
 refine region_pl ?_
 refine q_ hf rfl rfl rfl (e_move hf rfl) fun a hf => ?_
 refine q_ hf rfl rfl rfl (e_nil hf rfl) fun a hf => ?_
 refine q_ hf rfl rfl rfl (e_field hf rfl Tryz.underlying84 rfl Tryz.sizeOf26 (o' := 0) rfl) fun a hf => ?_
 refine q_ hf rfl rfl rfl (e_field hf rfl Tryz.underlying26 rfl Tryz.sizeOf24 (o' := 0) rfl) fun a hf => ?_
 refine q_ hf rfl rfl rfl (e_load1 hf rfl Tryz.isAgg24 (hM.boxCell (k := 0) rfl rfl)) fun a hf => ?_
 refine q_ hf rfl rfl rfl (e_move hf rfl) fun a hf => ?_
 obtain ⟨e43, hz44, h⟩ := bind_some h
 obtain ⟨b48, o49, _, hA50, h45, h46, hr47, hM⟩ := hM.elem (hM.dat (k := 0) rfl) (n := 3) rfl hz44
 obtain ⟨A52, c53, rfl, hv51, hv54⟩ := NodeRep_open hr47
 have hM := hM.add (y := .dat (sliceRep intRep) e43.Next [vL A52 e43.Next c53]) hv54
 refine q_ hf rfl rfl rfl (e_indexAddr (A := A3) (b := b48) (o := o49) (xs := x1.d.Nodes) (i := k13) hf hA50 rfl rfl Tryz.underlying24 Tryz.sizeOf79 h45 h46) fun a hf => ?_
 refine q_ hf rfl rfl rfl (e_loadA hf (us := [.bool (e43.Final), vS (e43.Letters), vL A52 (e43.Next) c53]) rfl ⟨Tryz.isAgg79, Tryz.sizeOf79⟩ rfl (hM.litSub (k := 1) (d := 0) (us := [.bool (e43.Final), vS (e43.Letters), vL A52 (e43.Next) c53]) rfl rfl rfl)) fun a hf => ?_
 refine pl_l hf rfl rfl rfl (w_alloc hM (cs := [.bool (false), vS (([] : Str)), vL none (([] : (List Int))) 0]) Tryz.zeroValue79 rfl fun b55 w56 hx57 hM a hf => ?_)
 refine pl_0 hf rfl rfl (w_store hf hM (us := [.bool (e43.Final), vS (e43.Letters), vL A52 (e43.Next) c53]) (cs' := [.bool (e43.Final), vS (e43.Letters), vL A52 (e43.Next) c53]) rfl rfl (k := 0) rfl rfl Tryz.sizeOf79 rfl rfl rfl fun w59 hM => ?_)
 dsimp only [List.set] at hM
 refine pl_nil ?_
 refine then_n ?_
 obtain ⟨x64, h65, h⟩ := bind_some h
 refine seq_join (fun a w => ∃ (xs62 : (List Int)), xs62 = x64 ∧ Has 131 a [(0, vP b2 (0)), (1, vI (k13)), (5, vP b55 (0))] ∧ Mem C w [.box b55 [.bool (e43.Final), vS (e43.Letters), vL A52 (e43.Next) c53] 79, .box b2 [vL A3 (x1.d.Nodes) c4, vI (z25), vL A7 (xs39) c8, vL A9 (xs62) c10, vL A11 (x1.longest) c12] 84, .row boolRep A7 c8 4 xs39 true, .row intRep A9 c10 2 xs62 true, .row intRep A11 c12 3 x1.longest true] [.dat (sliceRep intRep) e43.Next [vL A52 e43.Next c53], .lit b48 (o49 + (k13 : Int).toNat * 3) [.bool (e43.Final), vS (e43.Letters), vL A52 (e43.Next) c53], .dat (sliceRep NodeRep) x1.d.Nodes [vL A3 x1.d.Nodes c4]] ∧ xs62.length = x1.strings.length) ?_ ?_
 ·refine wp_seq ?_
  refine region_pl ?_
  refine q_ hf rfl rfl rfl (e_field hf rfl Tryz.underlying79 rfl Tryz.sizeOf4 (o' := 0) rfl) fun a hf => ?_
  refine q_ hf rfl rfl rfl (e_load1 hf rfl Tryz.isAgg4 (hM.boxCell (k := 0) rfl rfl)) fun a hf => ?_
  refine pl_nil ?_
  refine then_n ?_
  rcases cond_some h65 with ⟨hc66, h65⟩ | ⟨hc66, h65⟩
  ·refine cond_t hf rfl hc66 ?_
   refine region_pl ?_
   refine q_ hf rfl rfl rfl (e_move hf rfl) fun a hf => ?_
   refine q_ hf rfl rfl rfl (e_nil hf rfl) fun a hf => ?_
   refine q_ hf rfl rfl rfl (e_field hf rfl Tryz.underlying84 rfl Tryz.sizeOf77 (o' := 3) rfl) fun a hf => ?_
   refine q_ hf rfl rfl rfl (e_load1 hf rfl Tryz.isAgg77 (hM.boxCell (k := 1) rfl rfl)) fun a hf => ?_
   refine q_ hf rfl rfl rfl (e_move hf rfl) fun a hf => ?_
   obtain ⟨e67, hz68, h65⟩ := bind_some h65
   obtain ⟨b73, _, hA74, h69, h70, hr71, hcell72⟩ := hM.rowElemN (k := 3) rfl (n := 1) rfl hz68
   obtain ⟨rfl, hv75⟩ := hr71
   refine q_ hf rfl rfl rfl (e_indexAddr (A := A9) (b := b73) (o := 0) (xs := x1.strings) (i := k13) hf hA74 rfl rfl Tryz.underlying77 Tryz.sizeOf2 h69 h70) fun a hf => ?_
   obtain ⟨xs77, hz78, h65⟩ := bind_some h65
   refine pl_0 hf rfl rfl (w_storeElem hf hM (x := 1) (row := [vI (1)]) (i := k13) rfl rfl rfl hA74 (k := 3) rfl rfl Tryz.sizeOf2 ⟨rfl, (R64_lit rfl)⟩ hz78 fun w76 hM => ?_)
   dsimp only [List.set] at hM
   have hf := hf.alter (d := 54) (v := vL A9 (xs77) c10) rfl (vL_len (setL_len hz78))
   rw [vL_len (A := A9) (c := c10) (setL_len hz78)] at hM
   refine pl_nil ?_
   obtain rfl := some_inj h65
   refine then_n ?_
   exact ⟨xs77, rfl, hf.keep ⟨rfl, rfl, rfl, trivial⟩, hM.pick [0, 1, 2] rfl, (setL_len hz78)⟩
  refine cond_f hf rfl hc66 ?_
  refine wp_skip ?_
  obtain rfl := some_inj h65
  refine then_n ?_
  exact ⟨x1.strings, rfl, hf.keep ⟨rfl, rfl, rfl, trivial⟩, hM.pick [0, 1, 2] rfl, rfl⟩
 rintro a w83 ⟨xs62, rfl, hf, hM, hl63⟩
 try dsimp only at h
 obtain ⟨x95, h96, h⟩ := bind_some h
 refine seq_join (fun a w => ∃ (n84 : Int) (xs86 : (List Bool)) (xs89 : (List Int)) (xs92 : (List Int)) (A87 : Option Addr) (c88 : Nat) (A90 : Option Addr) (c91 : Nat) (A93 : Option Addr) (c94 : Nat), (.inl (n84, xs86, xs89, xs92)) = x95 ∧ Has 131 a [(0, vP b2 (0)), (1, vI (k13))] ∧ Mem C w [.box b55 [.bool (e43.Final), vS (e43.Letters), vL A52 (e43.Next) c53] 79, .box b2 [vL A3 (x1.d.Nodes) c4, vI (n84), vL A87 (xs86) c88, vL A90 (xs89) c91, vL A93 (xs92) c94] 84, .row boolRep A87 c88 4 xs86 true, .row intRep A90 c91 2 xs89 true, .row intRep A93 c94 3 xs92 true] [.dat (sliceRep intRep) e43.Next [vL A52 e43.Next c53], .lit b48 (o49 + (k13 : Int).toNat * 3) [.bool (e43.Final), vS (e43.Letters), vL A52 (e43.Next) c53], .dat (sliceRep NodeRep) x1.d.Nodes [vL A3 x1.d.Nodes c4]] ∧ R64 n84) ?_ ?_
 ·refine wp_seq ?_
  refine region_pl ?_
  refine q_ hf rfl rfl rfl (e_field hf rfl Tryz.underlying79 rfl Tryz.sizeOf77 (o' := 2) rfl) fun a hf => ?_
  refine q_ hf rfl rfl rfl (e_load1 hf rfl Tryz.isAgg77 (hM.boxCell (k := 0) rfl rfl)) fun a hf => ?_
  have hl97 := slice_len (hM.dat (k := 0) rfl)
  refine q_ hf rfl rfl rfl (e_lenL hf (x := e43.Next) rfl Tryz.underlying77) fun a hf => ?_
  refine q_ hf rfl rfl rfl (e_move hf rfl) fun a hf => ?_
  refine pl_nil ?_
  refine then_n ?_
  refine wp_block ?_
  obtain ⟨x123, h124, h96⟩ := bind_some h96
  refine wp_loopM h124 (fun s a w => ∃ (n98 : Int) (xs100 : (List Bool)) (xs103 : (List Int)) (xs106 : (List Int)) (n109 : Int) (A101 : Option Addr) (c102 : Nat) (A104 : Option Addr) (c105 : Nat) (A107 : Option Addr) (c108 : Nat), (n98, xs100, xs103, xs106, n109) = s ∧ Has 131 a [(0, vP b2 (0)), (1, vI (k13)), (58, vL A52 (e43.Next) c53), (59, vI ((e43.Next.length : Int))), (60, vI (n109))] ∧ Mem C w [.box b55 [.bool (e43.Final), vS (e43.Letters), vL A52 (e43.Next) c53] 79, .box b2 [vL A3 (x1.d.Nodes) c4, vI (n98), vL A101 (xs100) c102, vL A104 (xs103) c105, vL A107 (xs106) c108] 84, .row boolRep A101 c102 4 xs100 true, .row intRep A104 c105 2 xs103 true, .row intRep A107 c108 3 xs106 true] [.dat (sliceRep intRep) e43.Next [vL A52 e43.Next c53], .lit b48 (o49 + (k13 : Int).toNat * 3) [.bool (e43.Final), vS (e43.Letters), vL A52 (e43.Next) c53], .dat (sliceRep NodeRep) x1.d.Nodes [vL A3 x1.d.Nodes c4]] ∧ R64 n98 ∧ R64 n109) ?_ ?_
  ·exact ⟨z25, xs39, xs62, x1.longest, 0, A7, c8, A9, c10, A11, c12, rfl, hf.keep ⟨rfl, rfl, rfl, rfl, rfl, trivial⟩, hM.pick [0, 1, 2] rfl, (chk_R hz26), (R64_lit rfl)⟩
  rintro s o125 a w111 ⟨n98, xs100, xs103, xs106, n109, A101, c102, A104, c105, A107, c108, rfl, hf, hM, hv99, hv110⟩ h126 hd127
  replace h126 : m_impl_inspector_visit_l1 e43 rc x1 k13 n98 xs100 xs103 xs106 n109 = some o125 := h126
  unfold m_impl_inspector_visit_l1 at h126
  refine wp_seq ?_
  refine region_pl ?_
  refine q_ hf rfl rfl rfl (e_lt hf (x := n109) (y := (e43.Next.length : Int)) rfl rfl) fun a hf => ?_
  refine pl_nil ?_
  refine then_n ?_
  refine wp_seq ?_
  rcases cond_some h126 with ⟨hc128, h126⟩ | ⟨hc128, h126⟩
  ·refine cond_t hf rfl hc128 ?_
   refine wp_skip ?_
   refine then_n ?_
   refine wp_seq ?_
   refine wp_block ?_
   refine wp_seq ?_
   refine region_pl ?_
   obtain ⟨e129, hz130, h126⟩ := bind_some h126
   obtain ⟨b134, o135, _, hA136, h131, h132, hr133, hM⟩ := hM.elem (hM.dat (k := 0) rfl) (n := 1) rfl hz130
   obtain ⟨rfl, hv137⟩ := hr133
   refine q_ hf rfl rfl rfl (e_indexAddr (A := A52) (b := b134) (o := o135) (xs := e43.Next) (i := n109) hf hA136 rfl rfl Tryz.underlying77 Tryz.sizeOf2 h131 h132) fun a hf => ?_
   refine q_ hf rfl rfl rfl (e_load1 hf rfl Tryz.isAgg2 (hM.litCell (k := 0) (j := 0) rfl rfl rfl)) fun a hf => ?_
   refine q_ hf rfl rfl rfl (e_assign hf rfl) fun a hf => ?_
   refine pl_nil ?_
   refine then_n ?_
   iterate 2 refine wp_seq ?_
   refine region_pl ?_
   iterate 2 refine q_ hf rfl rfl rfl (e_move hf rfl) fun a hf => ?_
   have hM := hM.front (k := 4) rfl
   dsimp only [List.eraseIdx] at hM
   have hM := hM.front (k := 4) rfl
   dsimp only [List.eraseIdx] at hM
   have hM := hM.front (k := 4) rfl
   dsimp only [List.eraseIdx] at hM
   have hM := hM.front (k := 4) rfl
   dsimp only [List.eraseIdx] at hM
   have hM : Mem C _ ([.box b2 [vL A3 (x1.d.Nodes) c4, vI (n98), vL A101 (xs100) c102, vL A104 (xs103) c105, vL A107 (xs106) c108] 84, .row boolRep A101 c102 4 xs100 true, .row intRep A104 c105 2 xs103 true, .row intRep A107 c108 3 xs106 true] ++ [.box b55 [.bool (e43.Final), vS (e43.Letters), vL A52 (e43.Next) c53] 79]) _ := hM
   obtain ⟨y138, hz139, h126⟩ := bind_some h126
   refine pl_l hf rfl rfl rfl (w_call hf Tryz.call48 rfl (ih ⟨_, Sh C _ _, ownB _, hM.sh_lt, sub_dis, C.G, hM.g_lt, hM.g_own, hM.tabs⟩ (⟨⟨x1.d.Nodes⟩, n98, xs100, xs103, xs106⟩ : inspector) _ _ _ (hM.dat (k := 3) rfl) hv99 _ _ _ _ _ _ e129 hv137 hM.sub sub_dis _ hz139) ?_)
   rintro _ w147 ⟨A141, c142, A143, c144, A145, c146, rfl, hM2, hv140⟩
   obtain ⟨hM, hup149⟩ := hM.backG hM2
   dsimp only [List.cons_append, List.nil_append] at hM hup149
   clear hM2
   refine ⟨_, rfl, fun a hf => ?_⟩
   refine q_ hf rfl rfl rfl (e_not hf rfl) fun a hf => ?_
   refine pl_nil ?_
   refine then_n ?_
   rcases cond_some h126 with ⟨hc150, h126⟩ | ⟨hc150, h126⟩
   ·refine cond_t hf rfl hc150 ?_
    refine wp_seq ?_
    refine region_pl ?_
    refine q_ hf rfl rfl rfl (e_assign hf rfl) fun a hf => ?_
    refine pl_nil ?_
    refine then_n ?_
    refine wp_ret ?_
    refine then_r ?_
    refine blk_r ?_
    refine then_r ?_
    obtain rfl := some_inj h126
    obtain rfl := hd127 _ rfl
    try dsimp only at h96
    refine then_r ?_
    refine blk_r ?_
    obtain rfl := some_inj h96
    try dsimp only at h
    refine then_r ?_
    obtain rfl := some_inj h
    have hM := hM.outs (own' := [.box b2 [vL A3 (x1.d.Nodes) c4, vI (y138.2.met), vL A141 (y138.2.open_) c142, vL A143 (y138.2.strings) c144, vL A145 (y138.2.longest) c146] 84, .row boolRep A141 c142 4 y138.2.open_ true, .row intRep A143 c144 2 y138.2.strings true, .row intRep A145 c146 3 y138.2.longest true]) 4 rfl
    exact leave1 hf rfl rfl ⟨A141, c142, A143, c144, A145, c146, rfl, hM.fin, hv140⟩
   refine cond_f hf rfl hc150 ?_
   refine wp_skip ?_
   refine then_n ?_
   refine wp_seq ?_
   obtain ⟨w151, hw⟩ : ∃ x, x = w147.drew := ⟨_, rfl⟩
   refine region_pi (.q 0 (.q 1 (.q 2 (.q 3 (.q 4 (.q 5 (.q 6 (.q 7 (.q 8 (.q 9 (.q 10 (.q 11 (.q 12 (.q 13 (.q 14 (.q 15 (.q 16 (.q 17 (.q 18 (.q 19 (.q 20 (.q 21 (.l 22 (.nil)))))))))))))))))))))))) (Ext w151) rfl (by kernel_rfl) ?_
   have hM := hM.drew
   rw [← hw] at hM ⊢
   clear hw
   refine pi_q hf rfl rfl rfl rfl (Ext.refl _) (e_move hf rfl) fun a hf => ?_
   refine pi_q hf rfl rfl rfl rfl (Ext.refl _) (e_nil hf rfl) fun a hf => ?_
   refine pi_q hf rfl rfl rfl rfl (Ext.refl _) (e_field hf rfl Tryz.underlying84 rfl Tryz.sizeOf77 (o' := 3) rfl) fun a hf => ?_
   refine pi_q hf rfl rfl rfl rfl (Ext.refl _) (e_load1 hf rfl Tryz.isAgg77 (hM.boxCell (k := 0) rfl rfl)) fun a hf => ?_
   iterate 2 refine pi_q hf rfl rfl rfl rfl (Ext.refl _) (e_move hf rfl) fun a hf => ?_
   refine pi_q hf rfl rfl rfl rfl (Ext.refl _) (e_nil hf rfl) fun a hf => ?_
   refine pi_q hf rfl rfl rfl rfl (Ext.refl _) (e_field hf rfl Tryz.underlying84 rfl Tryz.sizeOf77 (o' := 3) rfl) fun a hf => ?_
   refine pi_q hf rfl rfl rfl rfl (Ext.refl _) (e_load1 hf rfl Tryz.isAgg77 (hM.boxCell (k := 0) rfl rfl)) fun a hf => ?_
   refine pi_q hf rfl rfl rfl rfl (Ext.refl _) (e_move hf rfl) fun a hf => ?_
   obtain ⟨e152, hz153, h126⟩ := bind_some h126
   obtain ⟨b158, _, hA159, h154, h155, hr156, hcell157⟩ := hM.rowElemN (k := 2) rfl (n := 1) rfl hz153
   obtain ⟨rfl, hv160⟩ := hr156
   refine pi_q hf rfl rfl rfl rfl (Ext.refl _) (e_indexAddr (A := A143) (b := b158) (o := 0) (xs := y138.2.strings) (i := k13) hf hA159 rfl rfl Tryz.underlying77 Tryz.sizeOf2 h154 h155) fun a hf => ?_
   refine pi_q hf rfl rfl rfl rfl (Ext.refl _) (e_load1 hf rfl Tryz.isAgg2 (hcell157 0 _ rfl)) fun a hf => ?_
   refine pi_q hf rfl rfl rfl rfl (Ext.refl _) (e_move hf rfl) fun a hf => ?_
   refine pi_q hf rfl rfl rfl rfl (Ext.refl _) (e_nil hf rfl) fun a hf => ?_
   refine pi_q hf rfl rfl rfl rfl (Ext.refl _) (e_field hf rfl Tryz.underlying84 rfl Tryz.sizeOf77 (o' := 3) rfl) fun a hf => ?_
   refine pi_q hf rfl rfl rfl rfl (Ext.refl _) (e_load1 hf rfl Tryz.isAgg77 (hM.boxCell (k := 0) rfl rfl)) fun a hf => ?_
   refine pi_q hf rfl rfl rfl rfl (Ext.refl _) (e_move hf rfl) fun a hf => ?_
   obtain ⟨e161, hz162, h126⟩ := bind_some h126
   obtain ⟨b167, _, hA168, h163, h164, hr165, hcell166⟩ := hM.rowElemN (k := 2) rfl (n := 1) rfl hz162
   obtain ⟨rfl, hv169⟩ := hr165
   refine pi_q hf rfl rfl rfl rfl (Ext.refl _) (e_indexAddr (A := A143) (b := b167) (o := 0) (xs := y138.2.strings) (i := e129) hf hA168 rfl rfl Tryz.underlying77 Tryz.sizeOf2 h163 h164) fun a hf => ?_
   refine pi_q hf rfl rfl rfl rfl (Ext.refl _) (e_load1 hf rfl Tryz.isAgg2 (hcell166 0 _ rfl)) fun a hf => ?_
   obtain ⟨z170, hz171, h126⟩ := bind_some h126
   refine pi_q hf rfl rfl rfl rfl (Ext.refl _) (e_add hf rfl rfl hz171) fun a hf => ?_
   refine pi_q hf rfl rfl rfl rfl (Ext.refl _) (e_min hf rfl rfl) fun a hf => ?_
   obtain ⟨e172, hz173, h126⟩ := bind_some h126
   obtain ⟨b178, _, hA179, h174, h175, hr176, hcell177⟩ := hM.rowElemN (k := 2) rfl (n := 1) rfl hz173
   obtain ⟨rfl, hv180⟩ := hr176
   refine pi_q hf rfl rfl rfl rfl (Ext.refl _) (e_indexAddr (A := A143) (b := b178) (o := 0) (xs := y138.2.strings) (i := k13) hf hA179 rfl rfl Tryz.underlying77 Tryz.sizeOf2 h174 h175) fun a hf => ?_
   refine pi_one ?_
   obtain ⟨xs182, hz183, h126⟩ := bind_some h126
   refine pi_z0 hf rfl rfl rfl (by kernel_rfl) (w_storeElem hf hM (x := min z170 3001) (row := [vI (min z170 3001)]) (i := k13) rfl rfl rfl hA179 (k := 2) rfl rfl Tryz.sizeOf2 ⟨rfl, (R64_min (chk_R hz171) (R64_lit rfl))⟩ hz183 fun w181 hM => ?_)
   dsimp only [List.set] at hM
   have hf := hf.alter (d := 71) (v := vL A143 (xs182) c144) rfl (vL_len (setL_len hz183))
   have hf := hf.alter (d := 76) (v := vL A143 (xs182) c144) rfl (vL_len (setL_len hz183))
   have hf := hf.alter (d := 83) (v := vL A143 (xs182) c144) rfl (vL_len (setL_len hz183))
   rw [vL_len (A := A143) (c := c144) (setL_len hz183)] at hM
   refine pi_nil ?_
   refine then_n ?_
   obtain ⟨w186, hw⟩ : ∃ x, x = w181.drew := ⟨_, rfl⟩
   refine region_pi (.q 0 (.q 1 (.q 2 (.q 3 (.q 4 (.q 5 (.q 6 (.q 7 (.q 8 (.q 9 (.q 10 (.q 11 (.q 12 (.q 13 (.q 14 (.q 15 (.q 16 (.q 17 (.q 18 (.q 19 (.q 20 (.q 21 (.l 22 (.nil)))))))))))))))))))))))) (Ext w186) rfl (by kernel_rfl) ?_
   have hM := hM.drew
   rw [← hw] at hM ⊢
   clear hw
   refine pi_q hf rfl rfl rfl rfl (Ext.refl _) (e_move hf rfl) fun a hf => ?_
   refine pi_q hf rfl rfl rfl rfl (Ext.refl _) (e_nil hf rfl) fun a hf => ?_
   refine pi_q hf rfl rfl rfl rfl (Ext.refl _) (e_field hf rfl Tryz.underlying84 rfl Tryz.sizeOf82 (o' := 4) rfl) fun a hf => ?_
   refine pi_q hf rfl rfl rfl rfl (Ext.refl _) (e_load1 hf rfl Tryz.isAgg82 (hM.boxCell (k := 0) rfl rfl)) fun a hf => ?_
   iterate 2 refine pi_q hf rfl rfl rfl rfl (Ext.refl _) (e_move hf rfl) fun a hf => ?_
   refine pi_q hf rfl rfl rfl rfl (Ext.refl _) (e_nil hf rfl) fun a hf => ?_
   refine pi_q hf rfl rfl rfl rfl (Ext.refl _) (e_field hf rfl Tryz.underlying84 rfl Tryz.sizeOf82 (o' := 4) rfl) fun a hf => ?_
   refine pi_q hf rfl rfl rfl rfl (Ext.refl _) (e_load1 hf rfl Tryz.isAgg82 (hM.boxCell (k := 0) rfl rfl)) fun a hf => ?_
   refine pi_q hf rfl rfl rfl rfl (Ext.refl _) (e_move hf rfl) fun a hf => ?_
   obtain ⟨e187, hz188, h126⟩ := bind_some h126
   obtain ⟨b193, _, hA194, h189, h190, hr191, hcell192⟩ := hM.rowElemN (k := 3) rfl (n := 1) rfl hz188
   obtain ⟨rfl, hv195⟩ := hr191
   refine pi_q hf rfl rfl rfl rfl (Ext.refl _) (e_indexAddr (A := A145) (b := b193) (o := 0) (xs := y138.2.longest) (i := k13) hf hA194 rfl rfl Tryz.underlying82 Tryz.sizeOf3 h189 h190) fun a hf => ?_
   refine pi_q hf rfl rfl rfl rfl (Ext.refl _) (e_load1 hf rfl Tryz.isAgg3 (hcell192 0 _ rfl)) fun a hf => ?_
   refine pi_q hf rfl rfl rfl rfl (Ext.refl _) (e_move hf rfl) fun a hf => ?_
   refine pi_q hf rfl rfl rfl rfl (Ext.refl _) (e_nil hf rfl) fun a hf => ?_
   refine pi_q hf rfl rfl rfl rfl (Ext.refl _) (e_field hf rfl Tryz.underlying84 rfl Tryz.sizeOf82 (o' := 4) rfl) fun a hf => ?_
   refine pi_q hf rfl rfl rfl rfl (Ext.refl _) (e_load1 hf rfl Tryz.isAgg82 (hM.boxCell (k := 0) rfl rfl)) fun a hf => ?_
   refine pi_q hf rfl rfl rfl rfl (Ext.refl _) (e_move hf rfl) fun a hf => ?_
   obtain ⟨e196, hz197, h126⟩ := bind_some h126
   obtain ⟨b202, _, hA203, h198, h199, hr200, hcell201⟩ := hM.rowElemN (k := 3) rfl (n := 1) rfl hz197
   obtain ⟨rfl, hv204⟩ := hr200
   refine pi_q hf rfl rfl rfl rfl (Ext.refl _) (e_indexAddr (A := A145) (b := b202) (o := 0) (xs := y138.2.longest) (i := e129) hf hA203 rfl rfl Tryz.underlying82 Tryz.sizeOf3 h198 h199) fun a hf => ?_
   refine pi_q hf rfl rfl rfl rfl (Ext.refl _) (e_load1 hf rfl Tryz.isAgg3 (hcell201 0 _ rfl)) fun a hf => ?_
   obtain ⟨z205, hz206, h126⟩ := bind_some h126
   refine pi_q hf rfl rfl rfl rfl (Ext.refl _) (e_add hf rfl rfl hz206) fun a hf => ?_
   refine pi_q hf rfl rfl rfl rfl (Ext.refl _) (e_max hf rfl rfl) fun a hf => ?_
   obtain ⟨e207, hz208, h126⟩ := bind_some h126
   obtain ⟨b213, _, hA214, h209, h210, hr211, hcell212⟩ := hM.rowElemN (k := 3) rfl (n := 1) rfl hz208
   obtain ⟨rfl, hv215⟩ := hr211
   refine pi_q hf rfl rfl rfl rfl (Ext.refl _) (e_indexAddr (A := A145) (b := b213) (o := 0) (xs := y138.2.longest) (i := k13) hf hA214 rfl rfl Tryz.underlying82 Tryz.sizeOf3 h209 h210) fun a hf => ?_
   refine pi_one ?_
   obtain ⟨xs217, hz218, h126⟩ := bind_some h126
   refine pi_z0 hf rfl rfl rfl (by kernel_rfl) (w_storeElem hf hM (x := max e187 z205) (row := [vI (max e187 z205)]) (i := k13) rfl rfl rfl hA214 (k := 3) rfl rfl Tryz.sizeOf3 ⟨rfl, (R64_max hv195 (chk_R hz206))⟩ hz218 fun w216 hM => ?_)
   dsimp only [List.set] at hM
   have hf := hf.alter (d := 93) (v := vL A145 (xs217) c146) rfl (vL_len (setL_len hz218))
   have hf := hf.alter (d := 98) (v := vL A145 (xs217) c146) rfl (vL_len (setL_len hz218))
   have hf := hf.alter (d := 105) (v := vL A145 (xs217) c146) rfl (vL_len (setL_len hz218))
   rw [vL_len (A := A145) (c := c146) (setL_len hz218)] at hM
   refine pi_nil ?_
   refine blk_n ?_
   refine then_n ?_
   refine region_pl ?_
   obtain ⟨z221, hz222, h126⟩ := bind_some h126
   refine q_ hf rfl rfl rfl (e_add hf rfl rfl hz222) fun a hf => ?_
   refine q_ hf rfl rfl rfl (e_move hf rfl) fun a hf => ?_
   refine pl_nil ?_
   obtain rfl := some_inj h126
   refine then_n ⟨_, rfl, ?_⟩
   have hM := hM.front (k := 3) rfl
   dsimp only [List.eraseIdx] at hM
   have hM := hM.front (k := 3) rfl
   dsimp only [List.eraseIdx] at hM
   have hM := hM.front (k := 3) rfl
   dsimp only [List.eraseIdx] at hM
   have hM := hM.front (k := 3) rfl
   dsimp only [List.eraseIdx] at hM
   have hM := hM.front (k := 4) rfl
   dsimp only [List.eraseIdx] at hM
   exact ⟨y138.2.met, y138.2.open_, xs182, xs217, z221, A141, c142, A143, c144, A145, c146, rfl, hf.keep ⟨rfl, rfl, rfl, rfl, rfl, trivial⟩, hM.pick [1, 2, 3] rfl, hv140, (chk_R hz222)⟩
  refine cond_f hf rfl hc128 ?_
  refine wp_exit ?_
  refine then_x ?_
  obtain rfl := some_inj h126
  obtain rfl := hd127 _ rfl
  try dsimp only at h96
  refine then_x ?_
  refine exit_hit ?_
  obtain rfl := some_inj h96
  refine then_n ?_
  exact ⟨n98, xs100, xs103, xs106, A101, c102, A104, c105, A107, c108, rfl, hf.keep ⟨rfl, rfl, trivial⟩, hM.pick [0, 1, 2] rfl, hv99⟩
 rintro a w229 ⟨n84, xs86, xs89, xs92, A87, c88, A90, c91, A93, c94, rfl, hf, hM, hv85⟩
 try dsimp only at h
 refine wp_seq ?_
 refine region_pl ?_
 refine q_ hf rfl rfl rfl (e_move hf rfl) fun a hf => ?_
 refine q_ hf rfl rfl rfl (e_nil hf rfl) fun a hf => ?_
 refine q_ hf rfl rfl rfl (e_field hf rfl Tryz.underlying84 rfl Tryz.sizeOf81 (o' := 2) rfl) fun a hf => ?_
 refine q_ hf rfl rfl rfl (e_load1 hf rfl Tryz.isAgg81 (hM.boxCell (k := 1) rfl rfl)) fun a hf => ?_
 refine q_ hf rfl rfl rfl (e_move hf rfl) fun a hf => ?_
 obtain ⟨e230, hz231, h⟩ := bind_some h
 obtain ⟨b236, _, hA237, h232, h233, hr234, hcell235⟩ := hM.rowElemN (k := 2) rfl (n := 1) rfl hz231
 obtain rfl : _ = _ := hr234
 refine q_ hf rfl rfl rfl (e_indexAddr (A := A87) (b := b236) (o := 0) (xs := xs86) (i := k13) hf hA237 rfl rfl Tryz.underlying81 Tryz.sizeOf4 h232 h233) fun a hf => ?_
 obtain ⟨xs239, hz240, h⟩ := bind_some h
 refine pl_0 hf rfl rfl (w_storeElem hf hM (x := false) (row := [.bool (false)]) (i := k13) rfl rfl rfl hA237 (k := 2) rfl rfl Tryz.sizeOf4 rfl hz240 fun w238 hM => ?_)
 dsimp only [List.set] at hM
 have hf := hf.alter (d := 116) (v := vL A87 (xs239) c88) rfl (vL_len (setL_len hz240))
 rw [vL_len (A := A87) (c := c88) (setL_len hz240)] at hM
 refine pl_nil ?_
 refine then_n ?_
 obtain ⟨x245, h246, h⟩ := bind_some h
 refine seq_join (fun a w => ∃ (t243 : Bool), t243 = x245 ∧ Has 131 a [(4, .bool (t243))] ∧ Mem C w [.box b55 [.bool (e43.Final), vS (e43.Letters), vL A52 (e43.Next) c53] 79, .box b2 [vL A3 (x1.d.Nodes) c4, vI (n84), vL A87 (xs239) c88, vL A90 (xs89) c91, vL A93 (xs92) c94] 84, .row boolRep A87 c88 4 xs239 true, .row intRep A90 c91 2 xs89 true, .row intRep A93 c94 3 xs92 true] [.dat (sliceRep intRep) e43.Next [vL A52 e43.Next c53], .lit b48 (o49 + (k13 : Int).toNat * 3) [.bool (e43.Final), vS (e43.Letters), vL A52 (e43.Next) c53], .dat (sliceRep NodeRep) x1.d.Nodes [vL A3 x1.d.Nodes c4]]) ?_ ?_
 ·refine region_pl ?_
  refine q_ hf rfl rfl rfl (e_move hf rfl) fun a hf => ?_
  refine q_ hf rfl rfl rfl (e_nil hf rfl) fun a hf => ?_
  refine q_ hf rfl rfl rfl (e_field hf rfl Tryz.underlying84 rfl Tryz.sizeOf77 (o' := 3) rfl) fun a hf => ?_
  refine q_ hf rfl rfl rfl (e_load1 hf rfl Tryz.isAgg77 (hM.boxCell (k := 1) rfl rfl)) fun a hf => ?_
  refine q_ hf rfl rfl rfl (e_move hf rfl) fun a hf => ?_
  obtain ⟨e247, hz248, h246⟩ := bind_some h246
  obtain ⟨b253, _, hA254, h249, h250, hr251, hcell252⟩ := hM.rowElemN (k := 3) rfl (n := 1) rfl hz248
  obtain ⟨rfl, hv255⟩ := hr251
  refine q_ hf rfl rfl rfl (e_indexAddr (A := A90) (b := b253) (o := 0) (xs := xs89) (i := k13) hf hA254 rfl rfl Tryz.underlying77 Tryz.sizeOf2 h249 h250) fun a hf => ?_
  refine q_ hf rfl rfl rfl (e_load1 hf rfl Tryz.isAgg2 (hcell252 0 _ rfl)) fun a hf => ?_
  refine q_ hf rfl rfl rfl (e_gt hf (x := e247) (y := 0) rfl rfl) fun a hf => ?_
  refine q_ hf rfl rfl rfl (e_move hf rfl) fun a hf => ?_
  rcases cond_some h246 with ⟨hc256, h246⟩ | ⟨hc256, h246⟩
  ·iterate 2 refine pl_gs (wanted_f hf rfl rfl rfl rfl hc256) hf rfl rfl fun a hf => ?_
   refine q_ hf rfl rfl rfl (e_pick_t hf rfl hc256 rfl) fun a hf => ?_
   refine q_ hf rfl rfl rfl (e_assign hf rfl) fun a hf => ?_
   refine pl_nil ?_
   obtain rfl := some_inj h246
   refine then_n ?_
   exact ⟨true, rfl, hf.keep ⟨rfl, trivial⟩, hM.pick [0, 1, 2] rfl⟩
  refine gq (wanted_t hf rfl rfl rfl rfl hc256) hf rfl rfl (e_move hf rfl) fun a hf => ?_
  refine gq (wanted_t hf rfl rfl rfl rfl hc256) hf rfl rfl (e_eq hf (x := k13) (y := 0) rfl rfl) fun a hf => ?_
  refine q_ hf rfl rfl rfl (e_pick_f hf rfl hc256 rfl) fun a hf => ?_
  refine q_ hf rfl rfl rfl (e_assign hf rfl) fun a hf => ?_
  refine pl_nil ?_
  obtain rfl := some_inj h246
  refine then_n ?_
  exact ⟨(k13 == 0), rfl, hf.keep ⟨rfl, trivial⟩, hM.pick [0, 1, 2] rfl⟩
 rintro a w259 ⟨t243, rfl, hf, hM⟩
 try dsimp only at h
 refine wp_ret ?_
 obtain rfl := some_inj h
 have hM := hM.front (k := 4) rfl
 dsimp only [List.eraseIdx] at hM
 have hM := hM.front (k := 4) rfl
 dsimp only [List.eraseIdx] at hM
 have hM := hM.front (k := 4) rfl
 dsimp only [List.eraseIdx] at hM
 have hM := hM.front (k := 4) rfl
 dsimp only [List.eraseIdx] at hM
 have hM := hM.outs (own' := [.box b2 [vL A3 (x1.d.Nodes) c4, vI (n84), vL A87 (xs239) c88, vL A90 (xs89) c91, vL A93 (xs92) c94] 84, .row boolRep A87 c88 4 xs239 true, .row intRep A90 c91 2 xs89 true, .row intRep A93 c94 3 xs92 true]) 4 rfl
 exact leave1 hf rfl rfl ⟨A87, c88, A90, c91, A93, c94, rfl, hM.fin, hv85⟩
theorem r_impl_inspector_visit_n : ∀ n, Ct_impl_inspector_visit (m_impl_inspector_visit_n n)
  | 0 => fun C x1 b2 A3 c4 hp5 hp6 A7 c8 A9 c10 A11 c12 k13 hp14 hO hd r h => by cases h
  | n + 1 => r_impl_inspector_visit_b _ (r_impl_inspector_visit_n n)
theorem r_impl_inspector_visit : Ct_impl_inspector_visit (m_impl_inspector_visit) := r_impl_inspector_visit_n fuelN
theorem r_strings_Builder_copyCheck (C : Cx) (b1 : Str) (b2 : Nat) (p3 : Value) (hp4 : AddrOk b2 p3) (A5 : Option Addr) (c6 : Nat) (hO : Mem C C.w0 [.box b2 [p3, vL A5 (b1) c6] 126, .row byteRep A5 c6 5 b1 true] []) (hd : ∀ b, C.S0 b → ¬ ownB [.box b2 [p3, vL A5 (b1) c6] 126, .row byteRep A5 c6 5 b1 true] b) (r : Str) (h : m_strings_Builder_copyCheck b1 = some r) :
    Calls Tryz.prog 104 #[vP b2 (0)] C.w0 fun e w => ∃ (p_1 : Value), ∃ (A_1 : Option Addr), ∃ (c_1 : Nat), e = .returned (.tuple #[]) ∧ Mem C w [.box b2 [p_1, vL A_1 (r) c_1] 126, .row byteRep A_1 c_1 5 r true] [] ∧ AddrOk b2 p_1 := by
 have hM := hO
 refine enter Tryz.func104 rfl Tryz.ntmps104 rfl fun a hf => ?_
 unfold m_strings_Builder_copyCheck at h
 rcases hp4 with rfl | rfl
 ·refine wp_seq ?_
  refine region_pl ?_
  refine q_ hf rfl rfl rfl (e_move hf rfl) fun a hf => ?_
  refine q_ hf rfl rfl rfl (e_nil hf rfl) fun a hf => ?_
  refine q_ hf rfl rfl rfl (e_field hf rfl Tryz.underlying126 rfl Tryz.sizeOf124 (o' := 0) rfl) fun a hf => ?_
  refine q_ hf rfl rfl rfl (e_load1 hf rfl Tryz.isAgg124 (hM.boxCell (k := 0) rfl rfl)) fun a hf => ?_
  refine q_ hf rfl rfl rfl (e_eqPN hf rfl rfl Tryz.underlying124) fun a hf => ?_
  refine pl_nil ?_
  refine then_n ?_
  refine cond_t hf rfl rfl ?_
  refine region_pl ?_
  iterate 2 refine q_ hf rfl rfl rfl (e_move hf rfl) fun a hf => ?_
  refine q_ hf rfl rfl rfl (e_toUnsafe hf hM (k := 0) (n := 2) rfl rfl Tryz.underlying124 Tryz.underlying166 (by kernel_rfl) rfl rfl) fun a hf => ?_
  refine q_ hf rfl rfl rfl (e_noEscape hf (f := 112) rfl Tryz.func112 rfl rfl (by kernel_rfl) (by kernel_rfl)) fun a hf => ?_
  refine q_ hf rfl rfl rfl (e_fromUnsafe hf hM (k := 0) (n := 2) rfl rfl Tryz.underlying166 Tryz.underlying124 (by kernel_rfl) (by kernel_rfl)) fun a hf => ?_
  refine q_ hf rfl rfl rfl (e_nil hf rfl) fun a hf => ?_
  refine q_ hf rfl rfl rfl (e_field hf rfl Tryz.underlying126 rfl Tryz.sizeOf124 (o' := 0) rfl) fun a hf => ?_
  refine pl_0 hf rfl rfl (w_store hf hM (us := [vP b2 0]) (cs' := [vP b2 0, vL A5 (b1) c6]) rfl rfl (k := 0) rfl rfl Tryz.sizeOf124 rfl rfl rfl fun w7 hM => ?_)
  dsimp only [List.set] at hM
  refine pl_nil ?_
  obtain rfl := some_inj h
  exact leave0n hf rfl ⟨(vP b2 0), A5, c6, rfl, hM.fin, (AddrOk.self _)⟩
 refine wp_seq ?_
 refine region_pl ?_
 refine q_ hf rfl rfl rfl (e_move hf rfl) fun a hf => ?_
 refine q_ hf rfl rfl rfl (e_nil hf rfl) fun a hf => ?_
 refine q_ hf rfl rfl rfl (e_field hf rfl Tryz.underlying126 rfl Tryz.sizeOf124 (o' := 0) rfl) fun a hf => ?_
 refine q_ hf rfl rfl rfl (e_load1 hf rfl Tryz.isAgg124 (hM.boxCell (k := 0) rfl rfl)) fun a hf => ?_
 refine q_ hf rfl rfl rfl (e_eqPS hf rfl rfl Tryz.underlying124) fun a hf => ?_
 refine pl_nil ?_
 refine then_n ?_
 refine cond_f hf rfl rfl ?_
 refine wp_seq ?_
 refine region_pl ?_
 refine q_ hf rfl rfl rfl (e_move hf rfl) fun a hf => ?_
 refine q_ hf rfl rfl rfl (e_nil hf rfl) fun a hf => ?_
 refine q_ hf rfl rfl rfl (e_field hf rfl Tryz.underlying126 rfl Tryz.sizeOf124 (o' := 0) rfl) fun a hf => ?_
 refine q_ hf rfl rfl rfl (e_load1 hf rfl Tryz.isAgg124 (hM.boxCell (k := 0) rfl rfl)) fun a hf => ?_
 refine q_ hf rfl rfl rfl (e_move hf rfl) fun a hf => ?_
 refine q_ hf rfl rfl rfl (e_nePS hf (n := 2) rfl rfl Tryz.underlying124 (by kernel_rfl)) fun a hf => ?_
 refine pl_nil ?_
 refine then_n ?_
 refine cond_f hf rfl rfl ?_
 refine wp_skip ?_
 obtain rfl := some_inj h
 exact leave0n hf rfl ⟨(vP b2 0), A5, c6, rfl, hM.fin, (AddrOk.self _)⟩
theorem r_strings_Builder_WriteByte (C : Cx) (b1 : Str) (b2 : Nat) (p3 : Value) (hp4 : AddrOk b2 p3) (A5 : Option Addr) (c6 : Nat) (c7 : UInt8) (hO : Mem C C.w0 [.box b2 [p3, vL A5 (b1) c6] 126, .row byteRep A5 c6 5 b1 true] []) (hd : ∀ b, C.S0 b → ¬ ownB [.box b2 [p3, vL A5 (b1) c6] 126, .row byteRep A5 c6 5 b1 true] b) (r : (Unit × Str)) (h : m_strings_Builder_WriteByte b1 c7 = some r) :
    Calls Tryz.prog 76 #[vP b2 (0), vB (c7)] C.w0 fun e w => ∃ (p_1 : Value), ∃ (A_1 : Option Addr), ∃ (c_1 : Nat), e = .returned (.nilIface) ∧ Mem C w [.box b2 [p_1, vL A_1 (r.2) c_1] 126, .row byteRep A_1 c_1 5 r.2 true] [] ∧ AddrOk b2 p_1 := by
 have hM := hO
 refine enter Tryz.func76 rfl Tryz.ntmps76 rfl fun a hf => ?_
 unfold m_strings_Builder_WriteByte at h
 refine wp_seq ?_
 refine region_pl ?_
 refine q_ hf rfl rfl rfl (e_assign hf rfl) fun a hf => ?_
 refine pl_nil ?_
 refine then_n ?_
 refine wp_seq ?_
 refine region_pl ?_
 refine q_ hf rfl rfl rfl (e_move hf rfl) fun a hf => ?_
 have hM : Mem C _ ([.box b2 [p3, vL A5 (b1) c6] 126, .row byteRep A5 c6 5 b1 true] ++ []) _ := hM
 obtain ⟨y8, hz9, h⟩ := bind_some h
 refine pl_l hf rfl rfl rfl (w_call hf Tryz.call104 rfl (r_strings_Builder_copyCheck ⟨_, Sh C _ _, ownB _, hM.sh_lt, sub_dis, C.G, hM.g_lt, hM.g_own, hM.tabs⟩ b1 _ _ hp4 _ _ hM.sub sub_dis _ hz9) ?_)
 rintro _ w14 ⟨p10, A12, c13, rfl, hM2, hv11⟩
 obtain ⟨hM, hup16⟩ := hM.backG hM2
 dsimp only [List.cons_append, List.nil_append] at hM hup16
 clear hM2
 refine ⟨_, rfl, fun a hf => ?_⟩
 refine pl_nil ?_
 refine then_n ?_
 refine wp_seq ?_
 refine region_pl ?_
 iterate 2 refine q_ hf rfl rfl rfl (e_move hf rfl) fun a hf => ?_
 refine q_ hf rfl rfl rfl (e_nil hf rfl) fun a hf => ?_
 refine q_ hf rfl rfl rfl (e_field hf rfl Tryz.underlying126 rfl Tryz.sizeOf22 (o' := 1) rfl) fun a hf => ?_
 refine q_ hf rfl rfl rfl (e_load1 hf rfl Tryz.isAgg22 (hM.boxCell (k := 0) rfl rfl)) fun a hf => ?_
 refine q_ hf rfl rfl rfl (e_move hf rfl) fun a hf => ?_
 refine pl_l hf rfl rfl rfl (w_slice hf hM (K := byteRep) (xs := ([c7] : Str)) (os := [.tmp 12]) Tryz.underlying22 ei_5 rfl rfl rfl rfl rfl ⟨⟨[vB (c7)], rfl, rfl⟩, trivial⟩ rfl fun b17 w18 hx19 hM a hf => ?_)
 obtain ⟨xs20, hz21, h⟩ := bind_some h
 refine pl_l hf rfl rfl rfl (w_append hf hM Tryz.underlying22 ei_5 rfl rfl rfl (k := 2) rfl (hM.srcRow (k := 0) rfl) hz21 fun A22 c23 w24 hM a hf => ?_)
 dsimp only [List.set] at hM
 refine q_ hf rfl rfl rfl (e_nil hf rfl) fun a hf => ?_
 refine q_ hf rfl rfl rfl (e_field hf rfl Tryz.underlying126 rfl Tryz.sizeOf22 (o' := 1) rfl) fun a hf => ?_
 refine pl_0 hf rfl rfl (w_store hf hM (us := [vL A22 (xs20) c23]) (cs' := [p10, vL A22 (xs20) c23]) rfl rfl (k := 1) rfl rfl Tryz.sizeOf22 rfl rfl rfl fun w27 hM => ?_)
 dsimp only [List.set] at hM
 refine pl_nil ?_
 refine then_n ?_
 refine wp_seq ?_
 refine region_pl ?_
 refine q_ hf rfl rfl rfl (e_assign hf rfl) fun a hf => ?_
 refine pl_nil ?_
 refine then_n ?_
 refine wp_ret ?_
 obtain rfl := some_inj h
 have hM := hM.front (k := 2) rfl
 dsimp only [List.eraseIdx] at hM
 have hM := hM.front (k := 2) rfl
 dsimp only [List.eraseIdx] at hM
 have hM := hM.outs (own' := [.box b2 [p10, vL A22 (xs20) c23] 126, .row byteRep A22 c23 5 xs20 true]) 2 rfl
 exact leave1 hf rfl rfl ⟨p10, A22, c23, rfl, hM.fin, hv11⟩
theorem r_impl_Decimal (C : Cx) (n1 : Int) (hp2 : R64 n1) (r : Str) (h : m_impl_Decimal n1 = some r) :
    Calls Tryz.prog 78 #[vI (n1)] C.w0 fun e w => e = .returned (vS (r)) ∧ Mem C w [] [] ∧ r.length ≤ maxLen := by
 have hM := Mem.begin C [] trivial
 refine enter Tryz.func78 rfl Tryz.ntmps78 rfl fun a hf => ?_
 unfold m_impl_Decimal at h
 refine wp_seq ?_
 refine region_pl ?_
 refine q_ hf rfl rfl rfl (e_assign hf rfl) fun a hf => ?_
 refine pl_nil ?_
 refine then_n ?_
 refine wp_seq ?_
 refine region_pl ?_
 refine q_ hf rfl rfl rfl (e_move hf rfl) fun a hf => ?_
 obtain ⟨y3, hz4, h⟩ := bind_some h
 refine pl_l hf rfl rfl rfl (w_call hf Tryz.call105 rfl (r_strconv_FormatInt ⟨_, Sh C _ _, none_, hM.sh_lt, none_not, C.G, hM.g_lt, g_none, hM.tabs⟩ n1 hp2 10 (R64_lit rfl) _ hz4) ?_)
 rintro _ w6 ⟨rfl, hM2, hv5⟩
 obtain ⟨hM, hx7, hup8⟩ := hM.back hM2
 dsimp only [List.cons_append, List.nil_append] at hM hup8
 clear hM2
 refine ⟨_, rfl, fun a hf => ?_⟩
 refine q_ hf rfl rfl rfl (e_assign hf rfl) fun a hf => ?_
 refine pl_nil ?_
 refine then_n ?_
 refine wp_ret ?_
 obtain rfl := some_inj h
 exact leave1 hf rfl rfl ⟨rfl, hM.fin, hv5⟩
theorem r_strings_Builder_WriteString (C : Cx) (b1 : Str) (b2 : Nat) (p3 : Value) (hp4 : AddrOk b2 p3) (A5 : Option Addr) (c6 : Nat) (s7 : Str) (hp8 : s7.length ≤ maxLen) (hO : Mem C C.w0 [.box b2 [p3, vL A5 (b1) c6] 126, .row byteRep A5 c6 5 b1 true] []) (hd : ∀ b, C.S0 b → ¬ ownB [.box b2 [p3, vL A5 (b1) c6] 126, .row byteRep A5 c6 5 b1 true] b) (r : (Int × Unit × Str)) (h : m_strings_Builder_WriteString b1 s7 = some r) :
    Calls Tryz.prog 77 #[vP b2 (0), vS (s7)] C.w0 fun e w => ∃ (p_1 : Value), ∃ (A_1 : Option Addr), ∃ (c_1 : Nat), e = .returned (.tuple #[vI (r.1), .nilIface]) ∧ Mem C w [.box b2 [p_1, vL A_1 (r.2.2) c_1] 126, .row byteRep A_1 c_1 5 r.2.2 true] [] ∧ AddrOk b2 p_1 ∧ R64 r.1 := by
 have hM := hO
 refine enter Tryz.func77 rfl Tryz.ntmps77 rfl fun a hf => ?_
 unfold m_strings_Builder_WriteString at h
 refine wp_seq ?_
 refine region_pl ?_
 iterate 2 refine q_ hf rfl rfl rfl (e_assign hf rfl) fun a hf => ?_
 refine pl_nil ?_
 refine then_n ?_
 refine wp_seq ?_
 refine region_pl ?_
 refine q_ hf rfl rfl rfl (e_move hf rfl) fun a hf => ?_
 have hM : Mem C _ ([.box b2 [p3, vL A5 (b1) c6] 126, .row byteRep A5 c6 5 b1 true] ++ []) _ := hM
 obtain ⟨y9, hz10, h⟩ := bind_some h
 refine pl_l hf rfl rfl rfl (w_call hf Tryz.call104 rfl (r_strings_Builder_copyCheck ⟨_, Sh C _ _, ownB _, hM.sh_lt, sub_dis, C.G, hM.g_lt, hM.g_own, hM.tabs⟩ b1 _ _ hp4 _ _ hM.sub sub_dis _ hz10) ?_)
 rintro _ w15 ⟨p11, A13, c14, rfl, hM2, hv12⟩
 obtain ⟨hM, hup17⟩ := hM.backG hM2
 dsimp only [List.cons_append, List.nil_append] at hM hup17
 clear hM2
 refine ⟨_, rfl, fun a hf => ?_⟩
 refine pl_nil ?_
 refine then_n ?_
 refine wp_seq ?_
 refine region_pl ?_
 iterate 2 refine q_ hf rfl rfl rfl (e_move hf rfl) fun a hf => ?_
 refine q_ hf rfl rfl rfl (e_nil hf rfl) fun a hf => ?_
 refine q_ hf rfl rfl rfl (e_field hf rfl Tryz.underlying126 rfl Tryz.sizeOf22 (o' := 1) rfl) fun a hf => ?_
 refine q_ hf rfl rfl rfl (e_load1 hf rfl Tryz.isAgg22 (hM.boxCell (k := 0) rfl rfl)) fun a hf => ?_
 refine q_ hf rfl rfl rfl (e_move hf rfl) fun a hf => ?_
 obtain ⟨xs18, hz19, h⟩ := bind_some h
 refine pl_l hf rfl rfl rfl (w_appendS hf hM Tryz.underlying22 Tryz.underlying9 (by kernel_rfl) rfl rfl (k := 1) rfl hz19 fun A20 c21 w22 hM a hf => ?_)
 dsimp only [List.set] at hM
 refine q_ hf rfl rfl rfl (e_nil hf rfl) fun a hf => ?_
 refine q_ hf rfl rfl rfl (e_field hf rfl Tryz.underlying126 rfl Tryz.sizeOf22 (o' := 1) rfl) fun a hf => ?_
 refine pl_0 hf rfl rfl (w_store hf hM (us := [vL A20 (xs18) c21]) (cs' := [p11, vL A20 (xs18) c21]) rfl rfl (k := 0) rfl rfl Tryz.sizeOf22 rfl rfl rfl fun w23 hM => ?_)
 dsimp only [List.set] at hM
 refine pl_nil ?_
 refine then_n ?_
 refine wp_seq ?_
 refine region_pl ?_
 refine q_ hf rfl rfl rfl (e_move hf rfl) fun a hf => ?_
 refine q_ hf rfl rfl rfl (e_lenS hf (x := s7) rfl Tryz.underlying9) fun a hf => ?_
 iterate 2 refine q_ hf rfl rfl rfl (e_assign hf rfl) fun a hf => ?_
 refine pl_nil ?_
 refine then_n ?_
 refine wp_ret ?_
 obtain rfl := some_inj h
 exact leave2 hf rfl rfl rfl ⟨p11, A20, c21, rfl, hM.fin, hv12, (R64_len hp8)⟩
theorem r_strings_Builder_String (C : Cx) (b1 : Str) (b2 : Nat) (p3 : Value) (hp4 : AddrOk b2 p3) (A5 : Option Addr) (c6 : Nat) (hO : Mem C C.w0 [.box b2 [p3, vL A5 (b1) c6] 126, .row byteRep A5 c6 5 b1 true] []) (hd : ∀ b, C.S0 b → ¬ ownB [.box b2 [p3, vL A5 (b1) c6] 126, .row byteRep A5 c6 5 b1 true] b) (r : Str) (h : m_strings_Builder_String b1 = some r) :
    Calls Tryz.prog 79 #[vP b2 (0)] C.w0 fun e w => e = .returned (vS (r)) ∧ Mem C w [] [] ∧ r.length ≤ maxLen := by
 have hM := hO
 refine enter Tryz.func79 rfl Tryz.ntmps79 rfl fun a hf => ?_
 unfold m_strings_Builder_String at h
 refine wp_seq ?_
 refine region_pl ?_
 refine q_ hf rfl rfl rfl (e_assign hf rfl) fun a hf => ?_
 refine pl_nil ?_
 refine then_n ?_
 refine wp_seq ?_
 obtain ⟨w7, hw⟩ : ∃ x, x = C.w0.drew := ⟨_, rfl⟩
 refine region_pi (.q 0 (.q 1 (.q 2 (.q 3 (.q 5 (.q 6 (.q 7 (.q 8 (.q 9 (.l 4 (.l 10 (.q 11 (.nil))))))))))))) (Ext w7) rfl (by kernel_rfl) ?_
 have hM := hM.drew
 rw [← hw] at hM ⊢
 clear hw
 refine pi_q hf rfl rfl rfl rfl (Ext.refl _) (e_move hf rfl) fun a hf => ?_
 refine pi_q hf rfl rfl rfl rfl (Ext.refl _) (e_nil hf rfl) fun a hf => ?_
 refine pi_q hf rfl rfl rfl rfl (Ext.refl _) (e_field hf rfl Tryz.underlying126 rfl Tryz.sizeOf22 (o' := 1) rfl) fun a hf => ?_
 refine pi_q hf rfl rfl rfl rfl (Ext.refl _) (e_load1 hf rfl Tryz.isAgg22 (hM.boxCell (k := 0) rfl rfl)) fun a hf => ?_
 refine pi_q hf rfl rfl rfl rfl (Ext.refl _) (e_move hf rfl) fun a hf => ?_
 refine pi_q hf rfl rfl rfl rfl (Ext.refl _) (e_nil hf rfl) fun a hf => ?_
 refine pi_q hf rfl rfl rfl rfl (Ext.refl _) (e_field hf rfl Tryz.underlying126 rfl Tryz.sizeOf22 (o' := 1) rfl) fun a hf => ?_
 refine pi_q hf rfl rfl rfl rfl (Ext.refl _) (e_load1 hf rfl Tryz.isAgg22 (hM.boxCell (k := 0) rfl rfl)) fun a hf => ?_
 have hl8 := row_len (hM.ownAt (k := 1) rfl)
 refine pi_q hf rfl rfl rfl rfl (Ext.refl _) (e_lenL hf (x := b1) rfl Tryz.underlying22) fun a hf => ?_
 refine pi_one ?_
 refine pi_l hf rfl rfl rfl rfl (w_sliceData hf hM (k := 1) rfl rfl Tryz.underlying159 fun q9 w10 hx11 hM hq12 => ⟨Ext w10, fun _ h => Ext.trans hx11 h, Ext.refl _, fun a hf => ?_⟩)
 refine pi_one ?_
 have hl14 := row_len (hM.ownAt (k := 1) rfl)
 refine pi_z hf rfl rfl rfl rfl (by kernel_rfl) (w_unsafeString hf hM (k := 1) rfl hq12 rfl rfl Tryz.underlying159 (by kernel_rfl) fun w13 hM a hf => ?_)
 dsimp only [List.eraseIdx] at hM
 refine pi_q hf rfl rfl rfl rfl (Ext.refl _) (e_assign hf rfl) fun a hf => ?_
 refine pi_nil ?_
 refine then_n ?_
 refine wp_ret ?_
 obtain rfl := some_inj h
 have hM := hM.outs (own' := []) 0 rfl
 exact leave1 hf rfl rfl ⟨rfl, hM.fin, hl14⟩
theorem r_impl_keyOf (C : Cx) (n1 : Node) (hp2 : n1.Letters.length ≤ maxLen) (A3 : Option Addr) (c4 : Nat) (hp5 : (sliceRep intRep).R C.w0 C.S0 n1.Next [vL A3 n1.Next c4]) (r : Str) (h : m_impl_keyOf n1 = some r) :
    Calls Tryz.prog 49 #[.agg #[.bool (n1.Final), vS (n1.Letters), vL A3 (n1.Next) c4]] C.w0 fun e w => e = .returned (vS (r)) ∧ Mem C w [] [] ∧ r.length ≤ maxLen := by
 have hM := Mem.begin C [.dat (sliceRep intRep) n1.Next [vL A3 n1.Next c4]] ⟨hp5, trivial⟩
 refine enter Tryz.func49 rfl Tryz.ntmps49 rfl fun a hf => ?_
 unfold m_impl_keyOf at h
 refine wp_seq ?_
 refine region_pl ?_
 refine pl_l hf rfl rfl rfl (w_box hf hM (cs := [.bool (n1.Final), vS (n1.Letters), vL A3 (n1.Next) c4]) rfl rfl fun b6 w7 hx8 hM a hf => ?_)
 refine q_ hf rfl rfl rfl (e_assign hf rfl) fun a hf => ?_
 refine pl_nil ?_
 refine then_n ?_
 refine wp_seq ?_
 refine region_pl ?_
 refine pl_l hf rfl rfl rfl (w_alloc hM (cs := [.pointer none, vL none (([] : Str)) 0]) Tryz.zeroValue126 rfl fun b10 w11 hx12 hM a hf => ?_)
 have hM := hM.nilRow byteRep 5
 refine pl_nil ?_
 refine then_n ?_
 obtain ⟨x19, h20, h⟩ := bind_some h
 refine seq_join (fun a w => ∃ (xs16 : Str) (p14 : Value) (A17 : Option Addr) (c18 : Nat), xs16 = x19 ∧ Has 30 a [(1, vP b6 (0)), (3, vP b10 (0))] ∧ Mem C w [.row byteRep A17 c18 5 xs16 true, .box b10 [p14, vL A17 (xs16) c18] 126, .box b6 [.bool (n1.Final), vS (n1.Letters), vL A3 (n1.Next) c4] 79] [.dat (sliceRep intRep) n1.Next [vL A3 n1.Next c4]] ∧ AddrOk b10 p14) ?_ ?_
 ·refine wp_seq ?_
  refine region_pl ?_
  refine q_ hf rfl rfl rfl (e_field hf rfl Tryz.underlying79 rfl Tryz.sizeOf4 (o' := 0) rfl) fun a hf => ?_
  refine q_ hf rfl rfl rfl (e_load1 hf rfl Tryz.isAgg4 (hM.boxCell (k := 2) rfl rfl)) fun a hf => ?_
  refine pl_nil ?_
  refine then_n ?_
  rcases cond_some h20 with ⟨hc21, h20⟩ | ⟨hc21, h20⟩
  ·refine cond_t hf rfl hc21 ?_
   refine region_pl ?_
   have hM := hM.front (k := 0) rfl
   dsimp only [List.eraseIdx] at hM
   have hM := hM.front (k := 1) rfl
   dsimp only [List.eraseIdx] at hM
   have hM : Mem C _ ([.box b10 [.pointer none, vL none (([] : Str)) 0] 126, .row byteRep none 0 5 ([] : Str) true] ++ [.box b6 [.bool (n1.Final), vS (n1.Letters), vL A3 (n1.Next) c4] 79]) _ := hM
   obtain ⟨y22, hz23, h20⟩ := bind_some h20
   refine pl_l hf rfl rfl rfl (w_call hf Tryz.call76 rfl (r_strings_Builder_WriteByte ⟨_, Sh C _ _, ownB _, hM.sh_lt, sub_dis, C.G, hM.g_lt, hM.g_own, hM.tabs⟩ ([] : Str) _ _ (AddrOk.nil _) _ _ 43 hM.sub sub_dis _ hz23) ?_)
   rintro _ w28 ⟨p24, A26, c27, rfl, hM2, hv25⟩
   obtain ⟨hM, hup30⟩ := hM.backG hM2
   dsimp only [List.cons_append, List.nil_append] at hM hup30
   clear hM2
   refine ⟨_, rfl, fun a hf => ?_⟩
   refine pl_nil ?_
   obtain rfl := some_inj h20
   refine then_n ?_
   have hM := hM.front (k := 2) rfl
   dsimp only [List.eraseIdx] at hM
   have hM := hM.front (k := 1) rfl
   dsimp only [List.eraseIdx] at hM
   have hM := hM.front (k := 2) rfl
   dsimp only [List.eraseIdx] at hM
   exact ⟨y22.2, p24, A26, c27, rfl, hf.keep ⟨rfl, rfl, trivial⟩, hM.pick [0] rfl, hv25⟩
  refine cond_f hf rfl hc21 ?_
  refine wp_skip ?_
  obtain rfl := some_inj h20
  refine then_n ?_
  exact ⟨([] : Str), (.pointer none), none, 0, rfl, hf.keep ⟨rfl, rfl, trivial⟩, hM.pick [0] rfl, (AddrOk.nil _)⟩
 rintro a w33 ⟨xs16, p14, A17, c18, rfl, hf, hM, hv15⟩
 try dsimp only at h
 obtain ⟨x39, h40, h⟩ := bind_some h
 refine seq_join (fun a w => ∃ (xs36 : Str) (p34 : Value) (A37 : Option Addr) (c38 : Nat), xs36 = x39 ∧ Has 30 a [(3, vP b10 (0))] ∧ Mem C w [.row byteRep A37 c38 5 xs36 true, .box b10 [p34, vL A37 (xs36) c38] 126, .box b6 [.bool (n1.Final), vS (n1.Letters), vL A3 (n1.Next) c4] 79] [.dat (sliceRep intRep) n1.Next [vL A3 n1.Next c4]] ∧ AddrOk b10 p34) ?_ ?_
 ·refine wp_seq ?_
  refine region_pl ?_
  refine q_ hf rfl rfl rfl (e_field hf rfl Tryz.underlying79 rfl Tryz.sizeOf77 (o' := 2) rfl) fun a hf => ?_
  refine q_ hf rfl rfl rfl (e_load1 hf rfl Tryz.isAgg77 (hM.boxCell (k := 2) rfl rfl)) fun a hf => ?_
  have hl41 := slice_len (hM.dat (k := 0) rfl)
  refine q_ hf rfl rfl rfl (e_lenL hf (x := n1.Next) rfl Tryz.underlying77) fun a hf => ?_
  refine q_ hf rfl rfl rfl (e_move hf rfl) fun a hf => ?_
  refine pl_nil ?_
  refine then_n ?_
  refine wp_block ?_
  obtain ⟨x55, h56, h40⟩ := bind_some h40
  refine wp_loopM h56 (fun s a w => ∃ (xs44 : Str) (n47 : Int) (p42 : Value) (A45 : Option Addr) (c46 : Nat), (xs44, n47) = s ∧ Has 30 a [(1, vP b6 (0)), (3, vP b10 (0)), (10, vL A3 (n1.Next) c4), (11, vI ((n1.Next.length : Int))), (12, vI (n47))] ∧ Mem C w [.row byteRep A45 c46 5 xs44 true, .box b10 [p42, vL A45 (xs44) c46] 126, .box b6 [.bool (n1.Final), vS (n1.Letters), vL A3 (n1.Next) c4] 79] [.dat (sliceRep intRep) n1.Next [vL A3 n1.Next c4]] ∧ AddrOk b10 p42 ∧ R64 n47) ?_ ?_
  ·exact ⟨xs16, 0, p14, A17, c18, rfl, hf.keep ⟨rfl, rfl, rfl, rfl, rfl, trivial⟩, hM.pick [0] rfl, hv15, (R64_lit rfl)⟩
  rintro s o57 a w49 ⟨xs44, n47, p42, A45, c46, rfl, hf, hM, hv43, hv48⟩ h58 hd59
  replace h58 : m_impl_keyOf_l1 n1 xs44 n47 = some o57 := h58
  unfold m_impl_keyOf_l1 at h58
  refine wp_seq ?_
  refine region_pl ?_
  refine q_ hf rfl rfl rfl (e_lt hf (x := n47) (y := (n1.Next.length : Int)) rfl rfl) fun a hf => ?_
  refine pl_nil ?_
  refine then_n ?_
  refine wp_seq ?_
  rcases cond_some h58 with ⟨hc60, h58⟩ | ⟨hc60, h58⟩
  ·refine cond_t hf rfl hc60 ?_
   refine wp_skip ?_
   refine then_n ?_
   refine wp_seq ?_
   refine wp_block ?_
   refine wp_seq ?_
   refine region_pl ?_
   refine q_ hf rfl rfl rfl (e_move hf rfl) fun a hf => ?_
   obtain ⟨e61, hz62, h58⟩ := bind_some h58
   obtain ⟨b66, o67, _, hA68, h63, h64, hr65, hM⟩ := hM.elem (hM.dat (k := 0) rfl) (n := 1) rfl hz62
   obtain ⟨rfl, hv69⟩ := hr65
   refine q_ hf rfl rfl rfl (e_indexAddr (A := A3) (b := b66) (o := o67) (xs := n1.Next) (i := n47) hf hA68 rfl rfl Tryz.underlying77 Tryz.sizeOf2 h63 h64) fun a hf => ?_
   refine q_ hf rfl rfl rfl (e_load1 hf rfl Tryz.isAgg2 (hM.litCell (k := 0) (j := 0) rfl rfl rfl)) fun a hf => ?_
   iterate 2 refine q_ hf rfl rfl rfl (e_assign hf rfl) fun a hf => ?_
   refine pl_nil ?_
   refine then_n ?_
   obtain ⟨w70, hw⟩ : ∃ x, x = w49.drew := ⟨_, rfl⟩
   refine region_pi (.q 0 (.q 1 (.q 2 (.q 3 (.q 4 (.q 5 (.q 6 (.l 7 (.q 8 (.q 9 (.l 10 (.nil)))))))))))) (Ext w70) rfl (by kernel_rfl) ?_
   have hM := hM.drew
   rw [← hw] at hM ⊢
   clear hw
   refine pi_q hf rfl rfl rfl rfl (Ext.refl _) (e_field hf rfl Tryz.underlying79 rfl Tryz.sizeOf9 (o' := 1) rfl) fun a hf => ?_
   refine pi_q hf rfl rfl rfl rfl (Ext.refl _) (e_load1 hf rfl Tryz.isAgg9 (hM.boxCell (k := 2) rfl rfl)) fun a hf => ?_
   iterate 2 refine pi_q hf rfl rfl rfl rfl (Ext.refl _) (e_move hf rfl) fun a hf => ?_
   obtain ⟨z71, hz72, h58⟩ := bind_some h58
   refine pi_q hf rfl rfl rfl rfl (Ext.refl _) (e_add hf rfl rfl hz72) fun a hf => ?_
   obtain ⟨s73, hz74, h58⟩ := bind_some h58
   refine pi_q hf rfl rfl rfl rfl (Ext.refl _) (e_subS hf (x := n1.Letters) rfl rfl rfl Tryz.underlying9 hz74) fun a hf => ?_
   refine pi_q hf rfl rfl rfl rfl (Ext.refl _) (e_move hf rfl) fun a hf => ?_
   refine pi_one ?_
   obtain ⟨y75, hz76, h58⟩ := bind_some h58
   refine pi_l hf rfl rfl rfl rfl (w_call hf Tryz.call78 rfl (r_impl_Decimal ⟨_, Sh C _ _, none_, hM.sh_lt, none_not, C.G, hM.g_lt, g_none, hM.tabs⟩ e61 hv69 _ hz76) ?_)
   rintro _ w78 ⟨rfl, hM2, hv77⟩
   obtain ⟨hM, hx79, hup80⟩ := hM.back hM2
   dsimp only [List.cons_append, List.nil_append] at hM hup80
   clear hM2
   refine ⟨_, rfl, Ext w78, fun _ h => Ext.trans hx79 h, Ext.refl _, fun a hf => ?_⟩
   obtain ⟨s81, hz82, h58⟩ := bind_some h58
   refine pi_q hf rfl rfl rfl rfl (Ext.refl _) (e_cat hf (x := s73) (y := y75) rfl rfl hz82) fun a hf => ?_
   obtain ⟨s83, hz84, h58⟩ := bind_some h58
   refine pi_q hf rfl rfl rfl rfl (Ext.refl _) (e_cat hf (x := s81) (y := ([32] : Str)) rfl rfl hz84) fun a hf => ?_
   refine pi_one ?_
   have hM := hM.front (k := 0) rfl
   dsimp only [List.eraseIdx] at hM
   have hM := hM.front (k := 1) rfl
   dsimp only [List.eraseIdx] at hM
   have hM : Mem C _ ([.box b10 [p42, vL A45 (xs44) c46] 126, .row byteRep A45 c46 5 xs44 true] ++ [.box b6 [.bool (n1.Final), vS (n1.Letters), vL A3 (n1.Next) c4] 79]) _ := hM
   obtain ⟨y85, hz86, h58⟩ := bind_some h58
   refine pi_z hf rfl rfl rfl rfl (by kernel_rfl) (w_call hf Tryz.call77 rfl (r_strings_Builder_WriteString ⟨_, Sh C _ _, ownB _, hM.sh_lt, sub_dis, C.G, hM.g_lt, hM.g_own, hM.tabs⟩ xs44 _ _ hv43 _ _ s83 (cat_len hz84) hM.sub sub_dis _ hz86) ?_)
   rintro _ w92 ⟨p87, A89, c90, rfl, hM2, hv88, hv91⟩
   obtain ⟨hM, hup94⟩ := hM.backG hM2
   dsimp only [List.cons_append, List.nil_append] at hM hup94
   clear hM2
   refine ⟨_, rfl, fun a hf => ?_⟩
   refine pi_nil ?_
   refine blk_n ?_
   refine then_n ?_
   refine region_pl ?_
   obtain ⟨z95, hz96, h58⟩ := bind_some h58
   refine q_ hf rfl rfl rfl (e_add hf rfl rfl hz96) fun a hf => ?_
   refine q_ hf rfl rfl rfl (e_move hf rfl) fun a hf => ?_
   refine pl_nil ?_
   obtain rfl := some_inj h58
   refine then_n ⟨_, rfl, ?_⟩
   have hM := hM.front (k := 2) rfl
   dsimp only [List.eraseIdx] at hM
   have hM := hM.front (k := 1) rfl
   dsimp only [List.eraseIdx] at hM
   have hM := hM.front (k := 2) rfl
   dsimp only [List.eraseIdx] at hM
   exact ⟨y85.2.2, z95, p87, A89, c90, rfl, hf.keep ⟨rfl, rfl, rfl, rfl, rfl, trivial⟩, hM.pick [1] rfl, hv88, (chk_R hz96)⟩
  refine cond_f hf rfl hc60 ?_
  refine wp_exit ?_
  refine then_x ?_
  obtain rfl := some_inj h58
  obtain rfl := hd59 _ rfl
  try dsimp only at h40
  refine then_x ?_
  refine exit_hit ?_
  obtain rfl := some_inj h40
  refine then_n ?_
  exact ⟨xs44, p42, A45, c46, rfl, hf.keep ⟨rfl, trivial⟩, hM.pick [0] rfl, hv43⟩
 rintro a w102 ⟨xs36, p34, A37, c38, rfl, hf, hM, hv35⟩
 try dsimp only at h
 refine wp_seq ?_
 refine region_pl ?_
 have hM := hM.front (k := 0) rfl
 dsimp only [List.eraseIdx] at hM
 have hM := hM.front (k := 1) rfl
 dsimp only [List.eraseIdx] at hM
 have hM : Mem C _ ([.box b10 [p34, vL A37 (xs36) c38] 126, .row byteRep A37 c38 5 xs36 true] ++ [.box b6 [.bool (n1.Final), vS (n1.Letters), vL A3 (n1.Next) c4] 79]) _ := hM
 obtain ⟨y103, hz104, h⟩ := bind_some h
 refine pl_l hf rfl rfl rfl (w_call hf Tryz.call79 rfl (r_strings_Builder_String ⟨_, Sh C _ _, ownB _, hM.sh_lt, sub_dis, C.G, hM.g_lt, hM.g_own, hM.tabs⟩ xs36 _ _ hv35 _ _ hM.sub sub_dis _ hz104) ?_)
 rintro _ w106 ⟨rfl, hM2, hv105⟩
 obtain ⟨hM, hup108⟩ := hM.backG hM2
 dsimp only [List.cons_append, List.nil_append] at hM hup108
 clear hM2
 refine ⟨_, rfl, fun a hf => ?_⟩
 refine q_ hf rfl rfl rfl (e_assign hf rfl) fun a hf => ?_
 refine pl_nil ?_
 refine then_n ?_
 refine wp_ret ?_
 obtain rfl := some_inj h
 have hM := hM.outs (own' := []) 0 rfl
 exact leave1 hf rfl rfl ⟨rfl, hM.fin, hv105⟩
theorem r_impl_ValidDawg (C : Cx) (d1 : Dawg) (A2 : Option Addr) (c3 : Nat) (hp4 : (sliceRep NodeRep).R C.w0 C.S0 d1.Nodes [vL A2 d1.Nodes c3]) (r : Bool) (h : m_impl_ValidDawg d1 = some r) :
    Calls Tryz.prog 27 #[.agg #[vL A2 (d1.Nodes) c3]] C.w0 fun e w => e = .returned (.bool (r)) ∧ Mem C w [] [] := by
 have hM := Mem.begin C [.dat (sliceRep NodeRep) d1.Nodes [vL A2 d1.Nodes c3]] ⟨hp4, trivial⟩
 refine enter Tryz.func27 rfl Tryz.ntmps27 rfl fun a hf => ?_
 unfold m_impl_ValidDawg at h
 refine wp_seq ?_
 refine region_pl ?_
 refine pl_l hf rfl rfl rfl (w_box hf hM (cs := [vL A2 (d1.Nodes) c3]) rfl rfl fun b5 w6 hx7 hM a hf => ?_)
 refine q_ hf rfl rfl rfl (e_assign hf rfl) fun a hf => ?_
 refine pl_nil ?_
 refine then_n ?_
 refine wp_seq ?_
 obtain ⟨x11, h12, h⟩ := bind_some h
 refine seq_join (fun a w => ∃ (t9 : Bool), t9 = x11 ∧ Has 76 a [(1, vP b5 (0)), (18, .bool (t9))] ∧ Mem C w [.box b5 [vL A2 (d1.Nodes) c3] 26] [.dat (sliceRep NodeRep) d1.Nodes [vL A2 d1.Nodes c3]]) ?_ ?_
 ·refine region_pl ?_
  refine q_ hf rfl rfl rfl (e_loadA hf (us := [vL A2 (d1.Nodes) c3]) rfl ⟨Tryz.isAgg26, Tryz.sizeOf26⟩ rfl (hM.boxSub (k := 0) (us := [vL A2 (d1.Nodes) c3]) (o := 0) rfl rfl)) fun a hf => ?_
  obtain ⟨y13, hz14, h12⟩ := bind_some h12
  refine pl_l hf rfl rfl rfl (w_call hf Tryz.call47 rfl (r_impl_nodesOk ⟨_, Sh C _ _, none_, hM.sh_lt, none_not, C.G, hM.g_lt, g_none, hM.tabs⟩ d1 _ _ (hM.dat (k := 0) rfl) _ hz14) ?_)
  rintro _ w15 ⟨rfl, hM2⟩
  obtain ⟨hM, hx16, hup17⟩ := hM.back hM2
  dsimp only [List.cons_append, List.nil_append] at hM hup17
  clear hM2
  refine ⟨_, rfl, fun a hf => ?_⟩
  refine q_ hf rfl rfl rfl (e_not hf rfl) fun a hf => ?_
  refine q_ hf rfl rfl rfl (e_move hf rfl) fun a hf => ?_
  rcases cond_some h12 with ⟨hc18, h12⟩ | ⟨hc18, h12⟩
  ·iterate 5 refine pl_gs (wanted_f hf rfl rfl rfl rfl hc18) hf rfl rfl fun a hf => ?_
   refine q_ hf rfl rfl rfl (e_pick_t hf rfl hc18 rfl) fun a hf => ?_
   refine pl_nil ?_
   obtain rfl := some_inj h12
   refine then_n ?_
   exact ⟨true, rfl, hf.keep ⟨rfl, rfl, trivial⟩, hM.pick [0] rfl⟩
  refine gq (wanted_t hf rfl rfl rfl rfl hc18) hf rfl rfl (e_field hf rfl Tryz.underlying26 rfl Tryz.sizeOf24 (o' := 0) rfl) fun a hf => ?_
  refine gq (wanted_t hf rfl rfl rfl rfl hc18) hf rfl rfl (e_load1 hf rfl Tryz.isAgg24 (hM.boxCell (k := 0) rfl rfl)) fun a hf => ?_
  obtain ⟨e20, hz21, h12⟩ := bind_some h12
  obtain ⟨b25, o26, _, hA27, h22, h23, hr24, hM⟩ := hM.elem (hM.dat (k := 0) rfl) (n := 3) rfl hz21
  obtain ⟨A29, c30, rfl, hv28, hv31⟩ := NodeRep_open hr24
  have hM := hM.add (y := .dat (sliceRep intRep) e20.Next [vL A29 e20.Next c30]) hv31
  refine gq (wanted_t hf rfl rfl rfl rfl hc18) hf rfl rfl (e_indexAddr (A := A2) (b := b25) (o := o26) (xs := d1.Nodes) (i := 0) hf hA27 rfl rfl Tryz.underlying24 Tryz.sizeOf79 h22 h23) fun a hf => ?_
  refine gq (wanted_t hf rfl rfl rfl rfl hc18) hf rfl rfl (e_field hf rfl Tryz.underlying79 rfl Tryz.sizeOf4 (o' := (o26 + (0 : Int).toNat * 3) + 0) rfl) fun a hf => ?_
  refine gq (wanted_t hf rfl rfl rfl rfl hc18) hf rfl rfl (e_load1 hf rfl Tryz.isAgg4 (hM.litCell (k := 1) (j := 0) rfl rfl rfl)) fun a hf => ?_
  refine q_ hf rfl rfl rfl (e_pick_f hf rfl hc18 rfl) fun a hf => ?_
  refine pl_nil ?_
  obtain rfl := some_inj h12
  refine then_n ?_
  exact ⟨e20.Final, rfl, hf.keep ⟨rfl, rfl, trivial⟩, hM.pick [2] rfl⟩
 rintro a w33 ⟨t9, rfl, hf, hM⟩
 try dsimp only at h
 rcases cond_some h with ⟨hc34, h⟩ | ⟨hc34, h⟩
 ·refine cond_t hf rfl hc34 ?_
  refine wp_seq ?_
  refine region_pl ?_
  refine q_ hf rfl rfl rfl (e_assign hf rfl) fun a hf => ?_
  refine pl_nil ?_
  refine then_n ?_
  refine wp_ret ?_
  refine then_r ?_
  obtain rfl := some_inj h
  have hM := hM.outs (own' := []) 0 rfl
  exact leave1 hf rfl rfl ⟨rfl, hM.fin⟩
 refine cond_f hf rfl hc34 ?_
 refine wp_skip ?_
 refine then_n ?_
 refine wp_seq ?_
 refine region_pl ?_
 refine q_ hf rfl rfl rfl (e_field hf rfl Tryz.underlying26 rfl Tryz.sizeOf24 (o' := 0) rfl) fun a hf => ?_
 refine q_ hf rfl rfl rfl (e_load1 hf rfl Tryz.isAgg24 (hM.boxCell (k := 0) rfl rfl)) fun a hf => ?_
 have hl35 := slice_len (hM.dat (k := 0) rfl)
 refine q_ hf rfl rfl rfl (e_lenL hf (x := d1.Nodes) rfl Tryz.underlying24) fun a hf => ?_
 refine q_ hf rfl rfl rfl (e_assign hf rfl) fun a hf => ?_
 refine pl_nil ?_
 refine then_n ?_
 refine wp_seq ?_
 obtain ⟨w36, hw⟩ : ∃ x, x = w33.drew := ⟨_, rfl⟩
 refine region_pi (.q 0 (.q 1 (.q 3 (.q 5 (.c 2 4 6 (.b 4 6 (.l 6 (.q 7 (.l 8 (.q 9 (.nil))))) (.l 4 (.q 7 (.l 8 (.q 9 (.nil)))))) (.b 2 6 (.l 6 (.q 7 (.l 8 (.q 9 (.nil))))) (.l 2 (.q 7 (.l 8 (.q 9 (.nil)))))) (.b 2 4 (.l 4 (.q 7 (.l 8 (.q 9 (.nil))))) (.l 2 (.q 7 (.l 8 (.q 9 (.nil))))))))))) (Ext w36) rfl (by kernel_rfl) ?_
 have hM := hM.drew
 rw [← hw] at hM ⊢
 clear hw
 refine pi_q hf rfl rfl rfl rfl (Ext.refl _) (e_loadA hf (us := [vL A2 (d1.Nodes) c3]) rfl ⟨Tryz.isAgg26, Tryz.sizeOf26⟩ rfl (hM.boxSub (k := 0) (us := [vL A2 (d1.Nodes) c3]) (o := 0) rfl rfl)) fun a hf => ?_
 iterate 3 refine pi_q hf rfl rfl rfl rfl (Ext.refl _) (e_move hf rfl) fun a hf => ?_
 obtain ⟨xs37, hz38, h⟩ := bind_some h
 obtain ⟨xs42, hz43, h⟩ := bind_some h
 obtain ⟨xs47, hz48, h⟩ := bind_some h
 refine pi_three ?_ ?_ ?_
 ·refine pi_l hf rfl rfl rfl rfl (w_make hf hM (K := boolRep) Tryz.underlying81 ei_4 Tryz.zeroValue4 rfl rfl rfl rfl hz38 fun b52 w53 hx54 hM => ⟨Ext w53, fun _ h => Ext.trans hx54 h, Ext.refl _, fun a hf => ?_⟩)
  refine pi_two ?_ ?_
  ·refine pi_l hf rfl rfl rfl rfl (w_make hf hM (K := intRep) Tryz.underlying77 ei_2 Tryz.zeroValue2 rfl rfl rfl ⟨rfl, (R64_lit rfl)⟩ hz43 fun b55 w56 hx57 hM => ⟨Ext w56, fun _ h => Ext.trans hx57 h, Ext.refl _, fun a hf => ?_⟩)
   refine pi_one ?_
   refine pi_l hf rfl rfl rfl rfl (w_make hf hM (K := intRep) Tryz.underlying82 ei_3 Tryz.zeroValue3 rfl rfl rfl ⟨rfl, (R64_lit rfl)⟩ hz48 fun b58 w59 hx60 hM => ⟨Ext w59, fun _ h => Ext.trans hx60 h, Ext.refl _, fun a hf => ?_⟩)
   refine pi_q hf rfl rfl rfl rfl (Ext.refl _) (e_build hf Tryz.zeroValue84 Tryz.underlying84 (bp_84 _ Tryz.underlying84.symm) rfl (cs := #[vL A2 (d1.Nodes) c3, vI (0), vL (some ⟨b52, 0, none⟩) (xs37) (((d1.Nodes.length : Int) : Int).toNat), vL (some ⟨b55, 0, none⟩) (xs42) (((d1.Nodes.length : Int) : Int).toNat), vL (some ⟨b58, 0, none⟩) (xs47) (((d1.Nodes.length : Int) : Int).toNat)]) (by kernel_rfl)) fun a hf => ?_
   refine pi_one ?_
   refine pi_l hf rfl rfl rfl rfl (w_box hf hM (cs := [vL A2 (d1.Nodes) c3, vI (0), vL (some ⟨b52, 0, none⟩) (xs37) (((d1.Nodes.length : Int) : Int).toNat), vL (some ⟨b55, 0, none⟩) (xs42) (((d1.Nodes.length : Int) : Int).toNat), vL (some ⟨b58, 0, none⟩) (xs47) (((d1.Nodes.length : Int) : Int).toNat)]) rfl rfl fun b61 w62 hx63 hM => ⟨Ext w62, fun _ h => Ext.trans hx63 h, Ext.refl _, fun a hf => ?_⟩)
   refine pi_q hf rfl rfl rfl rfl (Ext.refl _) (e_assign hf rfl) fun a hf => ?_
   refine pi_nil ?_
   refine then_n ?_
   refine wp_seq ?_
   obtain ⟨x78, h79, h⟩ := bind_some h
   refine seq_join (fun a w => ∃ (n65 : Int) (xs67 : (List Bool)) (xs70 : (List Int)) (xs73 : (List Int)) (t76 : Bool) (A68 : Option Addr) (c69 : Nat) (A71 : Option Addr) (c72 : Nat) (A74 : Option Addr) (c75 : Nat), (n65, xs67, xs70, xs73, t76) = x78 ∧ Has 76 a [(1, vP b5 (0)), (59, .bool (t76))] ∧ Mem C w [.box b61 [vL A2 (d1.Nodes) c3, vI (n65), vL A68 (xs67) c69, vL A71 (xs70) c72, vL A74 (xs73) c75] 84, .row intRep A74 c75 3 xs73 true, .row intRep A71 c72 2 xs70 true, .row boolRep A68 c69 4 xs67 true, .box b5 [vL A2 (d1.Nodes) c3] 26] [.dat (sliceRep NodeRep) d1.Nodes [vL A2 d1.Nodes c3]] ∧ R64 n65) ?_ ?_
   ·refine region_pl ?_
    refine q_ hf rfl rfl rfl (e_move hf rfl) fun a hf => ?_
    have hM := hM.front (k := 1) rfl
    dsimp only [List.eraseIdx] at hM
    have hM := hM.front (k := 2) rfl
    dsimp only [List.eraseIdx] at hM
    have hM := hM.front (k := 3) rfl
    dsimp only [List.eraseIdx] at hM
    have hM := hM.front (k := 3) rfl
    dsimp only [List.eraseIdx] at hM
    have hM : Mem C _ ([.box b61 [vL A2 (d1.Nodes) c3, vI (0), vL (some ⟨b52, 0, none⟩) (xs37) (((d1.Nodes.length : Int) : Int).toNat), vL (some ⟨b55, 0, none⟩) (xs42) (((d1.Nodes.length : Int) : Int).toNat), vL (some ⟨b58, 0, none⟩) (xs47) (((d1.Nodes.length : Int) : Int).toNat)] 84, .row boolRep (some ⟨b52, 0, none⟩) (((d1.Nodes.length : Int) : Int).toNat) 4 xs37 true, .row intRep (some ⟨b55, 0, none⟩) (((d1.Nodes.length : Int) : Int).toNat) 2 xs42 true, .row intRep (some ⟨b58, 0, none⟩) (((d1.Nodes.length : Int) : Int).toNat) 3 xs47 true] ++ [.box b5 [vL A2 (d1.Nodes) c3] 26]) _ := hM
    obtain ⟨y80, hz81, h79⟩ := bind_some h79
    refine pl_l hf rfl rfl rfl (w_call hf Tryz.call48 rfl (r_impl_inspector_visit ⟨_, Sh C _ _, ownB _, hM.sh_lt, sub_dis, C.G, hM.g_lt, hM.g_own, hM.tabs⟩ (⟨⟨d1.Nodes⟩, 0, xs37, xs42, xs47⟩ : inspector) _ _ _ (hM.dat (k := 0) rfl) (R64_lit rfl) _ _ _ _ _ _ 0 (R64_lit rfl) hM.sub sub_dis _ hz81) ?_)
    rintro _ w89 ⟨A83, c84, A85, c86, A87, c88, rfl, hM2, hv82⟩
    obtain ⟨hM, hup91⟩ := hM.backG hM2
    dsimp only [List.cons_append, List.nil_append] at hM hup91
    clear hM2
    refine ⟨_, rfl, fun a hf => ?_⟩
    refine q_ hf rfl rfl rfl (e_not hf rfl) fun a hf => ?_
    refine q_ hf rfl rfl rfl (e_move hf rfl) fun a hf => ?_
    rcases cond_some h79 with ⟨hc92, h79⟩ | ⟨hc92, h79⟩
    ·iterate 6 refine pl_gs (wanted_f hf rfl rfl rfl rfl hc92) hf rfl rfl fun a hf => ?_
     refine q_ hf rfl rfl rfl (e_pick_t hf rfl hc92 rfl) fun a hf => ?_
     refine q_ hf rfl rfl rfl (e_move hf rfl) fun a hf => ?_
     iterate 7 refine pl_gs (wanted_f hf rfl rfl rfl rfl rfl) hf rfl rfl fun a hf => ?_
     refine q_ hf rfl rfl rfl (e_pick_t hf rfl rfl rfl) fun a hf => ?_
     refine q_ hf rfl rfl rfl (e_move hf rfl) fun a hf => ?_
     iterate 7 refine pl_gs (wanted_f hf rfl rfl rfl rfl rfl) hf rfl rfl fun a hf => ?_
     refine q_ hf rfl rfl rfl (e_pick_t hf rfl rfl rfl) fun a hf => ?_
     refine pl_nil ?_
     obtain rfl := some_inj h79
     refine then_n ?_
     have hM := hM.front (k := 4) rfl
     dsimp only [List.eraseIdx] at hM
     have hM := hM.front (k := 2) rfl
     dsimp only [List.eraseIdx] at hM
     have hM := hM.front (k := 3) rfl
     dsimp only [List.eraseIdx] at hM
     have hM := hM.front (k := 4) rfl
     dsimp only [List.eraseIdx] at hM
     have hM := hM.front (k := 4) rfl
     dsimp only [List.eraseIdx] at hM
     exact ⟨y80.2.met, y80.2.open_, y80.2.strings, y80.2.longest, true, A83, c84, A85, c86, A87, c88, rfl, hf.keep ⟨rfl, rfl, trivial⟩, hM.pick [0] rfl, hv82⟩
    refine gq (wanted_t hf rfl rfl rfl rfl hc92) hf rfl rfl (e_move hf rfl) fun a hf => ?_
    refine gq (wanted_t hf rfl rfl rfl rfl hc92) hf rfl rfl (e_nil hf rfl) fun a hf => ?_
    refine gq (wanted_t hf rfl rfl rfl rfl hc92) hf rfl rfl (e_field hf rfl Tryz.underlying84 rfl Tryz.sizeOf2 (o' := 1) rfl) fun a hf => ?_
    refine gq (wanted_t hf rfl rfl rfl rfl hc92) hf rfl rfl (e_load1 hf rfl Tryz.isAgg2 (hM.boxCell (k := 0) rfl rfl)) fun a hf => ?_
    refine gq (wanted_t hf rfl rfl rfl rfl hc92) hf rfl rfl (e_move hf rfl) fun a hf => ?_
    refine gq (wanted_t hf rfl rfl rfl rfl hc92) hf rfl rfl (e_ne hf (x := y80.2.met) (y := (d1.Nodes.length : Int)) rfl rfl) fun a hf => ?_
    refine q_ hf rfl rfl rfl (e_pick_f hf rfl hc92 rfl) fun a hf => ?_
    refine q_ hf rfl rfl rfl (e_move hf rfl) fun a hf => ?_
    rcases cond_some h79 with ⟨hc94, h79⟩ | ⟨hc94, h79⟩
    ·iterate 7 refine pl_gs (wanted_f hf rfl rfl rfl rfl hc94) hf rfl rfl fun a hf => ?_
     refine q_ hf rfl rfl rfl (e_pick_t hf rfl hc94 rfl) fun a hf => ?_
     refine q_ hf rfl rfl rfl (e_move hf rfl) fun a hf => ?_
     iterate 7 refine pl_gs (wanted_f hf rfl rfl rfl rfl rfl) hf rfl rfl fun a hf => ?_
     refine q_ hf rfl rfl rfl (e_pick_t hf rfl rfl rfl) fun a hf => ?_
     refine pl_nil ?_
     obtain rfl := some_inj h79
     refine then_n ?_
     have hM := hM.front (k := 4) rfl
     dsimp only [List.eraseIdx] at hM
     have hM := hM.front (k := 2) rfl
     dsimp only [List.eraseIdx] at hM
     have hM := hM.front (k := 3) rfl
     dsimp only [List.eraseIdx] at hM
     have hM := hM.front (k := 4) rfl
     dsimp only [List.eraseIdx] at hM
     have hM := hM.front (k := 4) rfl
     dsimp only [List.eraseIdx] at hM
     exact ⟨y80.2.met, y80.2.open_, y80.2.strings, y80.2.longest, true, A83, c84, A85, c86, A87, c88, rfl, hf.keep ⟨rfl, rfl, trivial⟩, hM.pick [0] rfl, hv82⟩
    refine gq (wanted_t hf rfl rfl rfl rfl hc94) hf rfl rfl (e_move hf rfl) fun a hf => ?_
    refine gq (wanted_t hf rfl rfl rfl rfl hc94) hf rfl rfl (e_nil hf rfl) fun a hf => ?_
    refine gq (wanted_t hf rfl rfl rfl rfl hc94) hf rfl rfl (e_field hf rfl Tryz.underlying84 rfl Tryz.sizeOf77 (o' := 3) rfl) fun a hf => ?_
    refine gq (wanted_t hf rfl rfl rfl rfl hc94) hf rfl rfl (e_load1 hf rfl Tryz.isAgg77 (hM.boxCell (k := 0) rfl rfl)) fun a hf => ?_
    obtain ⟨e96, hz97, h79⟩ := bind_some h79
    obtain ⟨b102, _, hA103, h98, h99, hr100, hcell101⟩ := hM.rowElemN (k := 2) rfl (n := 1) rfl hz97
    obtain ⟨rfl, hv104⟩ := hr100
    refine gq (wanted_t hf rfl rfl rfl rfl hc94) hf rfl rfl (e_indexAddr (A := A85) (b := b102) (o := 0) (xs := y80.2.strings) (i := 0) hf hA103 rfl rfl Tryz.underlying77 Tryz.sizeOf2 h98 h99) fun a hf => ?_
    refine gq (wanted_t hf rfl rfl rfl rfl hc94) hf rfl rfl (e_load1 hf rfl Tryz.isAgg2 (hcell101 0 _ rfl)) fun a hf => ?_
    refine gq (wanted_t hf rfl rfl rfl rfl hc94) hf rfl rfl (e_gt hf (x := e96) (y := 3000) rfl rfl) fun a hf => ?_
    refine q_ hf rfl rfl rfl (e_pick_f hf rfl hc94 rfl) fun a hf => ?_
    refine q_ hf rfl rfl rfl (e_move hf rfl) fun a hf => ?_
    rcases cond_some h79 with ⟨hc105, h79⟩ | ⟨hc105, h79⟩
    ·iterate 7 refine pl_gs (wanted_f hf rfl rfl rfl rfl hc105) hf rfl rfl fun a hf => ?_
     refine q_ hf rfl rfl rfl (e_pick_t hf rfl hc105 rfl) fun a hf => ?_
     refine pl_nil ?_
     obtain rfl := some_inj h79
     refine then_n ?_
     have hM := hM.front (k := 4) rfl
     dsimp only [List.eraseIdx] at hM
     have hM := hM.front (k := 2) rfl
     dsimp only [List.eraseIdx] at hM
     have hM := hM.front (k := 3) rfl
     dsimp only [List.eraseIdx] at hM
     have hM := hM.front (k := 4) rfl
     dsimp only [List.eraseIdx] at hM
     have hM := hM.front (k := 4) rfl
     dsimp only [List.eraseIdx] at hM
     exact ⟨y80.2.met, y80.2.open_, y80.2.strings, y80.2.longest, true, A83, c84, A85, c86, A87, c88, rfl, hf.keep ⟨rfl, rfl, trivial⟩, hM.pick [0] rfl, hv82⟩
    refine gq (wanted_t hf rfl rfl rfl rfl hc105) hf rfl rfl (e_move hf rfl) fun a hf => ?_
    refine gq (wanted_t hf rfl rfl rfl rfl hc105) hf rfl rfl (e_nil hf rfl) fun a hf => ?_
    refine gq (wanted_t hf rfl rfl rfl rfl hc105) hf rfl rfl (e_field hf rfl Tryz.underlying84 rfl Tryz.sizeOf82 (o' := 4) rfl) fun a hf => ?_
    refine gq (wanted_t hf rfl rfl rfl rfl hc105) hf rfl rfl (e_load1 hf rfl Tryz.isAgg82 (hM.boxCell (k := 0) rfl rfl)) fun a hf => ?_
    obtain ⟨e107, hz108, h79⟩ := bind_some h79
    obtain ⟨b113, _, hA114, h109, h110, hr111, hcell112⟩ := hM.rowElemN (k := 3) rfl (n := 1) rfl hz108
    obtain ⟨rfl, hv115⟩ := hr111
    refine gq (wanted_t hf rfl rfl rfl rfl hc105) hf rfl rfl (e_indexAddr (A := A87) (b := b113) (o := 0) (xs := y80.2.longest) (i := 0) hf hA114 rfl rfl Tryz.underlying82 Tryz.sizeOf3 h109 h110) fun a hf => ?_
    refine gq (wanted_t hf rfl rfl rfl rfl hc105) hf rfl rfl (e_load1 hf rfl Tryz.isAgg3 (hcell112 0 _ rfl)) fun a hf => ?_
    refine gq (wanted_t hf rfl rfl rfl rfl hc105) hf rfl rfl (e_gt hf (x := e107) (y := 13) rfl rfl) fun a hf => ?_
    refine q_ hf rfl rfl rfl (e_pick_f hf rfl hc105 rfl) fun a hf => ?_
    refine pl_nil ?_
    obtain rfl := some_inj h79
    refine then_n ?_
    have hM := hM.front (k := 4) rfl
    dsimp only [List.eraseIdx] at hM
    have hM := hM.front (k := 2) rfl
    dsimp only [List.eraseIdx] at hM
    have hM := hM.front (k := 3) rfl
    dsimp only [List.eraseIdx] at hM
    have hM := hM.front (k := 4) rfl
    dsimp only [List.eraseIdx] at hM
    have hM := hM.front (k := 4) rfl
    dsimp only [List.eraseIdx] at hM
    exact ⟨y80.2.met, y80.2.open_, y80.2.strings, y80.2.longest, (decide (13 < e107)), A83, c84, A85, c86, A87, c88, rfl, hf.keep ⟨rfl, rfl, trivial⟩, hM.pick [0] rfl, hv82⟩
   rintro a w117 ⟨n65, xs67, xs70, xs73, t76, A68, c69, A71, c72, A74, c75, rfl, hf, hM, hv66⟩
   try dsimp only at h
   rcases cond_some h with ⟨hc118, h⟩ | ⟨hc118, h⟩
   ·refine cond_t hf rfl hc118 ?_
    refine wp_seq ?_
    refine region_pl ?_
    refine q_ hf rfl rfl rfl (e_assign hf rfl) fun a hf => ?_
    refine pl_nil ?_
    refine then_n ?_
    refine wp_ret ?_
    refine then_r ?_
    obtain rfl := some_inj h
    have hM := hM.outs (own' := []) 0 rfl
    exact leave1 hf rfl rfl ⟨rfl, hM.fin⟩
   refine cond_f hf rfl hc118 ?_
   refine wp_skip ?_
   refine then_n ?_
   refine wp_seq ?_
   refine region_pl ?_
   refine pl_l hf rfl rfl rfl (w_makeMap fS fT hM fun b119 w120 hx121 hM a hf => ?_)
   refine q_ hf rfl rfl rfl (e_assign hf rfl) fun a hf => ?_
   refine pl_nil ?_
   refine then_n ?_
   obtain ⟨x124, h125, h⟩ := bind_some h
   refine seq_join (fun a w => ∃ (mp122 : (List (Str × Bool))) (b123 : Nat), (.inl mp122) = x124 ∧ Has 76 a [] ∧ Mem C w [.obj b123 (mapO fS fT mp122), .box b61 [vL A2 (d1.Nodes) c3, vI (n65), vL A68 (xs67) c69, vL A71 (xs70) c72, vL A74 (xs73) c75] 84, .row intRep A74 c75 3 xs73 true, .row intRep A71 c72 2 xs70 true, .row boolRep A68 c69 4 xs67 true, .box b5 [vL A2 (d1.Nodes) c3] 26] [.dat (sliceRep NodeRep) d1.Nodes [vL A2 d1.Nodes c3]]) ?_ ?_
   ·refine wp_seq ?_
    refine region_pl ?_
    refine q_ hf rfl rfl rfl (e_field hf rfl Tryz.underlying26 rfl Tryz.sizeOf24 (o' := 0) rfl) fun a hf => ?_
    refine q_ hf rfl rfl rfl (e_load1 hf rfl Tryz.isAgg24 (hM.boxCell (k := 5) rfl rfl)) fun a hf => ?_
    have hl126 := slice_len (hM.dat (k := 0) rfl)
    refine q_ hf rfl rfl rfl (e_lenL hf (x := d1.Nodes) rfl Tryz.underlying24) fun a hf => ?_
    refine q_ hf rfl rfl rfl (e_move hf rfl) fun a hf => ?_
    refine pl_nil ?_
    refine then_n ?_
    refine wp_block ?_
    obtain ⟨x134, h135, h125⟩ := bind_some h125
    refine wp_loopM h135 (fun s a w => ∃ (mp127 : (List (Str × Bool))) (n129 : Int) (b128 : Nat), (mp127, n129) = s ∧ Has 76 a [(5, vM b128), (62, vL A2 (d1.Nodes) c3), (63, vI ((d1.Nodes.length : Int))), (64, vI (n129))] ∧ Mem C w [.obj b128 (mapO fS fT mp127), .box b61 [vL A2 (d1.Nodes) c3, vI (n65), vL A68 (xs67) c69, vL A71 (xs70) c72, vL A74 (xs73) c75] 84, .row intRep A74 c75 3 xs73 true, .row intRep A71 c72 2 xs70 true, .row boolRep A68 c69 4 xs67 true, .box b5 [vL A2 (d1.Nodes) c3] 26] [.dat (sliceRep NodeRep) d1.Nodes [vL A2 d1.Nodes c3]] ∧ R64 n129) ?_ ?_
    ·exact ⟨([] : (List (Str × Bool))), 0, b119, rfl, hf.keep ⟨rfl, rfl, rfl, rfl, trivial⟩, hM.pick [0] rfl, (R64_lit rfl)⟩
    rintro s o136 a w131 ⟨mp127, n129, b128, rfl, hf, hM, hv130⟩ h137 hd138
    replace h137 : m_impl_ValidDawg_l1 d1 mp127 n129 = some o136 := h137
    unfold m_impl_ValidDawg_l1 at h137
    refine wp_seq ?_
    refine region_pl ?_
    refine q_ hf rfl rfl rfl (e_lt hf (x := n129) (y := (d1.Nodes.length : Int)) rfl rfl) fun a hf => ?_
    refine pl_nil ?_
    refine then_n ?_
    refine wp_seq ?_
    rcases cond_some h137 with ⟨hc139, h137⟩ | ⟨hc139, h137⟩
    ·refine cond_t hf rfl hc139 ?_
     refine wp_skip ?_
     refine then_n ?_
     refine wp_seq ?_
     refine wp_block ?_
     refine wp_seq ?_
     refine region_pl ?_
     obtain ⟨e140, hz141, h137⟩ := bind_some h137
     obtain ⟨b145, o146, _, hA147, h142, h143, hr144, hM⟩ := hM.elem (hM.dat (k := 0) rfl) (n := 3) rfl hz141
     obtain ⟨A149, c150, rfl, hv148, hv151⟩ := NodeRep_open hr144
     have hM := hM.add (y := .dat (sliceRep intRep) e140.Next [vL A149 e140.Next c150]) hv151
     refine q_ hf rfl rfl rfl (e_indexAddr (A := A2) (b := b145) (o := o146) (xs := d1.Nodes) (i := n129) hf hA147 rfl rfl Tryz.underlying24 Tryz.sizeOf79 h142 h143) fun a hf => ?_
     refine q_ hf rfl rfl rfl (e_loadA hf (us := [.bool (e140.Final), vS (e140.Letters), vL A149 (e140.Next) c150]) rfl ⟨Tryz.isAgg79, Tryz.sizeOf79⟩ rfl (hM.litSub (k := 1) (d := 0) (us := [.bool (e140.Final), vS (e140.Letters), vL A149 (e140.Next) c150]) rfl rfl rfl)) fun a hf => ?_
     refine pl_l hf rfl rfl rfl (w_alloc hM (cs := [.bool (false), vS (([] : Str)), vL none (([] : (List Int))) 0]) Tryz.zeroValue79 rfl fun b152 w153 hx154 hM a hf => ?_)
     refine pl_0 hf rfl rfl (w_store hf hM (us := [.bool (e140.Final), vS (e140.Letters), vL A149 (e140.Next) c150]) (cs' := [.bool (e140.Final), vS (e140.Letters), vL A149 (e140.Next) c150]) rfl rfl (k := 0) rfl rfl Tryz.sizeOf79 rfl rfl rfl fun w156 hM => ?_)
     dsimp only [List.set] at hM
     refine pl_nil ?_
     refine then_n ?_
     refine wp_seq ?_
     refine region_pl ?_
     refine q_ hf rfl rfl rfl (e_loadA hf (us := [.bool (e140.Final), vS (e140.Letters), vL A149 (e140.Next) c150]) rfl ⟨Tryz.isAgg79, Tryz.sizeOf79⟩ rfl (hM.boxSub (k := 0) (us := [.bool (e140.Final), vS (e140.Letters), vL A149 (e140.Next) c150]) (o := 0) rfl rfl)) fun a hf => ?_
     obtain ⟨y159, hz160, h137⟩ := bind_some h137
     refine pl_l hf rfl rfl rfl (w_call hf Tryz.call49 rfl (r_impl_keyOf ⟨_, Sh C _ _, none_, hM.sh_lt, none_not, C.G, hM.g_lt, g_none, hM.tabs⟩ e140 hv148 _ _ (hM.dat (k := 0) rfl) _ hz160) ?_)
     rintro _ w162 ⟨rfl, hM2, hv161⟩
     obtain ⟨hM, hx163, hup164⟩ := hM.back hM2
     dsimp only [List.cons_append, List.nil_append] at hM hup164
     clear hM2
     refine ⟨_, rfl, fun a hf => ?_⟩
     refine q_ hf rfl rfl rfl (e_assign hf rfl) fun a hf => ?_
     refine pl_nil ?_
     refine then_n ?_
     iterate 2 refine wp_seq ?_
     refine region_pl ?_
     iterate 2 refine q_ hf rfl rfl rfl (e_move hf rfl) fun a hf => ?_
     refine q_ hf rfl rfl rfl (e_lookup (fk := fS) (fv := fT) hf (keyS Tryz.underlying9) Tryz.underlying86 (k := y159) (z := false) rfl rfl Tryz.zeroValue4 (hM.ownAt (k := 1) rfl)) fun a hf => ?_
     refine pl_nil ?_
     refine then_n ?_
     rcases cond_some h137 with ⟨hc165, h137⟩ | ⟨hc165, h137⟩
     ·refine cond_t hf rfl hc165 ?_
      refine wp_seq ?_
      refine region_pl ?_
      refine q_ hf rfl rfl rfl (e_assign hf rfl) fun a hf => ?_
      refine pl_nil ?_
      refine then_n ?_
      refine wp_ret ?_
      refine then_r ?_
      refine blk_r ?_
      refine then_r ?_
      obtain rfl := some_inj h137
      obtain rfl := hd138 _ rfl
      try dsimp only at h125
      refine then_r ?_
      refine blk_r ?_
      obtain rfl := some_inj h125
      try dsimp only at h
      refine then_r ?_
      obtain rfl := some_inj h
      have hM := hM.outs (own' := []) 0 rfl
      exact leave1 hf rfl rfl ⟨rfl, hM.fin⟩
     refine cond_f hf rfl hc165 ?_
     refine wp_skip ?_
     refine then_n ?_
     refine region_pl ?_
     iterate 2 refine q_ hf rfl rfl rfl (e_move hf rfl) fun a hf => ?_
     refine pl_0 hf rfl rfl (w_mapUpdate (fk := fS) (fv := fT) hf hM (keyS Tryz.underlying9) Tryz.underlying86 (k := y159) (v := true) rfl rfl rfl (n := 1) rfl fun w166 hM => ?_)
     dsimp only [List.set] at hM
     refine pl_nil ?_
     refine blk_n ?_
     refine then_n ?_
     refine region_pl ?_
     obtain ⟨z167, hz168, h137⟩ := bind_some h137
     refine q_ hf rfl rfl rfl (e_add hf rfl rfl hz168) fun a hf => ?_
     refine q_ hf rfl rfl rfl (e_move hf rfl) fun a hf => ?_
     refine pl_nil ?_
     obtain rfl := some_inj h137
     refine then_n ⟨_, rfl, ?_⟩
     exact ⟨(putM mp127 y159 true), z167, b128, rfl, hf.keep ⟨rfl, rfl, rfl, rfl, trivial⟩, (hM.drop (.cons _ (.cons_cons _ (.cons_cons _ (.cons_cons _ (.cons_cons _ (.cons_cons _ (.cons_cons _ .slnil)))))))).pick [2] rfl, (chk_R hz168)⟩
    refine cond_f hf rfl hc139 ?_
    refine wp_exit ?_
    refine then_x ?_
    obtain rfl := some_inj h137
    obtain rfl := hd138 _ rfl
    try dsimp only at h125
    refine then_x ?_
    refine exit_hit ?_
    obtain rfl := some_inj h125
    refine then_n ?_
    exact ⟨mp127, b128, rfl, hf.keep trivial, hM.pick [0] rfl⟩
   rintro a w175 ⟨mp122, b123, rfl, hf, hM⟩
   try dsimp only at h
   refine wp_seq ?_
   refine region_pl ?_
   refine q_ hf rfl rfl rfl (e_assign hf rfl) fun a hf => ?_
   refine pl_nil ?_
   refine then_n ?_
   refine wp_ret ?_
   obtain rfl := some_inj h
   have hM := hM.outs (own' := []) 0 rfl
   exact leave1 hf rfl rfl ⟨rfl, hM.fin⟩
  refine pi_l hf rfl rfl rfl rfl (w_make hf hM (K := intRep) Tryz.underlying82 ei_3 Tryz.zeroValue3 rfl rfl rfl ⟨rfl, (R64_lit rfl)⟩ hz48 fun b177 w178 hx179 hM => ⟨Ext w178, fun _ h => Ext.trans hx179 h, Ext.refl _, fun a hf => ?_⟩)
  refine pi_one ?_
  refine pi_l hf rfl rfl rfl rfl (w_make hf hM (K := intRep) Tryz.underlying77 ei_2 Tryz.zeroValue2 rfl rfl rfl ⟨rfl, (R64_lit rfl)⟩ hz43 fun b180 w181 hx182 hM => ⟨Ext w181, fun _ h => Ext.trans hx182 h, Ext.refl _, fun a hf => ?_⟩)
  refine pi_q hf rfl rfl rfl rfl (Ext.refl _) (e_build hf Tryz.zeroValue84 Tryz.underlying84 (bp_84 _ Tryz.underlying84.symm) rfl (cs := #[vL A2 (d1.Nodes) c3, vI (0), vL (some ⟨b52, 0, none⟩) (xs37) (((d1.Nodes.length : Int) : Int).toNat), vL (some ⟨b180, 0, none⟩) (xs42) (((d1.Nodes.length : Int) : Int).toNat), vL (some ⟨b177, 0, none⟩) (xs47) (((d1.Nodes.length : Int) : Int).toNat)]) (by kernel_rfl)) fun a hf => ?_
  refine pi_one ?_
  refine pi_l hf rfl rfl rfl rfl (w_box hf hM (cs := [vL A2 (d1.Nodes) c3, vI (0), vL (some ⟨b52, 0, none⟩) (xs37) (((d1.Nodes.length : Int) : Int).toNat), vL (some ⟨b180, 0, none⟩) (xs42) (((d1.Nodes.length : Int) : Int).toNat), vL (some ⟨b177, 0, none⟩) (xs47) (((d1.Nodes.length : Int) : Int).toNat)]) rfl rfl fun b183 w184 hx185 hM => ⟨Ext w184, fun _ h => Ext.trans hx185 h, Ext.refl _, fun a hf => ?_⟩)
  refine pi_q hf rfl rfl rfl rfl (Ext.refl _) (e_assign hf rfl) fun a hf => ?_
  refine pi_nil ?_
  refine then_n ?_
  refine wp_seq ?_
  obtain ⟨x200, h201, h⟩ := bind_some h
  refine seq_join (fun a w => ∃ (n187 : Int) (xs189 : (List Bool)) (xs192 : (List Int)) (xs195 : (List Int)) (t198 : Bool) (A190 : Option Addr) (c191 : Nat) (A193 : Option Addr) (c194 : Nat) (A196 : Option Addr) (c197 : Nat), (n187, xs189, xs192, xs195, t198) = x200 ∧ Has 76 a [(1, vP b5 (0)), (59, .bool (t198))] ∧ Mem C w [.box b183 [vL A2 (d1.Nodes) c3, vI (n187), vL A190 (xs189) c191, vL A193 (xs192) c194, vL A196 (xs195) c197] 84, .row intRep A193 c194 2 xs192 true, .row intRep A196 c197 3 xs195 true, .row boolRep A190 c191 4 xs189 true, .box b5 [vL A2 (d1.Nodes) c3] 26] [.dat (sliceRep NodeRep) d1.Nodes [vL A2 d1.Nodes c3]] ∧ R64 n187) ?_ ?_
  ·refine region_pl ?_
   refine q_ hf rfl rfl rfl (e_move hf rfl) fun a hf => ?_
   have hM := hM.front (k := 2) rfl
   dsimp only [List.eraseIdx] at hM
   have hM := hM.front (k := 2) rfl
   dsimp only [List.eraseIdx] at hM
   have hM := hM.front (k := 3) rfl
   dsimp only [List.eraseIdx] at hM
   have hM := hM.front (k := 3) rfl
   dsimp only [List.eraseIdx] at hM
   have hM : Mem C _ ([.box b183 [vL A2 (d1.Nodes) c3, vI (0), vL (some ⟨b52, 0, none⟩) (xs37) (((d1.Nodes.length : Int) : Int).toNat), vL (some ⟨b180, 0, none⟩) (xs42) (((d1.Nodes.length : Int) : Int).toNat), vL (some ⟨b177, 0, none⟩) (xs47) (((d1.Nodes.length : Int) : Int).toNat)] 84, .row boolRep (some ⟨b52, 0, none⟩) (((d1.Nodes.length : Int) : Int).toNat) 4 xs37 true, .row intRep (some ⟨b180, 0, none⟩) (((d1.Nodes.length : Int) : Int).toNat) 2 xs42 true, .row intRep (some ⟨b177, 0, none⟩) (((d1.Nodes.length : Int) : Int).toNat) 3 xs47 true] ++ [.box b5 [vL A2 (d1.Nodes) c3] 26]) _ := hM
   obtain ⟨y202, hz203, h201⟩ := bind_some h201
   refine pl_l hf rfl rfl rfl (w_call hf Tryz.call48 rfl (r_impl_inspector_visit ⟨_, Sh C _ _, ownB _, hM.sh_lt, sub_dis, C.G, hM.g_lt, hM.g_own, hM.tabs⟩ (⟨⟨d1.Nodes⟩, 0, xs37, xs42, xs47⟩ : inspector) _ _ _ (hM.dat (k := 0) rfl) (R64_lit rfl) _ _ _ _ _ _ 0 (R64_lit rfl) hM.sub sub_dis _ hz203) ?_)
   rintro _ w211 ⟨A205, c206, A207, c208, A209, c210, rfl, hM2, hv204⟩
   obtain ⟨hM, hup213⟩ := hM.backG hM2
   dsimp only [List.cons_append, List.nil_append] at hM hup213
   clear hM2
   refine ⟨_, rfl, fun a hf => ?_⟩
   refine q_ hf rfl rfl rfl (e_not hf rfl) fun a hf => ?_
   refine q_ hf rfl rfl rfl (e_move hf rfl) fun a hf => ?_
   rcases cond_some h201 with ⟨hc214, h201⟩ | ⟨hc214, h201⟩
   ·iterate 6 refine pl_gs (wanted_f hf rfl rfl rfl rfl hc214) hf rfl rfl fun a hf => ?_
    refine q_ hf rfl rfl rfl (e_pick_t hf rfl hc214 rfl) fun a hf => ?_
    refine q_ hf rfl rfl rfl (e_move hf rfl) fun a hf => ?_
    iterate 7 refine pl_gs (wanted_f hf rfl rfl rfl rfl rfl) hf rfl rfl fun a hf => ?_
    refine q_ hf rfl rfl rfl (e_pick_t hf rfl rfl rfl) fun a hf => ?_
    refine q_ hf rfl rfl rfl (e_move hf rfl) fun a hf => ?_
    iterate 7 refine pl_gs (wanted_f hf rfl rfl rfl rfl rfl) hf rfl rfl fun a hf => ?_
    refine q_ hf rfl rfl rfl (e_pick_t hf rfl rfl rfl) fun a hf => ?_
    refine pl_nil ?_
    obtain rfl := some_inj h201
    refine then_n ?_
    have hM := hM.front (k := 4) rfl
    dsimp only [List.eraseIdx] at hM
    have hM := hM.front (k := 2) rfl
    dsimp only [List.eraseIdx] at hM
    have hM := hM.front (k := 4) rfl
    dsimp only [List.eraseIdx] at hM
    have hM := hM.front (k := 4) rfl
    dsimp only [List.eraseIdx] at hM
    have hM := hM.front (k := 4) rfl
    dsimp only [List.eraseIdx] at hM
    exact ⟨y202.2.met, y202.2.open_, y202.2.strings, y202.2.longest, true, A205, c206, A207, c208, A209, c210, rfl, hf.keep ⟨rfl, rfl, trivial⟩, hM.pick [0] rfl, hv204⟩
   refine gq (wanted_t hf rfl rfl rfl rfl hc214) hf rfl rfl (e_move hf rfl) fun a hf => ?_
   refine gq (wanted_t hf rfl rfl rfl rfl hc214) hf rfl rfl (e_nil hf rfl) fun a hf => ?_
   refine gq (wanted_t hf rfl rfl rfl rfl hc214) hf rfl rfl (e_field hf rfl Tryz.underlying84 rfl Tryz.sizeOf2 (o' := 1) rfl) fun a hf => ?_
   refine gq (wanted_t hf rfl rfl rfl rfl hc214) hf rfl rfl (e_load1 hf rfl Tryz.isAgg2 (hM.boxCell (k := 0) rfl rfl)) fun a hf => ?_
   refine gq (wanted_t hf rfl rfl rfl rfl hc214) hf rfl rfl (e_move hf rfl) fun a hf => ?_
   refine gq (wanted_t hf rfl rfl rfl rfl hc214) hf rfl rfl (e_ne hf (x := y202.2.met) (y := (d1.Nodes.length : Int)) rfl rfl) fun a hf => ?_
   refine q_ hf rfl rfl rfl (e_pick_f hf rfl hc214 rfl) fun a hf => ?_
   refine q_ hf rfl rfl rfl (e_move hf rfl) fun a hf => ?_
   rcases cond_some h201 with ⟨hc216, h201⟩ | ⟨hc216, h201⟩
   ·iterate 7 refine pl_gs (wanted_f hf rfl rfl rfl rfl hc216) hf rfl rfl fun a hf => ?_
    refine q_ hf rfl rfl rfl (e_pick_t hf rfl hc216 rfl) fun a hf => ?_
    refine q_ hf rfl rfl rfl (e_move hf rfl) fun a hf => ?_
    iterate 7 refine pl_gs (wanted_f hf rfl rfl rfl rfl rfl) hf rfl rfl fun a hf => ?_
    refine q_ hf rfl rfl rfl (e_pick_t hf rfl rfl rfl) fun a hf => ?_
    refine pl_nil ?_
    obtain rfl := some_inj h201
    refine then_n ?_
    have hM := hM.front (k := 4) rfl
    dsimp only [List.eraseIdx] at hM
    have hM := hM.front (k := 2) rfl
    dsimp only [List.eraseIdx] at hM
    have hM := hM.front (k := 4) rfl
    dsimp only [List.eraseIdx] at hM
    have hM := hM.front (k := 4) rfl
    dsimp only [List.eraseIdx] at hM
    have hM := hM.front (k := 4) rfl
    dsimp only [List.eraseIdx] at hM
    exact ⟨y202.2.met, y202.2.open_, y202.2.strings, y202.2.longest, true, A205, c206, A207, c208, A209, c210, rfl, hf.keep ⟨rfl, rfl, trivial⟩, hM.pick [0] rfl, hv204⟩
   refine gq (wanted_t hf rfl rfl rfl rfl hc216) hf rfl rfl (e_move hf rfl) fun a hf => ?_
   refine gq (wanted_t hf rfl rfl rfl rfl hc216) hf rfl rfl (e_nil hf rfl) fun a hf => ?_
   refine gq (wanted_t hf rfl rfl rfl rfl hc216) hf rfl rfl (e_field hf rfl Tryz.underlying84 rfl Tryz.sizeOf77 (o' := 3) rfl) fun a hf => ?_
   refine gq (wanted_t hf rfl rfl rfl rfl hc216) hf rfl rfl (e_load1 hf rfl Tryz.isAgg77 (hM.boxCell (k := 0) rfl rfl)) fun a hf => ?_
   obtain ⟨e218, hz219, h201⟩ := bind_some h201
   obtain ⟨b224, _, hA225, h220, h221, hr222, hcell223⟩ := hM.rowElemN (k := 2) rfl (n := 1) rfl hz219
   obtain ⟨rfl, hv226⟩ := hr222
   refine gq (wanted_t hf rfl rfl rfl rfl hc216) hf rfl rfl (e_indexAddr (A := A207) (b := b224) (o := 0) (xs := y202.2.strings) (i := 0) hf hA225 rfl rfl Tryz.underlying77 Tryz.sizeOf2 h220 h221) fun a hf => ?_
   refine gq (wanted_t hf rfl rfl rfl rfl hc216) hf rfl rfl (e_load1 hf rfl Tryz.isAgg2 (hcell223 0 _ rfl)) fun a hf => ?_
   refine gq (wanted_t hf rfl rfl rfl rfl hc216) hf rfl rfl (e_gt hf (x := e218) (y := 3000) rfl rfl) fun a hf => ?_
   refine q_ hf rfl rfl rfl (e_pick_f hf rfl hc216 rfl) fun a hf => ?_
   refine q_ hf rfl rfl rfl (e_move hf rfl) fun a hf => ?_
   rcases cond_some h201 with ⟨hc227, h201⟩ | ⟨hc227, h201⟩
   ·iterate 7 refine pl_gs (wanted_f hf rfl rfl rfl rfl hc227) hf rfl rfl fun a hf => ?_
    refine q_ hf rfl rfl rfl (e_pick_t hf rfl hc227 rfl) fun a hf => ?_
    refine pl_nil ?_
    obtain rfl := some_inj h201
    refine then_n ?_
    have hM := hM.front (k := 4) rfl
    dsimp only [List.eraseIdx] at hM
    have hM := hM.front (k := 2) rfl
    dsimp only [List.eraseIdx] at hM
    have hM := hM.front (k := 4) rfl
    dsimp only [List.eraseIdx] at hM
    have hM := hM.front (k := 4) rfl
    dsimp only [List.eraseIdx] at hM
    have hM := hM.front (k := 4) rfl
    dsimp only [List.eraseIdx] at hM
    exact ⟨y202.2.met, y202.2.open_, y202.2.strings, y202.2.longest, true, A205, c206, A207, c208, A209, c210, rfl, hf.keep ⟨rfl, rfl, trivial⟩, hM.pick [0] rfl, hv204⟩
   refine gq (wanted_t hf rfl rfl rfl rfl hc227) hf rfl rfl (e_move hf rfl) fun a hf => ?_
   refine gq (wanted_t hf rfl rfl rfl rfl hc227) hf rfl rfl (e_nil hf rfl) fun a hf => ?_
   refine gq (wanted_t hf rfl rfl rfl rfl hc227) hf rfl rfl (e_field hf rfl Tryz.underlying84 rfl Tryz.sizeOf82 (o' := 4) rfl) fun a hf => ?_
   refine gq (wanted_t hf rfl rfl rfl rfl hc227) hf rfl rfl (e_load1 hf rfl Tryz.isAgg82 (hM.boxCell (k := 0) rfl rfl)) fun a hf => ?_
   obtain ⟨e229, hz230, h201⟩ := bind_some h201
   obtain ⟨b235, _, hA236, h231, h232, hr233, hcell234⟩ := hM.rowElemN (k := 3) rfl (n := 1) rfl hz230
   obtain ⟨rfl, hv237⟩ := hr233
   refine gq (wanted_t hf rfl rfl rfl rfl hc227) hf rfl rfl (e_indexAddr (A := A209) (b := b235) (o := 0) (xs := y202.2.longest) (i := 0) hf hA236 rfl rfl Tryz.underlying82 Tryz.sizeOf3 h231 h232) fun a hf => ?_
   refine gq (wanted_t hf rfl rfl rfl rfl hc227) hf rfl rfl (e_load1 hf rfl Tryz.isAgg3 (hcell234 0 _ rfl)) fun a hf => ?_
   refine gq (wanted_t hf rfl rfl rfl rfl hc227) hf rfl rfl (e_gt hf (x := e229) (y := 13) rfl rfl) fun a hf => ?_
   refine q_ hf rfl rfl rfl (e_pick_f hf rfl hc227 rfl) fun a hf => ?_
   refine pl_nil ?_
   obtain rfl := some_inj h201
   refine then_n ?_
   have hM := hM.front (k := 4) rfl
   dsimp only [List.eraseIdx] at hM
   have hM := hM.front (k := 2) rfl
   dsimp only [List.eraseIdx] at hM
   have hM := hM.front (k := 4) rfl
   dsimp only [List.eraseIdx] at hM
   have hM := hM.front (k := 4) rfl
   dsimp only [List.eraseIdx] at hM
   have hM := hM.front (k := 4) rfl
   dsimp only [List.eraseIdx] at hM
   exact ⟨y202.2.met, y202.2.open_, y202.2.strings, y202.2.longest, (decide (13 < e229)), A205, c206, A207, c208, A209, c210, rfl, hf.keep ⟨rfl, rfl, trivial⟩, hM.pick [0] rfl, hv204⟩
  rintro a w239 ⟨n187, xs189, xs192, xs195, t198, A190, c191, A193, c194, A196, c197, rfl, hf, hM, hv188⟩
  try dsimp only at h
  rcases cond_some h with ⟨hc240, h⟩ | ⟨hc240, h⟩
  ·refine cond_t hf rfl hc240 ?_
   refine wp_seq ?_
   refine region_pl ?_
   refine q_ hf rfl rfl rfl (e_assign hf rfl) fun a hf => ?_
   refine pl_nil ?_
   refine then_n ?_
   refine wp_ret ?_
   refine then_r ?_
   obtain rfl := some_inj h
   have hM := hM.outs (own' := []) 0 rfl
   exact leave1 hf rfl rfl ⟨rfl, hM.fin⟩
  refine cond_f hf rfl hc240 ?_
  refine wp_skip ?_
  refine then_n ?_
  refine wp_seq ?_
  refine region_pl ?_
  refine pl_l hf rfl rfl rfl (w_makeMap fS fT hM fun b241 w242 hx243 hM a hf => ?_)
  refine q_ hf rfl rfl rfl (e_assign hf rfl) fun a hf => ?_
  refine pl_nil ?_
  refine then_n ?_
  obtain ⟨x246, h247, h⟩ := bind_some h
  refine seq_join (fun a w => ∃ (mp244 : (List (Str × Bool))) (b245 : Nat), (.inl mp244) = x246 ∧ Has 76 a [] ∧ Mem C w [.obj b245 (mapO fS fT mp244), .box b183 [vL A2 (d1.Nodes) c3, vI (n187), vL A190 (xs189) c191, vL A193 (xs192) c194, vL A196 (xs195) c197] 84, .row intRep A193 c194 2 xs192 true, .row intRep A196 c197 3 xs195 true, .row boolRep A190 c191 4 xs189 true, .box b5 [vL A2 (d1.Nodes) c3] 26] [.dat (sliceRep NodeRep) d1.Nodes [vL A2 d1.Nodes c3]]) ?_ ?_
  ·refine wp_seq ?_
   refine region_pl ?_
   refine q_ hf rfl rfl rfl (e_field hf rfl Tryz.underlying26 rfl Tryz.sizeOf24 (o' := 0) rfl) fun a hf => ?_
   refine q_ hf rfl rfl rfl (e_load1 hf rfl Tryz.isAgg24 (hM.boxCell (k := 5) rfl rfl)) fun a hf => ?_
   have hl248 := slice_len (hM.dat (k := 0) rfl)
   refine q_ hf rfl rfl rfl (e_lenL hf (x := d1.Nodes) rfl Tryz.underlying24) fun a hf => ?_
   refine q_ hf rfl rfl rfl (e_move hf rfl) fun a hf => ?_
   refine pl_nil ?_
   refine then_n ?_
   refine wp_block ?_
   obtain ⟨x256, h257, h247⟩ := bind_some h247
   refine wp_loopM h257 (fun s a w => ∃ (mp249 : (List (Str × Bool))) (n251 : Int) (b250 : Nat), (mp249, n251) = s ∧ Has 76 a [(5, vM b250), (62, vL A2 (d1.Nodes) c3), (63, vI ((d1.Nodes.length : Int))), (64, vI (n251))] ∧ Mem C w [.obj b250 (mapO fS fT mp249), .box b183 [vL A2 (d1.Nodes) c3, vI (n187), vL A190 (xs189) c191, vL A193 (xs192) c194, vL A196 (xs195) c197] 84, .row intRep A193 c194 2 xs192 true, .row intRep A196 c197 3 xs195 true, .row boolRep A190 c191 4 xs189 true, .box b5 [vL A2 (d1.Nodes) c3] 26] [.dat (sliceRep NodeRep) d1.Nodes [vL A2 d1.Nodes c3]] ∧ R64 n251) ?_ ?_
   ·exact ⟨([] : (List (Str × Bool))), 0, b241, rfl, hf.keep ⟨rfl, rfl, rfl, rfl, trivial⟩, hM.pick [0] rfl, (R64_lit rfl)⟩
   rintro s o258 a w253 ⟨mp249, n251, b250, rfl, hf, hM, hv252⟩ h259 hd260
   replace h259 : m_impl_ValidDawg_l1 d1 mp249 n251 = some o258 := h259
   unfold m_impl_ValidDawg_l1 at h259
   refine wp_seq ?_
   refine region_pl ?_
   refine q_ hf rfl rfl rfl (e_lt hf (x := n251) (y := (d1.Nodes.length : Int)) rfl rfl) fun a hf => ?_
   refine pl_nil ?_
   refine then_n ?_
   refine wp_seq ?_
   rcases cond_some h259 with ⟨hc261, h259⟩ | ⟨hc261, h259⟩
   ·refine cond_t hf rfl hc261 ?_
    refine wp_skip ?_
    refine then_n ?_
    refine wp_seq ?_
    refine wp_block ?_
    refine wp_seq ?_
    refine region_pl ?_
    obtain ⟨e262, hz263, h259⟩ := bind_some h259
    obtain ⟨b267, o268, _, hA269, h264, h265, hr266, hM⟩ := hM.elem (hM.dat (k := 0) rfl) (n := 3) rfl hz263
    obtain ⟨A271, c272, rfl, hv270, hv273⟩ := NodeRep_open hr266
    have hM := hM.add (y := .dat (sliceRep intRep) e262.Next [vL A271 e262.Next c272]) hv273
    refine q_ hf rfl rfl rfl (e_indexAddr (A := A2) (b := b267) (o := o268) (xs := d1.Nodes) (i := n251) hf hA269 rfl rfl Tryz.underlying24 Tryz.sizeOf79 h264 h265) fun a hf => ?_
    refine q_ hf rfl rfl rfl (e_loadA hf (us := [.bool (e262.Final), vS (e262.Letters), vL A271 (e262.Next) c272]) rfl ⟨Tryz.isAgg79, Tryz.sizeOf79⟩ rfl (hM.litSub (k := 1) (d := 0) (us := [.bool (e262.Final), vS (e262.Letters), vL A271 (e262.Next) c272]) rfl rfl rfl)) fun a hf => ?_
    refine pl_l hf rfl rfl rfl (w_alloc hM (cs := [.bool (false), vS (([] : Str)), vL none (([] : (List Int))) 0]) Tryz.zeroValue79 rfl fun b274 w275 hx276 hM a hf => ?_)
    refine pl_0 hf rfl rfl (w_store hf hM (us := [.bool (e262.Final), vS (e262.Letters), vL A271 (e262.Next) c272]) (cs' := [.bool (e262.Final), vS (e262.Letters), vL A271 (e262.Next) c272]) rfl rfl (k := 0) rfl rfl Tryz.sizeOf79 rfl rfl rfl fun w278 hM => ?_)
    dsimp only [List.set] at hM
    refine pl_nil ?_
    refine then_n ?_
    refine wp_seq ?_
    refine region_pl ?_
    refine q_ hf rfl rfl rfl (e_loadA hf (us := [.bool (e262.Final), vS (e262.Letters), vL A271 (e262.Next) c272]) rfl ⟨Tryz.isAgg79, Tryz.sizeOf79⟩ rfl (hM.boxSub (k := 0) (us := [.bool (e262.Final), vS (e262.Letters), vL A271 (e262.Next) c272]) (o := 0) rfl rfl)) fun a hf => ?_
    obtain ⟨y281, hz282, h259⟩ := bind_some h259
    refine pl_l hf rfl rfl rfl (w_call hf Tryz.call49 rfl (r_impl_keyOf ⟨_, Sh C _ _, none_, hM.sh_lt, none_not, C.G, hM.g_lt, g_none, hM.tabs⟩ e262 hv270 _ _ (hM.dat (k := 0) rfl) _ hz282) ?_)
    rintro _ w284 ⟨rfl, hM2, hv283⟩
    obtain ⟨hM, hx285, hup286⟩ := hM.back hM2
    dsimp only [List.cons_append, List.nil_append] at hM hup286
    clear hM2
    refine ⟨_, rfl, fun a hf => ?_⟩
    refine q_ hf rfl rfl rfl (e_assign hf rfl) fun a hf => ?_
    refine pl_nil ?_
    refine then_n ?_
    iterate 2 refine wp_seq ?_
    refine region_pl ?_
    iterate 2 refine q_ hf rfl rfl rfl (e_move hf rfl) fun a hf => ?_
    refine q_ hf rfl rfl rfl (e_lookup (fk := fS) (fv := fT) hf (keyS Tryz.underlying9) Tryz.underlying86 (k := y281) (z := false) rfl rfl Tryz.zeroValue4 (hM.ownAt (k := 1) rfl)) fun a hf => ?_
    refine pl_nil ?_
    refine then_n ?_
    rcases cond_some h259 with ⟨hc287, h259⟩ | ⟨hc287, h259⟩
    ·refine cond_t hf rfl hc287 ?_
     refine wp_seq ?_
     refine region_pl ?_
     refine q_ hf rfl rfl rfl (e_assign hf rfl) fun a hf => ?_
     refine pl_nil ?_
     refine then_n ?_
     refine wp_ret ?_
     refine then_r ?_
     refine blk_r ?_
     refine then_r ?_
     obtain rfl := some_inj h259
     obtain rfl := hd260 _ rfl
     try dsimp only at h247
     refine then_r ?_
     refine blk_r ?_
     obtain rfl := some_inj h247
     try dsimp only at h
     refine then_r ?_
     obtain rfl := some_inj h
     have hM := hM.outs (own' := []) 0 rfl
     exact leave1 hf rfl rfl ⟨rfl, hM.fin⟩
    refine cond_f hf rfl hc287 ?_
    refine wp_skip ?_
    refine then_n ?_
    refine region_pl ?_
    iterate 2 refine q_ hf rfl rfl rfl (e_move hf rfl) fun a hf => ?_
    refine pl_0 hf rfl rfl (w_mapUpdate (fk := fS) (fv := fT) hf hM (keyS Tryz.underlying9) Tryz.underlying86 (k := y281) (v := true) rfl rfl rfl (n := 1) rfl fun w288 hM => ?_)
    dsimp only [List.set] at hM
    refine pl_nil ?_
    refine blk_n ?_
    refine then_n ?_
    refine region_pl ?_
    obtain ⟨z289, hz290, h259⟩ := bind_some h259
    refine q_ hf rfl rfl rfl (e_add hf rfl rfl hz290) fun a hf => ?_
    refine q_ hf rfl rfl rfl (e_move hf rfl) fun a hf => ?_
    refine pl_nil ?_
    obtain rfl := some_inj h259
    refine then_n ⟨_, rfl, ?_⟩
    exact ⟨(putM mp249 y281 true), z289, b250, rfl, hf.keep ⟨rfl, rfl, rfl, rfl, trivial⟩, (hM.drop (.cons _ (.cons_cons _ (.cons_cons _ (.cons_cons _ (.cons_cons _ (.cons_cons _ (.cons_cons _ .slnil)))))))).pick [2] rfl, (chk_R hz290)⟩
   refine cond_f hf rfl hc261 ?_
   refine wp_exit ?_
   refine then_x ?_
   obtain rfl := some_inj h259
   obtain rfl := hd260 _ rfl
   try dsimp only at h247
   refine then_x ?_
   refine exit_hit ?_
   obtain rfl := some_inj h247
   refine then_n ?_
   exact ⟨mp249, b250, rfl, hf.keep trivial, hM.pick [0] rfl⟩
  rintro a w297 ⟨mp244, b245, rfl, hf, hM⟩
  try dsimp only at h
  refine wp_seq ?_
  refine region_pl ?_
  refine q_ hf rfl rfl rfl (e_assign hf rfl) fun a hf => ?_
  refine pl_nil ?_
  refine then_n ?_
  refine wp_ret ?_
  obtain rfl := some_inj h
  have hM := hM.outs (own' := []) 0 rfl
  exact leave1 hf rfl rfl ⟨rfl, hM.fin⟩
 ·refine pi_l hf rfl rfl rfl rfl (w_make hf hM (K := intRep) Tryz.underlying77 ei_2 Tryz.zeroValue2 rfl rfl rfl ⟨rfl, (R64_lit rfl)⟩ hz43 fun b299 w300 hx301 hM => ⟨Ext w300, fun _ h => Ext.trans hx301 h, Ext.refl _, fun a hf => ?_⟩)
  refine pi_two ?_ ?_
  ·refine pi_l hf rfl rfl rfl rfl (w_make hf hM (K := boolRep) Tryz.underlying81 ei_4 Tryz.zeroValue4 rfl rfl rfl rfl hz38 fun b302 w303 hx304 hM => ⟨Ext w303, fun _ h => Ext.trans hx304 h, Ext.refl _, fun a hf => ?_⟩)
   refine pi_one ?_
   refine pi_l hf rfl rfl rfl rfl (w_make hf hM (K := intRep) Tryz.underlying82 ei_3 Tryz.zeroValue3 rfl rfl rfl ⟨rfl, (R64_lit rfl)⟩ hz48 fun b305 w306 hx307 hM => ⟨Ext w306, fun _ h => Ext.trans hx307 h, Ext.refl _, fun a hf => ?_⟩)
   refine pi_q hf rfl rfl rfl rfl (Ext.refl _) (e_build hf Tryz.zeroValue84 Tryz.underlying84 (bp_84 _ Tryz.underlying84.symm) rfl (cs := #[vL A2 (d1.Nodes) c3, vI (0), vL (some ⟨b302, 0, none⟩) (xs37) (((d1.Nodes.length : Int) : Int).toNat), vL (some ⟨b299, 0, none⟩) (xs42) (((d1.Nodes.length : Int) : Int).toNat), vL (some ⟨b305, 0, none⟩) (xs47) (((d1.Nodes.length : Int) : Int).toNat)]) (by kernel_rfl)) fun a hf => ?_
   refine pi_one ?_
   refine pi_l hf rfl rfl rfl rfl (w_box hf hM (cs := [vL A2 (d1.Nodes) c3, vI (0), vL (some ⟨b302, 0, none⟩) (xs37) (((d1.Nodes.length : Int) : Int).toNat), vL (some ⟨b299, 0, none⟩) (xs42) (((d1.Nodes.length : Int) : Int).toNat), vL (some ⟨b305, 0, none⟩) (xs47) (((d1.Nodes.length : Int) : Int).toNat)]) rfl rfl fun b308 w309 hx310 hM => ⟨Ext w309, fun _ h => Ext.trans hx310 h, Ext.refl _, fun a hf => ?_⟩)
   refine pi_q hf rfl rfl rfl rfl (Ext.refl _) (e_assign hf rfl) fun a hf => ?_
   refine pi_nil ?_
   refine then_n ?_
   refine wp_seq ?_
   obtain ⟨x325, h326, h⟩ := bind_some h
   refine seq_join (fun a w => ∃ (n312 : Int) (xs314 : (List Bool)) (xs317 : (List Int)) (xs320 : (List Int)) (t323 : Bool) (A315 : Option Addr) (c316 : Nat) (A318 : Option Addr) (c319 : Nat) (A321 : Option Addr) (c322 : Nat), (n312, xs314, xs317, xs320, t323) = x325 ∧ Has 76 a [(1, vP b5 (0)), (59, .bool (t323))] ∧ Mem C w [.box b308 [vL A2 (d1.Nodes) c3, vI (n312), vL A315 (xs314) c316, vL A318 (xs317) c319, vL A321 (xs320) c322] 84, .row intRep A321 c322 3 xs320 true, .row boolRep A315 c316 4 xs314 true, .row intRep A318 c319 2 xs317 true, .box b5 [vL A2 (d1.Nodes) c3] 26] [.dat (sliceRep NodeRep) d1.Nodes [vL A2 d1.Nodes c3]] ∧ R64 n312) ?_ ?_
   ·refine region_pl ?_
    refine q_ hf rfl rfl rfl (e_move hf rfl) fun a hf => ?_
    have hM := hM.front (k := 1) rfl
    dsimp only [List.eraseIdx] at hM
    have hM := hM.front (k := 3) rfl
    dsimp only [List.eraseIdx] at hM
    have hM := hM.front (k := 3) rfl
    dsimp only [List.eraseIdx] at hM
    have hM := hM.front (k := 3) rfl
    dsimp only [List.eraseIdx] at hM
    have hM : Mem C _ ([.box b308 [vL A2 (d1.Nodes) c3, vI (0), vL (some ⟨b302, 0, none⟩) (xs37) (((d1.Nodes.length : Int) : Int).toNat), vL (some ⟨b299, 0, none⟩) (xs42) (((d1.Nodes.length : Int) : Int).toNat), vL (some ⟨b305, 0, none⟩) (xs47) (((d1.Nodes.length : Int) : Int).toNat)] 84, .row boolRep (some ⟨b302, 0, none⟩) (((d1.Nodes.length : Int) : Int).toNat) 4 xs37 true, .row intRep (some ⟨b299, 0, none⟩) (((d1.Nodes.length : Int) : Int).toNat) 2 xs42 true, .row intRep (some ⟨b305, 0, none⟩) (((d1.Nodes.length : Int) : Int).toNat) 3 xs47 true] ++ [.box b5 [vL A2 (d1.Nodes) c3] 26]) _ := hM
    obtain ⟨y327, hz328, h326⟩ := bind_some h326
    refine pl_l hf rfl rfl rfl (w_call hf Tryz.call48 rfl (r_impl_inspector_visit ⟨_, Sh C _ _, ownB _, hM.sh_lt, sub_dis, C.G, hM.g_lt, hM.g_own, hM.tabs⟩ (⟨⟨d1.Nodes⟩, 0, xs37, xs42, xs47⟩ : inspector) _ _ _ (hM.dat (k := 0) rfl) (R64_lit rfl) _ _ _ _ _ _ 0 (R64_lit rfl) hM.sub sub_dis _ hz328) ?_)
    rintro _ w336 ⟨A330, c331, A332, c333, A334, c335, rfl, hM2, hv329⟩
    obtain ⟨hM, hup338⟩ := hM.backG hM2
    dsimp only [List.cons_append, List.nil_append] at hM hup338
    clear hM2
    refine ⟨_, rfl, fun a hf => ?_⟩
    refine q_ hf rfl rfl rfl (e_not hf rfl) fun a hf => ?_
    refine q_ hf rfl rfl rfl (e_move hf rfl) fun a hf => ?_
    rcases cond_some h326 with ⟨hc339, h326⟩ | ⟨hc339, h326⟩
    ·iterate 6 refine pl_gs (wanted_f hf rfl rfl rfl rfl hc339) hf rfl rfl fun a hf => ?_
     refine q_ hf rfl rfl rfl (e_pick_t hf rfl hc339 rfl) fun a hf => ?_
     refine q_ hf rfl rfl rfl (e_move hf rfl) fun a hf => ?_
     iterate 7 refine pl_gs (wanted_f hf rfl rfl rfl rfl rfl) hf rfl rfl fun a hf => ?_
     refine q_ hf rfl rfl rfl (e_pick_t hf rfl rfl rfl) fun a hf => ?_
     refine q_ hf rfl rfl rfl (e_move hf rfl) fun a hf => ?_
     iterate 7 refine pl_gs (wanted_f hf rfl rfl rfl rfl rfl) hf rfl rfl fun a hf => ?_
     refine q_ hf rfl rfl rfl (e_pick_t hf rfl rfl rfl) fun a hf => ?_
     refine pl_nil ?_
     obtain rfl := some_inj h326
     refine then_n ?_
     have hM := hM.front (k := 4) rfl
     dsimp only [List.eraseIdx] at hM
     have hM := hM.front (k := 3) rfl
     dsimp only [List.eraseIdx] at hM
     have hM := hM.front (k := 3) rfl
     dsimp only [List.eraseIdx] at hM
     have hM := hM.front (k := 4) rfl
     dsimp only [List.eraseIdx] at hM
     have hM := hM.front (k := 4) rfl
     dsimp only [List.eraseIdx] at hM
     exact ⟨y327.2.met, y327.2.open_, y327.2.strings, y327.2.longest, true, A330, c331, A332, c333, A334, c335, rfl, hf.keep ⟨rfl, rfl, trivial⟩, hM.pick [0] rfl, hv329⟩
    refine gq (wanted_t hf rfl rfl rfl rfl hc339) hf rfl rfl (e_move hf rfl) fun a hf => ?_
    refine gq (wanted_t hf rfl rfl rfl rfl hc339) hf rfl rfl (e_nil hf rfl) fun a hf => ?_
    refine gq (wanted_t hf rfl rfl rfl rfl hc339) hf rfl rfl (e_field hf rfl Tryz.underlying84 rfl Tryz.sizeOf2 (o' := 1) rfl) fun a hf => ?_
    refine gq (wanted_t hf rfl rfl rfl rfl hc339) hf rfl rfl (e_load1 hf rfl Tryz.isAgg2 (hM.boxCell (k := 0) rfl rfl)) fun a hf => ?_
    refine gq (wanted_t hf rfl rfl rfl rfl hc339) hf rfl rfl (e_move hf rfl) fun a hf => ?_
    refine gq (wanted_t hf rfl rfl rfl rfl hc339) hf rfl rfl (e_ne hf (x := y327.2.met) (y := (d1.Nodes.length : Int)) rfl rfl) fun a hf => ?_
    refine q_ hf rfl rfl rfl (e_pick_f hf rfl hc339 rfl) fun a hf => ?_
    refine q_ hf rfl rfl rfl (e_move hf rfl) fun a hf => ?_
    rcases cond_some h326 with ⟨hc341, h326⟩ | ⟨hc341, h326⟩
    ·iterate 7 refine pl_gs (wanted_f hf rfl rfl rfl rfl hc341) hf rfl rfl fun a hf => ?_
     refine q_ hf rfl rfl rfl (e_pick_t hf rfl hc341 rfl) fun a hf => ?_
     refine q_ hf rfl rfl rfl (e_move hf rfl) fun a hf => ?_
     iterate 7 refine pl_gs (wanted_f hf rfl rfl rfl rfl rfl) hf rfl rfl fun a hf => ?_
     refine q_ hf rfl rfl rfl (e_pick_t hf rfl rfl rfl) fun a hf => ?_
     refine pl_nil ?_
     obtain rfl := some_inj h326
     refine then_n ?_
     have hM := hM.front (k := 4) rfl
     dsimp only [List.eraseIdx] at hM
     have hM := hM.front (k := 3) rfl
     dsimp only [List.eraseIdx] at hM
     have hM := hM.front (k := 3) rfl
     dsimp only [List.eraseIdx] at hM
     have hM := hM.front (k := 4) rfl
     dsimp only [List.eraseIdx] at hM
     have hM := hM.front (k := 4) rfl
     dsimp only [List.eraseIdx] at hM
     exact ⟨y327.2.met, y327.2.open_, y327.2.strings, y327.2.longest, true, A330, c331, A332, c333, A334, c335, rfl, hf.keep ⟨rfl, rfl, trivial⟩, hM.pick [0] rfl, hv329⟩
    refine gq (wanted_t hf rfl rfl rfl rfl hc341) hf rfl rfl (e_move hf rfl) fun a hf => ?_
    refine gq (wanted_t hf rfl rfl rfl rfl hc341) hf rfl rfl (e_nil hf rfl) fun a hf => ?_
    refine gq (wanted_t hf rfl rfl rfl rfl hc341) hf rfl rfl (e_field hf rfl Tryz.underlying84 rfl Tryz.sizeOf77 (o' := 3) rfl) fun a hf => ?_
    refine gq (wanted_t hf rfl rfl rfl rfl hc341) hf rfl rfl (e_load1 hf rfl Tryz.isAgg77 (hM.boxCell (k := 0) rfl rfl)) fun a hf => ?_
    obtain ⟨e343, hz344, h326⟩ := bind_some h326
    obtain ⟨b349, _, hA350, h345, h346, hr347, hcell348⟩ := hM.rowElemN (k := 2) rfl (n := 1) rfl hz344
    obtain ⟨rfl, hv351⟩ := hr347
    refine gq (wanted_t hf rfl rfl rfl rfl hc341) hf rfl rfl (e_indexAddr (A := A332) (b := b349) (o := 0) (xs := y327.2.strings) (i := 0) hf hA350 rfl rfl Tryz.underlying77 Tryz.sizeOf2 h345 h346) fun a hf => ?_
    refine gq (wanted_t hf rfl rfl rfl rfl hc341) hf rfl rfl (e_load1 hf rfl Tryz.isAgg2 (hcell348 0 _ rfl)) fun a hf => ?_
    refine gq (wanted_t hf rfl rfl rfl rfl hc341) hf rfl rfl (e_gt hf (x := e343) (y := 3000) rfl rfl) fun a hf => ?_
    refine q_ hf rfl rfl rfl (e_pick_f hf rfl hc341 rfl) fun a hf => ?_
    refine q_ hf rfl rfl rfl (e_move hf rfl) fun a hf => ?_
    rcases cond_some h326 with ⟨hc352, h326⟩ | ⟨hc352, h326⟩
    ·iterate 7 refine pl_gs (wanted_f hf rfl rfl rfl rfl hc352) hf rfl rfl fun a hf => ?_
     refine q_ hf rfl rfl rfl (e_pick_t hf rfl hc352 rfl) fun a hf => ?_
     refine pl_nil ?_
     obtain rfl := some_inj h326
     refine then_n ?_
     have hM := hM.front (k := 4) rfl
     dsimp only [List.eraseIdx] at hM
     have hM := hM.front (k := 3) rfl
     dsimp only [List.eraseIdx] at hM
     have hM := hM.front (k := 3) rfl
     dsimp only [List.eraseIdx] at hM
     have hM := hM.front (k := 4) rfl
     dsimp only [List.eraseIdx] at hM
     have hM := hM.front (k := 4) rfl
     dsimp only [List.eraseIdx] at hM
     exact ⟨y327.2.met, y327.2.open_, y327.2.strings, y327.2.longest, true, A330, c331, A332, c333, A334, c335, rfl, hf.keep ⟨rfl, rfl, trivial⟩, hM.pick [0] rfl, hv329⟩
    refine gq (wanted_t hf rfl rfl rfl rfl hc352) hf rfl rfl (e_move hf rfl) fun a hf => ?_
    refine gq (wanted_t hf rfl rfl rfl rfl hc352) hf rfl rfl (e_nil hf rfl) fun a hf => ?_
    refine gq (wanted_t hf rfl rfl rfl rfl hc352) hf rfl rfl (e_field hf rfl Tryz.underlying84 rfl Tryz.sizeOf82 (o' := 4) rfl) fun a hf => ?_
    refine gq (wanted_t hf rfl rfl rfl rfl hc352) hf rfl rfl (e_load1 hf rfl Tryz.isAgg82 (hM.boxCell (k := 0) rfl rfl)) fun a hf => ?_
    obtain ⟨e354, hz355, h326⟩ := bind_some h326
    obtain ⟨b360, _, hA361, h356, h357, hr358, hcell359⟩ := hM.rowElemN (k := 3) rfl (n := 1) rfl hz355
    obtain ⟨rfl, hv362⟩ := hr358
    refine gq (wanted_t hf rfl rfl rfl rfl hc352) hf rfl rfl (e_indexAddr (A := A334) (b := b360) (o := 0) (xs := y327.2.longest) (i := 0) hf hA361 rfl rfl Tryz.underlying82 Tryz.sizeOf3 h356 h357) fun a hf => ?_
    refine gq (wanted_t hf rfl rfl rfl rfl hc352) hf rfl rfl (e_load1 hf rfl Tryz.isAgg3 (hcell359 0 _ rfl)) fun a hf => ?_
    refine gq (wanted_t hf rfl rfl rfl rfl hc352) hf rfl rfl (e_gt hf (x := e354) (y := 13) rfl rfl) fun a hf => ?_
    refine q_ hf rfl rfl rfl (e_pick_f hf rfl hc352 rfl) fun a hf => ?_
    refine pl_nil ?_
    obtain rfl := some_inj h326
    refine then_n ?_
    have hM := hM.front (k := 4) rfl
    dsimp only [List.eraseIdx] at hM
    have hM := hM.front (k := 3) rfl
    dsimp only [List.eraseIdx] at hM
    have hM := hM.front (k := 3) rfl
    dsimp only [List.eraseIdx] at hM
    have hM := hM.front (k := 4) rfl
    dsimp only [List.eraseIdx] at hM
    have hM := hM.front (k := 4) rfl
    dsimp only [List.eraseIdx] at hM
    exact ⟨y327.2.met, y327.2.open_, y327.2.strings, y327.2.longest, (decide (13 < e354)), A330, c331, A332, c333, A334, c335, rfl, hf.keep ⟨rfl, rfl, trivial⟩, hM.pick [0] rfl, hv329⟩
   rintro a w364 ⟨n312, xs314, xs317, xs320, t323, A315, c316, A318, c319, A321, c322, rfl, hf, hM, hv313⟩
   try dsimp only at h
   rcases cond_some h with ⟨hc365, h⟩ | ⟨hc365, h⟩
   ·refine cond_t hf rfl hc365 ?_
    refine wp_seq ?_
    refine region_pl ?_
    refine q_ hf rfl rfl rfl (e_assign hf rfl) fun a hf => ?_
    refine pl_nil ?_
    refine then_n ?_
    refine wp_ret ?_
    refine then_r ?_
    obtain rfl := some_inj h
    have hM := hM.outs (own' := []) 0 rfl
    exact leave1 hf rfl rfl ⟨rfl, hM.fin⟩
   refine cond_f hf rfl hc365 ?_
   refine wp_skip ?_
   refine then_n ?_
   refine wp_seq ?_
   refine region_pl ?_
   refine pl_l hf rfl rfl rfl (w_makeMap fS fT hM fun b366 w367 hx368 hM a hf => ?_)
   refine q_ hf rfl rfl rfl (e_assign hf rfl) fun a hf => ?_
   refine pl_nil ?_
   refine then_n ?_
   obtain ⟨x371, h372, h⟩ := bind_some h
   refine seq_join (fun a w => ∃ (mp369 : (List (Str × Bool))) (b370 : Nat), (.inl mp369) = x371 ∧ Has 76 a [] ∧ Mem C w [.obj b370 (mapO fS fT mp369), .box b308 [vL A2 (d1.Nodes) c3, vI (n312), vL A315 (xs314) c316, vL A318 (xs317) c319, vL A321 (xs320) c322] 84, .row intRep A321 c322 3 xs320 true, .row boolRep A315 c316 4 xs314 true, .row intRep A318 c319 2 xs317 true, .box b5 [vL A2 (d1.Nodes) c3] 26] [.dat (sliceRep NodeRep) d1.Nodes [vL A2 d1.Nodes c3]]) ?_ ?_
   ·refine wp_seq ?_
    refine region_pl ?_
    refine q_ hf rfl rfl rfl (e_field hf rfl Tryz.underlying26 rfl Tryz.sizeOf24 (o' := 0) rfl) fun a hf => ?_
    refine q_ hf rfl rfl rfl (e_load1 hf rfl Tryz.isAgg24 (hM.boxCell (k := 5) rfl rfl)) fun a hf => ?_
    have hl373 := slice_len (hM.dat (k := 0) rfl)
    refine q_ hf rfl rfl rfl (e_lenL hf (x := d1.Nodes) rfl Tryz.underlying24) fun a hf => ?_
    refine q_ hf rfl rfl rfl (e_move hf rfl) fun a hf => ?_
    refine pl_nil ?_
    refine then_n ?_
    refine wp_block ?_
    obtain ⟨x381, h382, h372⟩ := bind_some h372
    refine wp_loopM h382 (fun s a w => ∃ (mp374 : (List (Str × Bool))) (n376 : Int) (b375 : Nat), (mp374, n376) = s ∧ Has 76 a [(5, vM b375), (62, vL A2 (d1.Nodes) c3), (63, vI ((d1.Nodes.length : Int))), (64, vI (n376))] ∧ Mem C w [.obj b375 (mapO fS fT mp374), .box b308 [vL A2 (d1.Nodes) c3, vI (n312), vL A315 (xs314) c316, vL A318 (xs317) c319, vL A321 (xs320) c322] 84, .row intRep A321 c322 3 xs320 true, .row boolRep A315 c316 4 xs314 true, .row intRep A318 c319 2 xs317 true, .box b5 [vL A2 (d1.Nodes) c3] 26] [.dat (sliceRep NodeRep) d1.Nodes [vL A2 d1.Nodes c3]] ∧ R64 n376) ?_ ?_
    ·exact ⟨([] : (List (Str × Bool))), 0, b366, rfl, hf.keep ⟨rfl, rfl, rfl, rfl, trivial⟩, hM.pick [0] rfl, (R64_lit rfl)⟩
    rintro s o383 a w378 ⟨mp374, n376, b375, rfl, hf, hM, hv377⟩ h384 hd385
    replace h384 : m_impl_ValidDawg_l1 d1 mp374 n376 = some o383 := h384
    unfold m_impl_ValidDawg_l1 at h384
    refine wp_seq ?_
    refine region_pl ?_
    refine q_ hf rfl rfl rfl (e_lt hf (x := n376) (y := (d1.Nodes.length : Int)) rfl rfl) fun a hf => ?_
    refine pl_nil ?_
    refine then_n ?_
    refine wp_seq ?_
    rcases cond_some h384 with ⟨hc386, h384⟩ | ⟨hc386, h384⟩
    ·refine cond_t hf rfl hc386 ?_
     refine wp_skip ?_
     refine then_n ?_
     refine wp_seq ?_
     refine wp_block ?_
     refine wp_seq ?_
     refine region_pl ?_
     obtain ⟨e387, hz388, h384⟩ := bind_some h384
     obtain ⟨b392, o393, _, hA394, h389, h390, hr391, hM⟩ := hM.elem (hM.dat (k := 0) rfl) (n := 3) rfl hz388
     obtain ⟨A396, c397, rfl, hv395, hv398⟩ := NodeRep_open hr391
     have hM := hM.add (y := .dat (sliceRep intRep) e387.Next [vL A396 e387.Next c397]) hv398
     refine q_ hf rfl rfl rfl (e_indexAddr (A := A2) (b := b392) (o := o393) (xs := d1.Nodes) (i := n376) hf hA394 rfl rfl Tryz.underlying24 Tryz.sizeOf79 h389 h390) fun a hf => ?_
     refine q_ hf rfl rfl rfl (e_loadA hf (us := [.bool (e387.Final), vS (e387.Letters), vL A396 (e387.Next) c397]) rfl ⟨Tryz.isAgg79, Tryz.sizeOf79⟩ rfl (hM.litSub (k := 1) (d := 0) (us := [.bool (e387.Final), vS (e387.Letters), vL A396 (e387.Next) c397]) rfl rfl rfl)) fun a hf => ?_
     refine pl_l hf rfl rfl rfl (w_alloc hM (cs := [.bool (false), vS (([] : Str)), vL none (([] : (List Int))) 0]) Tryz.zeroValue79 rfl fun b399 w400 hx401 hM a hf => ?_)
     refine pl_0 hf rfl rfl (w_store hf hM (us := [.bool (e387.Final), vS (e387.Letters), vL A396 (e387.Next) c397]) (cs' := [.bool (e387.Final), vS (e387.Letters), vL A396 (e387.Next) c397]) rfl rfl (k := 0) rfl rfl Tryz.sizeOf79 rfl rfl rfl fun w403 hM => ?_)
     dsimp only [List.set] at hM
     refine pl_nil ?_
     refine then_n ?_
     refine wp_seq ?_
     refine region_pl ?_
     refine q_ hf rfl rfl rfl (e_loadA hf (us := [.bool (e387.Final), vS (e387.Letters), vL A396 (e387.Next) c397]) rfl ⟨Tryz.isAgg79, Tryz.sizeOf79⟩ rfl (hM.boxSub (k := 0) (us := [.bool (e387.Final), vS (e387.Letters), vL A396 (e387.Next) c397]) (o := 0) rfl rfl)) fun a hf => ?_
     obtain ⟨y406, hz407, h384⟩ := bind_some h384
     refine pl_l hf rfl rfl rfl (w_call hf Tryz.call49 rfl (r_impl_keyOf ⟨_, Sh C _ _, none_, hM.sh_lt, none_not, C.G, hM.g_lt, g_none, hM.tabs⟩ e387 hv395 _ _ (hM.dat (k := 0) rfl) _ hz407) ?_)
     rintro _ w409 ⟨rfl, hM2, hv408⟩
     obtain ⟨hM, hx410, hup411⟩ := hM.back hM2
     dsimp only [List.cons_append, List.nil_append] at hM hup411
     clear hM2
     refine ⟨_, rfl, fun a hf => ?_⟩
     refine q_ hf rfl rfl rfl (e_assign hf rfl) fun a hf => ?_
     refine pl_nil ?_
     refine then_n ?_
     iterate 2 refine wp_seq ?_
     refine region_pl ?_
     iterate 2 refine q_ hf rfl rfl rfl (e_move hf rfl) fun a hf => ?_
     refine q_ hf rfl rfl rfl (e_lookup (fk := fS) (fv := fT) hf (keyS Tryz.underlying9) Tryz.underlying86 (k := y406) (z := false) rfl rfl Tryz.zeroValue4 (hM.ownAt (k := 1) rfl)) fun a hf => ?_
     refine pl_nil ?_
     refine then_n ?_
     rcases cond_some h384 with ⟨hc412, h384⟩ | ⟨hc412, h384⟩
     ·refine cond_t hf rfl hc412 ?_
      refine wp_seq ?_
      refine region_pl ?_
      refine q_ hf rfl rfl rfl (e_assign hf rfl) fun a hf => ?_
      refine pl_nil ?_
      refine then_n ?_
      refine wp_ret ?_
      refine then_r ?_
      refine blk_r ?_
      refine then_r ?_
      obtain rfl := some_inj h384
      obtain rfl := hd385 _ rfl
      try dsimp only at h372
      refine then_r ?_
      refine blk_r ?_
      obtain rfl := some_inj h372
      try dsimp only at h
      refine then_r ?_
      obtain rfl := some_inj h
      have hM := hM.outs (own' := []) 0 rfl
      exact leave1 hf rfl rfl ⟨rfl, hM.fin⟩
     refine cond_f hf rfl hc412 ?_
     refine wp_skip ?_
     refine then_n ?_
     refine region_pl ?_
     iterate 2 refine q_ hf rfl rfl rfl (e_move hf rfl) fun a hf => ?_
     refine pl_0 hf rfl rfl (w_mapUpdate (fk := fS) (fv := fT) hf hM (keyS Tryz.underlying9) Tryz.underlying86 (k := y406) (v := true) rfl rfl rfl (n := 1) rfl fun w413 hM => ?_)
     dsimp only [List.set] at hM
     refine pl_nil ?_
     refine blk_n ?_
     refine then_n ?_
     refine region_pl ?_
     obtain ⟨z414, hz415, h384⟩ := bind_some h384
     refine q_ hf rfl rfl rfl (e_add hf rfl rfl hz415) fun a hf => ?_
     refine q_ hf rfl rfl rfl (e_move hf rfl) fun a hf => ?_
     refine pl_nil ?_
     obtain rfl := some_inj h384
     refine then_n ⟨_, rfl, ?_⟩
     exact ⟨(putM mp374 y406 true), z414, b375, rfl, hf.keep ⟨rfl, rfl, rfl, rfl, trivial⟩, (hM.drop (.cons _ (.cons_cons _ (.cons_cons _ (.cons_cons _ (.cons_cons _ (.cons_cons _ (.cons_cons _ .slnil)))))))).pick [2] rfl, (chk_R hz415)⟩
    refine cond_f hf rfl hc386 ?_
    refine wp_exit ?_
    refine then_x ?_
    obtain rfl := some_inj h384
    obtain rfl := hd385 _ rfl
    try dsimp only at h372
    refine then_x ?_
    refine exit_hit ?_
    obtain rfl := some_inj h372
    refine then_n ?_
    exact ⟨mp374, b375, rfl, hf.keep trivial, hM.pick [0] rfl⟩
   rintro a w422 ⟨mp369, b370, rfl, hf, hM⟩
   try dsimp only at h
   refine wp_seq ?_
   refine region_pl ?_
   refine q_ hf rfl rfl rfl (e_assign hf rfl) fun a hf => ?_
   refine pl_nil ?_
   refine then_n ?_
   refine wp_ret ?_
   obtain rfl := some_inj h
   have hM := hM.outs (own' := []) 0 rfl
   exact leave1 hf rfl rfl ⟨rfl, hM.fin⟩
  refine pi_l hf rfl rfl rfl rfl (w_make hf hM (K := intRep) Tryz.underlying82 ei_3 Tryz.zeroValue3 rfl rfl rfl ⟨rfl, (R64_lit rfl)⟩ hz48 fun b424 w425 hx426 hM => ⟨Ext w425, fun _ h => Ext.trans hx426 h, Ext.refl _, fun a hf => ?_⟩)
  refine pi_one ?_
  refine pi_l hf rfl rfl rfl rfl (w_make hf hM (K := boolRep) Tryz.underlying81 ei_4 Tryz.zeroValue4 rfl rfl rfl rfl hz38 fun b427 w428 hx429 hM => ⟨Ext w428, fun _ h => Ext.trans hx429 h, Ext.refl _, fun a hf => ?_⟩)
  refine pi_q hf rfl rfl rfl rfl (Ext.refl _) (e_build hf Tryz.zeroValue84 Tryz.underlying84 (bp_84 _ Tryz.underlying84.symm) rfl (cs := #[vL A2 (d1.Nodes) c3, vI (0), vL (some ⟨b427, 0, none⟩) (xs37) (((d1.Nodes.length : Int) : Int).toNat), vL (some ⟨b299, 0, none⟩) (xs42) (((d1.Nodes.length : Int) : Int).toNat), vL (some ⟨b424, 0, none⟩) (xs47) (((d1.Nodes.length : Int) : Int).toNat)]) (by kernel_rfl)) fun a hf => ?_
  refine pi_one ?_
  refine pi_l hf rfl rfl rfl rfl (w_box hf hM (cs := [vL A2 (d1.Nodes) c3, vI (0), vL (some ⟨b427, 0, none⟩) (xs37) (((d1.Nodes.length : Int) : Int).toNat), vL (some ⟨b299, 0, none⟩) (xs42) (((d1.Nodes.length : Int) : Int).toNat), vL (some ⟨b424, 0, none⟩) (xs47) (((d1.Nodes.length : Int) : Int).toNat)]) rfl rfl fun b430 w431 hx432 hM => ⟨Ext w431, fun _ h => Ext.trans hx432 h, Ext.refl _, fun a hf => ?_⟩)
  refine pi_q hf rfl rfl rfl rfl (Ext.refl _) (e_assign hf rfl) fun a hf => ?_
  refine pi_nil ?_
  refine then_n ?_
  refine wp_seq ?_
  obtain ⟨x447, h448, h⟩ := bind_some h
  refine seq_join (fun a w => ∃ (n434 : Int) (xs436 : (List Bool)) (xs439 : (List Int)) (xs442 : (List Int)) (t445 : Bool) (A437 : Option Addr) (c438 : Nat) (A440 : Option Addr) (c441 : Nat) (A443 : Option Addr) (c444 : Nat), (n434, xs436, xs439, xs442, t445) = x447 ∧ Has 76 a [(1, vP b5 (0)), (59, .bool (t445))] ∧ Mem C w [.box b430 [vL A2 (d1.Nodes) c3, vI (n434), vL A437 (xs436) c438, vL A440 (xs439) c441, vL A443 (xs442) c444] 84, .row boolRep A437 c438 4 xs436 true, .row intRep A443 c444 3 xs442 true, .row intRep A440 c441 2 xs439 true, .box b5 [vL A2 (d1.Nodes) c3] 26] [.dat (sliceRep NodeRep) d1.Nodes [vL A2 d1.Nodes c3]] ∧ R64 n434) ?_ ?_
  ·refine region_pl ?_
   refine q_ hf rfl rfl rfl (e_move hf rfl) fun a hf => ?_
   have hM := hM.front (k := 2) rfl
   dsimp only [List.eraseIdx] at hM
   have hM := hM.front (k := 3) rfl
   dsimp only [List.eraseIdx] at hM
   have hM := hM.front (k := 3) rfl
   dsimp only [List.eraseIdx] at hM
   have hM := hM.front (k := 3) rfl
   dsimp only [List.eraseIdx] at hM
   have hM : Mem C _ ([.box b430 [vL A2 (d1.Nodes) c3, vI (0), vL (some ⟨b427, 0, none⟩) (xs37) (((d1.Nodes.length : Int) : Int).toNat), vL (some ⟨b299, 0, none⟩) (xs42) (((d1.Nodes.length : Int) : Int).toNat), vL (some ⟨b424, 0, none⟩) (xs47) (((d1.Nodes.length : Int) : Int).toNat)] 84, .row boolRep (some ⟨b427, 0, none⟩) (((d1.Nodes.length : Int) : Int).toNat) 4 xs37 true, .row intRep (some ⟨b299, 0, none⟩) (((d1.Nodes.length : Int) : Int).toNat) 2 xs42 true, .row intRep (some ⟨b424, 0, none⟩) (((d1.Nodes.length : Int) : Int).toNat) 3 xs47 true] ++ [.box b5 [vL A2 (d1.Nodes) c3] 26]) _ := hM
   obtain ⟨y449, hz450, h448⟩ := bind_some h448
   refine pl_l hf rfl rfl rfl (w_call hf Tryz.call48 rfl (r_impl_inspector_visit ⟨_, Sh C _ _, ownB _, hM.sh_lt, sub_dis, C.G, hM.g_lt, hM.g_own, hM.tabs⟩ (⟨⟨d1.Nodes⟩, 0, xs37, xs42, xs47⟩ : inspector) _ _ _ (hM.dat (k := 0) rfl) (R64_lit rfl) _ _ _ _ _ _ 0 (R64_lit rfl) hM.sub sub_dis _ hz450) ?_)
   rintro _ w458 ⟨A452, c453, A454, c455, A456, c457, rfl, hM2, hv451⟩
   obtain ⟨hM, hup460⟩ := hM.backG hM2
   dsimp only [List.cons_append, List.nil_append] at hM hup460
   clear hM2
   refine ⟨_, rfl, fun a hf => ?_⟩
   refine q_ hf rfl rfl rfl (e_not hf rfl) fun a hf => ?_
   refine q_ hf rfl rfl rfl (e_move hf rfl) fun a hf => ?_
   rcases cond_some h448 with ⟨hc461, h448⟩ | ⟨hc461, h448⟩
   ·iterate 6 refine pl_gs (wanted_f hf rfl rfl rfl rfl hc461) hf rfl rfl fun a hf => ?_
    refine q_ hf rfl rfl rfl (e_pick_t hf rfl hc461 rfl) fun a hf => ?_
    refine q_ hf rfl rfl rfl (e_move hf rfl) fun a hf => ?_
    iterate 7 refine pl_gs (wanted_f hf rfl rfl rfl rfl rfl) hf rfl rfl fun a hf => ?_
    refine q_ hf rfl rfl rfl (e_pick_t hf rfl rfl rfl) fun a hf => ?_
    refine q_ hf rfl rfl rfl (e_move hf rfl) fun a hf => ?_
    iterate 7 refine pl_gs (wanted_f hf rfl rfl rfl rfl rfl) hf rfl rfl fun a hf => ?_
    refine q_ hf rfl rfl rfl (e_pick_t hf rfl rfl rfl) fun a hf => ?_
    refine pl_nil ?_
    obtain rfl := some_inj h448
    refine then_n ?_
    have hM := hM.front (k := 4) rfl
    dsimp only [List.eraseIdx] at hM
    have hM := hM.front (k := 3) rfl
    dsimp only [List.eraseIdx] at hM
    have hM := hM.front (k := 4) rfl
    dsimp only [List.eraseIdx] at hM
    have hM := hM.front (k := 4) rfl
    dsimp only [List.eraseIdx] at hM
    have hM := hM.front (k := 4) rfl
    dsimp only [List.eraseIdx] at hM
    exact ⟨y449.2.met, y449.2.open_, y449.2.strings, y449.2.longest, true, A452, c453, A454, c455, A456, c457, rfl, hf.keep ⟨rfl, rfl, trivial⟩, hM.pick [0] rfl, hv451⟩
   refine gq (wanted_t hf rfl rfl rfl rfl hc461) hf rfl rfl (e_move hf rfl) fun a hf => ?_
   refine gq (wanted_t hf rfl rfl rfl rfl hc461) hf rfl rfl (e_nil hf rfl) fun a hf => ?_
   refine gq (wanted_t hf rfl rfl rfl rfl hc461) hf rfl rfl (e_field hf rfl Tryz.underlying84 rfl Tryz.sizeOf2 (o' := 1) rfl) fun a hf => ?_
   refine gq (wanted_t hf rfl rfl rfl rfl hc461) hf rfl rfl (e_load1 hf rfl Tryz.isAgg2 (hM.boxCell (k := 0) rfl rfl)) fun a hf => ?_
   refine gq (wanted_t hf rfl rfl rfl rfl hc461) hf rfl rfl (e_move hf rfl) fun a hf => ?_
   refine gq (wanted_t hf rfl rfl rfl rfl hc461) hf rfl rfl (e_ne hf (x := y449.2.met) (y := (d1.Nodes.length : Int)) rfl rfl) fun a hf => ?_
   refine q_ hf rfl rfl rfl (e_pick_f hf rfl hc461 rfl) fun a hf => ?_
   refine q_ hf rfl rfl rfl (e_move hf rfl) fun a hf => ?_
   rcases cond_some h448 with ⟨hc463, h448⟩ | ⟨hc463, h448⟩
   ·iterate 7 refine pl_gs (wanted_f hf rfl rfl rfl rfl hc463) hf rfl rfl fun a hf => ?_
    refine q_ hf rfl rfl rfl (e_pick_t hf rfl hc463 rfl) fun a hf => ?_
    refine q_ hf rfl rfl rfl (e_move hf rfl) fun a hf => ?_
    iterate 7 refine pl_gs (wanted_f hf rfl rfl rfl rfl rfl) hf rfl rfl fun a hf => ?_
    refine q_ hf rfl rfl rfl (e_pick_t hf rfl rfl rfl) fun a hf => ?_
    refine pl_nil ?_
    obtain rfl := some_inj h448
    refine then_n ?_
    have hM := hM.front (k := 4) rfl
    dsimp only [List.eraseIdx] at hM
    have hM := hM.front (k := 3) rfl
    dsimp only [List.eraseIdx] at hM
    have hM := hM.front (k := 4) rfl
    dsimp only [List.eraseIdx] at hM
    have hM := hM.front (k := 4) rfl
    dsimp only [List.eraseIdx] at hM
    have hM := hM.front (k := 4) rfl
    dsimp only [List.eraseIdx] at hM
    exact ⟨y449.2.met, y449.2.open_, y449.2.strings, y449.2.longest, true, A452, c453, A454, c455, A456, c457, rfl, hf.keep ⟨rfl, rfl, trivial⟩, hM.pick [0] rfl, hv451⟩
   refine gq (wanted_t hf rfl rfl rfl rfl hc463) hf rfl rfl (e_move hf rfl) fun a hf => ?_
   refine gq (wanted_t hf rfl rfl rfl rfl hc463) hf rfl rfl (e_nil hf rfl) fun a hf => ?_
   refine gq (wanted_t hf rfl rfl rfl rfl hc463) hf rfl rfl (e_field hf rfl Tryz.underlying84 rfl Tryz.sizeOf77 (o' := 3) rfl) fun a hf => ?_
   refine gq (wanted_t hf rfl rfl rfl rfl hc463) hf rfl rfl (e_load1 hf rfl Tryz.isAgg77 (hM.boxCell (k := 0) rfl rfl)) fun a hf => ?_
   obtain ⟨e465, hz466, h448⟩ := bind_some h448
   obtain ⟨b471, _, hA472, h467, h468, hr469, hcell470⟩ := hM.rowElemN (k := 2) rfl (n := 1) rfl hz466
   obtain ⟨rfl, hv473⟩ := hr469
   refine gq (wanted_t hf rfl rfl rfl rfl hc463) hf rfl rfl (e_indexAddr (A := A454) (b := b471) (o := 0) (xs := y449.2.strings) (i := 0) hf hA472 rfl rfl Tryz.underlying77 Tryz.sizeOf2 h467 h468) fun a hf => ?_
   refine gq (wanted_t hf rfl rfl rfl rfl hc463) hf rfl rfl (e_load1 hf rfl Tryz.isAgg2 (hcell470 0 _ rfl)) fun a hf => ?_
   refine gq (wanted_t hf rfl rfl rfl rfl hc463) hf rfl rfl (e_gt hf (x := e465) (y := 3000) rfl rfl) fun a hf => ?_
   refine q_ hf rfl rfl rfl (e_pick_f hf rfl hc463 rfl) fun a hf => ?_
   refine q_ hf rfl rfl rfl (e_move hf rfl) fun a hf => ?_
   rcases cond_some h448 with ⟨hc474, h448⟩ | ⟨hc474, h448⟩
   ·iterate 7 refine pl_gs (wanted_f hf rfl rfl rfl rfl hc474) hf rfl rfl fun a hf => ?_
    refine q_ hf rfl rfl rfl (e_pick_t hf rfl hc474 rfl) fun a hf => ?_
    refine pl_nil ?_
    obtain rfl := some_inj h448
    refine then_n ?_
    have hM := hM.front (k := 4) rfl
    dsimp only [List.eraseIdx] at hM
    have hM := hM.front (k := 3) rfl
    dsimp only [List.eraseIdx] at hM
    have hM := hM.front (k := 4) rfl
    dsimp only [List.eraseIdx] at hM
    have hM := hM.front (k := 4) rfl
    dsimp only [List.eraseIdx] at hM
    have hM := hM.front (k := 4) rfl
    dsimp only [List.eraseIdx] at hM
    exact ⟨y449.2.met, y449.2.open_, y449.2.strings, y449.2.longest, true, A452, c453, A454, c455, A456, c457, rfl, hf.keep ⟨rfl, rfl, trivial⟩, hM.pick [0] rfl, hv451⟩
   refine gq (wanted_t hf rfl rfl rfl rfl hc474) hf rfl rfl (e_move hf rfl) fun a hf => ?_
   refine gq (wanted_t hf rfl rfl rfl rfl hc474) hf rfl rfl (e_nil hf rfl) fun a hf => ?_
   refine gq (wanted_t hf rfl rfl rfl rfl hc474) hf rfl rfl (e_field hf rfl Tryz.underlying84 rfl Tryz.sizeOf82 (o' := 4) rfl) fun a hf => ?_
   refine gq (wanted_t hf rfl rfl rfl rfl hc474) hf rfl rfl (e_load1 hf rfl Tryz.isAgg82 (hM.boxCell (k := 0) rfl rfl)) fun a hf => ?_
   obtain ⟨e476, hz477, h448⟩ := bind_some h448
   obtain ⟨b482, _, hA483, h478, h479, hr480, hcell481⟩ := hM.rowElemN (k := 3) rfl (n := 1) rfl hz477
   obtain ⟨rfl, hv484⟩ := hr480
   refine gq (wanted_t hf rfl rfl rfl rfl hc474) hf rfl rfl (e_indexAddr (A := A456) (b := b482) (o := 0) (xs := y449.2.longest) (i := 0) hf hA483 rfl rfl Tryz.underlying82 Tryz.sizeOf3 h478 h479) fun a hf => ?_
   refine gq (wanted_t hf rfl rfl rfl rfl hc474) hf rfl rfl (e_load1 hf rfl Tryz.isAgg3 (hcell481 0 _ rfl)) fun a hf => ?_
   refine gq (wanted_t hf rfl rfl rfl rfl hc474) hf rfl rfl (e_gt hf (x := e476) (y := 13) rfl rfl) fun a hf => ?_
   refine q_ hf rfl rfl rfl (e_pick_f hf rfl hc474 rfl) fun a hf => ?_
   refine pl_nil ?_
   obtain rfl := some_inj h448
   refine then_n ?_
   have hM := hM.front (k := 4) rfl
   dsimp only [List.eraseIdx] at hM
   have hM := hM.front (k := 3) rfl
   dsimp only [List.eraseIdx] at hM
   have hM := hM.front (k := 4) rfl
   dsimp only [List.eraseIdx] at hM
   have hM := hM.front (k := 4) rfl
   dsimp only [List.eraseIdx] at hM
   have hM := hM.front (k := 4) rfl
   dsimp only [List.eraseIdx] at hM
   exact ⟨y449.2.met, y449.2.open_, y449.2.strings, y449.2.longest, (decide (13 < e476)), A452, c453, A454, c455, A456, c457, rfl, hf.keep ⟨rfl, rfl, trivial⟩, hM.pick [0] rfl, hv451⟩
  rintro a w486 ⟨n434, xs436, xs439, xs442, t445, A437, c438, A440, c441, A443, c444, rfl, hf, hM, hv435⟩
  try dsimp only at h
  rcases cond_some h with ⟨hc487, h⟩ | ⟨hc487, h⟩
  ·refine cond_t hf rfl hc487 ?_
   refine wp_seq ?_
   refine region_pl ?_
   refine q_ hf rfl rfl rfl (e_assign hf rfl) fun a hf => ?_
   refine pl_nil ?_
   refine then_n ?_
   refine wp_ret ?_
   refine then_r ?_
   obtain rfl := some_inj h
   have hM := hM.outs (own' := []) 0 rfl
   exact leave1 hf rfl rfl ⟨rfl, hM.fin⟩
  refine cond_f hf rfl hc487 ?_
  refine wp_skip ?_
  refine then_n ?_
  refine wp_seq ?_
  refine region_pl ?_
  refine pl_l hf rfl rfl rfl (w_makeMap fS fT hM fun b488 w489 hx490 hM a hf => ?_)
  refine q_ hf rfl rfl rfl (e_assign hf rfl) fun a hf => ?_
  refine pl_nil ?_
  refine then_n ?_
  obtain ⟨x493, h494, h⟩ := bind_some h
  refine seq_join (fun a w => ∃ (mp491 : (List (Str × Bool))) (b492 : Nat), (.inl mp491) = x493 ∧ Has 76 a [] ∧ Mem C w [.obj b492 (mapO fS fT mp491), .box b430 [vL A2 (d1.Nodes) c3, vI (n434), vL A437 (xs436) c438, vL A440 (xs439) c441, vL A443 (xs442) c444] 84, .row boolRep A437 c438 4 xs436 true, .row intRep A443 c444 3 xs442 true, .row intRep A440 c441 2 xs439 true, .box b5 [vL A2 (d1.Nodes) c3] 26] [.dat (sliceRep NodeRep) d1.Nodes [vL A2 d1.Nodes c3]]) ?_ ?_
  ·refine wp_seq ?_
   refine region_pl ?_
   refine q_ hf rfl rfl rfl (e_field hf rfl Tryz.underlying26 rfl Tryz.sizeOf24 (o' := 0) rfl) fun a hf => ?_
   refine q_ hf rfl rfl rfl (e_load1 hf rfl Tryz.isAgg24 (hM.boxCell (k := 5) rfl rfl)) fun a hf => ?_
   have hl495 := slice_len (hM.dat (k := 0) rfl)
   refine q_ hf rfl rfl rfl (e_lenL hf (x := d1.Nodes) rfl Tryz.underlying24) fun a hf => ?_
   refine q_ hf rfl rfl rfl (e_move hf rfl) fun a hf => ?_
   refine pl_nil ?_
   refine then_n ?_
   refine wp_block ?_
   obtain ⟨x503, h504, h494⟩ := bind_some h494
   refine wp_loopM h504 (fun s a w => ∃ (mp496 : (List (Str × Bool))) (n498 : Int) (b497 : Nat), (mp496, n498) = s ∧ Has 76 a [(5, vM b497), (62, vL A2 (d1.Nodes) c3), (63, vI ((d1.Nodes.length : Int))), (64, vI (n498))] ∧ Mem C w [.obj b497 (mapO fS fT mp496), .box b430 [vL A2 (d1.Nodes) c3, vI (n434), vL A437 (xs436) c438, vL A440 (xs439) c441, vL A443 (xs442) c444] 84, .row boolRep A437 c438 4 xs436 true, .row intRep A443 c444 3 xs442 true, .row intRep A440 c441 2 xs439 true, .box b5 [vL A2 (d1.Nodes) c3] 26] [.dat (sliceRep NodeRep) d1.Nodes [vL A2 d1.Nodes c3]] ∧ R64 n498) ?_ ?_
   ·exact ⟨([] : (List (Str × Bool))), 0, b488, rfl, hf.keep ⟨rfl, rfl, rfl, rfl, trivial⟩, hM.pick [0] rfl, (R64_lit rfl)⟩
   rintro s o505 a w500 ⟨mp496, n498, b497, rfl, hf, hM, hv499⟩ h506 hd507
   replace h506 : m_impl_ValidDawg_l1 d1 mp496 n498 = some o505 := h506
   unfold m_impl_ValidDawg_l1 at h506
   refine wp_seq ?_
   refine region_pl ?_
   refine q_ hf rfl rfl rfl (e_lt hf (x := n498) (y := (d1.Nodes.length : Int)) rfl rfl) fun a hf => ?_
   refine pl_nil ?_
   refine then_n ?_
   refine wp_seq ?_
   rcases cond_some h506 with ⟨hc508, h506⟩ | ⟨hc508, h506⟩
   ·refine cond_t hf rfl hc508 ?_
    refine wp_skip ?_
    refine then_n ?_
    refine wp_seq ?_
    refine wp_block ?_
    refine wp_seq ?_
    refine region_pl ?_
    obtain ⟨e509, hz510, h506⟩ := bind_some h506
    obtain ⟨b514, o515, _, hA516, h511, h512, hr513, hM⟩ := hM.elem (hM.dat (k := 0) rfl) (n := 3) rfl hz510
    obtain ⟨A518, c519, rfl, hv517, hv520⟩ := NodeRep_open hr513
    have hM := hM.add (y := .dat (sliceRep intRep) e509.Next [vL A518 e509.Next c519]) hv520
    refine q_ hf rfl rfl rfl (e_indexAddr (A := A2) (b := b514) (o := o515) (xs := d1.Nodes) (i := n498) hf hA516 rfl rfl Tryz.underlying24 Tryz.sizeOf79 h511 h512) fun a hf => ?_
    refine q_ hf rfl rfl rfl (e_loadA hf (us := [.bool (e509.Final), vS (e509.Letters), vL A518 (e509.Next) c519]) rfl ⟨Tryz.isAgg79, Tryz.sizeOf79⟩ rfl (hM.litSub (k := 1) (d := 0) (us := [.bool (e509.Final), vS (e509.Letters), vL A518 (e509.Next) c519]) rfl rfl rfl)) fun a hf => ?_
    refine pl_l hf rfl rfl rfl (w_alloc hM (cs := [.bool (false), vS (([] : Str)), vL none (([] : (List Int))) 0]) Tryz.zeroValue79 rfl fun b521 w522 hx523 hM a hf => ?_)
    refine pl_0 hf rfl rfl (w_store hf hM (us := [.bool (e509.Final), vS (e509.Letters), vL A518 (e509.Next) c519]) (cs' := [.bool (e509.Final), vS (e509.Letters), vL A518 (e509.Next) c519]) rfl rfl (k := 0) rfl rfl Tryz.sizeOf79 rfl rfl rfl fun w525 hM => ?_)
    dsimp only [List.set] at hM
    refine pl_nil ?_
    refine then_n ?_
    refine wp_seq ?_
    refine region_pl ?_
    refine q_ hf rfl rfl rfl (e_loadA hf (us := [.bool (e509.Final), vS (e509.Letters), vL A518 (e509.Next) c519]) rfl ⟨Tryz.isAgg79, Tryz.sizeOf79⟩ rfl (hM.boxSub (k := 0) (us := [.bool (e509.Final), vS (e509.Letters), vL A518 (e509.Next) c519]) (o := 0) rfl rfl)) fun a hf => ?_
    obtain ⟨y528, hz529, h506⟩ := bind_some h506
    refine pl_l hf rfl rfl rfl (w_call hf Tryz.call49 rfl (r_impl_keyOf ⟨_, Sh C _ _, none_, hM.sh_lt, none_not, C.G, hM.g_lt, g_none, hM.tabs⟩ e509 hv517 _ _ (hM.dat (k := 0) rfl) _ hz529) ?_)
    rintro _ w531 ⟨rfl, hM2, hv530⟩
    obtain ⟨hM, hx532, hup533⟩ := hM.back hM2
    dsimp only [List.cons_append, List.nil_append] at hM hup533
    clear hM2
    refine ⟨_, rfl, fun a hf => ?_⟩
    refine q_ hf rfl rfl rfl (e_assign hf rfl) fun a hf => ?_
    refine pl_nil ?_
    refine then_n ?_
    iterate 2 refine wp_seq ?_
    refine region_pl ?_
    iterate 2 refine q_ hf rfl rfl rfl (e_move hf rfl) fun a hf => ?_
    refine q_ hf rfl rfl rfl (e_lookup (fk := fS) (fv := fT) hf (keyS Tryz.underlying9) Tryz.underlying86 (k := y528) (z := false) rfl rfl Tryz.zeroValue4 (hM.ownAt (k := 1) rfl)) fun a hf => ?_
    refine pl_nil ?_
    refine then_n ?_
    rcases cond_some h506 with ⟨hc534, h506⟩ | ⟨hc534, h506⟩
    ·refine cond_t hf rfl hc534 ?_
     refine wp_seq ?_
     refine region_pl ?_
     refine q_ hf rfl rfl rfl (e_assign hf rfl) fun a hf => ?_
     refine pl_nil ?_
     refine then_n ?_
     refine wp_ret ?_
     refine then_r ?_
     refine blk_r ?_
     refine then_r ?_
     obtain rfl := some_inj h506
     obtain rfl := hd507 _ rfl
     try dsimp only at h494
     refine then_r ?_
     refine blk_r ?_
     obtain rfl := some_inj h494
     try dsimp only at h
     refine then_r ?_
     obtain rfl := some_inj h
     have hM := hM.outs (own' := []) 0 rfl
     exact leave1 hf rfl rfl ⟨rfl, hM.fin⟩
    refine cond_f hf rfl hc534 ?_
    refine wp_skip ?_
    refine then_n ?_
    refine region_pl ?_
    iterate 2 refine q_ hf rfl rfl rfl (e_move hf rfl) fun a hf => ?_
    refine pl_0 hf rfl rfl (w_mapUpdate (fk := fS) (fv := fT) hf hM (keyS Tryz.underlying9) Tryz.underlying86 (k := y528) (v := true) rfl rfl rfl (n := 1) rfl fun w535 hM => ?_)
    dsimp only [List.set] at hM
    refine pl_nil ?_
    refine blk_n ?_
    refine then_n ?_
    refine region_pl ?_
    obtain ⟨z536, hz537, h506⟩ := bind_some h506
    refine q_ hf rfl rfl rfl (e_add hf rfl rfl hz537) fun a hf => ?_
    refine q_ hf rfl rfl rfl (e_move hf rfl) fun a hf => ?_
    refine pl_nil ?_
    obtain rfl := some_inj h506
    refine then_n ⟨_, rfl, ?_⟩
    exact ⟨(putM mp496 y528 true), z536, b497, rfl, hf.keep ⟨rfl, rfl, rfl, rfl, trivial⟩, (hM.drop (.cons _ (.cons_cons _ (.cons_cons _ (.cons_cons _ (.cons_cons _ (.cons_cons _ (.cons_cons _ .slnil)))))))).pick [2] rfl, (chk_R hz537)⟩
   refine cond_f hf rfl hc508 ?_
   refine wp_exit ?_
   refine then_x ?_
   obtain rfl := some_inj h506
   obtain rfl := hd507 _ rfl
   try dsimp only at h494
   refine then_x ?_
   refine exit_hit ?_
   obtain rfl := some_inj h494
   refine then_n ?_
   exact ⟨mp496, b497, rfl, hf.keep trivial, hM.pick [0] rfl⟩
  rintro a w544 ⟨mp491, b492, rfl, hf, hM⟩
  try dsimp only at h
  refine wp_seq ?_
  refine region_pl ?_
  refine q_ hf rfl rfl rfl (e_assign hf rfl) fun a hf => ?_
  refine pl_nil ?_
  refine then_n ?_
  refine wp_ret ?_
  obtain rfl := some_inj h
  have hM := hM.outs (own' := []) 0 rfl
  exact leave1 hf rfl rfl ⟨rfl, hM.fin⟩
 refine pi_l hf rfl rfl rfl rfl (w_make hf hM (K := intRep) Tryz.underlying82 ei_3 Tryz.zeroValue3 rfl rfl rfl ⟨rfl, (R64_lit rfl)⟩ hz48 fun b546 w547 hx548 hM => ⟨Ext w547, fun _ h => Ext.trans hx548 h, Ext.refl _, fun a hf => ?_⟩)
 refine pi_two ?_ ?_
 ·refine pi_l hf rfl rfl rfl rfl (w_make hf hM (K := boolRep) Tryz.underlying81 ei_4 Tryz.zeroValue4 rfl rfl rfl rfl hz38 fun b549 w550 hx551 hM => ⟨Ext w550, fun _ h => Ext.trans hx551 h, Ext.refl _, fun a hf => ?_⟩)
  refine pi_one ?_
  refine pi_l hf rfl rfl rfl rfl (w_make hf hM (K := intRep) Tryz.underlying77 ei_2 Tryz.zeroValue2 rfl rfl rfl ⟨rfl, (R64_lit rfl)⟩ hz43 fun b552 w553 hx554 hM => ⟨Ext w553, fun _ h => Ext.trans hx554 h, Ext.refl _, fun a hf => ?_⟩)
  refine pi_q hf rfl rfl rfl rfl (Ext.refl _) (e_build hf Tryz.zeroValue84 Tryz.underlying84 (bp_84 _ Tryz.underlying84.symm) rfl (cs := #[vL A2 (d1.Nodes) c3, vI (0), vL (some ⟨b549, 0, none⟩) (xs37) (((d1.Nodes.length : Int) : Int).toNat), vL (some ⟨b552, 0, none⟩) (xs42) (((d1.Nodes.length : Int) : Int).toNat), vL (some ⟨b546, 0, none⟩) (xs47) (((d1.Nodes.length : Int) : Int).toNat)]) (by kernel_rfl)) fun a hf => ?_
  refine pi_one ?_
  refine pi_l hf rfl rfl rfl rfl (w_box hf hM (cs := [vL A2 (d1.Nodes) c3, vI (0), vL (some ⟨b549, 0, none⟩) (xs37) (((d1.Nodes.length : Int) : Int).toNat), vL (some ⟨b552, 0, none⟩) (xs42) (((d1.Nodes.length : Int) : Int).toNat), vL (some ⟨b546, 0, none⟩) (xs47) (((d1.Nodes.length : Int) : Int).toNat)]) rfl rfl fun b555 w556 hx557 hM => ⟨Ext w556, fun _ h => Ext.trans hx557 h, Ext.refl _, fun a hf => ?_⟩)
  refine pi_q hf rfl rfl rfl rfl (Ext.refl _) (e_assign hf rfl) fun a hf => ?_
  refine pi_nil ?_
  refine then_n ?_
  refine wp_seq ?_
  obtain ⟨x572, h573, h⟩ := bind_some h
  refine seq_join (fun a w => ∃ (n559 : Int) (xs561 : (List Bool)) (xs564 : (List Int)) (xs567 : (List Int)) (t570 : Bool) (A562 : Option Addr) (c563 : Nat) (A565 : Option Addr) (c566 : Nat) (A568 : Option Addr) (c569 : Nat), (n559, xs561, xs564, xs567, t570) = x572 ∧ Has 76 a [(1, vP b5 (0)), (59, .bool (t570))] ∧ Mem C w [.box b555 [vL A2 (d1.Nodes) c3, vI (n559), vL A562 (xs561) c563, vL A565 (xs564) c566, vL A568 (xs567) c569] 84, .row intRep A565 c566 2 xs564 true, .row boolRep A562 c563 4 xs561 true, .row intRep A568 c569 3 xs567 true, .box b5 [vL A2 (d1.Nodes) c3] 26] [.dat (sliceRep NodeRep) d1.Nodes [vL A2 d1.Nodes c3]] ∧ R64 n559) ?_ ?_
  ·refine region_pl ?_
   refine q_ hf rfl rfl rfl (e_move hf rfl) fun a hf => ?_
   have hM := hM.front (k := 3) rfl
   dsimp only [List.eraseIdx] at hM
   have hM := hM.front (k := 2) rfl
   dsimp only [List.eraseIdx] at hM
   have hM := hM.front (k := 3) rfl
   dsimp only [List.eraseIdx] at hM
   have hM := hM.front (k := 3) rfl
   dsimp only [List.eraseIdx] at hM
   have hM : Mem C _ ([.box b555 [vL A2 (d1.Nodes) c3, vI (0), vL (some ⟨b549, 0, none⟩) (xs37) (((d1.Nodes.length : Int) : Int).toNat), vL (some ⟨b552, 0, none⟩) (xs42) (((d1.Nodes.length : Int) : Int).toNat), vL (some ⟨b546, 0, none⟩) (xs47) (((d1.Nodes.length : Int) : Int).toNat)] 84, .row boolRep (some ⟨b549, 0, none⟩) (((d1.Nodes.length : Int) : Int).toNat) 4 xs37 true, .row intRep (some ⟨b552, 0, none⟩) (((d1.Nodes.length : Int) : Int).toNat) 2 xs42 true, .row intRep (some ⟨b546, 0, none⟩) (((d1.Nodes.length : Int) : Int).toNat) 3 xs47 true] ++ [.box b5 [vL A2 (d1.Nodes) c3] 26]) _ := hM
   obtain ⟨y574, hz575, h573⟩ := bind_some h573
   refine pl_l hf rfl rfl rfl (w_call hf Tryz.call48 rfl (r_impl_inspector_visit ⟨_, Sh C _ _, ownB _, hM.sh_lt, sub_dis, C.G, hM.g_lt, hM.g_own, hM.tabs⟩ (⟨⟨d1.Nodes⟩, 0, xs37, xs42, xs47⟩ : inspector) _ _ _ (hM.dat (k := 0) rfl) (R64_lit rfl) _ _ _ _ _ _ 0 (R64_lit rfl) hM.sub sub_dis _ hz575) ?_)
   rintro _ w583 ⟨A577, c578, A579, c580, A581, c582, rfl, hM2, hv576⟩
   obtain ⟨hM, hup585⟩ := hM.backG hM2
   dsimp only [List.cons_append, List.nil_append] at hM hup585
   clear hM2
   refine ⟨_, rfl, fun a hf => ?_⟩
   refine q_ hf rfl rfl rfl (e_not hf rfl) fun a hf => ?_
   refine q_ hf rfl rfl rfl (e_move hf rfl) fun a hf => ?_
   rcases cond_some h573 with ⟨hc586, h573⟩ | ⟨hc586, h573⟩
   ·iterate 6 refine pl_gs (wanted_f hf rfl rfl rfl rfl hc586) hf rfl rfl fun a hf => ?_
    refine q_ hf rfl rfl rfl (e_pick_t hf rfl hc586 rfl) fun a hf => ?_
    refine q_ hf rfl rfl rfl (e_move hf rfl) fun a hf => ?_
    iterate 7 refine pl_gs (wanted_f hf rfl rfl rfl rfl rfl) hf rfl rfl fun a hf => ?_
    refine q_ hf rfl rfl rfl (e_pick_t hf rfl rfl rfl) fun a hf => ?_
    refine q_ hf rfl rfl rfl (e_move hf rfl) fun a hf => ?_
    iterate 7 refine pl_gs (wanted_f hf rfl rfl rfl rfl rfl) hf rfl rfl fun a hf => ?_
    refine q_ hf rfl rfl rfl (e_pick_t hf rfl rfl rfl) fun a hf => ?_
    refine pl_nil ?_
    obtain rfl := some_inj h573
    refine then_n ?_
    have hM := hM.front (k := 4) rfl
    dsimp only [List.eraseIdx] at hM
    have hM := hM.front (k := 4) rfl
    dsimp only [List.eraseIdx] at hM
    have hM := hM.front (k := 3) rfl
    dsimp only [List.eraseIdx] at hM
    have hM := hM.front (k := 4) rfl
    dsimp only [List.eraseIdx] at hM
    have hM := hM.front (k := 4) rfl
    dsimp only [List.eraseIdx] at hM
    exact ⟨y574.2.met, y574.2.open_, y574.2.strings, y574.2.longest, true, A577, c578, A579, c580, A581, c582, rfl, hf.keep ⟨rfl, rfl, trivial⟩, hM.pick [0] rfl, hv576⟩
   refine gq (wanted_t hf rfl rfl rfl rfl hc586) hf rfl rfl (e_move hf rfl) fun a hf => ?_
   refine gq (wanted_t hf rfl rfl rfl rfl hc586) hf rfl rfl (e_nil hf rfl) fun a hf => ?_
   refine gq (wanted_t hf rfl rfl rfl rfl hc586) hf rfl rfl (e_field hf rfl Tryz.underlying84 rfl Tryz.sizeOf2 (o' := 1) rfl) fun a hf => ?_
   refine gq (wanted_t hf rfl rfl rfl rfl hc586) hf rfl rfl (e_load1 hf rfl Tryz.isAgg2 (hM.boxCell (k := 0) rfl rfl)) fun a hf => ?_
   refine gq (wanted_t hf rfl rfl rfl rfl hc586) hf rfl rfl (e_move hf rfl) fun a hf => ?_
   refine gq (wanted_t hf rfl rfl rfl rfl hc586) hf rfl rfl (e_ne hf (x := y574.2.met) (y := (d1.Nodes.length : Int)) rfl rfl) fun a hf => ?_
   refine q_ hf rfl rfl rfl (e_pick_f hf rfl hc586 rfl) fun a hf => ?_
   refine q_ hf rfl rfl rfl (e_move hf rfl) fun a hf => ?_
   rcases cond_some h573 with ⟨hc588, h573⟩ | ⟨hc588, h573⟩
   ·iterate 7 refine pl_gs (wanted_f hf rfl rfl rfl rfl hc588) hf rfl rfl fun a hf => ?_
    refine q_ hf rfl rfl rfl (e_pick_t hf rfl hc588 rfl) fun a hf => ?_
    refine q_ hf rfl rfl rfl (e_move hf rfl) fun a hf => ?_
    iterate 7 refine pl_gs (wanted_f hf rfl rfl rfl rfl rfl) hf rfl rfl fun a hf => ?_
    refine q_ hf rfl rfl rfl (e_pick_t hf rfl rfl rfl) fun a hf => ?_
    refine pl_nil ?_
    obtain rfl := some_inj h573
    refine then_n ?_
    have hM := hM.front (k := 4) rfl
    dsimp only [List.eraseIdx] at hM
    have hM := hM.front (k := 4) rfl
    dsimp only [List.eraseIdx] at hM
    have hM := hM.front (k := 3) rfl
    dsimp only [List.eraseIdx] at hM
    have hM := hM.front (k := 4) rfl
    dsimp only [List.eraseIdx] at hM
    have hM := hM.front (k := 4) rfl
    dsimp only [List.eraseIdx] at hM
    exact ⟨y574.2.met, y574.2.open_, y574.2.strings, y574.2.longest, true, A577, c578, A579, c580, A581, c582, rfl, hf.keep ⟨rfl, rfl, trivial⟩, hM.pick [0] rfl, hv576⟩
   refine gq (wanted_t hf rfl rfl rfl rfl hc588) hf rfl rfl (e_move hf rfl) fun a hf => ?_
   refine gq (wanted_t hf rfl rfl rfl rfl hc588) hf rfl rfl (e_nil hf rfl) fun a hf => ?_
   refine gq (wanted_t hf rfl rfl rfl rfl hc588) hf rfl rfl (e_field hf rfl Tryz.underlying84 rfl Tryz.sizeOf77 (o' := 3) rfl) fun a hf => ?_
   refine gq (wanted_t hf rfl rfl rfl rfl hc588) hf rfl rfl (e_load1 hf rfl Tryz.isAgg77 (hM.boxCell (k := 0) rfl rfl)) fun a hf => ?_
   obtain ⟨e590, hz591, h573⟩ := bind_some h573
   obtain ⟨b596, _, hA597, h592, h593, hr594, hcell595⟩ := hM.rowElemN (k := 2) rfl (n := 1) rfl hz591
   obtain ⟨rfl, hv598⟩ := hr594
   refine gq (wanted_t hf rfl rfl rfl rfl hc588) hf rfl rfl (e_indexAddr (A := A579) (b := b596) (o := 0) (xs := y574.2.strings) (i := 0) hf hA597 rfl rfl Tryz.underlying77 Tryz.sizeOf2 h592 h593) fun a hf => ?_
   refine gq (wanted_t hf rfl rfl rfl rfl hc588) hf rfl rfl (e_load1 hf rfl Tryz.isAgg2 (hcell595 0 _ rfl)) fun a hf => ?_
   refine gq (wanted_t hf rfl rfl rfl rfl hc588) hf rfl rfl (e_gt hf (x := e590) (y := 3000) rfl rfl) fun a hf => ?_
   refine q_ hf rfl rfl rfl (e_pick_f hf rfl hc588 rfl) fun a hf => ?_
   refine q_ hf rfl rfl rfl (e_move hf rfl) fun a hf => ?_
   rcases cond_some h573 with ⟨hc599, h573⟩ | ⟨hc599, h573⟩
   ·iterate 7 refine pl_gs (wanted_f hf rfl rfl rfl rfl hc599) hf rfl rfl fun a hf => ?_
    refine q_ hf rfl rfl rfl (e_pick_t hf rfl hc599 rfl) fun a hf => ?_
    refine pl_nil ?_
    obtain rfl := some_inj h573
    refine then_n ?_
    have hM := hM.front (k := 4) rfl
    dsimp only [List.eraseIdx] at hM
    have hM := hM.front (k := 4) rfl
    dsimp only [List.eraseIdx] at hM
    have hM := hM.front (k := 3) rfl
    dsimp only [List.eraseIdx] at hM
    have hM := hM.front (k := 4) rfl
    dsimp only [List.eraseIdx] at hM
    have hM := hM.front (k := 4) rfl
    dsimp only [List.eraseIdx] at hM
    exact ⟨y574.2.met, y574.2.open_, y574.2.strings, y574.2.longest, true, A577, c578, A579, c580, A581, c582, rfl, hf.keep ⟨rfl, rfl, trivial⟩, hM.pick [0] rfl, hv576⟩
   refine gq (wanted_t hf rfl rfl rfl rfl hc599) hf rfl rfl (e_move hf rfl) fun a hf => ?_
   refine gq (wanted_t hf rfl rfl rfl rfl hc599) hf rfl rfl (e_nil hf rfl) fun a hf => ?_
   refine gq (wanted_t hf rfl rfl rfl rfl hc599) hf rfl rfl (e_field hf rfl Tryz.underlying84 rfl Tryz.sizeOf82 (o' := 4) rfl) fun a hf => ?_
   refine gq (wanted_t hf rfl rfl rfl rfl hc599) hf rfl rfl (e_load1 hf rfl Tryz.isAgg82 (hM.boxCell (k := 0) rfl rfl)) fun a hf => ?_
   obtain ⟨e601, hz602, h573⟩ := bind_some h573
   obtain ⟨b607, _, hA608, h603, h604, hr605, hcell606⟩ := hM.rowElemN (k := 3) rfl (n := 1) rfl hz602
   obtain ⟨rfl, hv609⟩ := hr605
   refine gq (wanted_t hf rfl rfl rfl rfl hc599) hf rfl rfl (e_indexAddr (A := A581) (b := b607) (o := 0) (xs := y574.2.longest) (i := 0) hf hA608 rfl rfl Tryz.underlying82 Tryz.sizeOf3 h603 h604) fun a hf => ?_
   refine gq (wanted_t hf rfl rfl rfl rfl hc599) hf rfl rfl (e_load1 hf rfl Tryz.isAgg3 (hcell606 0 _ rfl)) fun a hf => ?_
   refine gq (wanted_t hf rfl rfl rfl rfl hc599) hf rfl rfl (e_gt hf (x := e601) (y := 13) rfl rfl) fun a hf => ?_
   refine q_ hf rfl rfl rfl (e_pick_f hf rfl hc599 rfl) fun a hf => ?_
   refine pl_nil ?_
   obtain rfl := some_inj h573
   refine then_n ?_
   have hM := hM.front (k := 4) rfl
   dsimp only [List.eraseIdx] at hM
   have hM := hM.front (k := 4) rfl
   dsimp only [List.eraseIdx] at hM
   have hM := hM.front (k := 3) rfl
   dsimp only [List.eraseIdx] at hM
   have hM := hM.front (k := 4) rfl
   dsimp only [List.eraseIdx] at hM
   have hM := hM.front (k := 4) rfl
   dsimp only [List.eraseIdx] at hM
   exact ⟨y574.2.met, y574.2.open_, y574.2.strings, y574.2.longest, (decide (13 < e601)), A577, c578, A579, c580, A581, c582, rfl, hf.keep ⟨rfl, rfl, trivial⟩, hM.pick [0] rfl, hv576⟩
  rintro a w611 ⟨n559, xs561, xs564, xs567, t570, A562, c563, A565, c566, A568, c569, rfl, hf, hM, hv560⟩
  try dsimp only at h
  rcases cond_some h with ⟨hc612, h⟩ | ⟨hc612, h⟩
  ·refine cond_t hf rfl hc612 ?_
   refine wp_seq ?_
   refine region_pl ?_
   refine q_ hf rfl rfl rfl (e_assign hf rfl) fun a hf => ?_
   refine pl_nil ?_
   refine then_n ?_
   refine wp_ret ?_
   refine then_r ?_
   obtain rfl := some_inj h
   have hM := hM.outs (own' := []) 0 rfl
   exact leave1 hf rfl rfl ⟨rfl, hM.fin⟩
  refine cond_f hf rfl hc612 ?_
  refine wp_skip ?_
  refine then_n ?_
  refine wp_seq ?_
  refine region_pl ?_
  refine pl_l hf rfl rfl rfl (w_makeMap fS fT hM fun b613 w614 hx615 hM a hf => ?_)
  refine q_ hf rfl rfl rfl (e_assign hf rfl) fun a hf => ?_
  refine pl_nil ?_
  refine then_n ?_
  obtain ⟨x618, h619, h⟩ := bind_some h
  refine seq_join (fun a w => ∃ (mp616 : (List (Str × Bool))) (b617 : Nat), (.inl mp616) = x618 ∧ Has 76 a [] ∧ Mem C w [.obj b617 (mapO fS fT mp616), .box b555 [vL A2 (d1.Nodes) c3, vI (n559), vL A562 (xs561) c563, vL A565 (xs564) c566, vL A568 (xs567) c569] 84, .row intRep A565 c566 2 xs564 true, .row boolRep A562 c563 4 xs561 true, .row intRep A568 c569 3 xs567 true, .box b5 [vL A2 (d1.Nodes) c3] 26] [.dat (sliceRep NodeRep) d1.Nodes [vL A2 d1.Nodes c3]]) ?_ ?_
  ·refine wp_seq ?_
   refine region_pl ?_
   refine q_ hf rfl rfl rfl (e_field hf rfl Tryz.underlying26 rfl Tryz.sizeOf24 (o' := 0) rfl) fun a hf => ?_
   refine q_ hf rfl rfl rfl (e_load1 hf rfl Tryz.isAgg24 (hM.boxCell (k := 5) rfl rfl)) fun a hf => ?_
   have hl620 := slice_len (hM.dat (k := 0) rfl)
   refine q_ hf rfl rfl rfl (e_lenL hf (x := d1.Nodes) rfl Tryz.underlying24) fun a hf => ?_
   refine q_ hf rfl rfl rfl (e_move hf rfl) fun a hf => ?_
   refine pl_nil ?_
   refine then_n ?_
   refine wp_block ?_
   obtain ⟨x628, h629, h619⟩ := bind_some h619
   refine wp_loopM h629 (fun s a w => ∃ (mp621 : (List (Str × Bool))) (n623 : Int) (b622 : Nat), (mp621, n623) = s ∧ Has 76 a [(5, vM b622), (62, vL A2 (d1.Nodes) c3), (63, vI ((d1.Nodes.length : Int))), (64, vI (n623))] ∧ Mem C w [.obj b622 (mapO fS fT mp621), .box b555 [vL A2 (d1.Nodes) c3, vI (n559), vL A562 (xs561) c563, vL A565 (xs564) c566, vL A568 (xs567) c569] 84, .row intRep A565 c566 2 xs564 true, .row boolRep A562 c563 4 xs561 true, .row intRep A568 c569 3 xs567 true, .box b5 [vL A2 (d1.Nodes) c3] 26] [.dat (sliceRep NodeRep) d1.Nodes [vL A2 d1.Nodes c3]] ∧ R64 n623) ?_ ?_
   ·exact ⟨([] : (List (Str × Bool))), 0, b613, rfl, hf.keep ⟨rfl, rfl, rfl, rfl, trivial⟩, hM.pick [0] rfl, (R64_lit rfl)⟩
   rintro s o630 a w625 ⟨mp621, n623, b622, rfl, hf, hM, hv624⟩ h631 hd632
   replace h631 : m_impl_ValidDawg_l1 d1 mp621 n623 = some o630 := h631
   unfold m_impl_ValidDawg_l1 at h631
   refine wp_seq ?_
   refine region_pl ?_
   refine q_ hf rfl rfl rfl (e_lt hf (x := n623) (y := (d1.Nodes.length : Int)) rfl rfl) fun a hf => ?_
   refine pl_nil ?_
   refine then_n ?_
   refine wp_seq ?_
   rcases cond_some h631 with ⟨hc633, h631⟩ | ⟨hc633, h631⟩
   ·refine cond_t hf rfl hc633 ?_
    refine wp_skip ?_
    refine then_n ?_
    refine wp_seq ?_
    refine wp_block ?_
    refine wp_seq ?_
    refine region_pl ?_
    obtain ⟨e634, hz635, h631⟩ := bind_some h631
    obtain ⟨b639, o640, _, hA641, h636, h637, hr638, hM⟩ := hM.elem (hM.dat (k := 0) rfl) (n := 3) rfl hz635
    obtain ⟨A643, c644, rfl, hv642, hv645⟩ := NodeRep_open hr638
    have hM := hM.add (y := .dat (sliceRep intRep) e634.Next [vL A643 e634.Next c644]) hv645
    refine q_ hf rfl rfl rfl (e_indexAddr (A := A2) (b := b639) (o := o640) (xs := d1.Nodes) (i := n623) hf hA641 rfl rfl Tryz.underlying24 Tryz.sizeOf79 h636 h637) fun a hf => ?_
    refine q_ hf rfl rfl rfl (e_loadA hf (us := [.bool (e634.Final), vS (e634.Letters), vL A643 (e634.Next) c644]) rfl ⟨Tryz.isAgg79, Tryz.sizeOf79⟩ rfl (hM.litSub (k := 1) (d := 0) (us := [.bool (e634.Final), vS (e634.Letters), vL A643 (e634.Next) c644]) rfl rfl rfl)) fun a hf => ?_
    refine pl_l hf rfl rfl rfl (w_alloc hM (cs := [.bool (false), vS (([] : Str)), vL none (([] : (List Int))) 0]) Tryz.zeroValue79 rfl fun b646 w647 hx648 hM a hf => ?_)
    refine pl_0 hf rfl rfl (w_store hf hM (us := [.bool (e634.Final), vS (e634.Letters), vL A643 (e634.Next) c644]) (cs' := [.bool (e634.Final), vS (e634.Letters), vL A643 (e634.Next) c644]) rfl rfl (k := 0) rfl rfl Tryz.sizeOf79 rfl rfl rfl fun w650 hM => ?_)
    dsimp only [List.set] at hM
    refine pl_nil ?_
    refine then_n ?_
    refine wp_seq ?_
    refine region_pl ?_
    refine q_ hf rfl rfl rfl (e_loadA hf (us := [.bool (e634.Final), vS (e634.Letters), vL A643 (e634.Next) c644]) rfl ⟨Tryz.isAgg79, Tryz.sizeOf79⟩ rfl (hM.boxSub (k := 0) (us := [.bool (e634.Final), vS (e634.Letters), vL A643 (e634.Next) c644]) (o := 0) rfl rfl)) fun a hf => ?_
    obtain ⟨y653, hz654, h631⟩ := bind_some h631
    refine pl_l hf rfl rfl rfl (w_call hf Tryz.call49 rfl (r_impl_keyOf ⟨_, Sh C _ _, none_, hM.sh_lt, none_not, C.G, hM.g_lt, g_none, hM.tabs⟩ e634 hv642 _ _ (hM.dat (k := 0) rfl) _ hz654) ?_)
    rintro _ w656 ⟨rfl, hM2, hv655⟩
    obtain ⟨hM, hx657, hup658⟩ := hM.back hM2
    dsimp only [List.cons_append, List.nil_append] at hM hup658
    clear hM2
    refine ⟨_, rfl, fun a hf => ?_⟩
    refine q_ hf rfl rfl rfl (e_assign hf rfl) fun a hf => ?_
    refine pl_nil ?_
    refine then_n ?_
    iterate 2 refine wp_seq ?_
    refine region_pl ?_
    iterate 2 refine q_ hf rfl rfl rfl (e_move hf rfl) fun a hf => ?_
    refine q_ hf rfl rfl rfl (e_lookup (fk := fS) (fv := fT) hf (keyS Tryz.underlying9) Tryz.underlying86 (k := y653) (z := false) rfl rfl Tryz.zeroValue4 (hM.ownAt (k := 1) rfl)) fun a hf => ?_
    refine pl_nil ?_
    refine then_n ?_
    rcases cond_some h631 with ⟨hc659, h631⟩ | ⟨hc659, h631⟩
    ·refine cond_t hf rfl hc659 ?_
     refine wp_seq ?_
     refine region_pl ?_
     refine q_ hf rfl rfl rfl (e_assign hf rfl) fun a hf => ?_
     refine pl_nil ?_
     refine then_n ?_
     refine wp_ret ?_
     refine then_r ?_
     refine blk_r ?_
     refine then_r ?_
     obtain rfl := some_inj h631
     obtain rfl := hd632 _ rfl
     try dsimp only at h619
     refine then_r ?_
     refine blk_r ?_
     obtain rfl := some_inj h619
     try dsimp only at h
     refine then_r ?_
     obtain rfl := some_inj h
     have hM := hM.outs (own' := []) 0 rfl
     exact leave1 hf rfl rfl ⟨rfl, hM.fin⟩
    refine cond_f hf rfl hc659 ?_
    refine wp_skip ?_
    refine then_n ?_
    refine region_pl ?_
    iterate 2 refine q_ hf rfl rfl rfl (e_move hf rfl) fun a hf => ?_
    refine pl_0 hf rfl rfl (w_mapUpdate (fk := fS) (fv := fT) hf hM (keyS Tryz.underlying9) Tryz.underlying86 (k := y653) (v := true) rfl rfl rfl (n := 1) rfl fun w660 hM => ?_)
    dsimp only [List.set] at hM
    refine pl_nil ?_
    refine blk_n ?_
    refine then_n ?_
    refine region_pl ?_
    obtain ⟨z661, hz662, h631⟩ := bind_some h631
    refine q_ hf rfl rfl rfl (e_add hf rfl rfl hz662) fun a hf => ?_
    refine q_ hf rfl rfl rfl (e_move hf rfl) fun a hf => ?_
    refine pl_nil ?_
    obtain rfl := some_inj h631
    refine then_n ⟨_, rfl, ?_⟩
    exact ⟨(putM mp621 y653 true), z661, b622, rfl, hf.keep ⟨rfl, rfl, rfl, rfl, trivial⟩, (hM.drop (.cons _ (.cons_cons _ (.cons_cons _ (.cons_cons _ (.cons_cons _ (.cons_cons _ (.cons_cons _ .slnil)))))))).pick [2] rfl, (chk_R hz662)⟩
   refine cond_f hf rfl hc633 ?_
   refine wp_exit ?_
   refine then_x ?_
   obtain rfl := some_inj h631
   obtain rfl := hd632 _ rfl
   try dsimp only at h619
   refine then_x ?_
   refine exit_hit ?_
   obtain rfl := some_inj h619
   refine then_n ?_
   exact ⟨mp621, b622, rfl, hf.keep trivial, hM.pick [0] rfl⟩
  rintro a w669 ⟨mp616, b617, rfl, hf, hM⟩
  try dsimp only at h
  refine wp_seq ?_
  refine region_pl ?_
  refine q_ hf rfl rfl rfl (e_assign hf rfl) fun a hf => ?_
  refine pl_nil ?_
  refine then_n ?_
  refine wp_ret ?_
  obtain rfl := some_inj h
  have hM := hM.outs (own' := []) 0 rfl
  exact leave1 hf rfl rfl ⟨rfl, hM.fin⟩
 refine pi_l hf rfl rfl rfl rfl (w_make hf hM (K := intRep) Tryz.underlying77 ei_2 Tryz.zeroValue2 rfl rfl rfl ⟨rfl, (R64_lit rfl)⟩ hz43 fun b671 w672 hx673 hM => ⟨Ext w672, fun _ h => Ext.trans hx673 h, Ext.refl _, fun a hf => ?_⟩)
 refine pi_one ?_
 refine pi_l hf rfl rfl rfl rfl (w_make hf hM (K := boolRep) Tryz.underlying81 ei_4 Tryz.zeroValue4 rfl rfl rfl rfl hz38 fun b674 w675 hx676 hM => ⟨Ext w675, fun _ h => Ext.trans hx676 h, Ext.refl _, fun a hf => ?_⟩)
 refine pi_q hf rfl rfl rfl rfl (Ext.refl _) (e_build hf Tryz.zeroValue84 Tryz.underlying84 (bp_84 _ Tryz.underlying84.symm) rfl (cs := #[vL A2 (d1.Nodes) c3, vI (0), vL (some ⟨b674, 0, none⟩) (xs37) (((d1.Nodes.length : Int) : Int).toNat), vL (some ⟨b671, 0, none⟩) (xs42) (((d1.Nodes.length : Int) : Int).toNat), vL (some ⟨b546, 0, none⟩) (xs47) (((d1.Nodes.length : Int) : Int).toNat)]) (by kernel_rfl)) fun a hf => ?_
 refine pi_one ?_
 refine pi_l hf rfl rfl rfl rfl (w_box hf hM (cs := [vL A2 (d1.Nodes) c3, vI (0), vL (some ⟨b674, 0, none⟩) (xs37) (((d1.Nodes.length : Int) : Int).toNat), vL (some ⟨b671, 0, none⟩) (xs42) (((d1.Nodes.length : Int) : Int).toNat), vL (some ⟨b546, 0, none⟩) (xs47) (((d1.Nodes.length : Int) : Int).toNat)]) rfl rfl fun b677 w678 hx679 hM => ⟨Ext w678, fun _ h => Ext.trans hx679 h, Ext.refl _, fun a hf => ?_⟩)
 refine pi_q hf rfl rfl rfl rfl (Ext.refl _) (e_assign hf rfl) fun a hf => ?_
 refine pi_nil ?_
 refine then_n ?_
 refine wp_seq ?_
 obtain ⟨x694, h695, h⟩ := bind_some h
 refine seq_join (fun a w => ∃ (n681 : Int) (xs683 : (List Bool)) (xs686 : (List Int)) (xs689 : (List Int)) (t692 : Bool) (A684 : Option Addr) (c685 : Nat) (A687 : Option Addr) (c688 : Nat) (A690 : Option Addr) (c691 : Nat), (n681, xs683, xs686, xs689, t692) = x694 ∧ Has 76 a [(1, vP b5 (0)), (59, .bool (t692))] ∧ Mem C w [.box b677 [vL A2 (d1.Nodes) c3, vI (n681), vL A684 (xs683) c685, vL A687 (xs686) c688, vL A690 (xs689) c691] 84, .row boolRep A684 c685 4 xs683 true, .row intRep A687 c688 2 xs686 true, .row intRep A690 c691 3 xs689 true, .box b5 [vL A2 (d1.Nodes) c3] 26] [.dat (sliceRep NodeRep) d1.Nodes [vL A2 d1.Nodes c3]] ∧ R64 n681) ?_ ?_
 ·refine region_pl ?_
  refine q_ hf rfl rfl rfl (e_move hf rfl) fun a hf => ?_
  have hM : Mem C _ ([.box b677 [vL A2 (d1.Nodes) c3, vI (0), vL (some ⟨b674, 0, none⟩) (xs37) (((d1.Nodes.length : Int) : Int).toNat), vL (some ⟨b671, 0, none⟩) (xs42) (((d1.Nodes.length : Int) : Int).toNat), vL (some ⟨b546, 0, none⟩) (xs47) (((d1.Nodes.length : Int) : Int).toNat)] 84, .row boolRep (some ⟨b674, 0, none⟩) (((d1.Nodes.length : Int) : Int).toNat) 4 xs37 true, .row intRep (some ⟨b671, 0, none⟩) (((d1.Nodes.length : Int) : Int).toNat) 2 xs42 true, .row intRep (some ⟨b546, 0, none⟩) (((d1.Nodes.length : Int) : Int).toNat) 3 xs47 true] ++ [.box b5 [vL A2 (d1.Nodes) c3] 26]) _ := hM
  obtain ⟨y696, hz697, h695⟩ := bind_some h695
  refine pl_l hf rfl rfl rfl (w_call hf Tryz.call48 rfl (r_impl_inspector_visit ⟨_, Sh C _ _, ownB _, hM.sh_lt, sub_dis, C.G, hM.g_lt, hM.g_own, hM.tabs⟩ (⟨⟨d1.Nodes⟩, 0, xs37, xs42, xs47⟩ : inspector) _ _ _ (hM.dat (k := 0) rfl) (R64_lit rfl) _ _ _ _ _ _ 0 (R64_lit rfl) hM.sub sub_dis _ hz697) ?_)
  rintro _ w705 ⟨A699, c700, A701, c702, A703, c704, rfl, hM2, hv698⟩
  obtain ⟨hM, hup707⟩ := hM.backG hM2
  dsimp only [List.cons_append, List.nil_append] at hM hup707
  clear hM2
  refine ⟨_, rfl, fun a hf => ?_⟩
  refine q_ hf rfl rfl rfl (e_not hf rfl) fun a hf => ?_
  refine q_ hf rfl rfl rfl (e_move hf rfl) fun a hf => ?_
  rcases cond_some h695 with ⟨hc708, h695⟩ | ⟨hc708, h695⟩
  ·iterate 6 refine pl_gs (wanted_f hf rfl rfl rfl rfl hc708) hf rfl rfl fun a hf => ?_
   refine q_ hf rfl rfl rfl (e_pick_t hf rfl hc708 rfl) fun a hf => ?_
   refine q_ hf rfl rfl rfl (e_move hf rfl) fun a hf => ?_
   iterate 7 refine pl_gs (wanted_f hf rfl rfl rfl rfl rfl) hf rfl rfl fun a hf => ?_
   refine q_ hf rfl rfl rfl (e_pick_t hf rfl rfl rfl) fun a hf => ?_
   refine q_ hf rfl rfl rfl (e_move hf rfl) fun a hf => ?_
   iterate 7 refine pl_gs (wanted_f hf rfl rfl rfl rfl rfl) hf rfl rfl fun a hf => ?_
   refine q_ hf rfl rfl rfl (e_pick_t hf rfl rfl rfl) fun a hf => ?_
   refine pl_nil ?_
   obtain rfl := some_inj h695
   refine then_n ?_
   exact ⟨y696.2.met, y696.2.open_, y696.2.strings, y696.2.longest, true, A699, c700, A701, c702, A703, c704, rfl, hf.keep ⟨rfl, rfl, trivial⟩, hM.pick [0] rfl, hv698⟩
  refine gq (wanted_t hf rfl rfl rfl rfl hc708) hf rfl rfl (e_move hf rfl) fun a hf => ?_
  refine gq (wanted_t hf rfl rfl rfl rfl hc708) hf rfl rfl (e_nil hf rfl) fun a hf => ?_
  refine gq (wanted_t hf rfl rfl rfl rfl hc708) hf rfl rfl (e_field hf rfl Tryz.underlying84 rfl Tryz.sizeOf2 (o' := 1) rfl) fun a hf => ?_
  refine gq (wanted_t hf rfl rfl rfl rfl hc708) hf rfl rfl (e_load1 hf rfl Tryz.isAgg2 (hM.boxCell (k := 0) rfl rfl)) fun a hf => ?_
  refine gq (wanted_t hf rfl rfl rfl rfl hc708) hf rfl rfl (e_move hf rfl) fun a hf => ?_
  refine gq (wanted_t hf rfl rfl rfl rfl hc708) hf rfl rfl (e_ne hf (x := y696.2.met) (y := (d1.Nodes.length : Int)) rfl rfl) fun a hf => ?_
  refine q_ hf rfl rfl rfl (e_pick_f hf rfl hc708 rfl) fun a hf => ?_
  refine q_ hf rfl rfl rfl (e_move hf rfl) fun a hf => ?_
  rcases cond_some h695 with ⟨hc710, h695⟩ | ⟨hc710, h695⟩
  ·iterate 7 refine pl_gs (wanted_f hf rfl rfl rfl rfl hc710) hf rfl rfl fun a hf => ?_
   refine q_ hf rfl rfl rfl (e_pick_t hf rfl hc710 rfl) fun a hf => ?_
   refine q_ hf rfl rfl rfl (e_move hf rfl) fun a hf => ?_
   iterate 7 refine pl_gs (wanted_f hf rfl rfl rfl rfl rfl) hf rfl rfl fun a hf => ?_
   refine q_ hf rfl rfl rfl (e_pick_t hf rfl rfl rfl) fun a hf => ?_
   refine pl_nil ?_
   obtain rfl := some_inj h695
   refine then_n ?_
   exact ⟨y696.2.met, y696.2.open_, y696.2.strings, y696.2.longest, true, A699, c700, A701, c702, A703, c704, rfl, hf.keep ⟨rfl, rfl, trivial⟩, hM.pick [0] rfl, hv698⟩
  refine gq (wanted_t hf rfl rfl rfl rfl hc710) hf rfl rfl (e_move hf rfl) fun a hf => ?_
  refine gq (wanted_t hf rfl rfl rfl rfl hc710) hf rfl rfl (e_nil hf rfl) fun a hf => ?_
  refine gq (wanted_t hf rfl rfl rfl rfl hc710) hf rfl rfl (e_field hf rfl Tryz.underlying84 rfl Tryz.sizeOf77 (o' := 3) rfl) fun a hf => ?_
  refine gq (wanted_t hf rfl rfl rfl rfl hc710) hf rfl rfl (e_load1 hf rfl Tryz.isAgg77 (hM.boxCell (k := 0) rfl rfl)) fun a hf => ?_
  obtain ⟨e712, hz713, h695⟩ := bind_some h695
  obtain ⟨b718, _, hA719, h714, h715, hr716, hcell717⟩ := hM.rowElemN (k := 2) rfl (n := 1) rfl hz713
  obtain ⟨rfl, hv720⟩ := hr716
  refine gq (wanted_t hf rfl rfl rfl rfl hc710) hf rfl rfl (e_indexAddr (A := A701) (b := b718) (o := 0) (xs := y696.2.strings) (i := 0) hf hA719 rfl rfl Tryz.underlying77 Tryz.sizeOf2 h714 h715) fun a hf => ?_
  refine gq (wanted_t hf rfl rfl rfl rfl hc710) hf rfl rfl (e_load1 hf rfl Tryz.isAgg2 (hcell717 0 _ rfl)) fun a hf => ?_
  refine gq (wanted_t hf rfl rfl rfl rfl hc710) hf rfl rfl (e_gt hf (x := e712) (y := 3000) rfl rfl) fun a hf => ?_
  refine q_ hf rfl rfl rfl (e_pick_f hf rfl hc710 rfl) fun a hf => ?_
  refine q_ hf rfl rfl rfl (e_move hf rfl) fun a hf => ?_
  rcases cond_some h695 with ⟨hc721, h695⟩ | ⟨hc721, h695⟩
  ·iterate 7 refine pl_gs (wanted_f hf rfl rfl rfl rfl hc721) hf rfl rfl fun a hf => ?_
   refine q_ hf rfl rfl rfl (e_pick_t hf rfl hc721 rfl) fun a hf => ?_
   refine pl_nil ?_
   obtain rfl := some_inj h695
   refine then_n ?_
   exact ⟨y696.2.met, y696.2.open_, y696.2.strings, y696.2.longest, true, A699, c700, A701, c702, A703, c704, rfl, hf.keep ⟨rfl, rfl, trivial⟩, hM.pick [0] rfl, hv698⟩
  refine gq (wanted_t hf rfl rfl rfl rfl hc721) hf rfl rfl (e_move hf rfl) fun a hf => ?_
  refine gq (wanted_t hf rfl rfl rfl rfl hc721) hf rfl rfl (e_nil hf rfl) fun a hf => ?_
  refine gq (wanted_t hf rfl rfl rfl rfl hc721) hf rfl rfl (e_field hf rfl Tryz.underlying84 rfl Tryz.sizeOf82 (o' := 4) rfl) fun a hf => ?_
  refine gq (wanted_t hf rfl rfl rfl rfl hc721) hf rfl rfl (e_load1 hf rfl Tryz.isAgg82 (hM.boxCell (k := 0) rfl rfl)) fun a hf => ?_
  obtain ⟨e723, hz724, h695⟩ := bind_some h695
  obtain ⟨b729, _, hA730, h725, h726, hr727, hcell728⟩ := hM.rowElemN (k := 3) rfl (n := 1) rfl hz724
  obtain ⟨rfl, hv731⟩ := hr727
  refine gq (wanted_t hf rfl rfl rfl rfl hc721) hf rfl rfl (e_indexAddr (A := A703) (b := b729) (o := 0) (xs := y696.2.longest) (i := 0) hf hA730 rfl rfl Tryz.underlying82 Tryz.sizeOf3 h725 h726) fun a hf => ?_
  refine gq (wanted_t hf rfl rfl rfl rfl hc721) hf rfl rfl (e_load1 hf rfl Tryz.isAgg3 (hcell728 0 _ rfl)) fun a hf => ?_
  refine gq (wanted_t hf rfl rfl rfl rfl hc721) hf rfl rfl (e_gt hf (x := e723) (y := 13) rfl rfl) fun a hf => ?_
  refine q_ hf rfl rfl rfl (e_pick_f hf rfl hc721 rfl) fun a hf => ?_
  refine pl_nil ?_
  obtain rfl := some_inj h695
  refine then_n ?_
  exact ⟨y696.2.met, y696.2.open_, y696.2.strings, y696.2.longest, (decide (13 < e723)), A699, c700, A701, c702, A703, c704, rfl, hf.keep ⟨rfl, rfl, trivial⟩, hM.pick [0] rfl, hv698⟩
 rintro a w733 ⟨n681, xs683, xs686, xs689, t692, A684, c685, A687, c688, A690, c691, rfl, hf, hM, hv682⟩
 try dsimp only at h
 rcases cond_some h with ⟨hc734, h⟩ | ⟨hc734, h⟩
 ·refine cond_t hf rfl hc734 ?_
  refine wp_seq ?_
  refine region_pl ?_
  refine q_ hf rfl rfl rfl (e_assign hf rfl) fun a hf => ?_
  refine pl_nil ?_
  refine then_n ?_
  refine wp_ret ?_
  refine then_r ?_
  obtain rfl := some_inj h
  have hM := hM.outs (own' := []) 0 rfl
  exact leave1 hf rfl rfl ⟨rfl, hM.fin⟩
 refine cond_f hf rfl hc734 ?_
 refine wp_skip ?_
 refine then_n ?_
 refine wp_seq ?_
 refine region_pl ?_
 refine pl_l hf rfl rfl rfl (w_makeMap fS fT hM fun b735 w736 hx737 hM a hf => ?_)
 refine q_ hf rfl rfl rfl (e_assign hf rfl) fun a hf => ?_
 refine pl_nil ?_
 refine then_n ?_
 obtain ⟨x740, h741, h⟩ := bind_some h
 refine seq_join (fun a w => ∃ (mp738 : (List (Str × Bool))) (b739 : Nat), (.inl mp738) = x740 ∧ Has 76 a [] ∧ Mem C w [.obj b739 (mapO fS fT mp738), .box b677 [vL A2 (d1.Nodes) c3, vI (n681), vL A684 (xs683) c685, vL A687 (xs686) c688, vL A690 (xs689) c691] 84, .row boolRep A684 c685 4 xs683 true, .row intRep A687 c688 2 xs686 true, .row intRep A690 c691 3 xs689 true, .box b5 [vL A2 (d1.Nodes) c3] 26] [.dat (sliceRep NodeRep) d1.Nodes [vL A2 d1.Nodes c3]]) ?_ ?_
 ·refine wp_seq ?_
  refine region_pl ?_
  refine q_ hf rfl rfl rfl (e_field hf rfl Tryz.underlying26 rfl Tryz.sizeOf24 (o' := 0) rfl) fun a hf => ?_
  refine q_ hf rfl rfl rfl (e_load1 hf rfl Tryz.isAgg24 (hM.boxCell (k := 5) rfl rfl)) fun a hf => ?_
  have hl742 := slice_len (hM.dat (k := 0) rfl)
  refine q_ hf rfl rfl rfl (e_lenL hf (x := d1.Nodes) rfl Tryz.underlying24) fun a hf => ?_
  refine q_ hf rfl rfl rfl (e_move hf rfl) fun a hf => ?_
  refine pl_nil ?_
  refine then_n ?_
  refine wp_block ?_
  obtain ⟨x750, h751, h741⟩ := bind_some h741
  refine wp_loopM h751 (fun s a w => ∃ (mp743 : (List (Str × Bool))) (n745 : Int) (b744 : Nat), (mp743, n745) = s ∧ Has 76 a [(5, vM b744), (62, vL A2 (d1.Nodes) c3), (63, vI ((d1.Nodes.length : Int))), (64, vI (n745))] ∧ Mem C w [.obj b744 (mapO fS fT mp743), .box b677 [vL A2 (d1.Nodes) c3, vI (n681), vL A684 (xs683) c685, vL A687 (xs686) c688, vL A690 (xs689) c691] 84, .row boolRep A684 c685 4 xs683 true, .row intRep A687 c688 2 xs686 true, .row intRep A690 c691 3 xs689 true, .box b5 [vL A2 (d1.Nodes) c3] 26] [.dat (sliceRep NodeRep) d1.Nodes [vL A2 d1.Nodes c3]] ∧ R64 n745) ?_ ?_
  ·exact ⟨([] : (List (Str × Bool))), 0, b735, rfl, hf.keep ⟨rfl, rfl, rfl, rfl, trivial⟩, hM.pick [0] rfl, (R64_lit rfl)⟩
  rintro s o752 a w747 ⟨mp743, n745, b744, rfl, hf, hM, hv746⟩ h753 hd754
  replace h753 : m_impl_ValidDawg_l1 d1 mp743 n745 = some o752 := h753
  unfold m_impl_ValidDawg_l1 at h753
  refine wp_seq ?_
  refine region_pl ?_
  refine q_ hf rfl rfl rfl (e_lt hf (x := n745) (y := (d1.Nodes.length : Int)) rfl rfl) fun a hf => ?_
  refine pl_nil ?_
  refine then_n ?_
  refine wp_seq ?_
  rcases cond_some h753 with ⟨hc755, h753⟩ | ⟨hc755, h753⟩
  ·refine cond_t hf rfl hc755 ?_
   refine wp_skip ?_
   refine then_n ?_
   refine wp_seq ?_
   refine wp_block ?_
   refine wp_seq ?_
   refine region_pl ?_
   obtain ⟨e756, hz757, h753⟩ := bind_some h753
   obtain ⟨b761, o762, _, hA763, h758, h759, hr760, hM⟩ := hM.elem (hM.dat (k := 0) rfl) (n := 3) rfl hz757
   obtain ⟨A765, c766, rfl, hv764, hv767⟩ := NodeRep_open hr760
   have hM := hM.add (y := .dat (sliceRep intRep) e756.Next [vL A765 e756.Next c766]) hv767
   refine q_ hf rfl rfl rfl (e_indexAddr (A := A2) (b := b761) (o := o762) (xs := d1.Nodes) (i := n745) hf hA763 rfl rfl Tryz.underlying24 Tryz.sizeOf79 h758 h759) fun a hf => ?_
   refine q_ hf rfl rfl rfl (e_loadA hf (us := [.bool (e756.Final), vS (e756.Letters), vL A765 (e756.Next) c766]) rfl ⟨Tryz.isAgg79, Tryz.sizeOf79⟩ rfl (hM.litSub (k := 1) (d := 0) (us := [.bool (e756.Final), vS (e756.Letters), vL A765 (e756.Next) c766]) rfl rfl rfl)) fun a hf => ?_
   refine pl_l hf rfl rfl rfl (w_alloc hM (cs := [.bool (false), vS (([] : Str)), vL none (([] : (List Int))) 0]) Tryz.zeroValue79 rfl fun b768 w769 hx770 hM a hf => ?_)
   refine pl_0 hf rfl rfl (w_store hf hM (us := [.bool (e756.Final), vS (e756.Letters), vL A765 (e756.Next) c766]) (cs' := [.bool (e756.Final), vS (e756.Letters), vL A765 (e756.Next) c766]) rfl rfl (k := 0) rfl rfl Tryz.sizeOf79 rfl rfl rfl fun w772 hM => ?_)
   dsimp only [List.set] at hM
   refine pl_nil ?_
   refine then_n ?_
   refine wp_seq ?_
   refine region_pl ?_
   refine q_ hf rfl rfl rfl (e_loadA hf (us := [.bool (e756.Final), vS (e756.Letters), vL A765 (e756.Next) c766]) rfl ⟨Tryz.isAgg79, Tryz.sizeOf79⟩ rfl (hM.boxSub (k := 0) (us := [.bool (e756.Final), vS (e756.Letters), vL A765 (e756.Next) c766]) (o := 0) rfl rfl)) fun a hf => ?_
   obtain ⟨y775, hz776, h753⟩ := bind_some h753
   refine pl_l hf rfl rfl rfl (w_call hf Tryz.call49 rfl (r_impl_keyOf ⟨_, Sh C _ _, none_, hM.sh_lt, none_not, C.G, hM.g_lt, g_none, hM.tabs⟩ e756 hv764 _ _ (hM.dat (k := 0) rfl) _ hz776) ?_)
   rintro _ w778 ⟨rfl, hM2, hv777⟩
   obtain ⟨hM, hx779, hup780⟩ := hM.back hM2
   dsimp only [List.cons_append, List.nil_append] at hM hup780
   clear hM2
   refine ⟨_, rfl, fun a hf => ?_⟩
   refine q_ hf rfl rfl rfl (e_assign hf rfl) fun a hf => ?_
   refine pl_nil ?_
   refine then_n ?_
   iterate 2 refine wp_seq ?_
   refine region_pl ?_
   iterate 2 refine q_ hf rfl rfl rfl (e_move hf rfl) fun a hf => ?_
   refine q_ hf rfl rfl rfl (e_lookup (fk := fS) (fv := fT) hf (keyS Tryz.underlying9) Tryz.underlying86 (k := y775) (z := false) rfl rfl Tryz.zeroValue4 (hM.ownAt (k := 1) rfl)) fun a hf => ?_
   refine pl_nil ?_
   refine then_n ?_
   rcases cond_some h753 with ⟨hc781, h753⟩ | ⟨hc781, h753⟩
   ·refine cond_t hf rfl hc781 ?_
    refine wp_seq ?_
    refine region_pl ?_
    refine q_ hf rfl rfl rfl (e_assign hf rfl) fun a hf => ?_
    refine pl_nil ?_
    refine then_n ?_
    refine wp_ret ?_
    refine then_r ?_
    refine blk_r ?_
    refine then_r ?_
    obtain rfl := some_inj h753
    obtain rfl := hd754 _ rfl
    try dsimp only at h741
    refine then_r ?_
    refine blk_r ?_
    obtain rfl := some_inj h741
    try dsimp only at h
    refine then_r ?_
    obtain rfl := some_inj h
    have hM := hM.outs (own' := []) 0 rfl
    exact leave1 hf rfl rfl ⟨rfl, hM.fin⟩
   refine cond_f hf rfl hc781 ?_
   refine wp_skip ?_
   refine then_n ?_
   refine region_pl ?_
   iterate 2 refine q_ hf rfl rfl rfl (e_move hf rfl) fun a hf => ?_
   refine pl_0 hf rfl rfl (w_mapUpdate (fk := fS) (fv := fT) hf hM (keyS Tryz.underlying9) Tryz.underlying86 (k := y775) (v := true) rfl rfl rfl (n := 1) rfl fun w782 hM => ?_)
   dsimp only [List.set] at hM
   refine pl_nil ?_
   refine blk_n ?_
   refine then_n ?_
   refine region_pl ?_
   obtain ⟨z783, hz784, h753⟩ := bind_some h753
   refine q_ hf rfl rfl rfl (e_add hf rfl rfl hz784) fun a hf => ?_
   refine q_ hf rfl rfl rfl (e_move hf rfl) fun a hf => ?_
   refine pl_nil ?_
   obtain rfl := some_inj h753
   refine then_n ⟨_, rfl, ?_⟩
   exact ⟨(putM mp743 y775 true), z783, b744, rfl, hf.keep ⟨rfl, rfl, rfl, rfl, trivial⟩, (hM.drop (.cons _ (.cons_cons _ (.cons_cons _ (.cons_cons _ (.cons_cons _ (.cons_cons _ (.cons_cons _ .slnil)))))))).pick [2] rfl, (chk_R hz784)⟩
  refine cond_f hf rfl hc755 ?_
  refine wp_exit ?_
  refine then_x ?_
  obtain rfl := some_inj h753
  obtain rfl := hd754 _ rfl
  try dsimp only at h741
  refine then_x ?_
  refine exit_hit ?_
  obtain rfl := some_inj h741
  refine then_n ?_
  exact ⟨mp743, b744, rfl, hf.keep trivial, hM.pick [0] rfl⟩
 rintro a w791 ⟨mp738, b739, rfl, hf, hM⟩
 try dsimp only at h
 refine wp_seq ?_
 refine region_pl ?_
 refine q_ hf rfl rfl rfl (e_assign hf rfl) fun a hf => ?_
 refine pl_nil ?_
 refine then_n ?_
 refine wp_ret ?_
 obtain rfl := some_inj h
 have hM := hM.outs (own' := []) 0 rfl
 exact leave1 hf rfl rfl ⟨rfl, hM.fin⟩
end Go.Proofs.YtccoeheoifbpcaaGreatDoor
