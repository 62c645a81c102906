/- The functions that this law reaches do what their models say. Printed by gen.py. -/
import Derived.Test.YtdaoecpkgobelaaGreatDoorMod
import Derived.Test.YtdaoecpkgobelaaGreatDoorLib
import Derived.Test.YtdaoecpkgobelaaGreatDoorFnAutomataRefB
namespace Go.Proofs.YtdaoecpkgobelaaGreatDoor
open Go Go.RowKit
set_option linter.unusedSimpArgs false
set_option linter.unusedVariables false

set_option maxRecDepth 100000 in
set_option maxHeartbeats 4000000 in
theorem r_impl_ReadDawg (C : Cx) (s1 : Str) (hp2 : s1.length ≤ maxLen) (r : (Dawg × Bool)) (h : m_impl_ReadDawg s1 = some r) :
    Calls Tryz.prog 11 #[vS (s1)] C.w0 fun e w => ∃ (A_1 : Option Addr), ∃ (c_1 : Nat), e = .returned (.tuple #[.agg #[vL A_1 (r.1.Nodes) c_1], .bool (r.2)]) ∧ Mem C w [.row NodeRep A_1 c_1 47 r.1.Nodes true] [] := by
 have hM := Mem.begin C [] trivial
 refine enter Tryz.func11 rfl Tryz.ntmps11 rfl fun a hf => ?_
 unfold m_impl_ReadDawg at h
 refine wp_seq ?_
 refine region_pl ?_
 refine pl_l hf rfl rfl rfl (w_alloc hM (cs := [vL none (([] : (List Node))) 0]) Tryz.zeroValue31 rfl fun b3 w4 hx5 hM a hf => ?_)
 refine q_ hf rfl rfl rfl (e_assign hf rfl) fun a hf => ?_
 refine pl_nil ?_
 refine then_n ?_
 refine wp_seq ?_
 refine region_pl ?_
 refine q_ hf rfl rfl rfl (e_move hf rfl) fun a hf => ?_
 obtain ⟨y7, hz8, h⟩ := bind_some h
 refine pl_l hf rfl rfl rfl (w_call hf Tryz.call32 rfl (r_impl_linesOf ⟨_, Sh C _ _, none_, hM.sh_lt, none_not, C.G, hM.g_lt, g_none, hM.tabs⟩ s1 hp2 _ hz8) ?_)
 rintro _ w12 ⟨A9, c10, rfl, hM2, hv11⟩
 obtain ⟨hM, hx13, hup14⟩ := hM.back hM2
 dsimp only [List.cons_append, List.nil_append] at hM hup14
 clear hM2
 have hM := hM.add (y := .dat (sliceRep strRep) y7.1 [vL A9 y7.1 c10]) (hup14 hv11)
 refine ⟨_, rfl, fun a hf => ?_⟩
 refine q_ hf rfl rfl rfl (e_move hf rfl) fun a hf => ?_
 iterate 2 refine q_ hf rfl rfl rfl (e_extract hf rfl rfl) fun a hf => ?_
 iterate 2 refine q_ hf rfl rfl rfl (e_assign hf rfl) fun a hf => ?_
 refine pl_nil ?_
 refine then_n ?_
 refine wp_seq ?_
 obtain ⟨x17, h18, h⟩ := bind_some h
 refine seq_join (fun a w => ∃ (t15 : Bool), t15 = x17 ∧ Has 95 a [(0, vS (s1)), (2, vP b3 (0)), (4, vL A9 (y7.1) c10), (26, .bool (t15))] ∧ Mem C w [.box b3 [vL none (([] : (List Node))) 0] 31] [.dat (sliceRep strRep) y7.1 [vL A9 y7.1 c10]]) ?_ ?_
 ·refine region_pl ?_
  refine q_ hf rfl rfl rfl (e_move hf rfl) fun a hf => ?_
  refine q_ hf rfl rfl rfl (e_not hf rfl) fun a hf => ?_
  refine q_ hf rfl rfl rfl (e_move hf rfl) fun a hf => ?_
  rcases cond_some h18 with ⟨hc19, h18⟩ | ⟨hc19, h18⟩
  ·iterate 3 refine pl_gs (wanted_f hf rfl rfl rfl rfl hc19) hf rfl rfl fun a hf => ?_
   refine q_ hf rfl rfl rfl (e_pick_t hf rfl hc19 rfl) fun a hf => ?_
   refine pl_nil ?_
   obtain rfl := some_inj h18
   refine then_n ?_
   exact ⟨true, rfl, hf.keep ⟨rfl, rfl, rfl, rfl, trivial⟩, hM.pick [0] rfl⟩
  refine gq (wanted_t hf rfl rfl rfl rfl hc19) hf rfl rfl (e_move hf rfl) fun a hf => ?_
  have hl21 := slice_len (hM.dat (k := 0) rfl)
  refine gq (wanted_t hf rfl rfl rfl rfl hc19) hf rfl rfl (e_lenL hf (x := y7.1) rfl Tryz.underlying24) fun a hf => ?_
  refine gq (wanted_t hf rfl rfl rfl rfl hc19) hf rfl rfl (e_gt hf (x := (y7.1.length : Int)) (y := 3000) rfl rfl) fun a hf => ?_
  refine q_ hf rfl rfl rfl (e_pick_f hf rfl hc19 rfl) fun a hf => ?_
  refine pl_nil ?_
  obtain rfl := some_inj h18
  refine then_n ?_
  exact ⟨(decide (3000 < (y7.1.length : Int))), rfl, hf.keep ⟨rfl, rfl, rfl, rfl, trivial⟩, hM.pick [0] rfl⟩
 rintro a w23 ⟨t15, rfl, hf, hM⟩
 try dsimp only at h
 rcases cond_some h with ⟨hc24, h⟩ | ⟨hc24, h⟩
 ·refine cond_t hf rfl hc24 ?_
  refine wp_seq ?_
  refine region_pl ?_
  refine q_ hf rfl rfl rfl (e_build hf Tryz.zeroValue31 Tryz.underlying31 (bp_31 _ Tryz.underlying31.symm) rfl (cs := #[vL none (([] : (List Node))) 0]) (by kernel_rfl)) fun a hf => ?_
  refine pl_0 hf rfl rfl (w_store hf hM (us := [vL none (([] : (List Node))) 0]) (cs' := [vL none (([] : (List Node))) 0]) rfl rfl (k := 0) rfl rfl Tryz.sizeOf31 rfl rfl rfl fun w25 hM => ?_)
  dsimp only [List.set] at hM
  refine q_ hf rfl rfl rfl (e_assign hf rfl) fun a hf => ?_
  refine pl_nil ?_
  refine then_n ?_
  refine wp_ret ?_
  refine then_r ?_
  obtain rfl := some_inj h
  have hres28 := leaveV2 (P := Tryz.prog) (w := w25) Tryz.results11 (res_agg hf rfl ⟨Tryz.isAgg31, Tryz.sizeOf31⟩ (us := [vL none (([] : (List Node))) 0]) rfl (hM.boxSub (k := 0) (o := 0) rfl rfl)) (res_tmp hf rfl)
  have hM := hM.nilRow NodeRep 47
  have hM := hM.outs (own' := [.row NodeRep none 0 47 ([] : (List Node)) true]) 1 rfl
  exact bodyPost_ret hres28 hf.defers ⟨none, 0, rfl, hM.fin⟩
 refine cond_f hf rfl hc24 ?_
 refine wp_skip ?_
 refine then_n ?_
 refine wp_seq ?_
 refine region_pl ?_
 refine q_ hf rfl rfl rfl (e_build hf Tryz.zeroValue31 Tryz.underlying31 (bp_31 _ Tryz.underlying31.symm) rfl (cs := #[vL none (([] : (List Node))) 0]) (by kernel_rfl)) fun a hf => ?_
 refine pl_l hf rfl rfl rfl (w_alloc hM (cs := [vL none (([] : (List Node))) 0]) Tryz.zeroValue31 rfl fun b29 w30 hx31 hM a hf => ?_)
 refine pl_0 hf rfl rfl (w_store hf hM (us := [vL none (([] : (List Node))) 0]) (cs' := [vL none (([] : (List Node))) 0]) rfl rfl (k := 0) rfl rfl Tryz.sizeOf31 rfl rfl rfl fun w33 hM => ?_)
 dsimp only [List.set] at hM
 refine pl_nil ?_
 refine then_n ?_
 obtain ⟨x42, h43, h⟩ := bind_some h
 refine seq_join (fun a w => ∃ (xs36 : (List Node)) (xs39 : (List Node)) (A37 : Option Addr) (c38 : Nat) (A40 : Option Addr) (c41 : Nat), (.inl (xs36, xs39)) = x42 ∧ Has 95 a [(0, vS (s1)), (2, vP b3 (0)), (6, vP b29 (0))] ∧ Mem C w [.row NodeRep A40 c41 47 xs39 true, .row NodeRep A37 c38 47 xs36 true, .box b29 [vL A40 (xs39) c41] 31, .box b3 [vL A37 (xs36) c38] 31] [.dat (sliceRep strRep) y7.1 [vL A9 y7.1 c10]]) ?_ ?_
 ·refine wp_seq ?_
  refine region_pl ?_
  refine q_ hf rfl rfl rfl (e_move hf rfl) fun a hf => ?_
  have hl44 := slice_len (hM.dat (k := 0) rfl)
  refine q_ hf rfl rfl rfl (e_lenL hf (x := y7.1) rfl Tryz.underlying24) fun a hf => ?_
  refine q_ hf rfl rfl rfl (e_move hf rfl) fun a hf => ?_
  refine pl_nil ?_
  refine then_n ?_
  refine wp_block ?_
  iterate 2 have hM := hM.nilRow NodeRep 47
  obtain ⟨x54, h55, h43⟩ := bind_some h43
  refine wp_loopM h55 (fun s a w => ∃ (xs45 : (List Node)) (n48 : Int) (A46 : Option Addr) (c47 : Nat), (xs45, n48) = s ∧ Has 95 a [(0, vS (s1)), (2, vP b3 (0)), (6, vP b29 (0)), (29, vL A9 (y7.1) c10), (30, vI ((y7.1.length : Int))), (31, vI (n48))] ∧ Mem C w [.row NodeRep none 0 47 ([] : (List Node)) true, .row NodeRep A46 c47 47 xs45 true, .box b29 [vL A46 (xs45) c47] 31, .box b3 [vL none (([] : (List Node))) 0] 31] [.dat (sliceRep strRep) y7.1 [vL A9 y7.1 c10]] ∧ R64 n48) ?_ ?_
  ·exact ⟨([] : (List Node)), 0, none, 0, rfl, hf.keep ⟨rfl, rfl, rfl, rfl, rfl, rfl, trivial⟩, hM.pick [0] rfl, (R64_lit rfl)⟩
  rintro s o56 a w50 ⟨xs45, n48, A46, c47, rfl, hf, hM, hv49⟩ h57 hd58
  replace h57 : m_impl_ReadDawg_l1 y7 xs45 n48 = some o56 := h57
  unfold m_impl_ReadDawg_l1 at h57
  refine wp_seq ?_
  refine region_pl ?_
  refine q_ hf rfl rfl rfl (e_lt hf (x := n48) (y := (y7.1.length : Int)) rfl rfl) fun a hf => ?_
  refine pl_nil ?_
  refine then_n ?_
  refine wp_seq ?_
  rcases cond_some h57 with ⟨hc59, h57⟩ | ⟨hc59, h57⟩
  ·refine cond_t hf rfl hc59 ?_
   refine wp_skip ?_
   refine then_n ?_
   obtain ⟨x63, h64, h57⟩ := bind_some h57
   refine seq_join (fun a w => ∃ (xs60 : (List Node)) (A61 : Option Addr) (c62 : Nat), (.inl xs60) = x63 ∧ Has 95 a [(0, vS (s1)), (2, vP b3 (0)), (6, vP b29 (0)), (29, vL A9 (y7.1) c10), (30, vI ((y7.1.length : Int))), (31, vI (n48))] ∧ Mem C w [.row NodeRep none 0 47 ([] : (List Node)) true, .row NodeRep A61 c62 47 xs60 true, .box b29 [vL A61 (xs60) c62] 31, .box b3 [vL none (([] : (List Node))) 0] 31] [.dat (sliceRep strRep) y7.1 [vL A9 y7.1 c10]]) ?_ ?_
   ·refine wp_block ?_
    refine wp_seq ?_
    refine region_pl ?_
    obtain ⟨e65, hz66, h64⟩ := bind_some h64
    obtain ⟨b70, o71, _, hA72, h67, h68, hr69, hM⟩ := hM.elem (hM.dat (k := 0) rfl) (n := 1) rfl hz66
    obtain ⟨rfl, hv73⟩ := hr69
    refine q_ hf rfl rfl rfl (e_indexAddr (A := A9) (b := b70) (o := o71) (xs := y7.1) (i := n48) hf hA72 rfl rfl Tryz.underlying24 Tryz.sizeOf9 h67 h68) fun a hf => ?_
    refine q_ hf rfl rfl rfl (e_load1 hf rfl Tryz.isAgg9 (hM.litCell (k := 0) (j := 0) rfl rfl rfl)) fun a hf => ?_
    refine q_ hf rfl rfl rfl (e_assign hf rfl) fun a hf => ?_
    refine pl_nil ?_
    refine then_n ?_
    refine wp_seq ?_
    refine region_pl ?_
    refine q_ hf rfl rfl rfl (e_move hf rfl) fun a hf => ?_
    obtain ⟨y74, hz75, h64⟩ := bind_some h64
    refine pl_l hf rfl rfl rfl (w_call hf Tryz.call33 rfl (r_strings_Split ⟨_, Sh C _ _, none_, hM.sh_lt, none_not, C.G, hM.g_lt, g_none, hM.tabs⟩ e65 hv73 ([32] : Str) (lit_len rfl) _ hz75) ?_)
    rintro _ w79 ⟨A76, c77, rfl, hM2, hv78⟩
    obtain ⟨hM, hx80, hup81⟩ := hM.back hM2
    dsimp only [List.cons_append, List.nil_append] at hM hup81
    clear hM2
    have hM := hM.add (y := .dat (sliceRep strRep) y74 [vL A76 y74 c77]) (hup81 hv78)
    refine ⟨_, rfl, fun a hf => ?_⟩
    refine q_ hf rfl rfl rfl (e_assign hf rfl) fun a hf => ?_
    refine pl_nil ?_
    refine then_n ?_
    refine wp_seq ?_
    refine region_pl ?_
    refine q_ hf rfl rfl rfl (e_move hf rfl) fun a hf => ?_
    obtain ⟨e82, hz83, h64⟩ := bind_some h64
    obtain ⟨b87, o88, _, hA89, h84, h85, hr86, hM⟩ := hM.elem (hM.dat (k := 0) rfl) (n := 1) rfl hz83
    obtain ⟨rfl, hv90⟩ := hr86
    refine q_ hf rfl rfl rfl (e_indexAddr (A := A76) (b := b87) (o := o88) (xs := y74) (i := 0) hf hA89 rfl rfl Tryz.underlying24 Tryz.sizeOf9 h84 h85) fun a hf => ?_
    refine q_ hf rfl rfl rfl (e_load1 hf rfl Tryz.isAgg9 (hM.litCell (k := 0) (j := 0) rfl rfl rfl)) fun a hf => ?_
    refine q_ hf rfl rfl rfl (e_eqS hf (x := e82) (y := ([43] : Str)) rfl rfl) fun a hf => ?_
    refine q_ hf rfl rfl rfl (e_build hf Tryz.zeroValue47 Tryz.underlying47 (bp_47 _ Tryz.underlying47.symm) rfl (cs := #[.bool (e82 == ([43] : Str)), vS (([] : Str)), vL none (([] : (List Int))) 0]) (by kernel_rfl)) fun a hf => ?_
    refine pl_l hf rfl rfl rfl (w_alloc hM (cs := [.bool (false), vS (([] : Str)), vL none (([] : (List Int))) 0]) Tryz.zeroValue47 rfl fun b91 w92 hx93 hM a hf => ?_)
    refine pl_0 hf rfl rfl (w_store hf hM (us := [.bool (e82 == ([43] : Str)), vS (([] : Str)), vL none (([] : (List Int))) 0]) (cs' := [.bool (e82 == ([43] : Str)), vS (([] : Str)), vL none (([] : (List Int))) 0]) rfl rfl (k := 0) rfl rfl Tryz.sizeOf47 rfl rfl rfl fun w95 hM => ?_)
    dsimp only [List.set] at hM
    refine pl_nil ?_
    refine then_n ?_
    obtain ⟨x103, h104, h64⟩ := bind_some h64
    refine seq_join (fun a w => ∃ (s98 : Str) (xs100 : (List Int)) (A101 : Option Addr) (c102 : Nat), (.inl (s98, xs100)) = x103 ∧ Has 95 a [(0, vS (s1)), (2, vP b3 (0)), (6, vP b29 (0)), (10, vP b91 (0)), (29, vL A9 (y7.1) c10), (30, vI ((y7.1.length : Int))), (31, vI (n48))] ∧ Mem C w [.row intRep A101 c102 2 xs100 true, .box b91 [.bool (e82 == ([43] : Str)), vS (s98), vL A101 (xs100) c102] 47, .row NodeRep none 0 47 ([] : (List Node)) true, .row NodeRep A46 c47 47 xs45 true, .box b29 [vL A46 (xs45) c47] 31, .box b3 [vL none (([] : (List Node))) 0] 31] [.lit b87 (o88 + (0 : Int).toNat * 1) [vS (e82)], .dat (sliceRep strRep) y74 [vL A76 y74 c77], .lit b70 (o71 + (n48 : Int).toNat * 1) [vS (e65)], .dat (sliceRep strRep) y7.1 [vL A9 y7.1 c10]] ∧ s98.length ≤ maxLen) ?_ ?_
    ·refine wp_seq ?_
     refine region_pl ?_
     refine q_ hf rfl rfl rfl (e_move hf rfl) fun a hf => ?_
     obtain ⟨l105, hz106, h104⟩ := bind_some h104
     obtain ⟨A107, hd108, hA109⟩ := sub_rep (hM.dat (k := 1) rfl) hz106
     have hM := hM.add (y := .dat (sliceRep strRep) l105 [vL A107 l105 (c77 - (1 : Int).toNat)]) hd108
     refine q_ hf rfl rfl rfl (e_subLl hf (xs := y74) rfl rfl Tryz.underlying24 Tryz.sizeOf9 (slice_cap (hM.dat (k := 2) rfl)) hz106 hA109) fun a hf => ?_
     have hl110 := slice_len (hM.dat (k := 0) rfl)
     refine q_ hf rfl rfl rfl (e_lenL hf (x := l105) rfl Tryz.underlying24) fun a hf => ?_
     refine q_ hf rfl rfl rfl (e_move hf rfl) fun a hf => ?_
     refine pl_nil ?_
     refine then_n ?_
     refine wp_block ?_
     have hM := hM.nilRow intRep 2
     obtain ⟨x124, h125, h104⟩ := bind_some h104
     refine wp_loopM h125 (fun s a w => ∃ (s111 : Str) (xs113 : (List Int)) (n116 : Int) (A114 : Option Addr) (c115 : Nat), (s111, xs113, n116) = s ∧ Has 95 a [(0, vS (s1)), (2, vP b3 (0)), (6, vP b29 (0)), (10, vP b91 (0)), (29, vL A9 (y7.1) c10), (30, vI ((y7.1.length : Int))), (31, vI (n48)), (43, vL A107 (l105) (c77 - (1 : Int).toNat)), (44, vI ((l105.length : Int))), (45, vI (n116))] ∧ Mem C w [.row intRep A114 c115 2 xs113 true, .box b91 [.bool (e82 == ([43] : Str)), vS (s111), vL A114 (xs113) c115] 47, .row NodeRep none 0 47 ([] : (List Node)) true, .row NodeRep A46 c47 47 xs45 true, .box b29 [vL A46 (xs45) c47] 31, .box b3 [vL none (([] : (List Node))) 0] 31] [.dat (sliceRep strRep) l105 [vL A107 l105 (c77 - (1 : Int).toNat)], .lit b87 (o88 + (0 : Int).toNat * 1) [vS (e82)], .dat (sliceRep strRep) y74 [vL A76 y74 c77], .lit b70 (o71 + (n48 : Int).toNat * 1) [vS (e65)], .dat (sliceRep strRep) y7.1 [vL A9 y7.1 c10]] ∧ s111.length ≤ maxLen ∧ R64 n116) ?_ ?_
     ·exact ⟨([] : Str), ([] : (List Int)), 0, none, 0, rfl, hf.keep ⟨rfl, rfl, rfl, rfl, rfl, rfl, rfl, rfl, rfl, rfl, trivial⟩, hM.pick [0, 1, 2, 3, 4] rfl, (lit_len rfl), (R64_lit rfl)⟩
     rintro s o126 a w118 ⟨s111, xs113, n116, A114, c115, rfl, hf, hM, hv112, hv117⟩ h127 hd128
     replace h127 : m_impl_ReadDawg_l2 l105 s111 xs113 n116 = some o126 := h127
     unfold m_impl_ReadDawg_l2 at h127
     refine wp_seq ?_
     refine region_pl ?_
     refine q_ hf rfl rfl rfl (e_lt hf (x := n116) (y := (l105.length : Int)) rfl rfl) fun a hf => ?_
     refine pl_nil ?_
     refine then_n ?_
     refine wp_seq ?_
     rcases cond_some h127 with ⟨hc129, h127⟩ | ⟨hc129, h127⟩
     ·refine cond_t hf rfl hc129 ?_
      refine wp_skip ?_
      refine then_n ?_
      refine wp_seq ?_
      refine wp_block ?_
      refine wp_seq ?_
      refine region_pl ?_
      obtain ⟨e130, hz131, h127⟩ := bind_some h127
      obtain ⟨b135, o136, _, hA137, h132, h133, hr134, hM⟩ := hM.elem (hM.dat (k := 0) rfl) (n := 1) rfl hz131
      obtain ⟨rfl, hv138⟩ := hr134
      refine q_ hf rfl rfl rfl (e_indexAddr (A := A107) (b := b135) (o := o136) (xs := l105) (i := n116) hf hA137 rfl rfl Tryz.underlying24 Tryz.sizeOf9 h132 h133) fun a hf => ?_
      refine q_ hf rfl rfl rfl (e_load1 hf rfl Tryz.isAgg9 (hM.litCell (k := 0) (j := 0) rfl rfl rfl)) fun a hf => ?_
      refine q_ hf rfl rfl rfl (e_assign hf rfl) fun a hf => ?_
      refine pl_nil ?_
      refine then_n ?_
      refine wp_seq ?_
      obtain ⟨x141, h142, h127⟩ := bind_some h127
      refine seq_join (fun a w => ∃ (t139 : Bool), t139 = x141 ∧ Has 95 a [(0, vS (s1)), (2, vP b3 (0)), (6, vP b29 (0)), (10, vP b91 (0)), (12, vS (e130)), (29, vL A9 (y7.1) c10), (30, vI ((y7.1.length : Int))), (31, vI (n48)), (43, vL A107 (l105) (c77 - (1 : Int).toNat)), (44, vI ((l105.length : Int))), (45, vI (n116)), (56, .bool (t139))] ∧ Mem C w [.row intRep A114 c115 2 xs113 true, .box b91 [.bool (e82 == ([43] : Str)), vS (s111), vL A114 (xs113) c115] 47, .row NodeRep none 0 47 ([] : (List Node)) true, .row NodeRep A46 c47 47 xs45 true, .box b29 [vL A46 (xs45) c47] 31, .box b3 [vL none (([] : (List Node))) 0] 31] [.lit b135 (o136 + (n116 : Int).toNat * 1) [vS (e130)], .dat (sliceRep strRep) l105 [vL A107 l105 (c77 - (1 : Int).toNat)], .lit b87 (o88 + (0 : Int).toNat * 1) [vS (e82)], .dat (sliceRep strRep) y74 [vL A76 y74 c77], .lit b70 (o71 + (n48 : Int).toNat * 1) [vS (e65)], .dat (sliceRep strRep) y7.1 [vL A9 y7.1 c10]]) ?_ ?_
      ·refine region_pl ?_
       refine q_ hf rfl rfl rfl (e_move hf rfl) fun a hf => ?_
       refine q_ hf rfl rfl rfl (e_eqS hf (x := e130) (y := ([] : Str)) rfl rfl) fun a hf => ?_
       refine q_ hf rfl rfl rfl (e_move hf rfl) fun a hf => ?_
       rcases cond_some h142 with ⟨hc143, h142⟩ | ⟨hc143, h142⟩
       ·iterate 4 refine pl_gs (wanted_f hf rfl rfl rfl rfl hc143) hf rfl rfl fun a hf => ?_
        refine q_ hf rfl rfl rfl (e_pick_t hf rfl hc143 rfl) fun a hf => ?_
        refine pl_nil ?_
        obtain rfl := some_inj h142
        refine then_n ?_
        exact ⟨true, rfl, hf.keep ⟨rfl, rfl, rfl, rfl, rfl, rfl, rfl, rfl, rfl, rfl, rfl, rfl, trivial⟩, hM.pick [0, 1, 2, 3, 4, 5] rfl⟩
       refine gq (wanted_t hf rfl rfl rfl rfl hc143) hf rfl rfl (e_field hf rfl Tryz.underlying47 rfl Tryz.sizeOf9 (o' := 1) rfl) fun a hf => ?_
       refine gq (wanted_t hf rfl rfl rfl rfl hc143) hf rfl rfl (e_load1 hf rfl Tryz.isAgg9 (hM.boxCell (k := 1) rfl rfl)) fun a hf => ?_
       refine gq (wanted_t hf rfl rfl rfl rfl hc143) hf rfl rfl (e_lenS hf (x := s111) rfl Tryz.underlying9) fun a hf => ?_
       refine gq (wanted_t hf rfl rfl rfl rfl hc143) hf rfl rfl (e_gt hf (x := (s111.length : Int)) (y := 27) rfl rfl) fun a hf => ?_
       refine q_ hf rfl rfl rfl (e_pick_f hf rfl hc143 rfl) fun a hf => ?_
       refine pl_nil ?_
       obtain rfl := some_inj h142
       refine then_n ?_
       exact ⟨(decide (27 < (s111.length : Int))), rfl, hf.keep ⟨rfl, rfl, rfl, rfl, rfl, rfl, rfl, rfl, rfl, rfl, rfl, rfl, trivial⟩, hM.pick [0, 1, 2, 3, 4, 5] rfl⟩
      rintro a w146 ⟨t139, rfl, hf, hM⟩
      try dsimp only at h127
      rcases cond_some h127 with ⟨hc147, h127⟩ | ⟨hc147, h127⟩
      ·refine cond_t hf rfl hc147 ?_
       refine wp_seq ?_
       refine region_pl ?_
       refine q_ hf rfl rfl rfl (e_build hf Tryz.zeroValue31 Tryz.underlying31 (bp_31 _ Tryz.underlying31.symm) rfl (cs := #[vL none (([] : (List Node))) 0]) (by kernel_rfl)) fun a hf => ?_
       refine pl_0 hf rfl rfl (w_store hf hM (us := [vL none (([] : (List Node))) 0]) (cs' := [vL none (([] : (List Node))) 0]) rfl rfl (k := 5) rfl rfl Tryz.sizeOf31 rfl rfl rfl fun w148 hM => ?_)
       dsimp only [List.set] at hM
       refine q_ hf rfl rfl rfl (e_assign hf rfl) fun a hf => ?_
       refine pl_nil ?_
       refine then_n ?_
       refine wp_ret ?_
       refine then_r ?_
       refine blk_r ?_
       refine then_r ?_
       obtain rfl := some_inj h127
       obtain rfl := hd128 _ rfl
       try dsimp only at h104
       refine then_r ?_
       refine blk_r ?_
       obtain rfl := some_inj h104
       try dsimp only at h64
       refine then_r ?_
       refine blk_r ?_
       obtain rfl := some_inj h64
       try dsimp only at h57
       refine then_r ?_
       obtain rfl := some_inj h57
       obtain rfl := hd58 _ rfl
       try dsimp only at h43
       refine then_r ?_
       refine blk_r ?_
       obtain rfl := some_inj h43
       try dsimp only at h
       refine then_r ?_
       obtain rfl := some_inj h
       have hres156 := leaveV2 (P := Tryz.prog) (w := w148) Tryz.results11 (res_agg hf rfl ⟨Tryz.isAgg31, Tryz.sizeOf31⟩ (us := [vL none (([] : (List Node))) 0]) rfl (hM.boxSub (k := 5) (o := 0) rfl rfl)) (res_tmp hf rfl)
       have hM := hM.nilRow NodeRep 47
       have hM := hM.outs (own' := [.row NodeRep none 0 47 ([] : (List Node)) true]) 1 rfl
       exact bodyPost_ret hres156 hf.defers ⟨none, 0, rfl, hM.fin⟩
      refine cond_f hf rfl hc147 ?_
      refine wp_skip ?_
      refine then_n ?_
      refine wp_seq ?_
      refine region_pl ?_
      refine q_ hf rfl rfl rfl (e_move hf rfl) fun a hf => ?_
      obtain ⟨s157, hz158, h127⟩ := bind_some h127
      refine q_ hf rfl rfl rfl (e_subSl hf (x := e130) rfl rfl Tryz.underlying9 hz158) fun a hf => ?_
      obtain ⟨y159, hz160, h127⟩ := bind_some h127
      refine pl_l hf rfl rfl rfl (w_call hf Tryz.call34 rfl (r_impl_ReadDecimal ⟨_, Sh C _ _, none_, hM.sh_lt, none_not, C.G, hM.g_lt, g_none, hM.tabs⟩ s157 (sub_len hz158 hv138) _ hz160) ?_)
      rintro _ w162 ⟨rfl, hM2, hv161⟩
      obtain ⟨hM, hx163, hup164⟩ := hM.back hM2
      dsimp only [List.cons_append, List.nil_append] at hM hup164
      clear hM2
      refine ⟨_, rfl, fun a hf => ?_⟩
      refine q_ hf rfl rfl rfl (e_move hf rfl) fun a hf => ?_
      iterate 2 refine q_ hf rfl rfl rfl (e_extract hf rfl rfl) fun a hf => ?_
      iterate 2 refine q_ hf rfl rfl rfl (e_assign hf rfl) fun a hf => ?_
      refine pl_nil ?_
      refine then_n ?_
      refine wp_seq ?_
      obtain ⟨w165, hw⟩ : ∃ x, x = w162.drew := ⟨_, rfl⟩
      refine region_pi (.q 0 (.q 1 (.q 2 (.q 3 (.q 4 (.q 5 (.l 6 (.nil)))))))) (Ext w165) rfl (by kernel_rfl) ?_
      have hM := hM.drew
      rw [← hw] at hM ⊢
      clear hw
      refine pi_q hf rfl rfl rfl rfl (Ext.refl _) (e_field hf rfl Tryz.underlying47 rfl Tryz.sizeOf9 (o' := 1) rfl) fun a hf => ?_
      refine pi_q hf rfl rfl rfl rfl (Ext.refl _) (e_load1 hf rfl Tryz.isAgg9 (hM.boxCell (k := 1) rfl rfl)) fun a hf => ?_
      refine pi_q hf rfl rfl rfl rfl (Ext.refl _) (e_move hf rfl) fun a hf => ?_
      obtain ⟨s166, hz167, h127⟩ := bind_some h127
      refine pi_q hf rfl rfl rfl rfl (Ext.refl _) (e_subSh hf (x := e130) rfl rfl Tryz.underlying9 hz167) fun a hf => ?_
      obtain ⟨s168, hz169, h127⟩ := bind_some h127
      refine pi_q hf rfl rfl rfl rfl (Ext.refl _) (e_cat hf (x := s111) (y := s166) rfl rfl hz169) fun a hf => ?_
      refine pi_q hf rfl rfl rfl rfl (Ext.refl _) (e_field hf rfl Tryz.underlying47 rfl Tryz.sizeOf9 (o' := 1) rfl) fun a hf => ?_
      refine pi_one ?_
      refine pi_z0 hf rfl rfl rfl (by kernel_rfl) (w_store hf hM (us := [vS (s168)]) (cs' := [.bool (e82 == ([43] : Str)), vS (s168), vL A114 (xs113) c115]) rfl rfl (k := 1) rfl rfl Tryz.sizeOf9 rfl rfl rfl fun w170 hM => ?_)
      dsimp only [List.set] at hM
      refine pi_nil ?_
      refine then_n ?_
      refine region_pl ?_
      refine q_ hf rfl rfl rfl (e_field hf rfl Tryz.underlying47 rfl Tryz.sizeOf45 (o' := 2) rfl) fun a hf => ?_
      refine q_ hf rfl rfl rfl (e_load1 hf rfl Tryz.isAgg45 (hM.boxCell (k := 1) rfl rfl)) fun a hf => ?_
      refine q_ hf rfl rfl rfl (e_move hf rfl) fun a hf => ?_
      refine pl_l hf rfl rfl rfl (w_slice hf hM (K := intRep) (xs := ([y159.1] : (List Int))) (os := [.tmp 72]) Tryz.underlying45 ei_2 rfl rfl rfl rfl rfl ⟨⟨[vI (y159.1)], rfl, ⟨rfl, hv161⟩⟩, trivial⟩ rfl fun b173 w174 hx175 hM a hf => ?_)
      obtain ⟨xs176, hz177, h127⟩ := bind_some h127
      refine pl_l hf rfl rfl rfl (w_append hf hM Tryz.underlying45 ei_2 rfl rfl rfl (k := 1) rfl (hM.srcRow (k := 0) rfl) hz177 fun A178 c179 w180 hM a hf => ?_)
      dsimp only [List.set] at hM
      refine q_ hf rfl rfl rfl (e_field hf rfl Tryz.underlying47 rfl Tryz.sizeOf45 (o' := 2) rfl) fun a hf => ?_
      refine pl_0 hf rfl rfl (w_store hf hM (us := [vL A178 (xs176) c179]) (cs' := [.bool (e82 == ([43] : Str)), vS (s168), vL A178 (xs176) c179]) rfl rfl (k := 2) rfl rfl Tryz.sizeOf45 rfl rfl rfl fun w183 hM => ?_)
      dsimp only [List.set] at hM
      refine pl_nil ?_
      refine blk_n ?_
      refine then_n ?_
      refine region_pl ?_
      obtain ⟨z186, hz187, h127⟩ := bind_some h127
      refine q_ hf rfl rfl rfl (e_add hf rfl rfl hz187) fun a hf => ?_
      refine q_ hf rfl rfl rfl (e_move hf rfl) fun a hf => ?_
      refine pl_nil ?_
      obtain rfl := some_inj h127
      refine then_n ⟨_, rfl, ?_⟩
      exact ⟨s168, xs176, z186, A178, c179, rfl, hf.keep ⟨rfl, rfl, rfl, rfl, rfl, rfl, rfl, rfl, rfl, rfl, trivial⟩, (hM.drop (.cons _ (.cons_cons _ (.cons_cons _ (.cons_cons _ (.cons_cons _ (.cons_cons _ (.cons_cons _ .slnil)))))))).pick [1, 2, 3, 4, 5] rfl, (cat_len hz169), (chk_R hz187)⟩
     refine cond_f hf rfl hc129 ?_
     refine wp_exit ?_
     refine then_x ?_
     obtain rfl := some_inj h127
     obtain rfl := hd128 _ rfl
     try dsimp only at h104
     refine then_x ?_
     refine exit_hit ?_
     obtain rfl := some_inj h104
     refine then_n ?_
     exact ⟨s111, xs113, A114, c115, rfl, hf.keep ⟨rfl, rfl, rfl, rfl, rfl, rfl, rfl, trivial⟩, hM.pick [1, 2, 3, 4] rfl, hv112⟩
    rintro a w194 ⟨s98, xs100, A101, c102, rfl, hf, hM, hv99⟩
    try dsimp only at h64
    refine region_pl ?_
    refine q_ hf rfl rfl rfl (e_field hf rfl Tryz.underlying31 rfl Tryz.sizeOf29 (o' := 0) rfl) fun a hf => ?_
    refine q_ hf rfl rfl rfl (e_load1 hf rfl Tryz.isAgg29 (hM.boxCell (k := 4) rfl rfl)) fun a hf => ?_
    refine q_ hf rfl rfl rfl (e_loadA hf (us := [.bool (e82 == ([43] : Str)), vS (s98), vL A101 (xs100) c102]) rfl ⟨Tryz.isAgg47, Tryz.sizeOf47⟩ rfl (hM.boxSub (k := 1) (us := [.bool (e82 == ([43] : Str)), vS (s98), vL A101 (xs100) c102]) (o := 0) rfl rfl)) fun a hf => ?_
    have hM := hM.freezeRow (k := 0) rfl rfl
    dsimp only [List.eraseIdx] at hM
    refine pl_l hf rfl rfl rfl (w_slice hf hM (K := NodeRep) (xs := ([(⟨e82 == ([43] : Str), s98, xs100⟩ : Node)] : (List Node))) (os := [.tmp 79]) Tryz.underlying29 ei_47 rfl rfl rfl rfl rfl ⟨⟨[.bool (e82 == ([43] : Str)), vS (s98), vL A101 (xs100) c102], rfl, (NodeRep_mk (x := (⟨e82 == ([43] : Str), s98, xs100⟩ : Node)) hv99 (hM.dat (k := 0) rfl))⟩, trivial⟩ rfl fun b195 w196 hx197 hM a hf => ?_)
    obtain ⟨xs198, hz199, h64⟩ := bind_some h64
    refine pl_l hf rfl rfl rfl (w_append hf hM Tryz.underlying29 ei_47 rfl rfl rfl (k := 3) rfl (hM.srcRow (k := 0) rfl) hz199 fun A200 c201 w202 hM a hf => ?_)
    dsimp only [List.set] at hM
    refine q_ hf rfl rfl rfl (e_field hf rfl Tryz.underlying31 rfl Tryz.sizeOf29 (o' := 0) rfl) fun a hf => ?_
    refine pl_0 hf rfl rfl (w_store hf hM (us := [vL A200 (xs198) c201]) (cs' := [vL A200 (xs198) c201]) rfl rfl (k := 4) rfl rfl Tryz.sizeOf29 rfl rfl rfl fun w205 hM => ?_)
    dsimp only [List.set] at hM
    refine pl_nil ?_
    refine blk_n ?_
    obtain rfl := some_inj h64
    refine then_n ?_
    exact ⟨xs198, A200, c201, rfl, hf.keep ⟨rfl, rfl, rfl, rfl, rfl, rfl, trivial⟩, (hM.drop (.cons _ (.cons _ (.cons_cons _ (.cons_cons _ (.cons_cons _ (.cons_cons _ .slnil))))))).pick [4] rfl⟩
   rintro a w210 ⟨xs60, A61, c62, rfl, hf, hM⟩
   try dsimp only at h57
   refine region_pl ?_
   obtain ⟨z211, hz212, h57⟩ := bind_some h57
   refine q_ hf rfl rfl rfl (e_add hf rfl rfl hz212) fun a hf => ?_
   refine q_ hf rfl rfl rfl (e_move hf rfl) fun a hf => ?_
   refine pl_nil ?_
   obtain rfl := some_inj h57
   refine then_n ⟨_, rfl, ?_⟩
   exact ⟨xs60, z211, A61, c62, rfl, hf.keep ⟨rfl, rfl, rfl, rfl, rfl, rfl, trivial⟩, hM.pick [0] rfl, (chk_R hz212)⟩
  refine cond_f hf rfl hc59 ?_
  refine wp_exit ?_
  refine then_x ?_
  obtain rfl := some_inj h57
  obtain rfl := hd58 _ rfl
  try dsimp only at h43
  refine then_x ?_
  refine exit_hit ?_
  obtain rfl := some_inj h43
  refine then_n ?_
  have hM := hM.front (k := 3) rfl
  dsimp only [List.eraseIdx] at hM
  have hM := hM.front (k := 3) rfl
  dsimp only [List.eraseIdx] at hM
  have hM := hM.front (k := 2) rfl
  dsimp only [List.eraseIdx] at hM
  have hM := hM.front (k := 3) rfl
  dsimp only [List.eraseIdx] at hM
  exact ⟨([] : (List Node)), xs45, none, 0, A46, c47, rfl, hf.keep ⟨rfl, rfl, rfl, trivial⟩, hM.pick [0] rfl⟩
 rintro a w220 ⟨xs36, xs39, A37, c38, A40, c41, rfl, hf, hM⟩
 try dsimp only at h
 refine wp_seq ?_
 obtain ⟨x223, h224, h⟩ := bind_some h
 refine seq_join (fun a w => ∃ (t221 : Bool), t221 = x223 ∧ Has 95 a [(2, vP b3 (0)), (6, vP b29 (0)), (92, .bool (t221))] ∧ Mem C w [.row NodeRep A40 c41 47 xs39 true, .row NodeRep A37 c38 47 xs36 true, .box b29 [vL A40 (xs39) c41] 31, .box b3 [vL A37 (xs36) c38] 31] [.dat (sliceRep strRep) y7.1 [vL A9 y7.1 c10]]) ?_ ?_
 ·refine region_pl ?_
  refine q_ hf rfl rfl rfl (e_loadA hf (us := [vL A40 (xs39) c41]) rfl ⟨Tryz.isAgg31, Tryz.sizeOf31⟩ rfl (hM.boxSub (k := 2) (us := [vL A40 (xs39) c41]) (o := 0) rfl rfl)) fun a hf => ?_
  obtain ⟨y225, hz226, h224⟩ := bind_some h224
  refine pl_l hf rfl rfl rfl (w_call hf Tryz.call16 rfl (r_impl_ValidDawg ⟨_, All C _ _, none_, hM.all_lt, none_not, C.G, hM.g_lt, g_none, hM.tabs⟩ (⟨xs39⟩ : Dawg) _ _ (hM.lendRow (k := 0) rfl) _ hz226) ?_)
  rintro _ w227 ⟨rfl, hM2⟩
  obtain ⟨hM, hx228⟩ := hM.backA hM2
  clear hM2
  refine ⟨_, rfl, fun a hf => ?_⟩
  refine q_ hf rfl rfl rfl (e_not hf rfl) fun a hf => ?_
  refine q_ hf rfl rfl rfl (e_move hf rfl) fun a hf => ?_
  rcases cond_some h224 with ⟨hc230, h224⟩ | ⟨hc230, h224⟩
  ·iterate 4 refine pl_gs (wanted_f hf rfl rfl rfl rfl hc230) hf rfl rfl fun a hf => ?_
   refine q_ hf rfl rfl rfl (e_pick_t hf rfl hc230 rfl) fun a hf => ?_
   refine pl_nil ?_
   obtain rfl := some_inj h224
   refine then_n ?_
   exact ⟨true, rfl, hf.keep ⟨rfl, rfl, rfl, trivial⟩, hM.pick [0] rfl⟩
  refine gq (wanted_t hf rfl rfl rfl rfl hc230) hf rfl rfl (e_loadA hf (us := [vL A40 (xs39) c41]) rfl ⟨Tryz.isAgg31, Tryz.sizeOf31⟩ rfl (hM.boxSub (k := 2) (us := [vL A40 (xs39) c41]) (o := 0) rfl rfl)) fun a hf => ?_
  obtain ⟨y232, hz233, h224⟩ := bind_some h224
  refine pl_gl (wanted_t hf rfl rfl rfl rfl hc230) hf rfl rfl (w_call hf Tryz.call12 rfl (r_impl_DawgText ⟨_, All C _ _, none_, hM.all_lt, none_not, C.G, hM.g_lt, g_none, hM.tabs⟩ (⟨xs39⟩ : Dawg) _ _ (hM.lendRow (k := 0) rfl) _ hz233) ?_)
  rintro _ w235 ⟨rfl, hM2, hv234⟩
  obtain ⟨hM, hx236⟩ := hM.backA hM2
  clear hM2
  refine ⟨_, rfl, fun a hf => ?_⟩
  refine gq (wanted_t hf rfl rfl rfl rfl hc230) hf rfl rfl (e_move hf rfl) fun a hf => ?_
  refine gq (wanted_t hf rfl rfl rfl rfl hc230) hf rfl rfl (e_neS hf (x := y232) (y := s1) rfl rfl) fun a hf => ?_
  refine q_ hf rfl rfl rfl (e_pick_f hf rfl hc230 rfl) fun a hf => ?_
  refine pl_nil ?_
  obtain rfl := some_inj h224
  refine then_n ?_
  exact ⟨(y232 != s1), rfl, hf.keep ⟨rfl, rfl, rfl, trivial⟩, hM.pick [0] rfl⟩
 rintro a w239 ⟨t221, rfl, hf, hM⟩
 try dsimp only at h
 rcases cond_some h with ⟨hc240, h⟩ | ⟨hc240, h⟩
 ·refine cond_t hf rfl hc240 ?_
  refine wp_seq ?_
  refine region_pl ?_
  refine q_ hf rfl rfl rfl (e_build hf Tryz.zeroValue31 Tryz.underlying31 (bp_31 _ Tryz.underlying31.symm) rfl (cs := #[vL none (([] : (List Node))) 0]) (by kernel_rfl)) fun a hf => ?_
  refine pl_0 hf rfl rfl (w_store hf hM (us := [vL none (([] : (List Node))) 0]) (cs' := [vL none (([] : (List Node))) 0]) rfl rfl (k := 3) rfl rfl Tryz.sizeOf31 rfl rfl rfl fun w241 hM => ?_)
  dsimp only [List.set] at hM
  refine q_ hf rfl rfl rfl (e_assign hf rfl) fun a hf => ?_
  refine pl_nil ?_
  refine then_n ?_
  refine wp_ret ?_
  refine then_r ?_
  obtain rfl := some_inj h
  have hres244 := leaveV2 (P := Tryz.prog) (w := w241) Tryz.results11 (res_agg hf rfl ⟨Tryz.isAgg31, Tryz.sizeOf31⟩ (us := [vL none (([] : (List Node))) 0]) rfl (hM.boxSub (k := 3) (o := 0) rfl rfl)) (res_tmp hf rfl)
  have hM := hM.nilRow NodeRep 47
  have hM := hM.outs (own' := [.row NodeRep none 0 47 ([] : (List Node)) true]) 1 rfl
  exact bodyPost_ret hres244 hf.defers ⟨none, 0, rfl, hM.fin⟩
 refine cond_f hf rfl hc240 ?_
 refine wp_skip ?_
 refine then_n ?_
 refine wp_seq ?_
 refine region_pl ?_
 refine q_ hf rfl rfl rfl (e_loadA hf (us := [vL A40 (xs39) c41]) rfl ⟨Tryz.isAgg31, Tryz.sizeOf31⟩ rfl (hM.boxSub (k := 2) (us := [vL A40 (xs39) c41]) (o := 0) rfl rfl)) fun a hf => ?_
 refine pl_0 hf rfl rfl (w_store hf hM (us := [vL A40 (xs39) c41]) (cs' := [vL A40 (xs39) c41]) rfl rfl (k := 3) rfl rfl Tryz.sizeOf31 rfl rfl rfl fun w245 hM => ?_)
 dsimp only [List.set] at hM
 refine q_ hf rfl rfl rfl (e_assign hf rfl) fun a hf => ?_
 refine pl_nil ?_
 refine then_n ?_
 refine wp_ret ?_
 obtain rfl := some_inj h
 have hres248 := leaveV2 (P := Tryz.prog) (w := w245) Tryz.results11 (res_agg hf rfl ⟨Tryz.isAgg31, Tryz.sizeOf31⟩ (us := [vL A40 (xs39) c41]) rfl (hM.boxSub (k := 3) (o := 0) rfl rfl)) (res_tmp hf rfl)
 have hM := hM.outs (own' := [.row NodeRep A40 c41 47 xs39 true]) 1 rfl
 exact bodyPost_ret hres248 hf.defers ⟨A40, c41, rfl, hM.fin⟩

set_option maxRecDepth 100000 in
set_option maxHeartbeats 4000000 in
theorem r_laws_a2Same (C : Cx) (a1 : (List Str)) (A2 : Option Addr) (c3 : Nat) (hp4 : (sliceRep strRep).R C.w0 C.S0 a1 [vL A2 a1 c3]) (b5 : (List Str)) (A6 : Option Addr) (c7 : Nat) (hp8 : (sliceRep strRep).R C.w0 C.S0 b5 [vL A6 b5 c7]) (r : Bool) (h : m_laws_a2Same a1 b5 = some r) :
    Calls Tryz.prog 13 #[vL A2 (a1) c3, vL A6 (b5) c7] C.w0 fun e w => e = .returned (.bool (r)) ∧ Mem C w [] [] := by
 have hM := Mem.begin C [.dat (sliceRep strRep) b5 [vL A6 b5 c7], .dat (sliceRep strRep) a1 [vL A2 a1 c3]] ⟨hp8, hp4, trivial⟩
 refine enter Tryz.func13 rfl Tryz.ntmps13 rfl fun a hf => ?_
 unfold m_laws_a2Same at h
 refine wp_seq ?_
 refine region_pl ?_
 refine q_ hf rfl rfl rfl (e_assign hf rfl) fun a hf => ?_
 refine pl_nil ?_
 refine then_n ?_
 iterate 2 refine wp_seq ?_
 refine region_pl ?_
 refine q_ hf rfl rfl rfl (e_move hf rfl) fun a hf => ?_
 have hl9 := slice_len (hM.dat (k := 1) rfl)
 refine q_ hf rfl rfl rfl (e_lenL hf (x := a1) rfl Tryz.underlying24) fun a hf => ?_
 refine q_ hf rfl rfl rfl (e_move hf rfl) fun a hf => ?_
 have hl10 := slice_len (hM.dat (k := 0) rfl)
 refine q_ hf rfl rfl rfl (e_lenL hf (x := b5) rfl Tryz.underlying24) fun a hf => ?_
 refine q_ hf rfl rfl rfl (e_ne hf (x := (a1.length : Int)) (y := (b5.length : Int)) rfl rfl) fun a hf => ?_
 refine pl_nil ?_
 refine then_n ?_
 rcases cond_some h with ⟨hc11, h⟩ | ⟨hc11, h⟩
 ·refine cond_t hf rfl hc11 ?_
  refine wp_seq ?_
  refine region_pl ?_
  refine q_ hf rfl rfl rfl (e_assign hf rfl) fun a hf => ?_
  refine pl_nil ?_
  refine then_n ?_
  refine wp_ret ?_
  refine then_r ?_
  obtain rfl := some_inj h
  exact leave1 hf rfl rfl ⟨rfl, hM.fin⟩
 refine cond_f hf rfl hc11 ?_
 refine wp_skip ?_
 refine then_n ?_
 obtain ⟨x12, h13, h⟩ := bind_some h
 refine seq_join (fun a w => (.inl ()) = x12 ∧ Has 26 a [] ∧ Mem C w [] [.dat (sliceRep strRep) b5 [vL A6 b5 c7], .dat (sliceRep strRep) a1 [vL A2 a1 c3]]) ?_ ?_
 ·refine wp_seq ?_
  refine region_pl ?_
  refine q_ hf rfl rfl rfl (e_assign hf rfl) fun a hf => ?_
  refine pl_nil ?_
  refine then_n ?_
  refine wp_block ?_
  obtain ⟨x17, h18, h13⟩ := bind_some h13
  refine wp_loopM h18 (fun s a w => ∃ (n14 : Int), n14 = s ∧ Has 26 a [(0, vL A2 (a1) c3), (1, vL A6 (b5) c7), (5, vI (n14))] ∧ Mem C w [] [.dat (sliceRep strRep) b5 [vL A6 b5 c7], .dat (sliceRep strRep) a1 [vL A2 a1 c3]] ∧ R64 n14) ?_ ?_
  ·exact ⟨0, rfl, hf.keep ⟨rfl, rfl, rfl, trivial⟩, hM.pick [0, 1] rfl, (R64_lit rfl)⟩
  rintro s o19 a w16 ⟨n14, rfl, hf, hM, hv15⟩ h20 hd21
  replace h20 : m_laws_a2Same_l1 a1 b5 n14 = some o19 := h20
  unfold m_laws_a2Same_l1 at h20
  iterate 2 refine wp_seq ?_
  refine region_pl ?_
  iterate 2 refine q_ hf rfl rfl rfl (e_move hf rfl) fun a hf => ?_
  have hl22 := slice_len (hM.dat (k := 1) rfl)
  refine q_ hf rfl rfl rfl (e_lenL hf (x := a1) rfl Tryz.underlying24) fun a hf => ?_
  refine q_ hf rfl rfl rfl (e_lt hf (x := n14) (y := (a1.length : Int)) rfl rfl) fun a hf => ?_
  refine pl_nil ?_
  refine then_n ?_
  rcases cond_some h20 with ⟨hc23, h20⟩ | ⟨hc23, h20⟩
  ·refine cond_t hf rfl hc23 ?_
   refine wp_skip ?_
   refine then_n ?_
   refine wp_seq ?_
   refine wp_block ?_
   refine wp_seq ?_
   obtain ⟨w24, hw⟩ : ∃ x, x = w16.drew := ⟨_, rfl⟩
   refine region_pi (.q 0 (.q 1 (.q 2 (.q 3 (.q 4 (.q 5 (.q 6 (.q 7 (.q 8 (.nil)))))))))) (Ext w24) rfl (by kernel_rfl) ?_
   have hM := hM.drew
   rw [← hw] at hM ⊢
   clear hw
   iterate 2 refine pi_q hf rfl rfl rfl rfl (Ext.refl _) (e_move hf rfl) fun a hf => ?_
   obtain ⟨e25, hz26, h20⟩ := bind_some h20
   obtain ⟨b30, o31, _, hA32, h27, h28, hr29, hM⟩ := hM.elem (hM.dat (k := 1) rfl) (n := 1) rfl hz26
   obtain ⟨rfl, hv33⟩ := hr29
   refine pi_q hf rfl rfl rfl rfl (Ext.refl _) (e_indexAddr (A := A2) (b := b30) (o := o31) (xs := a1) (i := n14) hf hA32 rfl rfl Tryz.underlying24 Tryz.sizeOf9 h27 h28) fun a hf => ?_
   refine pi_q hf rfl rfl rfl rfl (Ext.refl _) (e_load1 hf rfl Tryz.isAgg9 (hM.litCell (k := 0) (j := 0) rfl rfl rfl)) fun a hf => ?_
   iterate 2 refine pi_q hf rfl rfl rfl rfl (Ext.refl _) (e_move hf rfl) fun a hf => ?_
   obtain ⟨e34, hz35, h20⟩ := bind_some h20
   obtain ⟨b39, o40, _, hA41, h36, h37, hr38, hM⟩ := hM.elem (hM.dat (k := 1) rfl) (n := 1) rfl hz35
   obtain ⟨rfl, hv42⟩ := hr38
   refine pi_q hf rfl rfl rfl rfl (Ext.refl _) (e_indexAddr (A := A6) (b := b39) (o := o40) (xs := b5) (i := n14) hf hA41 rfl rfl Tryz.underlying24 Tryz.sizeOf9 h36 h37) fun a hf => ?_
   refine pi_q hf rfl rfl rfl rfl (Ext.refl _) (e_load1 hf rfl Tryz.isAgg9 (hM.litCell (k := 0) (j := 0) rfl rfl rfl)) fun a hf => ?_
   refine pi_q hf rfl rfl rfl rfl (Ext.refl _) (e_neS hf (x := e25) (y := e34) rfl rfl) fun a hf => ?_
   refine pi_nil ?_
   refine then_n ?_
   rcases cond_some h20 with ⟨hc43, h20⟩ | ⟨hc43, h20⟩
   ·refine cond_t hf rfl hc43 ?_
    refine wp_seq ?_
    refine region_pl ?_
    refine q_ hf rfl rfl rfl (e_assign hf rfl) fun a hf => ?_
    refine pl_nil ?_
    refine then_n ?_
    refine wp_ret ?_
    refine blk_r ?_
    refine then_r ?_
    obtain rfl := some_inj h20
    obtain rfl := hd21 _ rfl
    try dsimp only at h13
    refine then_r ?_
    refine blk_r ?_
    obtain rfl := some_inj h13
    try dsimp only at h
    refine then_r ?_
    obtain rfl := some_inj h
    exact leave1 hf rfl rfl ⟨rfl, hM.fin⟩
   refine cond_f hf rfl hc43 ?_
   refine wp_skip ?_
   refine blk_n ?_
   refine then_n ?_
   refine region_pl ?_
   refine q_ hf rfl rfl rfl (e_move hf rfl) fun a hf => ?_
   obtain ⟨z44, hz45, h20⟩ := bind_some h20
   refine q_ hf rfl rfl rfl (e_add hf rfl rfl hz45) fun a hf => ?_
   refine q_ hf rfl rfl rfl (e_assign hf rfl) fun a hf => ?_
   refine pl_nil ?_
   obtain rfl := some_inj h20
   refine then_n ⟨_, rfl, ?_⟩
   exact ⟨z44, rfl, hf.keep ⟨rfl, rfl, rfl, trivial⟩, hM.pick [2, 3] rfl, (chk_R hz45)⟩
  refine cond_f hf rfl hc23 ?_
  refine wp_exit ?_
  refine then_x ?_
  obtain rfl := some_inj h20
  obtain rfl := hd21 _ rfl
  try dsimp only at h13
  refine then_x ?_
  refine exit_hit ?_
  obtain rfl := some_inj h13
  refine then_n ?_
  exact ⟨rfl, hf.keep trivial, hM.pick [0, 1] rfl⟩
 rintro a w52 ⟨rfl, hf, hM⟩
 try dsimp only at h
 refine wp_seq ?_
 refine region_pl ?_
 refine q_ hf rfl rfl rfl (e_assign hf rfl) fun a hf => ?_
 refine pl_nil ?_
 refine then_n ?_
 refine wp_ret ?_
 obtain rfl := some_inj h
 exact leave1 hf rfl rfl ⟨rfl, hM.fin⟩

set_option maxRecDepth 100000 in
set_option maxHeartbeats 4000000 in
theorem r_spec_l05Same (C : Cx) (a1 : (List Str)) (A2 : Option Addr) (c3 : Nat) (hp4 : (sliceRep strRep).R C.w0 C.S0 a1 [vL A2 a1 c3]) (b5 : (List Str)) (A6 : Option Addr) (c7 : Nat) (hp8 : (sliceRep strRep).R C.w0 C.S0 b5 [vL A6 b5 c7]) (r : Bool) (h : m_spec_l05Same a1 b5 = some r) :
    Calls Tryz.prog 39 #[vL A2 (a1) c3, vL A6 (b5) c7] C.w0 fun e w => e = .returned (.bool (r)) ∧ Mem C w [] [] := by
 have hM := Mem.begin C [.dat (sliceRep strRep) b5 [vL A6 b5 c7], .dat (sliceRep strRep) a1 [vL A2 a1 c3]] ⟨hp8, hp4, trivial⟩
 refine enter Tryz.func39 rfl Tryz.ntmps39 rfl fun a hf => ?_
 unfold m_spec_l05Same at h
 refine wp_seq ?_
 refine region_pl ?_
 refine q_ hf rfl rfl rfl (e_assign hf rfl) fun a hf => ?_
 refine pl_nil ?_
 refine then_n ?_
 iterate 2 refine wp_seq ?_
 refine region_pl ?_
 refine q_ hf rfl rfl rfl (e_move hf rfl) fun a hf => ?_
 have hl9 := slice_len (hM.dat (k := 1) rfl)
 refine q_ hf rfl rfl rfl (e_lenL hf (x := a1) rfl Tryz.underlying24) fun a hf => ?_
 refine q_ hf rfl rfl rfl (e_move hf rfl) fun a hf => ?_
 have hl10 := slice_len (hM.dat (k := 0) rfl)
 refine q_ hf rfl rfl rfl (e_lenL hf (x := b5) rfl Tryz.underlying24) fun a hf => ?_
 refine q_ hf rfl rfl rfl (e_ne hf (x := (a1.length : Int)) (y := (b5.length : Int)) rfl rfl) fun a hf => ?_
 refine pl_nil ?_
 refine then_n ?_
 rcases cond_some h with ⟨hc11, h⟩ | ⟨hc11, h⟩
 ·refine cond_t hf rfl hc11 ?_
  refine wp_seq ?_
  refine region_pl ?_
  refine q_ hf rfl rfl rfl (e_assign hf rfl) fun a hf => ?_
  refine pl_nil ?_
  refine then_n ?_
  refine wp_ret ?_
  refine then_r ?_
  obtain rfl := some_inj h
  exact leave1 hf rfl rfl ⟨rfl, hM.fin⟩
 refine cond_f hf rfl hc11 ?_
 refine wp_skip ?_
 refine then_n ?_
 obtain ⟨x12, h13, h⟩ := bind_some h
 refine seq_join (fun a w => (.inl ()) = x12 ∧ Has 26 a [] ∧ Mem C w [] [.dat (sliceRep strRep) b5 [vL A6 b5 c7], .dat (sliceRep strRep) a1 [vL A2 a1 c3]]) ?_ ?_
 ·refine wp_seq ?_
  refine region_pl ?_
  refine q_ hf rfl rfl rfl (e_assign hf rfl) fun a hf => ?_
  refine pl_nil ?_
  refine then_n ?_
  refine wp_block ?_
  obtain ⟨x17, h18, h13⟩ := bind_some h13
  refine wp_loopM h18 (fun s a w => ∃ (n14 : Int), n14 = s ∧ Has 26 a [(0, vL A2 (a1) c3), (1, vL A6 (b5) c7), (5, vI (n14))] ∧ Mem C w [] [.dat (sliceRep strRep) b5 [vL A6 b5 c7], .dat (sliceRep strRep) a1 [vL A2 a1 c3]] ∧ R64 n14) ?_ ?_
  ·exact ⟨0, rfl, hf.keep ⟨rfl, rfl, rfl, trivial⟩, hM.pick [0, 1] rfl, (R64_lit rfl)⟩
  rintro s o19 a w16 ⟨n14, rfl, hf, hM, hv15⟩ h20 hd21
  replace h20 : m_spec_l05Same_l1 a1 b5 n14 = some o19 := h20
  unfold m_spec_l05Same_l1 at h20
  iterate 2 refine wp_seq ?_
  refine region_pl ?_
  iterate 2 refine q_ hf rfl rfl rfl (e_move hf rfl) fun a hf => ?_
  have hl22 := slice_len (hM.dat (k := 1) rfl)
  refine q_ hf rfl rfl rfl (e_lenL hf (x := a1) rfl Tryz.underlying24) fun a hf => ?_
  refine q_ hf rfl rfl rfl (e_lt hf (x := n14) (y := (a1.length : Int)) rfl rfl) fun a hf => ?_
  refine pl_nil ?_
  refine then_n ?_
  rcases cond_some h20 with ⟨hc23, h20⟩ | ⟨hc23, h20⟩
  ·refine cond_t hf rfl hc23 ?_
   refine wp_skip ?_
   refine then_n ?_
   refine wp_seq ?_
   refine wp_block ?_
   refine wp_seq ?_
   obtain ⟨w24, hw⟩ : ∃ x, x = w16.drew := ⟨_, rfl⟩
   refine region_pi (.q 0 (.q 1 (.q 2 (.q 3 (.q 4 (.q 5 (.q 6 (.q 7 (.q 8 (.nil)))))))))) (Ext w24) rfl (by kernel_rfl) ?_
   have hM := hM.drew
   rw [← hw] at hM ⊢
   clear hw
   iterate 2 refine pi_q hf rfl rfl rfl rfl (Ext.refl _) (e_move hf rfl) fun a hf => ?_
   obtain ⟨e25, hz26, h20⟩ := bind_some h20
   obtain ⟨b30, o31, _, hA32, h27, h28, hr29, hM⟩ := hM.elem (hM.dat (k := 1) rfl) (n := 1) rfl hz26
   obtain ⟨rfl, hv33⟩ := hr29
   refine pi_q hf rfl rfl rfl rfl (Ext.refl _) (e_indexAddr (A := A2) (b := b30) (o := o31) (xs := a1) (i := n14) hf hA32 rfl rfl Tryz.underlying24 Tryz.sizeOf9 h27 h28) fun a hf => ?_
   refine pi_q hf rfl rfl rfl rfl (Ext.refl _) (e_load1 hf rfl Tryz.isAgg9 (hM.litCell (k := 0) (j := 0) rfl rfl rfl)) fun a hf => ?_
   iterate 2 refine pi_q hf rfl rfl rfl rfl (Ext.refl _) (e_move hf rfl) fun a hf => ?_
   obtain ⟨e34, hz35, h20⟩ := bind_some h20
   obtain ⟨b39, o40, _, hA41, h36, h37, hr38, hM⟩ := hM.elem (hM.dat (k := 1) rfl) (n := 1) rfl hz35
   obtain ⟨rfl, hv42⟩ := hr38
   refine pi_q hf rfl rfl rfl rfl (Ext.refl _) (e_indexAddr (A := A6) (b := b39) (o := o40) (xs := b5) (i := n14) hf hA41 rfl rfl Tryz.underlying24 Tryz.sizeOf9 h36 h37) fun a hf => ?_
   refine pi_q hf rfl rfl rfl rfl (Ext.refl _) (e_load1 hf rfl Tryz.isAgg9 (hM.litCell (k := 0) (j := 0) rfl rfl rfl)) fun a hf => ?_
   refine pi_q hf rfl rfl rfl rfl (Ext.refl _) (e_neS hf (x := e25) (y := e34) rfl rfl) fun a hf => ?_
   refine pi_nil ?_
   refine then_n ?_
   rcases cond_some h20 with ⟨hc43, h20⟩ | ⟨hc43, h20⟩
   ·refine cond_t hf rfl hc43 ?_
    refine wp_seq ?_
    refine region_pl ?_
    refine q_ hf rfl rfl rfl (e_assign hf rfl) fun a hf => ?_
    refine pl_nil ?_
    refine then_n ?_
    refine wp_ret ?_
    refine blk_r ?_
    refine then_r ?_
    obtain rfl := some_inj h20
    obtain rfl := hd21 _ rfl
    try dsimp only at h13
    refine then_r ?_
    refine blk_r ?_
    obtain rfl := some_inj h13
    try dsimp only at h
    refine then_r ?_
    obtain rfl := some_inj h
    exact leave1 hf rfl rfl ⟨rfl, hM.fin⟩
   refine cond_f hf rfl hc43 ?_
   refine wp_skip ?_
   refine blk_n ?_
   refine then_n ?_
   refine region_pl ?_
   refine q_ hf rfl rfl rfl (e_move hf rfl) fun a hf => ?_
   obtain ⟨z44, hz45, h20⟩ := bind_some h20
   refine q_ hf rfl rfl rfl (e_add hf rfl rfl hz45) fun a hf => ?_
   refine q_ hf rfl rfl rfl (e_assign hf rfl) fun a hf => ?_
   refine pl_nil ?_
   obtain rfl := some_inj h20
   refine then_n ⟨_, rfl, ?_⟩
   exact ⟨z44, rfl, hf.keep ⟨rfl, rfl, rfl, trivial⟩, hM.pick [2, 3] rfl, (chk_R hz45)⟩
  refine cond_f hf rfl hc23 ?_
  refine wp_exit ?_
  refine then_x ?_
  obtain rfl := some_inj h20
  obtain rfl := hd21 _ rfl
  try dsimp only at h13
  refine then_x ?_
  refine exit_hit ?_
  obtain rfl := some_inj h13
  refine then_n ?_
  exact ⟨rfl, hf.keep trivial, hM.pick [0, 1] rfl⟩
 rintro a w52 ⟨rfl, hf, hM⟩
 try dsimp only at h
 refine wp_seq ?_
 refine region_pl ?_
 refine q_ hf rfl rfl rfl (e_assign hf rfl) fun a hf => ?_
 refine pl_nil ?_
 refine then_n ?_
 refine wp_ret ?_
 obtain rfl := some_inj h
 exact leave1 hf rfl rfl ⟨rfl, hM.fin⟩

set_option maxRecDepth 100000 in
set_option maxHeartbeats 4000000 in
theorem r_spec_SameLexicon (C : Cx) (a1 : Lexicon) (A2 : Option Addr) (c3 : Nat) (hp4 : (sliceRep strRep).R C.w0 C.S0 a1.Words [vL A2 a1.Words c3]) (b5 : Lexicon) (A6 : Option Addr) (c7 : Nat) (hp8 : (sliceRep strRep).R C.w0 C.S0 b5.Words [vL A6 b5.Words c7]) (r : Bool) (h : m_spec_SameLexicon a1 b5 = some r) :
    Calls Tryz.prog 14 #[.agg #[vL A2 (a1.Words) c3], .agg #[vL A6 (b5.Words) c7]] C.w0 fun e w => e = .returned (.bool (r)) ∧ Mem C w [] [] := by
 have hM := Mem.begin C [.dat (sliceRep strRep) b5.Words [vL A6 b5.Words c7], .dat (sliceRep strRep) a1.Words [vL A2 a1.Words c3]] ⟨hp8, hp4, trivial⟩
 refine enter Tryz.func14 rfl Tryz.ntmps14 rfl fun a hf => ?_
 unfold m_spec_SameLexicon at h
 refine wp_seq ?_
 refine region_pl ?_
 refine pl_l hf rfl rfl rfl (w_box hf hM (cs := [vL A2 (a1.Words) c3]) rfl rfl fun b9 w10 hx11 hM a hf => ?_)
 refine pl_l hf rfl rfl rfl (w_box hf hM (cs := [vL A6 (b5.Words) c7]) rfl rfl fun b13 w14 hx15 hM a hf => ?_)
 refine q_ hf rfl rfl rfl (e_assign hf rfl) fun a hf => ?_
 refine pl_nil ?_
 refine then_n ?_
 refine wp_seq ?_
 refine region_pl ?_
 refine q_ hf rfl rfl rfl (e_field hf rfl Tryz.underlying26 rfl Tryz.sizeOf24 (o' := 0) rfl) fun a hf => ?_
 refine q_ hf rfl rfl rfl (e_load1 hf rfl Tryz.isAgg24 (hM.boxCell (k := 1) rfl rfl)) fun a hf => ?_
 refine q_ hf rfl rfl rfl (e_field hf rfl Tryz.underlying26 rfl Tryz.sizeOf24 (o' := 0) rfl) fun a hf => ?_
 refine q_ hf rfl rfl rfl (e_load1 hf rfl Tryz.isAgg24 (hM.boxCell (k := 0) rfl rfl)) fun a hf => ?_
 obtain ⟨y17, hz18, h⟩ := bind_some h
 refine pl_l hf rfl rfl rfl (w_call hf Tryz.call39 rfl (r_spec_l05Same ⟨_, Sh C _ _, none_, hM.sh_lt, none_not, C.G, hM.g_lt, g_none, hM.tabs⟩ a1.Words _ _ (hM.dat (k := 1) rfl) b5.Words _ _ (hM.dat (k := 0) rfl) _ hz18) ?_)
 rintro _ w19 ⟨rfl, hM2⟩
 obtain ⟨hM, hx20, hup21⟩ := hM.back hM2
 dsimp only [List.cons_append, List.nil_append] at hM hup21
 clear hM2
 refine ⟨_, rfl, fun a hf => ?_⟩
 refine q_ hf rfl rfl rfl (e_assign hf rfl) fun a hf => ?_
 refine pl_nil ?_
 refine then_n ?_
 refine wp_ret ?_
 obtain rfl := some_inj h
 have hM := hM.outs (own' := []) 0 rfl
 exact leave1 hf rfl rfl ⟨rfl, hM.fin⟩

set_option maxRecDepth 100000 in
set_option maxHeartbeats 4000000 in
theorem r_spec_l00Same (C : Cx) (a1 : (List Int)) (A2 : Option Addr) (c3 : Nat) (hp4 : (sliceRep intRep).R C.w0 C.S0 a1 [vL A2 a1 c3]) (b5 : (List Int)) (A6 : Option Addr) (c7 : Nat) (hp8 : (sliceRep intRep).R C.w0 C.S0 b5 [vL A6 b5 c7]) (r : Bool) (h : m_spec_l00Same a1 b5 = some r) :
    Calls Tryz.prog 99 #[vL A2 (a1) c3, vL A6 (b5) c7] C.w0 fun e w => e = .returned (.bool (r)) ∧ Mem C w [] [] := by
 have hM := Mem.begin C [.dat (sliceRep intRep) b5 [vL A6 b5 c7], .dat (sliceRep intRep) a1 [vL A2 a1 c3]] ⟨hp8, hp4, trivial⟩
 refine enter Tryz.func99 rfl Tryz.ntmps99 rfl fun a hf => ?_
 unfold m_spec_l00Same at h
 refine wp_seq ?_
 refine region_pl ?_
 refine q_ hf rfl rfl rfl (e_assign hf rfl) fun a hf => ?_
 refine pl_nil ?_
 refine then_n ?_
 iterate 2 refine wp_seq ?_
 refine region_pl ?_
 refine q_ hf rfl rfl rfl (e_move hf rfl) fun a hf => ?_
 have hl9 := slice_len (hM.dat (k := 1) rfl)
 refine q_ hf rfl rfl rfl (e_lenL hf (x := a1) rfl Tryz.underlying45) fun a hf => ?_
 refine q_ hf rfl rfl rfl (e_move hf rfl) fun a hf => ?_
 have hl10 := slice_len (hM.dat (k := 0) rfl)
 refine q_ hf rfl rfl rfl (e_lenL hf (x := b5) rfl Tryz.underlying45) fun a hf => ?_
 refine q_ hf rfl rfl rfl (e_ne hf (x := (a1.length : Int)) (y := (b5.length : Int)) rfl rfl) fun a hf => ?_
 refine pl_nil ?_
 refine then_n ?_
 rcases cond_some h with ⟨hc11, h⟩ | ⟨hc11, h⟩
 ·refine cond_t hf rfl hc11 ?_
  refine wp_seq ?_
  refine region_pl ?_
  refine q_ hf rfl rfl rfl (e_assign hf rfl) fun a hf => ?_
  refine pl_nil ?_
  refine then_n ?_
  refine wp_ret ?_
  refine then_r ?_
  obtain rfl := some_inj h
  exact leave1 hf rfl rfl ⟨rfl, hM.fin⟩
 refine cond_f hf rfl hc11 ?_
 refine wp_skip ?_
 refine then_n ?_
 obtain ⟨x12, h13, h⟩ := bind_some h
 refine seq_join (fun a w => (.inl ()) = x12 ∧ Has 26 a [] ∧ Mem C w [] [.dat (sliceRep intRep) b5 [vL A6 b5 c7], .dat (sliceRep intRep) a1 [vL A2 a1 c3]]) ?_ ?_
 ·refine wp_seq ?_
  refine region_pl ?_
  refine q_ hf rfl rfl rfl (e_assign hf rfl) fun a hf => ?_
  refine pl_nil ?_
  refine then_n ?_
  refine wp_block ?_
  obtain ⟨x17, h18, h13⟩ := bind_some h13
  refine wp_loopM h18 (fun s a w => ∃ (n14 : Int), n14 = s ∧ Has 26 a [(0, vL A2 (a1) c3), (1, vL A6 (b5) c7), (5, vI (n14))] ∧ Mem C w [] [.dat (sliceRep intRep) b5 [vL A6 b5 c7], .dat (sliceRep intRep) a1 [vL A2 a1 c3]] ∧ R64 n14) ?_ ?_
  ·exact ⟨0, rfl, hf.keep ⟨rfl, rfl, rfl, trivial⟩, hM.pick [0, 1] rfl, (R64_lit rfl)⟩
  rintro s o19 a w16 ⟨n14, rfl, hf, hM, hv15⟩ h20 hd21
  replace h20 : m_spec_l00Same_l1 a1 b5 n14 = some o19 := h20
  unfold m_spec_l00Same_l1 at h20
  iterate 2 refine wp_seq ?_
  refine region_pl ?_
  iterate 2 refine q_ hf rfl rfl rfl (e_move hf rfl) fun a hf => ?_
  have hl22 := slice_len (hM.dat (k := 1) rfl)
  refine q_ hf rfl rfl rfl (e_lenL hf (x := a1) rfl Tryz.underlying45) fun a hf => ?_
  refine q_ hf rfl rfl rfl (e_lt hf (x := n14) (y := (a1.length : Int)) rfl rfl) fun a hf => ?_
  refine pl_nil ?_
  refine then_n ?_
  rcases cond_some h20 with ⟨hc23, h20⟩ | ⟨hc23, h20⟩
  ·refine cond_t hf rfl hc23 ?_
   refine wp_skip ?_
   refine then_n ?_
   refine wp_seq ?_
   refine wp_block ?_
   refine wp_seq ?_
   obtain ⟨w24, hw⟩ : ∃ x, x = w16.drew := ⟨_, rfl⟩
   refine region_pi (.q 0 (.q 1 (.q 2 (.q 3 (.q 4 (.q 5 (.q 6 (.q 7 (.q 8 (.nil)))))))))) (Ext w24) rfl (by kernel_rfl) ?_
   have hM := hM.drew
   rw [← hw] at hM ⊢
   clear hw
   iterate 2 refine pi_q hf rfl rfl rfl rfl (Ext.refl _) (e_move hf rfl) fun a hf => ?_
   obtain ⟨e25, hz26, h20⟩ := bind_some h20
   obtain ⟨b30, o31, _, hA32, h27, h28, hr29, hM⟩ := hM.elem (hM.dat (k := 1) rfl) (n := 1) rfl hz26
   obtain ⟨rfl, hv33⟩ := hr29
   refine pi_q hf rfl rfl rfl rfl (Ext.refl _) (e_indexAddr (A := A2) (b := b30) (o := o31) (xs := a1) (i := n14) hf hA32 rfl rfl Tryz.underlying45 Tryz.sizeOf2 h27 h28) fun a hf => ?_
   refine pi_q hf rfl rfl rfl rfl (Ext.refl _) (e_load1 hf rfl Tryz.isAgg2 (hM.litCell (k := 0) (j := 0) rfl rfl rfl)) fun a hf => ?_
   iterate 2 refine pi_q hf rfl rfl rfl rfl (Ext.refl _) (e_move hf rfl) fun a hf => ?_
   obtain ⟨e34, hz35, h20⟩ := bind_some h20
   obtain ⟨b39, o40, _, hA41, h36, h37, hr38, hM⟩ := hM.elem (hM.dat (k := 1) rfl) (n := 1) rfl hz35
   obtain ⟨rfl, hv42⟩ := hr38
   refine pi_q hf rfl rfl rfl rfl (Ext.refl _) (e_indexAddr (A := A6) (b := b39) (o := o40) (xs := b5) (i := n14) hf hA41 rfl rfl Tryz.underlying45 Tryz.sizeOf2 h36 h37) fun a hf => ?_
   refine pi_q hf rfl rfl rfl rfl (Ext.refl _) (e_load1 hf rfl Tryz.isAgg2 (hM.litCell (k := 0) (j := 0) rfl rfl rfl)) fun a hf => ?_
   refine pi_q hf rfl rfl rfl rfl (Ext.refl _) (e_ne hf (x := e25) (y := e34) rfl rfl) fun a hf => ?_
   refine pi_nil ?_
   refine then_n ?_
   rcases cond_some h20 with ⟨hc43, h20⟩ | ⟨hc43, h20⟩
   ·refine cond_t hf rfl hc43 ?_
    refine wp_seq ?_
    refine region_pl ?_
    refine q_ hf rfl rfl rfl (e_assign hf rfl) fun a hf => ?_
    refine pl_nil ?_
    refine then_n ?_
    refine wp_ret ?_
    refine blk_r ?_
    refine then_r ?_
    obtain rfl := some_inj h20
    obtain rfl := hd21 _ rfl
    try dsimp only at h13
    refine then_r ?_
    refine blk_r ?_
    obtain rfl := some_inj h13
    try dsimp only at h
    refine then_r ?_
    obtain rfl := some_inj h
    exact leave1 hf rfl rfl ⟨rfl, hM.fin⟩
   refine cond_f hf rfl hc43 ?_
   refine wp_skip ?_
   refine blk_n ?_
   refine then_n ?_
   refine region_pl ?_
   refine q_ hf rfl rfl rfl (e_move hf rfl) fun a hf => ?_
   obtain ⟨z44, hz45, h20⟩ := bind_some h20
   refine q_ hf rfl rfl rfl (e_add hf rfl rfl hz45) fun a hf => ?_
   refine q_ hf rfl rfl rfl (e_assign hf rfl) fun a hf => ?_
   refine pl_nil ?_
   obtain rfl := some_inj h20
   refine then_n ⟨_, rfl, ?_⟩
   exact ⟨z44, rfl, hf.keep ⟨rfl, rfl, rfl, trivial⟩, hM.pick [2, 3] rfl, (chk_R hz45)⟩
  refine cond_f hf rfl hc23 ?_
  refine wp_exit ?_
  refine then_x ?_
  obtain rfl := some_inj h20
  obtain rfl := hd21 _ rfl
  try dsimp only at h13
  refine then_x ?_
  refine exit_hit ?_
  obtain rfl := some_inj h13
  refine then_n ?_
  exact ⟨rfl, hf.keep trivial, hM.pick [0, 1] rfl⟩
 rintro a w52 ⟨rfl, hf, hM⟩
 try dsimp only at h
 refine wp_seq ?_
 refine region_pl ?_
 refine q_ hf rfl rfl rfl (e_assign hf rfl) fun a hf => ?_
 refine pl_nil ?_
 refine then_n ?_
 refine wp_ret ?_
 obtain rfl := some_inj h
 exact leave1 hf rfl rfl ⟨rfl, hM.fin⟩

set_option maxRecDepth 100000 in
set_option maxHeartbeats 4000000 in
theorem r_spec_l06Equal (C : Cx) (a1 : Node) (b2 : Nat) (o3 : Nat) (hp4 : (ptrRep NodeRep).R C.w0 C.S0 a1 [vP b2 o3]) (b5 : Node) (b6 : Nat) (o7 : Nat) (hp8 : (ptrRep NodeRep).R C.w0 C.S0 b5 [vP b6 o7]) (r : Bool) (h : m_spec_l06Equal a1 b5 = some r) :
    Calls Tryz.prog 68 #[vP b2 (o3), vP b6 (o7)] C.w0 fun e w => e = .returned (.bool (r)) ∧ Mem C w [] [] := by
 have hM := Mem.begin C [.dat (ptrRep NodeRep) b5 [vP b6 o7], .dat (ptrRep NodeRep) a1 [vP b2 o3]] ⟨hp8, hp4, trivial⟩
 refine enter Tryz.func68 rfl Tryz.ntmps68 rfl fun a hf => ?_
 unfold m_spec_l06Equal at h
 refine wp_seq ?_
 refine region_pl ?_
 refine q_ hf rfl rfl rfl (e_assign hf rfl) fun a hf => ?_
 refine pl_nil ?_
 refine then_n ?_
 obtain ⟨x11, h12, h⟩ := bind_some h
 refine seq_join (fun a w => ∃ (t9 : Bool), t9 = x11 ∧ Has 36 a [(4, .bool (t9))] ∧ Mem C w [] [.dat (ptrRep NodeRep) b5 [vP b6 o7], .dat (ptrRep NodeRep) a1 [vP b2 o3]]) ?_ ?_
 ·obtain ⟨w13, hw⟩ : ∃ x, x = C.w0.drew := ⟨_, rfl⟩
  refine region_pi (.q 0 (.q 1 (.q 2 (.q 3 (.q 4 (.q 5 (.q 6 (.q 7 (.q 8 (.q 9 (.q 10 (.q 11 (.q 12 (.q 13 (.q 14 (.q 15 (.q 16 (.q 17 (.q 18 (.q 19 (.q 20 (.q 21 (.q 22 (.q 23 (.q 24 (.q 25 (.q 26 (.q 27 (.q 28 (.l 29 (.q 30 (.q 31 (.nil))))))))))))))))))))))))))))))))) (Ext w13) rfl (by kernel_rfl) ?_
  have hM := hM.drew
  rw [← hw] at hM ⊢
  clear hw
  refine pi_q hf rfl rfl rfl rfl (Ext.refl _) (e_move hf rfl) fun a hf => ?_
  refine pi_q hf rfl rfl rfl rfl (Ext.refl _) (e_nil hf rfl) fun a hf => ?_
  obtain ⟨_, hr14, hM⟩ := hM.deref (hM.dat (k := 1) rfl)
  obtain ⟨A16, c17, rfl, hv15, hv18⟩ := NodeRep_open hr14
  have hM := hM.add (y := .dat (sliceRep intRep) a1.Next [vL A16 a1.Next c17]) hv18
  refine pi_q hf rfl rfl rfl rfl (Ext.refl _) (e_field hf rfl Tryz.underlying47 rfl Tryz.sizeOf4 (o' := o3 + 0) rfl) fun a hf => ?_
  refine pi_q hf rfl rfl rfl rfl (Ext.refl _) (e_load1 hf rfl Tryz.isAgg4 (hM.litCell (k := 1) (j := 0) rfl rfl rfl)) fun a hf => ?_
  refine pi_q hf rfl rfl rfl rfl (Ext.refl _) (e_move hf rfl) fun a hf => ?_
  refine pi_q hf rfl rfl rfl rfl (Ext.refl _) (e_nil hf rfl) fun a hf => ?_
  obtain ⟨_, hr19, hM⟩ := hM.deref (hM.dat (k := 2) rfl)
  obtain ⟨A21, c22, rfl, hv20, hv23⟩ := NodeRep_open hr19
  have hM := hM.add (y := .dat (sliceRep intRep) b5.Next [vL A21 b5.Next c22]) hv23
  refine pi_q hf rfl rfl rfl rfl (Ext.refl _) (e_field hf rfl Tryz.underlying47 rfl Tryz.sizeOf4 (o' := o7 + 0) rfl) fun a hf => ?_
  refine pi_q hf rfl rfl rfl rfl (Ext.refl _) (e_load1 hf rfl Tryz.isAgg4 (hM.litCell (k := 1) (j := 0) rfl rfl rfl)) fun a hf => ?_
  refine pi_q hf rfl rfl rfl rfl (Ext.refl _) (e_eqT hf rfl rfl Tryz.underlying4) fun a hf => ?_
  refine pi_q hf rfl rfl rfl rfl (Ext.refl _) (e_move hf rfl) fun a hf => ?_
  rcases cond_some h12 with ⟨hc24, h12⟩ | ⟨hc24, h12⟩
  ·refine pi_gq hf rfl (wanted_t hf rfl rfl rfl rfl hc24) rfl rfl (Ext.refl _) (e_move hf rfl) fun a hf => ?_
   refine pi_gq hf rfl (wanted_t hf rfl rfl rfl rfl hc24) rfl rfl (Ext.refl _) (e_nil hf rfl) fun a hf => ?_
   refine pi_gq hf rfl (wanted_t hf rfl rfl rfl rfl hc24) rfl rfl (Ext.refl _) (e_field hf rfl Tryz.underlying47 rfl Tryz.sizeOf9 (o' := o3 + 1) rfl) fun a hf => ?_
   refine pi_gq hf rfl (wanted_t hf rfl rfl rfl rfl hc24) rfl rfl (Ext.refl _) (e_load1 hf rfl Tryz.isAgg9 (hM.litCell (k := 3) (j := 1) rfl rfl rfl)) fun a hf => ?_
   refine pi_gq hf rfl (wanted_t hf rfl rfl rfl rfl hc24) rfl rfl (Ext.refl _) (e_move hf rfl) fun a hf => ?_
   refine pi_gq hf rfl (wanted_t hf rfl rfl rfl rfl hc24) rfl rfl (Ext.refl _) (e_nil hf rfl) fun a hf => ?_
   refine pi_gq hf rfl (wanted_t hf rfl rfl rfl rfl hc24) rfl rfl (Ext.refl _) (e_field hf rfl Tryz.underlying47 rfl Tryz.sizeOf9 (o' := o7 + 1) rfl) fun a hf => ?_
   refine pi_gq hf rfl (wanted_t hf rfl rfl rfl rfl hc24) rfl rfl (Ext.refl _) (e_load1 hf rfl Tryz.isAgg9 (hM.litCell (k := 1) (j := 1) rfl rfl rfl)) fun a hf => ?_
   refine pi_gq hf rfl (wanted_t hf rfl rfl rfl rfl hc24) rfl rfl (Ext.refl _) (e_eqS hf (x := a1.Letters) (y := b5.Letters) rfl rfl) fun a hf => ?_
   refine pi_q hf rfl rfl rfl rfl (Ext.refl _) (e_pick_t hf rfl hc24 rfl) fun a hf => ?_
   refine pi_q hf rfl rfl rfl rfl (Ext.refl _) (e_move hf rfl) fun a hf => ?_
   rcases cond_some h12 with ⟨hc25, h12⟩ | ⟨hc25, h12⟩
   ·refine pi_gq hf rfl (wanted_t hf rfl rfl rfl rfl hc25) rfl rfl (Ext.refl _) (e_move hf rfl) fun a hf => ?_
    refine pi_gq hf rfl (wanted_t hf rfl rfl rfl rfl hc25) rfl rfl (Ext.refl _) (e_nil hf rfl) fun a hf => ?_
    refine pi_gq hf rfl (wanted_t hf rfl rfl rfl rfl hc25) rfl rfl (Ext.refl _) (e_field hf rfl Tryz.underlying47 rfl Tryz.sizeOf45 (o' := o3 + 2) rfl) fun a hf => ?_
    refine pi_gq hf rfl (wanted_t hf rfl rfl rfl rfl hc25) rfl rfl (Ext.refl _) (e_load1 hf rfl Tryz.isAgg45 (hM.litCell (k := 3) (j := 2) rfl rfl rfl)) fun a hf => ?_
    refine pi_gq hf rfl (wanted_t hf rfl rfl rfl rfl hc25) rfl rfl (Ext.refl _) (e_move hf rfl) fun a hf => ?_
    refine pi_gq hf rfl (wanted_t hf rfl rfl rfl rfl hc25) rfl rfl (Ext.refl _) (e_nil hf rfl) fun a hf => ?_
    refine pi_gq hf rfl (wanted_t hf rfl rfl rfl rfl hc25) rfl rfl (Ext.refl _) (e_field hf rfl Tryz.underlying47 rfl Tryz.sizeOf45 (o' := o7 + 2) rfl) fun a hf => ?_
    refine pi_gq hf rfl (wanted_t hf rfl rfl rfl rfl hc25) rfl rfl (Ext.refl _) (e_load1 hf rfl Tryz.isAgg45 (hM.litCell (k := 1) (j := 2) rfl rfl rfl)) fun a hf => ?_
    refine pi_one ?_
    obtain ⟨y26, hz27, h12⟩ := bind_some h12
    refine pi_gl hf rfl (wanted_t hf rfl rfl rfl rfl hc25) rfl rfl (w_call hf Tryz.call99 rfl (r_spec_l00Same ⟨_, Sh C _ _, none_, hM.sh_lt, none_not, C.G, hM.g_lt, g_none, hM.tabs⟩ a1.Next _ _ (hM.dat (k := 2) rfl) b5.Next _ _ (hM.dat (k := 0) rfl) _ hz27) ?_)
    rintro _ w28 ⟨rfl, hM2⟩
    obtain ⟨hM, hx29, hup30⟩ := hM.back hM2
    dsimp only [List.cons_append, List.nil_append] at hM hup30
    clear hM2
    refine ⟨_, rfl, Ext w28, fun _ h => Ext.trans hx29 h, Ext.refl _, fun a hf => ?_⟩
    refine pi_q hf rfl rfl rfl rfl (Ext.refl _) (e_pick_t hf rfl hc25 rfl) fun a hf => ?_
    refine pi_q hf rfl rfl rfl rfl (Ext.refl _) (e_assign hf rfl) fun a hf => ?_
    refine pi_nil ?_
    obtain rfl := some_inj h12
    refine then_n ?_
    exact ⟨y26, rfl, hf.keep ⟨rfl, trivial⟩, hM.pick [4, 5] rfl⟩
   iterate 8 refine pi_gs hf rfl (wanted_f hf rfl rfl rfl rfl hc25) rfl rfl (Ext.refl _) fun a hf => ?_
   refine pi_one ?_
   refine pi_ls hf rfl (wanted_f hf rfl rfl rfl rfl hc25) rfl rfl (Ext.refl _) fun a hf => ?_
   refine pi_q hf rfl rfl rfl rfl (Ext.refl _) (e_pick_f hf rfl hc25 rfl) fun a hf => ?_
   refine pi_q hf rfl rfl rfl rfl (Ext.refl _) (e_assign hf rfl) fun a hf => ?_
   refine pi_nil ?_
   obtain rfl := some_inj h12
   refine then_n ?_
   exact ⟨false, rfl, hf.keep ⟨rfl, trivial⟩, hM.pick [4, 5] rfl⟩
  iterate 9 refine pi_gs hf rfl (wanted_f hf rfl rfl rfl rfl hc24) rfl rfl (Ext.refl _) fun a hf => ?_
  refine pi_q hf rfl rfl rfl rfl (Ext.refl _) (e_pick_f hf rfl hc24 rfl) fun a hf => ?_
  refine pi_q hf rfl rfl rfl rfl (Ext.refl _) (e_move hf rfl) fun a hf => ?_
  iterate 8 refine pi_gs hf rfl (wanted_f hf rfl rfl rfl rfl rfl) rfl rfl (Ext.refl _) fun a hf => ?_
  refine pi_one ?_
  refine pi_ls hf rfl (wanted_f hf rfl rfl rfl rfl rfl) rfl rfl (Ext.refl _) fun a hf => ?_
  refine pi_q hf rfl rfl rfl rfl (Ext.refl _) (e_pick_f hf rfl rfl rfl) fun a hf => ?_
  refine pi_q hf rfl rfl rfl rfl (Ext.refl _) (e_assign hf rfl) fun a hf => ?_
  refine pi_nil ?_
  obtain rfl := some_inj h12
  refine then_n ?_
  exact ⟨false, rfl, hf.keep ⟨rfl, trivial⟩, hM.pick [4, 5] rfl⟩
 rintro a w34 ⟨t9, rfl, hf, hM⟩
 try dsimp only at h
 refine wp_ret ?_
 obtain rfl := some_inj h
 exact leave1 hf rfl rfl ⟨rfl, hM.fin⟩

set_option maxRecDepth 100000 in
set_option maxHeartbeats 4000000 in
theorem r_spec_l06Same (C : Cx) (a1 : Dawg) (b2 : Nat) (o3 : Nat) (hp4 : (ptrRep DawgRep).R C.w0 C.S0 a1 [vP b2 o3]) (b5 : Dawg) (b6 : Nat) (o7 : Nat) (hp8 : (ptrRep DawgRep).R C.w0 C.S0 b5 [vP b6 o7]) (r : Bool) (h : m_spec_l06Same a1 b5 = some r) :
    Calls Tryz.prog 40 #[vP b2 (o3), vP b6 (o7)] C.w0 fun e w => e = .returned (.bool (r)) ∧ Mem C w [] [] := by
 have hM := Mem.begin C [.dat (ptrRep DawgRep) b5 [vP b6 o7], .dat (ptrRep DawgRep) a1 [vP b2 o3]] ⟨hp8, hp4, trivial⟩
 refine enter Tryz.func40 rfl Tryz.ntmps40 rfl fun a hf => ?_
 unfold m_spec_l06Same at h
 refine wp_seq ?_
 refine region_pl ?_
 refine q_ hf rfl rfl rfl (e_assign hf rfl) fun a hf => ?_
 refine pl_nil ?_
 refine then_n ?_
 iterate 2 refine wp_seq ?_
 obtain ⟨w9, hw⟩ : ∃ x, x = C.w0.drew := ⟨_, rfl⟩
 refine region_pi (.q 0 (.q 1 (.q 2 (.q 3 (.q 4 (.q 5 (.q 6 (.q 7 (.q 8 (.q 9 (.q 10 (.nil)))))))))))) (Ext w9) rfl (by kernel_rfl) ?_
 have hM := hM.drew
 rw [← hw] at hM ⊢
 clear hw
 refine pi_q hf rfl rfl rfl rfl (Ext.refl _) (e_move hf rfl) fun a hf => ?_
 refine pi_q hf rfl rfl rfl rfl (Ext.refl _) (e_nil hf rfl) fun a hf => ?_
 obtain ⟨_, hr10, hM⟩ := hM.deref (hM.dat (k := 1) rfl)
 obtain ⟨A11, c12, rfl, hv13⟩ := DawgRep_open hr10
 have hM := hM.add (y := .dat (sliceRep NodeRep) a1.Nodes [vL A11 a1.Nodes c12]) hv13
 refine pi_q hf rfl rfl rfl rfl (Ext.refl _) (e_field hf rfl Tryz.underlying31 rfl Tryz.sizeOf29 (o' := o3 + 0) rfl) fun a hf => ?_
 refine pi_q hf rfl rfl rfl rfl (Ext.refl _) (e_load1 hf rfl Tryz.isAgg29 (hM.litCell (k := 1) (j := 0) rfl rfl rfl)) fun a hf => ?_
 have hl14 := slice_len (hM.dat (k := 0) rfl)
 refine pi_q hf rfl rfl rfl rfl (Ext.refl _) (e_lenL hf (x := a1.Nodes) rfl Tryz.underlying29) fun a hf => ?_
 refine pi_q hf rfl rfl rfl rfl (Ext.refl _) (e_move hf rfl) fun a hf => ?_
 refine pi_q hf rfl rfl rfl rfl (Ext.refl _) (e_nil hf rfl) fun a hf => ?_
 obtain ⟨_, hr15, hM⟩ := hM.deref (hM.dat (k := 2) rfl)
 obtain ⟨A16, c17, rfl, hv18⟩ := DawgRep_open hr15
 have hM := hM.add (y := .dat (sliceRep NodeRep) b5.Nodes [vL A16 b5.Nodes c17]) hv18
 refine pi_q hf rfl rfl rfl rfl (Ext.refl _) (e_field hf rfl Tryz.underlying31 rfl Tryz.sizeOf29 (o' := o7 + 0) rfl) fun a hf => ?_
 refine pi_q hf rfl rfl rfl rfl (Ext.refl _) (e_load1 hf rfl Tryz.isAgg29 (hM.litCell (k := 1) (j := 0) rfl rfl rfl)) fun a hf => ?_
 have hl19 := slice_len (hM.dat (k := 0) rfl)
 refine pi_q hf rfl rfl rfl rfl (Ext.refl _) (e_lenL hf (x := b5.Nodes) rfl Tryz.underlying29) fun a hf => ?_
 refine pi_q hf rfl rfl rfl rfl (Ext.refl _) (e_ne hf (x := (a1.Nodes.length : Int)) (y := (b5.Nodes.length : Int)) rfl rfl) fun a hf => ?_
 refine pi_nil ?_
 refine then_n ?_
 rcases cond_some h with ⟨hc20, h⟩ | ⟨hc20, h⟩
 ·refine cond_t hf rfl hc20 ?_
  refine wp_seq ?_
  refine region_pl ?_
  refine q_ hf rfl rfl rfl (e_assign hf rfl) fun a hf => ?_
  refine pl_nil ?_
  refine then_n ?_
  refine wp_ret ?_
  refine then_r ?_
  obtain rfl := some_inj h
  exact leave1 hf rfl rfl ⟨rfl, hM.fin⟩
 refine cond_f hf rfl hc20 ?_
 refine wp_skip ?_
 refine then_n ?_
 obtain ⟨x21, h22, h⟩ := bind_some h
 refine seq_join (fun a w => (.inl ()) = x21 ∧ Has 40 a [] ∧ Mem C w [] [.dat (sliceRep NodeRep) b5.Nodes [vL A16 b5.Nodes c17], .lit b6 (o7) [vL A16 (b5.Nodes) c17], .dat (sliceRep NodeRep) a1.Nodes [vL A11 a1.Nodes c12], .lit b2 (o3) [vL A11 (a1.Nodes) c12], .dat (ptrRep DawgRep) b5 [vP b6 o7], .dat (ptrRep DawgRep) a1 [vP b2 o3]]) ?_ ?_
 ·refine wp_seq ?_
  refine region_pl ?_
  refine q_ hf rfl rfl rfl (e_assign hf rfl) fun a hf => ?_
  refine pl_nil ?_
  refine then_n ?_
  refine wp_block ?_
  obtain ⟨x26, h27, h22⟩ := bind_some h22
  refine wp_loopM h27 (fun s a w => ∃ (n23 : Int), n23 = s ∧ Has 40 a [(0, vP b2 (o3)), (1, vP b6 (o7)), (5, vI (n23))] ∧ Mem C w [] [.dat (sliceRep NodeRep) b5.Nodes [vL A16 b5.Nodes c17], .lit b6 (o7) [vL A16 (b5.Nodes) c17], .dat (sliceRep NodeRep) a1.Nodes [vL A11 a1.Nodes c12], .lit b2 (o3) [vL A11 (a1.Nodes) c12], .dat (ptrRep DawgRep) b5 [vP b6 o7], .dat (ptrRep DawgRep) a1 [vP b2 o3]] ∧ R64 n23) ?_ ?_
  ·exact ⟨0, rfl, hf.keep ⟨rfl, rfl, rfl, trivial⟩, hM.pick [0, 1, 2, 3, 4, 5] rfl, (R64_lit rfl)⟩
  rintro s o28 a w25 ⟨n23, rfl, hf, hM, hv24⟩ h29 hd30
  replace h29 : m_spec_l06Same_l1 a1 b5 n23 = some o28 := h29
  unfold m_spec_l06Same_l1 at h29
  iterate 2 refine wp_seq ?_
  refine region_pl ?_
  iterate 2 refine q_ hf rfl rfl rfl (e_move hf rfl) fun a hf => ?_
  refine q_ hf rfl rfl rfl (e_nil hf rfl) fun a hf => ?_
  refine q_ hf rfl rfl rfl (e_field hf rfl Tryz.underlying31 rfl Tryz.sizeOf29 (o' := o3 + 0) rfl) fun a hf => ?_
  refine q_ hf rfl rfl rfl (e_load1 hf rfl Tryz.isAgg29 (hM.litCell (k := 3) (j := 0) rfl rfl rfl)) fun a hf => ?_
  have hl31 := slice_len (hM.dat (k := 2) rfl)
  refine q_ hf rfl rfl rfl (e_lenL hf (x := a1.Nodes) rfl Tryz.underlying29) fun a hf => ?_
  refine q_ hf rfl rfl rfl (e_lt hf (x := n23) (y := (a1.Nodes.length : Int)) rfl rfl) fun a hf => ?_
  refine pl_nil ?_
  refine then_n ?_
  rcases cond_some h29 with ⟨hc32, h29⟩ | ⟨hc32, h29⟩
  ·refine cond_t hf rfl hc32 ?_
   refine wp_skip ?_
   refine then_n ?_
   refine wp_seq ?_
   refine wp_block ?_
   refine wp_seq ?_
   obtain ⟨w33, hw⟩ : ∃ x, x = w25.drew := ⟨_, rfl⟩
   refine region_pi (.q 0 (.q 1 (.q 2 (.q 3 (.q 4 (.q 5 (.q 6 (.q 7 (.q 8 (.q 9 (.q 10 (.q 11 (.l 12 (.q 13 (.nil))))))))))))))) (Ext w33) rfl (by kernel_rfl) ?_
   have hM := hM.drew
   rw [← hw] at hM ⊢
   clear hw
   refine pi_q hf rfl rfl rfl rfl (Ext.refl _) (e_move hf rfl) fun a hf => ?_
   refine pi_q hf rfl rfl rfl rfl (Ext.refl _) (e_nil hf rfl) fun a hf => ?_
   refine pi_q hf rfl rfl rfl rfl (Ext.refl _) (e_field hf rfl Tryz.underlying31 rfl Tryz.sizeOf29 (o' := o3 + 0) rfl) fun a hf => ?_
   refine pi_q hf rfl rfl rfl rfl (Ext.refl _) (e_load1 hf rfl Tryz.isAgg29 (hM.litCell (k := 3) (j := 0) rfl rfl rfl)) fun a hf => ?_
   refine pi_q hf rfl rfl rfl rfl (Ext.refl _) (e_move hf rfl) fun a hf => ?_
   obtain ⟨e34, hz35, h29⟩ := bind_some h29
   obtain ⟨b39, o40, _, hA41, h36, h37, hr38, hM⟩ := hM.elem (hM.dat (k := 2) rfl) (n := 3) rfl hz35
   obtain ⟨A43, c44, rfl, hv42, hv45⟩ := NodeRep_open hr38
   have hM := hM.add (y := .dat (sliceRep intRep) e34.Next [vL A43 e34.Next c44]) hv45
   refine pi_q hf rfl rfl rfl rfl (Ext.refl _) (e_indexAddr (A := A11) (b := b39) (o := o40) (xs := a1.Nodes) (i := n23) hf hA41 rfl rfl Tryz.underlying29 Tryz.sizeOf47 h36 h37) fun a hf => ?_
   refine pi_q hf rfl rfl rfl rfl (Ext.refl _) (e_move hf rfl) fun a hf => ?_
   refine pi_q hf rfl rfl rfl rfl (Ext.refl _) (e_nil hf rfl) fun a hf => ?_
   refine pi_q hf rfl rfl rfl rfl (Ext.refl _) (e_field hf rfl Tryz.underlying31 rfl Tryz.sizeOf29 (o' := o7 + 0) rfl) fun a hf => ?_
   refine pi_q hf rfl rfl rfl rfl (Ext.refl _) (e_load1 hf rfl Tryz.isAgg29 (hM.litCell (k := 3) (j := 0) rfl rfl rfl)) fun a hf => ?_
   refine pi_q hf rfl rfl rfl rfl (Ext.refl _) (e_move hf rfl) fun a hf => ?_
   obtain ⟨e46, hz47, h29⟩ := bind_some h29
   obtain ⟨b51, o52, _, hA53, h48, h49, hr50, hM⟩ := hM.elem (hM.dat (k := 2) rfl) (n := 3) rfl hz47
   obtain ⟨A55, c56, rfl, hv54, hv57⟩ := NodeRep_open hr50
   have hM := hM.add (y := .dat (sliceRep intRep) e46.Next [vL A55 e46.Next c56]) hv57
   refine pi_q hf rfl rfl rfl rfl (Ext.refl _) (e_indexAddr (A := A16) (b := b51) (o := o52) (xs := b5.Nodes) (i := n23) hf hA53 rfl rfl Tryz.underlying29 Tryz.sizeOf47 h48 h49) fun a hf => ?_
   refine pi_one ?_
   obtain ⟨y58, hz59, h29⟩ := bind_some h29
   refine pi_l hf rfl rfl rfl rfl (w_call hf Tryz.call68 rfl (r_spec_l06Equal ⟨_, Sh C _ _, none_, hM.sh_lt, none_not, C.G, hM.g_lt, g_none, hM.tabs⟩ e34 _ _ (hM.litPtr (k := 3) (d := 0) (us := [.bool (e34.Final), vS (e34.Letters), vL A43 (e34.Next) c44]) rfl rfl rfl (NodeRep_mk (x := e34) hv42 (hM.dat (k := 2) rfl))) e46 _ _ (hM.litPtr (k := 1) (d := 0) (us := [.bool (e46.Final), vS (e46.Letters), vL A55 (e46.Next) c56]) rfl rfl rfl (NodeRep_mk (x := e46) hv54 (hM.dat (k := 0) rfl))) _ hz59) ?_)
   rintro _ w60 ⟨rfl, hM2⟩
   obtain ⟨hM, hx61, hup62⟩ := hM.back hM2
   dsimp only [List.cons_append, List.nil_append] at hM hup62
   clear hM2
   refine ⟨_, rfl, Ext w60, fun _ h => Ext.trans hx61 h, Ext.refl _, fun a hf => ?_⟩
   refine pi_q hf rfl rfl rfl rfl (Ext.refl _) (e_not hf rfl) fun a hf => ?_
   refine pi_nil ?_
   refine then_n ?_
   rcases cond_some h29 with ⟨hc63, h29⟩ | ⟨hc63, h29⟩
   ·refine cond_t hf rfl hc63 ?_
    refine wp_seq ?_
    refine region_pl ?_
    refine q_ hf rfl rfl rfl (e_assign hf rfl) fun a hf => ?_
    refine pl_nil ?_
    refine then_n ?_
    refine wp_ret ?_
    refine blk_r ?_
    refine then_r ?_
    obtain rfl := some_inj h29
    obtain rfl := hd30 _ rfl
    try dsimp only at h22
    refine then_r ?_
    refine blk_r ?_
    obtain rfl := some_inj h22
    try dsimp only at h
    refine then_r ?_
    obtain rfl := some_inj h
    exact leave1 hf rfl rfl ⟨rfl, hM.fin⟩
   refine cond_f hf rfl hc63 ?_
   refine wp_skip ?_
   refine blk_n ?_
   refine then_n ?_
   refine region_pl ?_
   refine q_ hf rfl rfl rfl (e_move hf rfl) fun a hf => ?_
   obtain ⟨z64, hz65, h29⟩ := bind_some h29
   refine q_ hf rfl rfl rfl (e_add hf rfl rfl hz65) fun a hf => ?_
   refine q_ hf rfl rfl rfl (e_assign hf rfl) fun a hf => ?_
   refine pl_nil ?_
   obtain rfl := some_inj h29
   refine then_n ⟨_, rfl, ?_⟩
   exact ⟨z64, rfl, hf.keep ⟨rfl, rfl, rfl, trivial⟩, hM.pick [4, 5, 6, 7, 8, 9] rfl, (chk_R hz65)⟩
  refine cond_f hf rfl hc32 ?_
  refine wp_exit ?_
  refine then_x ?_
  obtain rfl := some_inj h29
  obtain rfl := hd30 _ rfl
  try dsimp only at h22
  refine then_x ?_
  refine exit_hit ?_
  obtain rfl := some_inj h22
  refine then_n ?_
  exact ⟨rfl, hf.keep trivial, hM.pick [0, 1, 2, 3, 4, 5] rfl⟩
 rintro a w72 ⟨rfl, hf, hM⟩
 try dsimp only at h
 refine wp_seq ?_
 refine region_pl ?_
 refine q_ hf rfl rfl rfl (e_assign hf rfl) fun a hf => ?_
 refine pl_nil ?_
 refine then_n ?_
 refine wp_ret ?_
 obtain rfl := some_inj h
 exact leave1 hf rfl rfl ⟨rfl, hM.fin⟩

set_option maxRecDepth 100000 in
set_option maxHeartbeats 4000000 in
theorem r_spec_SameDawg (C : Cx) (a1 : Dawg) (A2 : Option Addr) (c3 : Nat) (hp4 : (sliceRep NodeRep).R C.w0 C.S0 a1.Nodes [vL A2 a1.Nodes c3]) (b5 : Dawg) (A6 : Option Addr) (c7 : Nat) (hp8 : (sliceRep NodeRep).R C.w0 C.S0 b5.Nodes [vL A6 b5.Nodes c7]) (r : Bool) (h : m_spec_SameDawg a1 b5 = some r) :
    Calls Tryz.prog 15 #[.agg #[vL A2 (a1.Nodes) c3], .agg #[vL A6 (b5.Nodes) c7]] C.w0 fun e w => e = .returned (.bool (r)) ∧ Mem C w [] [] := by
 have hM := Mem.begin C [.dat (sliceRep NodeRep) b5.Nodes [vL A6 b5.Nodes c7], .dat (sliceRep NodeRep) a1.Nodes [vL A2 a1.Nodes c3]] ⟨hp8, hp4, trivial⟩
 refine enter Tryz.func15 rfl Tryz.ntmps15 rfl fun a hf => ?_
 unfold m_spec_SameDawg at h
 refine wp_seq ?_
 refine region_pl ?_
 refine pl_l hf rfl rfl rfl (w_box hf hM (cs := [vL A2 (a1.Nodes) c3]) rfl rfl fun b9 w10 hx11 hM a hf => ?_)
 refine pl_l hf rfl rfl rfl (w_box hf hM (cs := [vL A6 (b5.Nodes) c7]) rfl rfl fun b13 w14 hx15 hM a hf => ?_)
 refine q_ hf rfl rfl rfl (e_assign hf rfl) fun a hf => ?_
 refine pl_nil ?_
 refine then_n ?_
 refine wp_seq ?_
 refine region_pl ?_
 obtain ⟨y17, hz18, h⟩ := bind_some h
 refine pl_l hf rfl rfl rfl (w_call hf Tryz.call40 rfl (r_spec_l06Same ⟨_, All C _ _, none_, hM.all_lt, none_not, C.G, hM.g_lt, g_none, hM.tabs⟩ a1 _ _ (hM.lendBox (k := 1) rfl (DawgRep_mk (x := a1) (hM.lendDat (k := 1) rfl))) b5 _ _ (hM.lendBox (k := 0) rfl (DawgRep_mk (x := b5) (hM.lendDat (k := 0) rfl))) _ hz18) ?_)
 rintro _ w19 ⟨rfl, hM2⟩
 obtain ⟨hM, hx20⟩ := hM.backA hM2
 clear hM2
 refine ⟨_, rfl, fun a hf => ?_⟩
 refine q_ hf rfl rfl rfl (e_assign hf rfl) fun a hf => ?_
 refine pl_nil ?_
 refine then_n ?_
 refine wp_ret ?_
 obtain rfl := some_inj h
 have hM := hM.outs (own' := []) 0 rfl
 exact leave1 hf rfl rfl ⟨rfl, hM.fin⟩

set_option maxRecDepth 100000 in
set_option maxHeartbeats 4000000 in
theorem r_impl_Dawg_step (C : Cx) (d1 : Dawg) (A2 : Option Addr) (c3 : Nat) (hp4 : (sliceRep NodeRep).R C.w0 C.S0 d1.Nodes [vL A2 d1.Nodes c3]) (node5 : Int) (hp6 : R64 node5) (letter7 : UInt8) (r : Int) (h : m_impl_Dawg_step d1 node5 letter7 = some r) :
    Calls Tryz.prog 101 #[.agg #[vL A2 (d1.Nodes) c3], vI (node5), vB (letter7)] C.w0 fun e w => e = .returned (vI (r)) ∧ Mem C w [] [] ∧ R64 r := by
 have hM := Mem.begin C [.dat (sliceRep NodeRep) d1.Nodes [vL A2 d1.Nodes c3]] ⟨hp4, trivial⟩
 refine enter Tryz.func101 rfl Tryz.ntmps101 rfl fun a hf => ?_
 unfold m_impl_Dawg_step at h
 refine wp_seq ?_
 refine region_pl ?_
 refine pl_l hf rfl rfl rfl (w_box hf hM (cs := [vL A2 (d1.Nodes) c3]) rfl rfl fun b8 w9 hx10 hM a hf => ?_)
 refine q_ hf rfl rfl rfl (e_assign hf rfl) fun a hf => ?_
 refine pl_nil ?_
 refine then_n ?_
 iterate 2 refine wp_seq ?_
 refine region_pl ?_
 refine q_ hf rfl rfl rfl (e_move hf rfl) fun a hf => ?_
 refine q_ hf rfl rfl rfl (e_field hf rfl Tryz.underlying31 rfl Tryz.sizeOf29 (o' := 0) rfl) fun a hf => ?_
 refine q_ hf rfl rfl rfl (e_load1 hf rfl Tryz.isAgg29 (hM.boxCell (k := 0) rfl rfl)) fun a hf => ?_
 have hl12 := slice_len (hM.dat (k := 0) rfl)
 refine q_ hf rfl rfl rfl (e_lenL hf (x := d1.Nodes) rfl Tryz.underlying29) fun a hf => ?_
 obtain ⟨z13, hz14, h⟩ := bind_some h
 refine q_ hf rfl rfl rfl (e_sub hf rfl rfl hz14) fun a hf => ?_
 obtain ⟨y15, hz16, h⟩ := bind_some h
 refine pl_l hf rfl rfl rfl (w_call hf Tryz.call70 rfl (r_impl_within ⟨_, Sh C _ _, none_, hM.sh_lt, none_not, C.G, hM.g_lt, g_none, hM.tabs⟩ node5 hp6 0 (R64_lit rfl) z13 (chk_R hz14) _ hz16) ?_)
 rintro _ w17 ⟨rfl, hM2⟩
 obtain ⟨hM, hx18, hup19⟩ := hM.back hM2
 dsimp only [List.cons_append, List.nil_append] at hM hup19
 clear hM2
 refine ⟨_, rfl, fun a hf => ?_⟩
 refine q_ hf rfl rfl rfl (e_not hf rfl) fun a hf => ?_
 refine pl_nil ?_
 refine then_n ?_
 rcases cond_some h with ⟨hc20, h⟩ | ⟨hc20, h⟩
 ·refine cond_t hf rfl hc20 ?_
  refine wp_seq ?_
  refine region_pl ?_
  refine q_ hf rfl rfl rfl (e_assign hf rfl) fun a hf => ?_
  refine pl_nil ?_
  refine then_n ?_
  refine wp_ret ?_
  refine then_r ?_
  obtain rfl := some_inj h
  have hM := hM.outs (own' := []) 0 rfl
  exact leave1 hf rfl rfl ⟨rfl, hM.fin, (R64_lit rfl)⟩
 refine cond_f hf rfl hc20 ?_
 refine wp_skip ?_
 refine then_n ?_
 refine wp_seq ?_
 refine region_pl ?_
 refine q_ hf rfl rfl rfl (e_field hf rfl Tryz.underlying31 rfl Tryz.sizeOf29 (o' := 0) rfl) fun a hf => ?_
 refine q_ hf rfl rfl rfl (e_load1 hf rfl Tryz.isAgg29 (hM.boxCell (k := 0) rfl rfl)) fun a hf => ?_
 refine q_ hf rfl rfl rfl (e_move hf rfl) fun a hf => ?_
 obtain ⟨e21, hz22, h⟩ := bind_some h
 obtain ⟨b26, o27, _, hA28, h23, h24, hr25, hM⟩ := hM.elem (hM.dat (k := 0) rfl) (n := 3) rfl hz22
 obtain ⟨A30, c31, rfl, hv29, hv32⟩ := NodeRep_open hr25
 have hM := hM.add (y := .dat (sliceRep intRep) e21.Next [vL A30 e21.Next c31]) hv32
 refine q_ hf rfl rfl rfl (e_indexAddr (A := A2) (b := b26) (o := o27) (xs := d1.Nodes) (i := node5) hf hA28 rfl rfl Tryz.underlying29 Tryz.sizeOf47 h23 h24) fun a hf => ?_
 refine q_ hf rfl rfl rfl (e_loadA hf (us := [.bool (e21.Final), vS (e21.Letters), vL A30 (e21.Next) c31]) rfl ⟨Tryz.isAgg47, Tryz.sizeOf47⟩ rfl (hM.litSub (k := 1) (d := 0) (us := [.bool (e21.Final), vS (e21.Letters), vL A30 (e21.Next) c31]) rfl rfl rfl)) fun a hf => ?_
 refine pl_l hf rfl rfl rfl (w_alloc hM (cs := [.bool (false), vS (([] : Str)), vL none (([] : (List Int))) 0]) Tryz.zeroValue47 rfl fun b33 w34 hx35 hM a hf => ?_)
 refine pl_0 hf rfl rfl (w_store hf hM (us := [.bool (e21.Final), vS (e21.Letters), vL A30 (e21.Next) c31]) (cs' := [.bool (e21.Final), vS (e21.Letters), vL A30 (e21.Next) c31]) rfl rfl (k := 0) rfl rfl Tryz.sizeOf47 rfl rfl rfl fun w37 hM => ?_)
 dsimp only [List.set] at hM
 refine pl_nil ?_
 refine then_n ?_
 iterate 2 refine wp_seq ?_
 refine region_pl ?_
 refine q_ hf rfl rfl rfl (e_field hf rfl Tryz.underlying47 rfl Tryz.sizeOf9 (o' := 1) rfl) fun a hf => ?_
 refine q_ hf rfl rfl rfl (e_load1 hf rfl Tryz.isAgg9 (hM.boxCell (k := 0) rfl rfl)) fun a hf => ?_
 refine q_ hf rfl rfl rfl (e_move hf rfl) fun a hf => ?_
 obtain ⟨y40, hz41, h⟩ := bind_some h
 refine pl_l hf rfl rfl rfl (w_call hf Tryz.call130 rfl (r_strings_IndexByte ⟨_, Sh C _ _, none_, hM.sh_lt, none_not, C.G, hM.g_lt, g_none, hM.tabs⟩ e21.Letters hv29 letter7 _ hz41) ?_)
 rintro _ w43 ⟨rfl, hM2, hv42⟩
 obtain ⟨hM, hx44, hup45⟩ := hM.back hM2
 dsimp only [List.cons_append, List.nil_append] at hM hup45
 clear hM2
 refine ⟨_, rfl, fun a hf => ?_⟩
 refine q_ hf rfl rfl rfl (e_assign hf rfl) fun a hf => ?_
 refine pl_nil ?_
 refine then_n ?_
 refine wp_seq ?_
 refine region_pl ?_
 refine q_ hf rfl rfl rfl (e_move hf rfl) fun a hf => ?_
 refine q_ hf rfl rfl rfl (e_ge hf (x := y40) (y := 0) rfl rfl) fun a hf => ?_
 refine pl_nil ?_
 refine then_n ?_
 rcases cond_some h with ⟨hc46, h⟩ | ⟨hc46, h⟩
 ·refine cond_t hf rfl hc46 ?_
  refine wp_seq ?_
  refine region_pl ?_
  refine q_ hf rfl rfl rfl (e_field hf rfl Tryz.underlying47 rfl Tryz.sizeOf45 (o' := 2) rfl) fun a hf => ?_
  refine q_ hf rfl rfl rfl (e_load1 hf rfl Tryz.isAgg45 (hM.boxCell (k := 0) rfl rfl)) fun a hf => ?_
  refine q_ hf rfl rfl rfl (e_move hf rfl) fun a hf => ?_
  obtain ⟨e47, hz48, h⟩ := bind_some h
  obtain ⟨b52, o53, _, hA54, h49, h50, hr51, hM⟩ := hM.elem (hM.dat (k := 0) rfl) (n := 1) rfl hz48
  obtain ⟨rfl, hv55⟩ := hr51
  refine q_ hf rfl rfl rfl (e_indexAddr (A := A30) (b := b52) (o := o53) (xs := e21.Next) (i := y40) hf hA54 rfl rfl Tryz.underlying45 Tryz.sizeOf2 h49 h50) fun a hf => ?_
  refine q_ hf rfl rfl rfl (e_load1 hf rfl Tryz.isAgg2 (hM.litCell (k := 0) (j := 0) rfl rfl rfl)) fun a hf => ?_
  refine q_ hf rfl rfl rfl (e_assign hf rfl) fun a hf => ?_
  refine pl_nil ?_
  refine then_n ?_
  refine wp_ret ?_
  refine then_r ?_
  obtain rfl := some_inj h
  have hM := hM.outs (own' := []) 0 rfl
  exact leave1 hf rfl rfl ⟨rfl, hM.fin, hv55⟩
 refine cond_f hf rfl hc46 ?_
 refine wp_skip ?_
 refine then_n ?_
 refine wp_seq ?_
 refine region_pl ?_
 refine q_ hf rfl rfl rfl (e_assign hf rfl) fun a hf => ?_
 refine pl_nil ?_
 refine then_n ?_
 refine wp_ret ?_
 obtain rfl := some_inj h
 have hM := hM.outs (own' := []) 0 rfl
 exact leave1 hf rfl rfl ⟨rfl, hM.fin, (R64_lit rfl)⟩

set_option maxRecDepth 100000 in
set_option maxHeartbeats 4000000 in
theorem r_impl_Dawg_after (C : Cx) (d1 : Dawg) (A2 : Option Addr) (c3 : Nat) (hp4 : (sliceRep NodeRep).R C.w0 C.S0 d1.Nodes [vL A2 d1.Nodes c3]) (s5 : Str) (hp6 : s5.length ≤ maxLen) (r : Int) (h : m_impl_Dawg_after d1 s5 = some r) :
    Calls Tryz.prog 71 #[.agg #[vL A2 (d1.Nodes) c3], vS (s5)] C.w0 fun e w => e = .returned (vI (r)) ∧ Mem C w [] [] ∧ R64 r := by
 have hM := Mem.begin C [.dat (sliceRep NodeRep) d1.Nodes [vL A2 d1.Nodes c3]] ⟨hp4, trivial⟩
 refine enter Tryz.func71 rfl Tryz.ntmps71 rfl fun a hf => ?_
 unfold m_impl_Dawg_after at h
 refine wp_seq ?_
 refine region_pl ?_
 refine pl_l hf rfl rfl rfl (w_box hf hM (cs := [vL A2 (d1.Nodes) c3]) rfl rfl fun b7 w8 hx9 hM a hf => ?_)
 refine q_ hf rfl rfl rfl (e_assign hf rfl) fun a hf => ?_
 refine pl_nil ?_
 refine then_n ?_
 refine wp_seq ?_
 refine region_pl ?_
 refine q_ hf rfl rfl rfl (e_assign hf rfl) fun a hf => ?_
 refine pl_nil ?_
 refine then_n ?_
 obtain ⟨x13, h14, h⟩ := bind_some h
 refine seq_join (fun a w => ∃ (n11 : Int), n11 = x13 ∧ Has 24 a [(5, vI (n11))] ∧ Mem C w [.box b7 [vL A2 (d1.Nodes) c3] 31] [.dat (sliceRep NodeRep) d1.Nodes [vL A2 d1.Nodes c3]] ∧ R64 n11) ?_ ?_
 ·refine wp_seq ?_
  refine region_pl ?_
  refine q_ hf rfl rfl rfl (e_assign hf rfl) fun a hf => ?_
  refine pl_nil ?_
  refine then_n ?_
  refine wp_block ?_
  obtain ⟨x22, h23, h14⟩ := bind_some h14
  refine wp_loopM h23 (fun s a w => ∃ (n15 : Int) (n17 : Int), (n15, n17) = s ∧ Has 24 a [(1, vS (s5)), (2, vP b7 (0)), (5, vI (n15)), (6, vI (n17))] ∧ Mem C w [.box b7 [vL A2 (d1.Nodes) c3] 31] [.dat (sliceRep NodeRep) d1.Nodes [vL A2 d1.Nodes c3]] ∧ R64 n15 ∧ R64 n17) ?_ ?_
  ·exact ⟨0, 0, rfl, hf.keep ⟨rfl, rfl, rfl, rfl, trivial⟩, hM.pick [0] rfl, (R64_lit rfl), (R64_lit rfl)⟩
  rintro s o24 a w19 ⟨n15, n17, rfl, hf, hM, hv16, hv18⟩ h25 hd26
  replace h25 : m_impl_Dawg_after_l1 s5 d1 n15 n17 = some o24 := h25
  unfold m_impl_Dawg_after_l1 at h25
  refine wp_seq ?_
  obtain ⟨x29, h30, h25⟩ := bind_some h25
  refine seq_join (fun a w => ∃ (t27 : Bool), t27 = x29 ∧ Has 24 a [(1, vS (s5)), (2, vP b7 (0)), (5, vI (n15)), (6, vI (n17)), (14, .bool (t27))] ∧ Mem C w [.box b7 [vL A2 (d1.Nodes) c3] 31] [.dat (sliceRep NodeRep) d1.Nodes [vL A2 d1.Nodes c3]]) ?_ ?_
  ·refine region_pl ?_
   iterate 2 refine q_ hf rfl rfl rfl (e_move hf rfl) fun a hf => ?_
   refine q_ hf rfl rfl rfl (e_lenS hf (x := s5) rfl Tryz.underlying9) fun a hf => ?_
   refine q_ hf rfl rfl rfl (e_lt hf (x := n17) (y := (s5.length : Int)) rfl rfl) fun a hf => ?_
   refine q_ hf rfl rfl rfl (e_move hf rfl) fun a hf => ?_
   rcases cond_some h30 with ⟨hc31, h30⟩ | ⟨hc31, h30⟩
   ·refine gq (wanted_t hf rfl rfl rfl rfl hc31) hf rfl rfl (e_move hf rfl) fun a hf => ?_
    refine gq (wanted_t hf rfl rfl rfl rfl hc31) hf rfl rfl (e_ge hf (x := n15) (y := 0) rfl rfl) fun a hf => ?_
    refine q_ hf rfl rfl rfl (e_pick_t hf rfl hc31 rfl) fun a hf => ?_
    refine pl_nil ?_
    obtain rfl := some_inj h30
    refine then_n ?_
    exact ⟨(decide (0 ≤ n15)), rfl, hf.keep ⟨rfl, rfl, rfl, rfl, rfl, trivial⟩, hM.pick [0] rfl⟩
   iterate 2 refine pl_gs (wanted_f hf rfl rfl rfl rfl hc31) hf rfl rfl fun a hf => ?_
   refine q_ hf rfl rfl rfl (e_pick_f hf rfl hc31 rfl) fun a hf => ?_
   refine pl_nil ?_
   obtain rfl := some_inj h30
   refine then_n ?_
   exact ⟨false, rfl, hf.keep ⟨rfl, rfl, rfl, rfl, rfl, trivial⟩, hM.pick [0] rfl⟩
  rintro a w34 ⟨t27, rfl, hf, hM⟩
  try dsimp only at h25
  rcases cond_some h25 with ⟨hc35, h25⟩ | ⟨hc35, h25⟩
  ·refine cond_t hf rfl hc35 ?_
   refine wp_skip ?_
   refine then_n ?_
   refine wp_seq ?_
   refine wp_block ?_
   obtain ⟨w36, hw⟩ : ∃ x, x = w34.drew := ⟨_, rfl⟩
   refine region_pi (.q 0 (.q 1 (.q 2 (.q 3 (.q 4 (.l 5 (.q 6 (.nil)))))))) (Ext w36) rfl (by kernel_rfl) ?_
   have hM := hM.drew
   rw [← hw] at hM ⊢
   clear hw
   refine pi_q hf rfl rfl rfl rfl (Ext.refl _) (e_loadA hf (us := [vL A2 (d1.Nodes) c3]) rfl ⟨Tryz.isAgg31, Tryz.sizeOf31⟩ rfl (hM.boxSub (k := 0) (us := [vL A2 (d1.Nodes) c3]) (o := 0) rfl rfl)) fun a hf => ?_
   iterate 3 refine pi_q hf rfl rfl rfl rfl (Ext.refl _) (e_move hf rfl) fun a hf => ?_
   obtain ⟨c37, hz38, h25⟩ := bind_some h25
   refine pi_q hf rfl rfl rfl rfl (Ext.refl _) (e_indexS hf (x := s5) rfl rfl Tryz.underlying9 hz38) fun a hf => ?_
   refine pi_one ?_
   obtain ⟨y39, hz40, h25⟩ := bind_some h25
   refine pi_l hf rfl rfl rfl rfl (w_call hf Tryz.call101 rfl (r_impl_Dawg_step ⟨_, Sh C _ _, none_, hM.sh_lt, none_not, C.G, hM.g_lt, g_none, hM.tabs⟩ d1 _ _ (hM.dat (k := 0) rfl) n15 hv16 c37 _ hz40) ?_)
   rintro _ w42 ⟨rfl, hM2, hv41⟩
   obtain ⟨hM, hx43, hup44⟩ := hM.back hM2
   dsimp only [List.cons_append, List.nil_append] at hM hup44
   clear hM2
   refine ⟨_, rfl, Ext w42, fun _ h => Ext.trans hx43 h, Ext.refl _, fun a hf => ?_⟩
   refine pi_q hf rfl rfl rfl rfl (Ext.refl _) (e_assign hf rfl) fun a hf => ?_
   refine pi_nil ?_
   refine blk_n ?_
   refine then_n ?_
   refine region_pl ?_
   refine q_ hf rfl rfl rfl (e_move hf rfl) fun a hf => ?_
   obtain ⟨z45, hz46, h25⟩ := bind_some h25
   refine q_ hf rfl rfl rfl (e_add hf rfl rfl hz46) fun a hf => ?_
   refine q_ hf rfl rfl rfl (e_assign hf rfl) fun a hf => ?_
   refine pl_nil ?_
   obtain rfl := some_inj h25
   refine then_n ⟨_, rfl, ?_⟩
   exact ⟨y39, z45, rfl, hf.keep ⟨rfl, rfl, rfl, rfl, trivial⟩, hM.pick [0] rfl, hv41, (chk_R hz46)⟩
  refine cond_f hf rfl hc35 ?_
  refine wp_exit ?_
  refine then_x ?_
  obtain rfl := some_inj h25
  obtain rfl := hd26 _ rfl
  try dsimp only at h14
  refine then_x ?_
  refine exit_hit ?_
  obtain rfl := some_inj h14
  refine then_n ?_
  exact ⟨n15, rfl, hf.keep ⟨rfl, trivial⟩, hM.pick [0] rfl, hv16⟩
 rintro a w52 ⟨n11, rfl, hf, hM, hv12⟩
 try dsimp only at h
 refine wp_seq ?_
 refine region_pl ?_
 refine q_ hf rfl rfl rfl (e_move hf rfl) fun a hf => ?_
 refine q_ hf rfl rfl rfl (e_assign hf rfl) fun a hf => ?_
 refine pl_nil ?_
 refine then_n ?_
 refine wp_ret ?_
 obtain rfl := some_inj h
 have hM := hM.outs (own' := []) 0 rfl
 exact leave1 hf rfl rfl ⟨rfl, hM.fin, hv12⟩

set_option maxRecDepth 100000 in
set_option maxHeartbeats 4000000 in
theorem r_impl_Dawg_accepts (C : Cx) (d1 : Dawg) (A2 : Option Addr) (c3 : Nat) (hp4 : (sliceRep NodeRep).R C.w0 C.S0 d1.Nodes [vL A2 d1.Nodes c3]) (s5 : Str) (hp6 : s5.length ≤ maxLen) (r : Bool) (h : m_impl_Dawg_accepts d1 s5 = some r) :
    Calls Tryz.prog 44 #[.agg #[vL A2 (d1.Nodes) c3], vS (s5)] C.w0 fun e w => e = .returned (.bool (r)) ∧ Mem C w [] [] := by
 have hM := Mem.begin C [.dat (sliceRep NodeRep) d1.Nodes [vL A2 d1.Nodes c3]] ⟨hp4, trivial⟩
 refine enter Tryz.func44 rfl Tryz.ntmps44 rfl fun a hf => ?_
 unfold m_impl_Dawg_accepts at h
 refine wp_seq ?_
 refine region_pl ?_
 refine pl_l hf rfl rfl rfl (w_box hf hM (cs := [vL A2 (d1.Nodes) c3]) rfl rfl fun b7 w8 hx9 hM a hf => ?_)
 refine q_ hf rfl rfl rfl (e_assign hf rfl) fun a hf => ?_
 refine pl_nil ?_
 refine then_n ?_
 refine wp_seq ?_
 refine region_pl ?_
 refine q_ hf rfl rfl rfl (e_loadA hf (us := [vL A2 (d1.Nodes) c3]) rfl ⟨Tryz.isAgg31, Tryz.sizeOf31⟩ rfl (hM.boxSub (k := 0) (us := [vL A2 (d1.Nodes) c3]) (o := 0) rfl rfl)) fun a hf => ?_
 refine q_ hf rfl rfl rfl (e_move hf rfl) fun a hf => ?_
 obtain ⟨y11, hz12, h⟩ := bind_some h
 refine pl_l hf rfl rfl rfl (w_call hf Tryz.call71 rfl (r_impl_Dawg_after ⟨_, Sh C _ _, none_, hM.sh_lt, none_not, C.G, hM.g_lt, g_none, hM.tabs⟩ d1 _ _ (hM.dat (k := 0) rfl) s5 hp6 _ hz12) ?_)
 rintro _ w14 ⟨rfl, hM2, hv13⟩
 obtain ⟨hM, hx15, hup16⟩ := hM.back hM2
 dsimp only [List.cons_append, List.nil_append] at hM hup16
 clear hM2
 refine ⟨_, rfl, fun a hf => ?_⟩
 refine q_ hf rfl rfl rfl (e_assign hf rfl) fun a hf => ?_
 refine pl_nil ?_
 refine then_n ?_
 obtain ⟨x19, h20, h⟩ := bind_some h
 refine seq_join (fun a w => ∃ (t17 : Bool), t17 = x19 ∧ Has 19 a [(4, .bool (t17))] ∧ Mem C w [.box b7 [vL A2 (d1.Nodes) c3] 31] [.dat (sliceRep NodeRep) d1.Nodes [vL A2 d1.Nodes c3]]) ?_ ?_
 ·refine region_pl ?_
  refine q_ hf rfl rfl rfl (e_move hf rfl) fun a hf => ?_
  refine q_ hf rfl rfl rfl (e_ge hf (x := y11) (y := 0) rfl rfl) fun a hf => ?_
  refine q_ hf rfl rfl rfl (e_move hf rfl) fun a hf => ?_
  rcases cond_some h20 with ⟨hc21, h20⟩ | ⟨hc21, h20⟩
  ·refine gq (wanted_t hf rfl rfl rfl rfl hc21) hf rfl rfl (e_field hf rfl Tryz.underlying31 rfl Tryz.sizeOf29 (o' := 0) rfl) fun a hf => ?_
   refine gq (wanted_t hf rfl rfl rfl rfl hc21) hf rfl rfl (e_load1 hf rfl Tryz.isAgg29 (hM.boxCell (k := 0) rfl rfl)) fun a hf => ?_
   refine gq (wanted_t hf rfl rfl rfl rfl hc21) hf rfl rfl (e_move hf rfl) fun a hf => ?_
   obtain ⟨e22, hz23, h20⟩ := bind_some h20
   obtain ⟨b27, o28, _, hA29, h24, h25, hr26, hM⟩ := hM.elem (hM.dat (k := 0) rfl) (n := 3) rfl hz23
   obtain ⟨A31, c32, rfl, hv30, hv33⟩ := NodeRep_open hr26
   have hM := hM.add (y := .dat (sliceRep intRep) e22.Next [vL A31 e22.Next c32]) hv33
   refine gq (wanted_t hf rfl rfl rfl rfl hc21) hf rfl rfl (e_indexAddr (A := A2) (b := b27) (o := o28) (xs := d1.Nodes) (i := y11) hf hA29 rfl rfl Tryz.underlying29 Tryz.sizeOf47 h24 h25) fun a hf => ?_
   refine gq (wanted_t hf rfl rfl rfl rfl hc21) hf rfl rfl (e_field hf rfl Tryz.underlying47 rfl Tryz.sizeOf4 (o' := (o28 + (y11 : Int).toNat * 3) + 0) rfl) fun a hf => ?_
   refine gq (wanted_t hf rfl rfl rfl rfl hc21) hf rfl rfl (e_load1 hf rfl Tryz.isAgg4 (hM.litCell (k := 1) (j := 0) rfl rfl rfl)) fun a hf => ?_
   refine q_ hf rfl rfl rfl (e_pick_t hf rfl hc21 rfl) fun a hf => ?_
   refine q_ hf rfl rfl rfl (e_assign hf rfl) fun a hf => ?_
   refine pl_nil ?_
   obtain rfl := some_inj h20
   refine then_n ?_
   exact ⟨e22.Final, rfl, hf.keep ⟨rfl, trivial⟩, hM.pick [2] rfl⟩
  iterate 6 refine pl_gs (wanted_f hf rfl rfl rfl rfl hc21) hf rfl rfl fun a hf => ?_
  refine q_ hf rfl rfl rfl (e_pick_f hf rfl hc21 rfl) fun a hf => ?_
  refine q_ hf rfl rfl rfl (e_assign hf rfl) fun a hf => ?_
  refine pl_nil ?_
  obtain rfl := some_inj h20
  refine then_n ?_
  exact ⟨false, rfl, hf.keep ⟨rfl, trivial⟩, hM.pick [0] rfl⟩
 rintro a w36 ⟨t17, rfl, hf, hM⟩
 try dsimp only at h
 refine wp_ret ?_
 obtain rfl := some_inj h
 have hM := hM.outs (own' := []) 0 rfl
 exact leave1 hf rfl rfl ⟨rfl, hM.fin⟩

set_option maxRecDepth 100000 in
set_option maxHeartbeats 4000000 in
theorem r_impl_AcceptsWord (C : Cx) (d1 : Dawg) (A2 : Option Addr) (c3 : Nat) (hp4 : (sliceRep NodeRep).R C.w0 C.S0 d1.Nodes [vL A2 d1.Nodes c3]) (s5 : Str) (hp6 : s5.length ≤ maxLen) (r : Bool) (h : m_impl_AcceptsWord d1 s5 = some r) :
    Calls Tryz.prog 17 #[.agg #[vL A2 (d1.Nodes) c3], vS (s5)] C.w0 fun e w => e = .returned (.bool (r)) ∧ Mem C w [] [] := by
 have hM := Mem.begin C [.dat (sliceRep NodeRep) d1.Nodes [vL A2 d1.Nodes c3]] ⟨hp4, trivial⟩
 refine enter Tryz.func17 rfl Tryz.ntmps17 rfl fun a hf => ?_
 unfold m_impl_AcceptsWord at h
 refine wp_seq ?_
 refine region_pl ?_
 refine pl_l hf rfl rfl rfl (w_box hf hM (cs := [vL A2 (d1.Nodes) c3]) rfl rfl fun b7 w8 hx9 hM a hf => ?_)
 refine q_ hf rfl rfl rfl (e_assign hf rfl) fun a hf => ?_
 refine pl_nil ?_
 refine then_n ?_
 obtain ⟨x13, h14, h⟩ := bind_some h
 refine seq_join (fun a w => ∃ (t11 : Bool), t11 = x13 ∧ Has 12 a [(4, .bool (t11))] ∧ Mem C w [.box b7 [vL A2 (d1.Nodes) c3] 31] [.dat (sliceRep NodeRep) d1.Nodes [vL A2 d1.Nodes c3]]) ?_ ?_
 ·refine region_pl ?_
  refine q_ hf rfl rfl rfl (e_loadA hf (us := [vL A2 (d1.Nodes) c3]) rfl ⟨Tryz.isAgg31, Tryz.sizeOf31⟩ rfl (hM.boxSub (k := 0) (us := [vL A2 (d1.Nodes) c3]) (o := 0) rfl rfl)) fun a hf => ?_
  obtain ⟨y15, hz16, h14⟩ := bind_some h14
  refine pl_l hf rfl rfl rfl (w_call hf Tryz.call16 rfl (r_impl_ValidDawg ⟨_, Sh C _ _, none_, hM.sh_lt, none_not, C.G, hM.g_lt, g_none, hM.tabs⟩ d1 _ _ (hM.dat (k := 0) rfl) _ hz16) ?_)
  rintro _ w17 ⟨rfl, hM2⟩
  obtain ⟨hM, hx18, hup19⟩ := hM.back hM2
  dsimp only [List.cons_append, List.nil_append] at hM hup19
  clear hM2
  refine ⟨_, rfl, fun a hf => ?_⟩
  refine q_ hf rfl rfl rfl (e_move hf rfl) fun a hf => ?_
  rcases cond_some h14 with ⟨hc20, h14⟩ | ⟨hc20, h14⟩
  ·refine gq (wanted_t hf rfl rfl rfl rfl hc20) hf rfl rfl (e_loadA hf (us := [vL A2 (d1.Nodes) c3]) rfl ⟨Tryz.isAgg31, Tryz.sizeOf31⟩ rfl (hM.boxSub (k := 0) (us := [vL A2 (d1.Nodes) c3]) (o := 0) rfl rfl)) fun a hf => ?_
   refine gq (wanted_t hf rfl rfl rfl rfl hc20) hf rfl rfl (e_move hf rfl) fun a hf => ?_
   obtain ⟨y21, hz22, h14⟩ := bind_some h14
   refine pl_gl (wanted_t hf rfl rfl rfl rfl hc20) hf rfl rfl (w_call hf Tryz.call44 rfl (r_impl_Dawg_accepts ⟨_, Sh C _ _, none_, hM.sh_lt, none_not, C.G, hM.g_lt, g_none, hM.tabs⟩ d1 _ _ (hM.dat (k := 0) rfl) s5 hp6 _ hz22) ?_)
   rintro _ w23 ⟨rfl, hM2⟩
   obtain ⟨hM, hx24, hup25⟩ := hM.back hM2
   dsimp only [List.cons_append, List.nil_append] at hM hup25
   clear hM2
   refine ⟨_, rfl, fun a hf => ?_⟩
   refine q_ hf rfl rfl rfl (e_pick_t hf rfl hc20 rfl) fun a hf => ?_
   refine q_ hf rfl rfl rfl (e_assign hf rfl) fun a hf => ?_
   refine pl_nil ?_
   obtain rfl := some_inj h14
   refine then_n ?_
   exact ⟨y21, rfl, hf.keep ⟨rfl, trivial⟩, hM.pick [0] rfl⟩
  iterate 3 refine pl_gs (wanted_f hf rfl rfl rfl rfl hc20) hf rfl rfl fun a hf => ?_
  refine q_ hf rfl rfl rfl (e_pick_f hf rfl hc20 rfl) fun a hf => ?_
  refine q_ hf rfl rfl rfl (e_assign hf rfl) fun a hf => ?_
  refine pl_nil ?_
  obtain rfl := some_inj h14
  refine then_n ?_
  exact ⟨false, rfl, hf.keep ⟨rfl, trivial⟩, hM.pick [0] rfl⟩
 rintro a w28 ⟨t11, rfl, hf, hM⟩
 try dsimp only at h
 refine wp_ret ?_
 obtain rfl := some_inj h
 have hM := hM.outs (own' := []) 0 rfl
 exact leave1 hf rfl rfl ⟨rfl, hM.fin⟩

set_option maxRecDepth 100000 in
set_option maxHeartbeats 4000000 in
theorem r_spec_l01Small (C : Cx) (c1 : UInt8) (r : Bool) (h : m_spec_l01Small c1 = some r) :
    Calls Tryz.prog 106 #[vB (c1)] C.w0 fun e w => e = .returned (.bool (r)) ∧ Mem C w [] [] := by
 have hM := Mem.begin C [] trivial
 refine enter Tryz.func106 rfl Tryz.ntmps106 rfl fun a hf => ?_
 unfold m_spec_l01Small at h
 refine wp_seq ?_
 refine region_pl ?_
 refine q_ hf rfl rfl rfl (e_assign hf rfl) fun a hf => ?_
 refine pl_nil ?_
 refine then_n ?_
 obtain ⟨x4, h5, h⟩ := bind_some h
 refine seq_join (fun a w => ∃ (t2 : Bool), t2 = x4 ∧ Has 9 a [(2, .bool (t2))] ∧ Mem C w [] []) ?_ ?_
 ·refine region_pl ?_
  refine q_ hf rfl rfl rfl (e_move hf rfl) fun a hf => ?_
  refine q_ hf rfl rfl rfl (e_geB hf (x := c1) (y := 97) rfl rfl) fun a hf => ?_
  refine q_ hf rfl rfl rfl (e_move hf rfl) fun a hf => ?_
  rcases cond_some h5 with ⟨hc6, h5⟩ | ⟨hc6, h5⟩
  ·refine gq (wanted_t hf rfl rfl rfl rfl hc6) hf rfl rfl (e_move hf rfl) fun a hf => ?_
   refine gq (wanted_t hf rfl rfl rfl rfl hc6) hf rfl rfl (e_leB hf (x := c1) (y := 122) rfl rfl) fun a hf => ?_
   refine q_ hf rfl rfl rfl (e_pick_t hf rfl hc6 rfl) fun a hf => ?_
   refine q_ hf rfl rfl rfl (e_assign hf rfl) fun a hf => ?_
   refine pl_nil ?_
   obtain rfl := some_inj h5
   refine then_n ?_
   exact ⟨(decide (c1 ≤ 122)), rfl, hf.keep ⟨rfl, trivial⟩, hM.pick [] rfl⟩
  iterate 2 refine pl_gs (wanted_f hf rfl rfl rfl rfl hc6) hf rfl rfl fun a hf => ?_
  refine q_ hf rfl rfl rfl (e_pick_f hf rfl hc6 rfl) fun a hf => ?_
  refine q_ hf rfl rfl rfl (e_assign hf rfl) fun a hf => ?_
  refine pl_nil ?_
  obtain rfl := some_inj h5
  refine then_n ?_
  exact ⟨false, rfl, hf.keep ⟨rfl, trivial⟩, hM.pick [] rfl⟩
 rintro a w9 ⟨t2, rfl, hf, hM⟩
 try dsimp only at h
 refine wp_ret ?_
 obtain rfl := some_inj h
 exact leave1 hf rfl rfl ⟨rfl, hM.fin⟩

set_option maxRecDepth 100000 in
set_option maxHeartbeats 4000000 in
theorem r_spec_l00In (C : Cx) (n1 : Int) (hp2 : R64 n1) (low3 : Int) (hp4 : R64 low3) (high5 : Int) (hp6 : R64 high5) (r : Bool) (h : m_spec_l00In n1 low3 high5 = some r) :
    Calls Tryz.prog 105 #[vI (n1), vI (low3), vI (high5)] C.w0 fun e w => e = .returned (.bool (r)) ∧ Mem C w [] [] := by
 have hM := Mem.begin C [] trivial
 refine enter Tryz.func105 rfl Tryz.ntmps105 rfl fun a hf => ?_
 unfold m_spec_l00In at h
 refine wp_seq ?_
 refine region_pl ?_
 refine q_ hf rfl rfl rfl (e_assign hf rfl) fun a hf => ?_
 refine pl_nil ?_
 refine then_n ?_
 obtain ⟨x9, h10, h⟩ := bind_some h
 refine seq_join (fun a w => ∃ (t7 : Bool), t7 = x9 ∧ Has 15 a [(6, .bool (t7))] ∧ Mem C w [] []) ?_ ?_
 ·refine region_pl ?_
  iterate 2 refine q_ hf rfl rfl rfl (e_move hf rfl) fun a hf => ?_
  refine q_ hf rfl rfl rfl (e_ge hf (x := n1) (y := low3) rfl rfl) fun a hf => ?_
  refine q_ hf rfl rfl rfl (e_move hf rfl) fun a hf => ?_
  rcases cond_some h10 with ⟨hc11, h10⟩ | ⟨hc11, h10⟩
  ·iterate 2 refine gq (wanted_t hf rfl rfl rfl rfl hc11) hf rfl rfl (e_move hf rfl) fun a hf => ?_
   refine gq (wanted_t hf rfl rfl rfl rfl hc11) hf rfl rfl (e_le hf (x := n1) (y := high5) rfl rfl) fun a hf => ?_
   refine q_ hf rfl rfl rfl (e_pick_t hf rfl hc11 rfl) fun a hf => ?_
   refine q_ hf rfl rfl rfl (e_assign hf rfl) fun a hf => ?_
   refine pl_nil ?_
   obtain rfl := some_inj h10
   refine then_n ?_
   exact ⟨(decide (n1 ≤ high5)), rfl, hf.keep ⟨rfl, trivial⟩, hM.pick [] rfl⟩
  iterate 3 refine pl_gs (wanted_f hf rfl rfl rfl rfl hc11) hf rfl rfl fun a hf => ?_
  refine q_ hf rfl rfl rfl (e_pick_f hf rfl hc11 rfl) fun a hf => ?_
  refine q_ hf rfl rfl rfl (e_assign hf rfl) fun a hf => ?_
  refine pl_nil ?_
  obtain rfl := some_inj h10
  refine then_n ?_
  exact ⟨false, rfl, hf.keep ⟨rfl, trivial⟩, hM.pick [] rfl⟩
 rintro a w14 ⟨t7, rfl, hf, hM⟩
 try dsimp only at h
 refine wp_ret ?_
 obtain rfl := some_inj h
 exact leave1 hf rfl rfl ⟨rfl, hM.fin⟩

set_option maxRecDepth 100000 in
set_option maxHeartbeats 4000000 in
theorem r_spec_IsWord (C : Cx) (s1 : Str) (hp2 : s1.length ≤ maxLen) (r : Bool) (h : m_spec_IsWord s1 = some r) :
    Calls Tryz.prog 102 #[vS (s1)] C.w0 fun e w => e = .returned (.bool (r)) ∧ Mem C w [] [] := by
 have hM := Mem.begin C [] trivial
 refine enter Tryz.func102 rfl Tryz.ntmps102 rfl fun a hf => ?_
 unfold m_spec_IsWord at h
 refine wp_seq ?_
 refine region_pl ?_
 refine q_ hf rfl rfl rfl (e_assign hf rfl) fun a hf => ?_
 refine pl_nil ?_
 refine then_n ?_
 obtain ⟨x3, h4, h⟩ := bind_some h
 refine seq_join (fun a w => (.inl ()) = x3 ∧ Has 18 a [(0, vS (s1))] ∧ Mem C w [] []) ?_ ?_
 ·refine wp_seq ?_
  refine region_pl ?_
  refine q_ hf rfl rfl rfl (e_assign hf rfl) fun a hf => ?_
  refine pl_nil ?_
  refine then_n ?_
  refine wp_block ?_
  obtain ⟨x8, h9, h4⟩ := bind_some h4
  refine wp_loopM h9 (fun s a w => ∃ (n5 : Int), n5 = s ∧ Has 18 a [(0, vS (s1)), (3, vI (n5))] ∧ Mem C w [] [] ∧ R64 n5) ?_ ?_
  ·exact ⟨0, rfl, hf.keep ⟨rfl, rfl, trivial⟩, hM.pick [] rfl, (R64_lit rfl)⟩
  rintro s o10 a w7 ⟨n5, rfl, hf, hM, hv6⟩ h11 hd12
  replace h11 : m_spec_IsWord_l1 s1 n5 = some o10 := h11
  unfold m_spec_IsWord_l1 at h11
  iterate 2 refine wp_seq ?_
  refine region_pl ?_
  iterate 2 refine q_ hf rfl rfl rfl (e_move hf rfl) fun a hf => ?_
  refine q_ hf rfl rfl rfl (e_lenS hf (x := s1) rfl Tryz.underlying9) fun a hf => ?_
  refine q_ hf rfl rfl rfl (e_lt hf (x := n5) (y := (s1.length : Int)) rfl rfl) fun a hf => ?_
  refine pl_nil ?_
  refine then_n ?_
  rcases cond_some h11 with ⟨hc13, h11⟩ | ⟨hc13, h11⟩
  ·refine cond_t hf rfl hc13 ?_
   refine wp_skip ?_
   refine then_n ?_
   refine wp_seq ?_
   refine wp_block ?_
   refine wp_seq ?_
   refine region_pl ?_
   iterate 2 refine q_ hf rfl rfl rfl (e_move hf rfl) fun a hf => ?_
   obtain ⟨c14, hz15, h11⟩ := bind_some h11
   refine q_ hf rfl rfl rfl (e_indexS hf (x := s1) rfl rfl Tryz.underlying9 hz15) fun a hf => ?_
   obtain ⟨y16, hz17, h11⟩ := bind_some h11
   refine pl_l hf rfl rfl rfl (w_call hf Tryz.call106 rfl (r_spec_l01Small ⟨_, Sh C _ _, none_, hM.sh_lt, none_not, C.G, hM.g_lt, g_none, hM.tabs⟩ c14 _ hz17) ?_)
   rintro _ w18 ⟨rfl, hM2⟩
   obtain ⟨hM, hx19, hup20⟩ := hM.back hM2
   dsimp only [List.cons_append, List.nil_append] at hM hup20
   clear hM2
   refine ⟨_, rfl, fun a hf => ?_⟩
   refine q_ hf rfl rfl rfl (e_not hf rfl) fun a hf => ?_
   refine pl_nil ?_
   refine then_n ?_
   rcases cond_some h11 with ⟨hc21, h11⟩ | ⟨hc21, h11⟩
   ·refine cond_t hf rfl hc21 ?_
    refine wp_seq ?_
    refine region_pl ?_
    refine q_ hf rfl rfl rfl (e_assign hf rfl) fun a hf => ?_
    refine pl_nil ?_
    refine then_n ?_
    refine wp_ret ?_
    refine blk_r ?_
    refine then_r ?_
    obtain rfl := some_inj h11
    obtain rfl := hd12 _ rfl
    try dsimp only at h4
    refine then_r ?_
    refine blk_r ?_
    obtain rfl := some_inj h4
    try dsimp only at h
    refine then_r ?_
    obtain rfl := some_inj h
    exact leave1 hf rfl rfl ⟨rfl, hM.fin⟩
   refine cond_f hf rfl hc21 ?_
   refine wp_skip ?_
   refine blk_n ?_
   refine then_n ?_
   refine region_pl ?_
   refine q_ hf rfl rfl rfl (e_move hf rfl) fun a hf => ?_
   obtain ⟨z22, hz23, h11⟩ := bind_some h11
   refine q_ hf rfl rfl rfl (e_add hf rfl rfl hz23) fun a hf => ?_
   refine q_ hf rfl rfl rfl (e_assign hf rfl) fun a hf => ?_
   refine pl_nil ?_
   obtain rfl := some_inj h11
   refine then_n ⟨_, rfl, ?_⟩
   exact ⟨z22, rfl, hf.keep ⟨rfl, rfl, trivial⟩, hM.pick [] rfl, (chk_R hz23)⟩
  refine cond_f hf rfl hc13 ?_
  refine wp_exit ?_
  refine then_x ?_
  obtain rfl := some_inj h11
  obtain rfl := hd12 _ rfl
  try dsimp only at h4
  refine then_x ?_
  refine exit_hit ?_
  obtain rfl := some_inj h4
  refine then_n ?_
  exact ⟨rfl, hf.keep ⟨rfl, trivial⟩, hM.pick [] rfl⟩
 rintro a w30 ⟨rfl, hf, hM⟩
 try dsimp only at h
 refine wp_seq ?_
 refine region_pl ?_
 refine q_ hf rfl rfl rfl (e_move hf rfl) fun a hf => ?_
 refine q_ hf rfl rfl rfl (e_lenS hf (x := s1) rfl Tryz.underlying9) fun a hf => ?_
 obtain ⟨y31, hz32, h⟩ := bind_some h
 refine pl_l hf rfl rfl rfl (w_call hf Tryz.call105 rfl (r_spec_l00In ⟨_, Sh C _ _, none_, hM.sh_lt, none_not, C.G, hM.g_lt, g_none, hM.tabs⟩ (s1.length : Int) (R64_len hp2) 1 (R64_lit rfl) 12 (R64_lit rfl) _ hz32) ?_)
 rintro _ w33 ⟨rfl, hM2⟩
 obtain ⟨hM, hx34, hup35⟩ := hM.back hM2
 dsimp only [List.cons_append, List.nil_append] at hM hup35
 clear hM2
 refine ⟨_, rfl, fun a hf => ?_⟩
 refine q_ hf rfl rfl rfl (e_assign hf rfl) fun a hf => ?_
 refine pl_nil ?_
 refine then_n ?_
 refine wp_ret ?_
 obtain rfl := some_inj h
 exact leave1 hf rfl rfl ⟨rfl, hM.fin⟩

set_option maxRecDepth 100000 in
set_option maxHeartbeats 4000000 in
theorem r_spec_l05Long (C : Cx) (s1 : Str) (hp2 : s1.length ≤ maxLen) (r : Bool) (h : m_spec_l05Long s1 = some r) :
    Calls Tryz.prog 72 #[vS (s1)] C.w0 fun e w => e = .returned (.bool (r)) ∧ Mem C w [] [] := by
 have hM := Mem.begin C [] trivial
 refine enter Tryz.func72 rfl Tryz.ntmps72 rfl fun a hf => ?_
 unfold m_spec_l05Long at h
 refine wp_seq ?_
 refine region_pl ?_
 refine q_ hf rfl rfl rfl (e_assign hf rfl) fun a hf => ?_
 refine pl_nil ?_
 refine then_n ?_
 obtain ⟨x5, h6, h⟩ := bind_some h
 refine seq_join (fun a w => ∃ (t3 : Bool), t3 = x5 ∧ Has 10 a [(2, .bool (t3))] ∧ Mem C w [] []) ?_ ?_
 ·refine region_pl ?_
  refine q_ hf rfl rfl rfl (e_move hf rfl) fun a hf => ?_
  refine q_ hf rfl rfl rfl (e_lenS hf (x := s1) rfl Tryz.underlying9) fun a hf => ?_
  refine q_ hf rfl rfl rfl (e_gt hf (x := (s1.length : Int)) (y := 1) rfl rfl) fun a hf => ?_
  refine q_ hf rfl rfl rfl (e_move hf rfl) fun a hf => ?_
  rcases cond_some h6 with ⟨hc7, h6⟩ | ⟨hc7, h6⟩
  ·refine gq (wanted_t hf rfl rfl rfl rfl hc7) hf rfl rfl (e_move hf rfl) fun a hf => ?_
   obtain ⟨y8, hz9, h6⟩ := bind_some h6
   refine pl_gl (wanted_t hf rfl rfl rfl rfl hc7) hf rfl rfl (w_call hf Tryz.call102 rfl (r_spec_IsWord ⟨_, Sh C _ _, none_, hM.sh_lt, none_not, C.G, hM.g_lt, g_none, hM.tabs⟩ s1 hp2 _ hz9) ?_)
   rintro _ w10 ⟨rfl, hM2⟩
   obtain ⟨hM, hx11, hup12⟩ := hM.back hM2
   dsimp only [List.cons_append, List.nil_append] at hM hup12
   clear hM2
   refine ⟨_, rfl, fun a hf => ?_⟩
   refine q_ hf rfl rfl rfl (e_pick_t hf rfl hc7 rfl) fun a hf => ?_
   refine q_ hf rfl rfl rfl (e_assign hf rfl) fun a hf => ?_
   refine pl_nil ?_
   obtain rfl := some_inj h6
   refine then_n ?_
   exact ⟨y8, rfl, hf.keep ⟨rfl, trivial⟩, hM.pick [] rfl⟩
  iterate 2 refine pl_gs (wanted_f hf rfl rfl rfl rfl hc7) hf rfl rfl fun a hf => ?_
  refine q_ hf rfl rfl rfl (e_pick_f hf rfl hc7 rfl) fun a hf => ?_
  refine q_ hf rfl rfl rfl (e_assign hf rfl) fun a hf => ?_
  refine pl_nil ?_
  obtain rfl := some_inj h6
  refine then_n ?_
  exact ⟨false, rfl, hf.keep ⟨rfl, trivial⟩, hM.pick [] rfl⟩
 rintro a w15 ⟨t3, rfl, hf, hM⟩
 try dsimp only at h
 refine wp_ret ?_
 obtain rfl := some_inj h
 exact leave1 hf rfl rfl ⟨rfl, hM.fin⟩

set_option maxRecDepth 100000 in
set_option maxHeartbeats 4000000 in
theorem r_spec_l05Ok (C : Cx) (l1 : Lexicon) (b2 : Nat) (o3 : Nat) (hp4 : (ptrRep LexiconRep).R C.w0 C.S0 l1 [vP b2 o3]) (r : Bool) (h : m_spec_l05Ok l1 = some r) :
    Calls Tryz.prog 45 #[vP b2 (o3)] C.w0 fun e w => e = .returned (.bool (r)) ∧ Mem C w [] [] := by
 have hM := Mem.begin C [.dat (ptrRep LexiconRep) l1 [vP b2 o3]] ⟨hp4, trivial⟩
 refine enter Tryz.func45 rfl Tryz.ntmps45 rfl fun a hf => ?_
 unfold m_spec_l05Ok at h
 refine wp_seq ?_
 refine region_pl ?_
 refine q_ hf rfl rfl rfl (e_assign hf rfl) fun a hf => ?_
 refine pl_nil ?_
 refine then_n ?_
 obtain ⟨x5, h6, h⟩ := bind_some h
 refine seq_join (fun a w => (.inl ()) = x5 ∧ Has 50 a [(0, vP b2 (o3))] ∧ Mem C w [] [.dat (ptrRep LexiconRep) l1 [vP b2 o3]]) ?_ ?_
 ·refine wp_seq ?_
  refine region_pl ?_
  refine q_ hf rfl rfl rfl (e_assign hf rfl) fun a hf => ?_
  refine pl_nil ?_
  refine then_n ?_
  refine wp_block ?_
  obtain ⟨x10, h11, h6⟩ := bind_some h6
  refine wp_loopM h11 (fun s a w => ∃ (n7 : Int), n7 = s ∧ Has 50 a [(0, vP b2 (o3)), (3, vI (n7))] ∧ Mem C w [] [.dat (ptrRep LexiconRep) l1 [vP b2 o3]] ∧ R64 n7) ?_ ?_
  ·exact ⟨0, rfl, hf.keep ⟨rfl, rfl, trivial⟩, hM.pick [0] rfl, (R64_lit rfl)⟩
  rintro s o12 a w9 ⟨n7, rfl, hf, hM, hv8⟩ h13 hd14
  replace h13 : m_spec_l05Ok_l1 l1 n7 = some o12 := h13
  unfold m_spec_l05Ok_l1 at h13
  iterate 2 refine wp_seq ?_
  refine region_pl ?_
  iterate 2 refine q_ hf rfl rfl rfl (e_move hf rfl) fun a hf => ?_
  refine q_ hf rfl rfl rfl (e_nil hf rfl) fun a hf => ?_
  obtain ⟨_, hr15, hM⟩ := hM.deref (hM.dat (k := 0) rfl)
  obtain ⟨A16, c17, rfl, hv18⟩ := LexiconRep_open hr15
  have hM := hM.add (y := .dat (sliceRep strRep) l1.Words [vL A16 l1.Words c17]) hv18
  refine q_ hf rfl rfl rfl (e_field hf rfl Tryz.underlying26 rfl Tryz.sizeOf24 (o' := o3 + 0) rfl) fun a hf => ?_
  refine q_ hf rfl rfl rfl (e_load1 hf rfl Tryz.isAgg24 (hM.litCell (k := 1) (j := 0) rfl rfl rfl)) fun a hf => ?_
  have hl19 := slice_len (hM.dat (k := 0) rfl)
  refine q_ hf rfl rfl rfl (e_lenL hf (x := l1.Words) rfl Tryz.underlying24) fun a hf => ?_
  refine q_ hf rfl rfl rfl (e_lt hf (x := n7) (y := (l1.Words.length : Int)) rfl rfl) fun a hf => ?_
  refine pl_nil ?_
  refine then_n ?_
  rcases cond_some h13 with ⟨hc20, h13⟩ | ⟨hc20, h13⟩
  ·refine cond_t hf rfl hc20 ?_
   refine wp_skip ?_
   refine then_n ?_
   refine wp_seq ?_
   refine wp_block ?_
   obtain ⟨x23, h24, h13⟩ := bind_some h13
   refine seq_join (fun a w => ∃ (t21 : Bool), t21 = x23 ∧ Has 50 a [(0, vP b2 (o3)), (3, vI (n7)), (43, .bool (t21))] ∧ Mem C w [] [.dat (sliceRep strRep) l1.Words [vL A16 l1.Words c17], .lit b2 (o3) [vL A16 (l1.Words) c17], .dat (ptrRep LexiconRep) l1 [vP b2 o3]]) ?_ ?_
   ·obtain ⟨w25, hw⟩ : ∃ x, x = w9.drew := ⟨_, rfl⟩
    refine region_pi (.q 0 (.q 1 (.q 2 (.q 3 (.q 4 (.q 5 (.q 6 (.l 7 (.q 8 (.q 9 (.q 10 (.q 11 (.q 12 (.q 13 (.q 14 (.q 15 (.q 16 (.q 17 (.q 18 (.q 19 (.q 20 (.q 21 (.q 22 (.q 23 (.q 24 (.q 25 (.q 26 (.q 27 (.q 28 (.q 29 (.q 30 (.nil)))))))))))))))))))))))))))))))) (Ext w25) rfl (by kernel_rfl) ?_
    have hM := hM.drew
    rw [← hw] at hM ⊢
    clear hw
    refine pi_q hf rfl rfl rfl rfl (Ext.refl _) (e_move hf rfl) fun a hf => ?_
    refine pi_q hf rfl rfl rfl rfl (Ext.refl _) (e_nil hf rfl) fun a hf => ?_
    refine pi_q hf rfl rfl rfl rfl (Ext.refl _) (e_field hf rfl Tryz.underlying26 rfl Tryz.sizeOf24 (o' := o3 + 0) rfl) fun a hf => ?_
    refine pi_q hf rfl rfl rfl rfl (Ext.refl _) (e_load1 hf rfl Tryz.isAgg24 (hM.litCell (k := 1) (j := 0) rfl rfl rfl)) fun a hf => ?_
    refine pi_q hf rfl rfl rfl rfl (Ext.refl _) (e_move hf rfl) fun a hf => ?_
    obtain ⟨e26, hz27, h24⟩ := bind_some h24
    obtain ⟨b31, o32, _, hA33, h28, h29, hr30, hM⟩ := hM.elem (hM.dat (k := 0) rfl) (n := 1) rfl hz27
    obtain ⟨rfl, hv34⟩ := hr30
    refine pi_q hf rfl rfl rfl rfl (Ext.refl _) (e_indexAddr (A := A16) (b := b31) (o := o32) (xs := l1.Words) (i := n7) hf hA33 rfl rfl Tryz.underlying24 Tryz.sizeOf9 h28 h29) fun a hf => ?_
    refine pi_q hf rfl rfl rfl rfl (Ext.refl _) (e_load1 hf rfl Tryz.isAgg9 (hM.litCell (k := 0) (j := 0) rfl rfl rfl)) fun a hf => ?_
    refine pi_one ?_
    obtain ⟨y35, hz36, h24⟩ := bind_some h24
    refine pi_l hf rfl rfl rfl rfl (w_call hf Tryz.call72 rfl (r_spec_l05Long ⟨_, Sh C _ _, none_, hM.sh_lt, none_not, C.G, hM.g_lt, g_none, hM.tabs⟩ e26 hv34 _ hz36) ?_)
    rintro _ w37 ⟨rfl, hM2⟩
    obtain ⟨hM, hx38, hup39⟩ := hM.back hM2
    dsimp only [List.cons_append, List.nil_append] at hM hup39
    clear hM2
    refine ⟨_, rfl, Ext w37, fun _ h => Ext.trans hx38 h, Ext.refl _, fun a hf => ?_⟩
    refine pi_q hf rfl rfl rfl rfl (Ext.refl _) (e_not hf rfl) fun a hf => ?_
    refine pi_q hf rfl rfl rfl rfl (Ext.refl _) (e_move hf rfl) fun a hf => ?_
    rcases cond_some h24 with ⟨hc40, h24⟩ | ⟨hc40, h24⟩
    ·iterate 3 refine pi_gs hf rfl (wanted_f hf rfl rfl rfl rfl hc40) rfl rfl (Ext.refl _) fun a hf => ?_
     iterate 16 refine pi_gs hf rfl (wanted_u hf rfl rfl rfl rfl) rfl rfl (Ext.refl _) fun a hf => ?_
     refine pi_gs hf rfl (wanted_f hf rfl rfl rfl rfl hc40) rfl rfl (Ext.refl _) fun a hf => ?_
     refine pi_q hf rfl rfl rfl rfl (Ext.refl _) (e_pick_t hf rfl hc40 rfl) fun a hf => ?_
     refine pi_nil ?_
     obtain rfl := some_inj h24
     refine then_n ?_
     exact ⟨true, rfl, hf.keep ⟨rfl, rfl, rfl, trivial⟩, hM.pick [1, 2, 3] rfl⟩
    refine pi_gq hf rfl (wanted_t hf rfl rfl rfl rfl hc40) rfl rfl (Ext.refl _) (e_move hf rfl) fun a hf => ?_
    refine pi_gq hf rfl (wanted_t hf rfl rfl rfl rfl hc40) rfl rfl (Ext.refl _) (e_gt hf (x := n7) (y := 0) rfl rfl) fun a hf => ?_
    refine pi_gq hf rfl (wanted_t hf rfl rfl rfl rfl hc40) rfl rfl (Ext.refl _) (e_move hf rfl) fun a hf => ?_
    rcases cond_some h24 with ⟨hc42, h24⟩ | ⟨hc42, h24⟩
    ·refine pi_gq hf rfl (wanted_t hf rfl rfl rfl rfl hc42) rfl rfl (Ext.refl _) (e_move hf rfl) fun a hf => ?_
     refine pi_gq hf rfl (wanted_t hf rfl rfl rfl rfl hc42) rfl rfl (Ext.refl _) (e_nil hf rfl) fun a hf => ?_
     refine pi_gq hf rfl (wanted_t hf rfl rfl rfl rfl hc42) rfl rfl (Ext.refl _) (e_field hf rfl Tryz.underlying26 rfl Tryz.sizeOf24 (o' := o3 + 0) rfl) fun a hf => ?_
     refine pi_gq hf rfl (wanted_t hf rfl rfl rfl rfl hc42) rfl rfl (Ext.refl _) (e_load1 hf rfl Tryz.isAgg24 (hM.litCell (k := 2) (j := 0) rfl rfl rfl)) fun a hf => ?_
     refine pi_gq hf rfl (wanted_t hf rfl rfl rfl rfl hc42) rfl rfl (Ext.refl _) (e_move hf rfl) fun a hf => ?_
     obtain ⟨e43, hz44, h24⟩ := bind_some h24
     obtain ⟨b48, o49, _, hA50, h45, h46, hr47, hM⟩ := hM.elem (hM.dat (k := 1) rfl) (n := 1) rfl hz44
     obtain ⟨rfl, hv51⟩ := hr47
     refine pi_gq hf rfl (wanted_t hf rfl rfl rfl rfl hc42) rfl rfl (Ext.refl _) (e_indexAddr (A := A16) (b := b48) (o := o49) (xs := l1.Words) (i := n7) hf hA50 rfl rfl Tryz.underlying24 Tryz.sizeOf9 h45 h46) fun a hf => ?_
     refine pi_gq hf rfl (wanted_t hf rfl rfl rfl rfl hc42) rfl rfl (Ext.refl _) (e_load1 hf rfl Tryz.isAgg9 (hM.litCell (k := 0) (j := 0) rfl rfl rfl)) fun a hf => ?_
     refine pi_gq hf rfl (wanted_t hf rfl rfl rfl rfl hc42) rfl rfl (Ext.refl _) (e_move hf rfl) fun a hf => ?_
     refine pi_gq hf rfl (wanted_t hf rfl rfl rfl rfl hc42) rfl rfl (Ext.refl _) (e_nil hf rfl) fun a hf => ?_
     refine pi_gq hf rfl (wanted_t hf rfl rfl rfl rfl hc42) rfl rfl (Ext.refl _) (e_field hf rfl Tryz.underlying26 rfl Tryz.sizeOf24 (o' := o3 + 0) rfl) fun a hf => ?_
     refine pi_gq hf rfl (wanted_t hf rfl rfl rfl rfl hc42) rfl rfl (Ext.refl _) (e_load1 hf rfl Tryz.isAgg24 (hM.litCell (k := 3) (j := 0) rfl rfl rfl)) fun a hf => ?_
     refine pi_gq hf rfl (wanted_t hf rfl rfl rfl rfl hc42) rfl rfl (Ext.refl _) (e_move hf rfl) fun a hf => ?_
     obtain ⟨z52, hz53, h24⟩ := bind_some h24
     refine pi_gq hf rfl (wanted_t hf rfl rfl rfl rfl hc42) rfl rfl (Ext.refl _) (e_sub hf rfl rfl hz53) fun a hf => ?_
     obtain ⟨e54, hz55, h24⟩ := bind_some h24
     obtain ⟨b59, o60, _, hA61, h56, h57, hr58, hM⟩ := hM.elem (hM.dat (k := 2) rfl) (n := 1) rfl hz55
     obtain ⟨rfl, hv62⟩ := hr58
     refine pi_gq hf rfl (wanted_t hf rfl rfl rfl rfl hc42) rfl rfl (Ext.refl _) (e_indexAddr (A := A16) (b := b59) (o := o60) (xs := l1.Words) (i := z52) hf hA61 rfl rfl Tryz.underlying24 Tryz.sizeOf9 h56 h57) fun a hf => ?_
     refine pi_gq hf rfl (wanted_t hf rfl rfl rfl rfl hc42) rfl rfl (Ext.refl _) (e_load1 hf rfl Tryz.isAgg9 (hM.litCell (k := 0) (j := 0) rfl rfl rfl)) fun a hf => ?_
     refine pi_gq hf rfl (wanted_t hf rfl rfl rfl rfl hc42) rfl rfl (Ext.refl _) (e_leS hf (x := e43) (y := e54) rfl rfl) fun a hf => ?_
     refine pi_gq hf rfl (wanted_t hf rfl rfl rfl rfl hc40) rfl rfl (Ext.refl _) (e_pick_t hf rfl hc42 rfl) fun a hf => ?_
     refine pi_q hf rfl rfl rfl rfl (Ext.refl _) (e_pick_f hf rfl hc40 rfl) fun a hf => ?_
     refine pi_nil ?_
     obtain rfl := some_inj h24
     refine then_n ?_
     exact ⟨(ltS e43 e54 || e43 == e54), rfl, hf.keep ⟨rfl, rfl, rfl, trivial⟩, hM.pick [3, 4, 5] rfl⟩
    iterate 16 refine pi_gs hf rfl (wanted_f hf rfl rfl rfl rfl hc42) rfl rfl (Ext.refl _) fun a hf => ?_
    refine pi_gq hf rfl (wanted_t hf rfl rfl rfl rfl hc40) rfl rfl (Ext.refl _) (e_pick_f hf rfl hc42 rfl) fun a hf => ?_
    refine pi_q hf rfl rfl rfl rfl (Ext.refl _) (e_pick_f hf rfl hc40 rfl) fun a hf => ?_
    refine pi_nil ?_
    obtain rfl := some_inj h24
    refine then_n ?_
    exact ⟨false, rfl, hf.keep ⟨rfl, rfl, rfl, trivial⟩, hM.pick [1, 2, 3] rfl⟩
   rintro a w65 ⟨t21, rfl, hf, hM⟩
   try dsimp only at h13
   rcases cond_some h13 with ⟨hc66, h13⟩ | ⟨hc66, h13⟩
   ·refine cond_t hf rfl hc66 ?_
    refine wp_seq ?_
    refine region_pl ?_
    refine q_ hf rfl rfl rfl (e_assign hf rfl) fun a hf => ?_
    refine pl_nil ?_
    refine then_n ?_
    refine wp_ret ?_
    refine blk_r ?_
    refine then_r ?_
    obtain rfl := some_inj h13
    obtain rfl := hd14 _ rfl
    try dsimp only at h6
    refine then_r ?_
    refine blk_r ?_
    obtain rfl := some_inj h6
    try dsimp only at h
    refine then_r ?_
    obtain rfl := some_inj h
    exact leave1 hf rfl rfl ⟨rfl, hM.fin⟩
   refine cond_f hf rfl hc66 ?_
   refine wp_skip ?_
   refine blk_n ?_
   refine then_n ?_
   refine region_pl ?_
   refine q_ hf rfl rfl rfl (e_move hf rfl) fun a hf => ?_
   obtain ⟨z67, hz68, h13⟩ := bind_some h13
   refine q_ hf rfl rfl rfl (e_add hf rfl rfl hz68) fun a hf => ?_
   refine q_ hf rfl rfl rfl (e_assign hf rfl) fun a hf => ?_
   refine pl_nil ?_
   obtain rfl := some_inj h13
   refine then_n ⟨_, rfl, ?_⟩
   exact ⟨z67, rfl, hf.keep ⟨rfl, rfl, trivial⟩, hM.pick [2] rfl, (chk_R hz68)⟩
  refine cond_f hf rfl hc20 ?_
  refine wp_exit ?_
  refine then_x ?_
  obtain rfl := some_inj h13
  obtain rfl := hd14 _ rfl
  try dsimp only at h6
  refine then_x ?_
  refine exit_hit ?_
  obtain rfl := some_inj h6
  refine then_n ?_
  exact ⟨rfl, hf.keep ⟨rfl, trivial⟩, hM.pick [2] rfl⟩
 rintro a w75 ⟨rfl, hf, hM⟩
 try dsimp only at h
 refine wp_seq ?_
 refine region_pl ?_
 refine q_ hf rfl rfl rfl (e_move hf rfl) fun a hf => ?_
 refine q_ hf rfl rfl rfl (e_nil hf rfl) fun a hf => ?_
 obtain ⟨_, hr76, hM⟩ := hM.deref (hM.dat (k := 0) rfl)
 obtain ⟨A77, c78, rfl, hv79⟩ := LexiconRep_open hr76
 have hM := hM.add (y := .dat (sliceRep strRep) l1.Words [vL A77 l1.Words c78]) hv79
 refine q_ hf rfl rfl rfl (e_field hf rfl Tryz.underlying26 rfl Tryz.sizeOf24 (o' := o3 + 0) rfl) fun a hf => ?_
 refine q_ hf rfl rfl rfl (e_load1 hf rfl Tryz.isAgg24 (hM.litCell (k := 1) (j := 0) rfl rfl rfl)) fun a hf => ?_
 have hl80 := slice_len (hM.dat (k := 0) rfl)
 refine q_ hf rfl rfl rfl (e_lenL hf (x := l1.Words) rfl Tryz.underlying24) fun a hf => ?_
 refine q_ hf rfl rfl rfl (e_le hf (x := (l1.Words.length : Int)) (y := 200) rfl rfl) fun a hf => ?_
 refine q_ hf rfl rfl rfl (e_assign hf rfl) fun a hf => ?_
 refine pl_nil ?_
 refine then_n ?_
 refine wp_ret ?_
 obtain rfl := some_inj h
 exact leave1 hf rfl rfl ⟨rfl, hM.fin⟩

set_option maxRecDepth 100000 in
set_option maxHeartbeats 4000000 in
theorem r_spec_l05First (C : Cx) (list1 : (List Str)) (A2 : Option Addr) (c3 : Nat) (hp4 : (sliceRep strRep).R C.w0 C.S0 list1 [vL A2 list1 c3]) (s5 : Str) (hp6 : s5.length ≤ maxLen) (r : Int) (h : m_spec_l05First list1 s5 = some r) :
    Calls Tryz.prog 73 #[vL A2 (list1) c3, vS (s5)] C.w0 fun e w => e = .returned (vI (r)) ∧ Mem C w [] [] ∧ R64 r := by
 have hM := Mem.begin C [.dat (sliceRep strRep) list1 [vL A2 list1 c3]] ⟨hp4, trivial⟩
 refine enter Tryz.func73 rfl Tryz.ntmps73 rfl fun a hf => ?_
 unfold m_spec_l05First at h
 refine wp_seq ?_
 refine region_pl ?_
 refine q_ hf rfl rfl rfl (e_assign hf rfl) fun a hf => ?_
 refine pl_nil ?_
 refine then_n ?_
 refine wp_seq ?_
 refine region_pl ?_
 refine q_ hf rfl rfl rfl (e_assign hf rfl) fun a hf => ?_
 refine pl_nil ?_
 refine then_n ?_
 obtain ⟨x9, h10, h⟩ := bind_some h
 refine seq_join (fun a w => ∃ (n7 : Int), n7 = x9 ∧ Has 21 a [(5, vI (n7))] ∧ Mem C w [] [.dat (sliceRep strRep) list1 [vL A2 list1 c3]] ∧ R64 n7) ?_ ?_
 ·refine wp_block ?_
  obtain ⟨x16, h17, h10⟩ := bind_some h10
  refine wp_loopM h17 (fun s a w => ∃ (n11 : Int), n11 = s ∧ Has 21 a [(0, vL A2 (list1) c3), (1, vS (s5)), (5, vI (n11))] ∧ Mem C w [] [.dat (sliceRep strRep) list1 [vL A2 list1 c3]] ∧ R64 n11) ?_ ?_
  ·exact ⟨0, rfl, hf.keep ⟨rfl, rfl, rfl, trivial⟩, hM.pick [0] rfl, (R64_lit rfl)⟩
  rintro s o18 a w13 ⟨n11, rfl, hf, hM, hv12⟩ h19 hd20
  replace h19 : m_spec_l05First_l1 list1 s5 n11 = some o18 := h19
  unfold m_spec_l05First_l1 at h19
  refine wp_seq ?_
  obtain ⟨x23, h24, h19⟩ := bind_some h19
  refine seq_join (fun a w => ∃ (t21 : Bool), t21 = x23 ∧ Has 21 a [(0, vL A2 (list1) c3), (1, vS (s5)), (5, vI (n11)), (17, .bool (t21))] ∧ Mem C w [] [.dat (sliceRep strRep) list1 [vL A2 list1 c3]]) ?_ ?_
  ·refine region_pl ?_
   iterate 2 refine q_ hf rfl rfl rfl (e_move hf rfl) fun a hf => ?_
   have hl25 := slice_len (hM.dat (k := 0) rfl)
   refine q_ hf rfl rfl rfl (e_lenL hf (x := list1) rfl Tryz.underlying24) fun a hf => ?_
   refine q_ hf rfl rfl rfl (e_lt hf (x := n11) (y := (list1.length : Int)) rfl rfl) fun a hf => ?_
   refine q_ hf rfl rfl rfl (e_move hf rfl) fun a hf => ?_
   rcases cond_some h24 with ⟨hc26, h24⟩ | ⟨hc26, h24⟩
   ·iterate 2 refine gq (wanted_t hf rfl rfl rfl rfl hc26) hf rfl rfl (e_move hf rfl) fun a hf => ?_
    obtain ⟨e27, hz28, h24⟩ := bind_some h24
    obtain ⟨b32, o33, _, hA34, h29, h30, hr31, hM⟩ := hM.elem (hM.dat (k := 0) rfl) (n := 1) rfl hz28
    obtain ⟨rfl, hv35⟩ := hr31
    refine gq (wanted_t hf rfl rfl rfl rfl hc26) hf rfl rfl (e_indexAddr (A := A2) (b := b32) (o := o33) (xs := list1) (i := n11) hf hA34 rfl rfl Tryz.underlying24 Tryz.sizeOf9 h29 h30) fun a hf => ?_
    refine gq (wanted_t hf rfl rfl rfl rfl hc26) hf rfl rfl (e_load1 hf rfl Tryz.isAgg9 (hM.litCell (k := 0) (j := 0) rfl rfl rfl)) fun a hf => ?_
    refine gq (wanted_t hf rfl rfl rfl rfl hc26) hf rfl rfl (e_move hf rfl) fun a hf => ?_
    refine gq (wanted_t hf rfl rfl rfl rfl hc26) hf rfl rfl (e_ltS hf (x := e27) (y := s5) rfl rfl) fun a hf => ?_
    refine q_ hf rfl rfl rfl (e_pick_t hf rfl hc26 rfl) fun a hf => ?_
    refine pl_nil ?_
    obtain rfl := some_inj h24
    refine then_n ?_
    exact ⟨(ltS e27 s5), rfl, hf.keep ⟨rfl, rfl, rfl, rfl, trivial⟩, hM.pick [1] rfl⟩
   iterate 6 refine pl_gs (wanted_f hf rfl rfl rfl rfl hc26) hf rfl rfl fun a hf => ?_
   refine q_ hf rfl rfl rfl (e_pick_f hf rfl hc26 rfl) fun a hf => ?_
   refine pl_nil ?_
   obtain rfl := some_inj h24
   refine then_n ?_
   exact ⟨false, rfl, hf.keep ⟨rfl, rfl, rfl, rfl, trivial⟩, hM.pick [0] rfl⟩
  rintro a w38 ⟨t21, rfl, hf, hM⟩
  try dsimp only at h19
  rcases cond_some h19 with ⟨hc39, h19⟩ | ⟨hc39, h19⟩
  ·refine cond_t hf rfl hc39 ?_
   refine wp_skip ?_
   refine then_n ?_
   refine wp_block ?_
   refine region_pl ?_
   refine q_ hf rfl rfl rfl (e_move hf rfl) fun a hf => ?_
   obtain ⟨z40, hz41, h19⟩ := bind_some h19
   refine q_ hf rfl rfl rfl (e_add hf rfl rfl hz41) fun a hf => ?_
   refine q_ hf rfl rfl rfl (e_assign hf rfl) fun a hf => ?_
   refine pl_nil ?_
   refine blk_n ?_
   obtain rfl := some_inj h19
   refine then_n ⟨_, rfl, ?_⟩
   exact ⟨z40, rfl, hf.keep ⟨rfl, rfl, rfl, trivial⟩, hM.pick [0] rfl, (chk_R hz41)⟩
  refine cond_f hf rfl hc39 ?_
  refine wp_exit ?_
  refine then_x ?_
  obtain rfl := some_inj h19
  obtain rfl := hd20 _ rfl
  try dsimp only at h10
  refine then_x ?_
  refine exit_hit ?_
  obtain rfl := some_inj h10
  refine then_n ?_
  exact ⟨n11, rfl, hf.keep ⟨rfl, trivial⟩, hM.pick [0] rfl, hv12⟩
 rintro a w47 ⟨n7, rfl, hf, hM, hv8⟩
 try dsimp only at h
 refine wp_seq ?_
 refine region_pl ?_
 refine q_ hf rfl rfl rfl (e_move hf rfl) fun a hf => ?_
 refine q_ hf rfl rfl rfl (e_assign hf rfl) fun a hf => ?_
 refine pl_nil ?_
 refine then_n ?_
 refine wp_ret ?_
 obtain rfl := some_inj h
 exact leave1 hf rfl rfl ⟨rfl, hM.fin, hv8⟩

set_option maxRecDepth 100000 in
set_option maxHeartbeats 4000000 in
theorem r_spec_l05Has (C : Cx) (list1 : (List Str)) (A2 : Option Addr) (c3 : Nat) (hp4 : (sliceRep strRep).R C.w0 C.S0 list1 [vL A2 list1 c3]) (s5 : Str) (hp6 : s5.length ≤ maxLen) (r : Bool) (h : m_spec_l05Has list1 s5 = some r) :
    Calls Tryz.prog 46 #[vL A2 (list1) c3, vS (s5)] C.w0 fun e w => e = .returned (.bool (r)) ∧ Mem C w [] [] := by
 have hM := Mem.begin C [.dat (sliceRep strRep) list1 [vL A2 list1 c3]] ⟨hp4, trivial⟩
 refine enter Tryz.func46 rfl Tryz.ntmps46 rfl fun a hf => ?_
 unfold m_spec_l05Has at h
 refine wp_seq ?_
 refine region_pl ?_
 refine q_ hf rfl rfl rfl (e_assign hf rfl) fun a hf => ?_
 refine pl_nil ?_
 refine then_n ?_
 refine wp_seq ?_
 refine region_pl ?_
 iterate 2 refine q_ hf rfl rfl rfl (e_move hf rfl) fun a hf => ?_
 obtain ⟨y7, hz8, h⟩ := bind_some h
 refine pl_l hf rfl rfl rfl (w_call hf Tryz.call73 rfl (r_spec_l05First ⟨_, Sh C _ _, none_, hM.sh_lt, none_not, C.G, hM.g_lt, g_none, hM.tabs⟩ list1 _ _ (hM.dat (k := 0) rfl) s5 hp6 _ hz8) ?_)
 rintro _ w10 ⟨rfl, hM2, hv9⟩
 obtain ⟨hM, hx11, hup12⟩ := hM.back hM2
 dsimp only [List.cons_append, List.nil_append] at hM hup12
 clear hM2
 refine ⟨_, rfl, fun a hf => ?_⟩
 refine q_ hf rfl rfl rfl (e_assign hf rfl) fun a hf => ?_
 refine pl_nil ?_
 refine then_n ?_
 obtain ⟨x15, h16, h⟩ := bind_some h
 refine seq_join (fun a w => ∃ (t13 : Bool), t13 = x15 ∧ Has 21 a [(4, .bool (t13))] ∧ Mem C w [] [.dat (sliceRep strRep) list1 [vL A2 list1 c3]]) ?_ ?_
 ·refine region_pl ?_
  iterate 2 refine q_ hf rfl rfl rfl (e_move hf rfl) fun a hf => ?_
  have hl17 := slice_len (hM.dat (k := 0) rfl)
  refine q_ hf rfl rfl rfl (e_lenL hf (x := list1) rfl Tryz.underlying24) fun a hf => ?_
  refine q_ hf rfl rfl rfl (e_lt hf (x := y7) (y := (list1.length : Int)) rfl rfl) fun a hf => ?_
  refine q_ hf rfl rfl rfl (e_move hf rfl) fun a hf => ?_
  rcases cond_some h16 with ⟨hc18, h16⟩ | ⟨hc18, h16⟩
  ·iterate 2 refine gq (wanted_t hf rfl rfl rfl rfl hc18) hf rfl rfl (e_move hf rfl) fun a hf => ?_
   obtain ⟨e19, hz20, h16⟩ := bind_some h16
   obtain ⟨b24, o25, _, hA26, h21, h22, hr23, hM⟩ := hM.elem (hM.dat (k := 0) rfl) (n := 1) rfl hz20
   obtain ⟨rfl, hv27⟩ := hr23
   refine gq (wanted_t hf rfl rfl rfl rfl hc18) hf rfl rfl (e_indexAddr (A := A2) (b := b24) (o := o25) (xs := list1) (i := y7) hf hA26 rfl rfl Tryz.underlying24 Tryz.sizeOf9 h21 h22) fun a hf => ?_
   refine gq (wanted_t hf rfl rfl rfl rfl hc18) hf rfl rfl (e_load1 hf rfl Tryz.isAgg9 (hM.litCell (k := 0) (j := 0) rfl rfl rfl)) fun a hf => ?_
   refine gq (wanted_t hf rfl rfl rfl rfl hc18) hf rfl rfl (e_move hf rfl) fun a hf => ?_
   refine gq (wanted_t hf rfl rfl rfl rfl hc18) hf rfl rfl (e_eqS hf (x := e19) (y := s5) rfl rfl) fun a hf => ?_
   refine q_ hf rfl rfl rfl (e_pick_t hf rfl hc18 rfl) fun a hf => ?_
   refine q_ hf rfl rfl rfl (e_assign hf rfl) fun a hf => ?_
   refine pl_nil ?_
   obtain rfl := some_inj h16
   refine then_n ?_
   exact ⟨(e19 == s5), rfl, hf.keep ⟨rfl, trivial⟩, hM.pick [1] rfl⟩
  iterate 6 refine pl_gs (wanted_f hf rfl rfl rfl rfl hc18) hf rfl rfl fun a hf => ?_
  refine q_ hf rfl rfl rfl (e_pick_f hf rfl hc18 rfl) fun a hf => ?_
  refine q_ hf rfl rfl rfl (e_assign hf rfl) fun a hf => ?_
  refine pl_nil ?_
  obtain rfl := some_inj h16
  refine then_n ?_
  exact ⟨false, rfl, hf.keep ⟨rfl, trivial⟩, hM.pick [0] rfl⟩
 rintro a w30 ⟨t13, rfl, hf, hM⟩
 try dsimp only at h
 refine wp_ret ?_
 obtain rfl := some_inj h
 exact leave1 hf rfl rfl ⟨rfl, hM.fin⟩

set_option maxRecDepth 100000 in
set_option maxHeartbeats 4000000 in
theorem r_spec_HasWord (C : Cx) (l1 : Lexicon) (A2 : Option Addr) (c3 : Nat) (hp4 : (sliceRep strRep).R C.w0 C.S0 l1.Words [vL A2 l1.Words c3]) (word5 : Str) (hp6 : word5.length ≤ maxLen) (r : Bool) (h : m_spec_HasWord l1 word5 = some r) :
    Calls Tryz.prog 18 #[.agg #[vL A2 (l1.Words) c3], vS (word5)] C.w0 fun e w => e = .returned (.bool (r)) ∧ Mem C w [] [] := by
 have hM := Mem.begin C [.dat (sliceRep strRep) l1.Words [vL A2 l1.Words c3]] ⟨hp4, trivial⟩
 refine enter Tryz.func18 rfl Tryz.ntmps18 rfl fun a hf => ?_
 unfold m_spec_HasWord at h
 refine wp_seq ?_
 refine region_pl ?_
 refine pl_l hf rfl rfl rfl (w_box hf hM (cs := [vL A2 (l1.Words) c3]) rfl rfl fun b7 w8 hx9 hM a hf => ?_)
 refine q_ hf rfl rfl rfl (e_assign hf rfl) fun a hf => ?_
 refine pl_nil ?_
 refine then_n ?_
 obtain ⟨x13, h14, h⟩ := bind_some h
 refine seq_join (fun a w => ∃ (t11 : Bool), t11 = x13 ∧ Has 12 a [(4, .bool (t11))] ∧ Mem C w [.box b7 [vL A2 (l1.Words) c3] 26] [.dat (sliceRep strRep) l1.Words [vL A2 l1.Words c3]]) ?_ ?_
 ·refine region_pl ?_
  obtain ⟨y15, hz16, h14⟩ := bind_some h14
  refine pl_l hf rfl rfl rfl (w_call hf Tryz.call45 rfl (r_spec_l05Ok ⟨_, All C _ _, none_, hM.all_lt, none_not, C.G, hM.g_lt, g_none, hM.tabs⟩ l1 _ _ (hM.lendBox (k := 0) rfl (LexiconRep_mk (x := l1) (hM.lendDat (k := 0) rfl))) _ hz16) ?_)
  rintro _ w17 ⟨rfl, hM2⟩
  obtain ⟨hM, hx18⟩ := hM.backA hM2
  clear hM2
  refine ⟨_, rfl, fun a hf => ?_⟩
  refine q_ hf rfl rfl rfl (e_move hf rfl) fun a hf => ?_
  rcases cond_some h14 with ⟨hc20, h14⟩ | ⟨hc20, h14⟩
  ·refine gq (wanted_t hf rfl rfl rfl rfl hc20) hf rfl rfl (e_field hf rfl Tryz.underlying26 rfl Tryz.sizeOf24 (o' := 0) rfl) fun a hf => ?_
   refine gq (wanted_t hf rfl rfl rfl rfl hc20) hf rfl rfl (e_load1 hf rfl Tryz.isAgg24 (hM.boxCell (k := 0) rfl rfl)) fun a hf => ?_
   refine gq (wanted_t hf rfl rfl rfl rfl hc20) hf rfl rfl (e_move hf rfl) fun a hf => ?_
   obtain ⟨y21, hz22, h14⟩ := bind_some h14
   refine pl_gl (wanted_t hf rfl rfl rfl rfl hc20) hf rfl rfl (w_call hf Tryz.call46 rfl (r_spec_l05Has ⟨_, Sh C _ _, none_, hM.sh_lt, none_not, C.G, hM.g_lt, g_none, hM.tabs⟩ l1.Words _ _ (hM.dat (k := 0) rfl) word5 hp6 _ hz22) ?_)
   rintro _ w23 ⟨rfl, hM2⟩
   obtain ⟨hM, hx24, hup25⟩ := hM.back hM2
   dsimp only [List.cons_append, List.nil_append] at hM hup25
   clear hM2
   refine ⟨_, rfl, fun a hf => ?_⟩
   refine q_ hf rfl rfl rfl (e_pick_t hf rfl hc20 rfl) fun a hf => ?_
   refine q_ hf rfl rfl rfl (e_assign hf rfl) fun a hf => ?_
   refine pl_nil ?_
   obtain rfl := some_inj h14
   refine then_n ?_
   exact ⟨y21, rfl, hf.keep ⟨rfl, trivial⟩, hM.pick [0] rfl⟩
  iterate 4 refine pl_gs (wanted_f hf rfl rfl rfl rfl hc20) hf rfl rfl fun a hf => ?_
  refine q_ hf rfl rfl rfl (e_pick_f hf rfl hc20 rfl) fun a hf => ?_
  refine q_ hf rfl rfl rfl (e_assign hf rfl) fun a hf => ?_
  refine pl_nil ?_
  obtain rfl := some_inj h14
  refine then_n ?_
  exact ⟨false, rfl, hf.keep ⟨rfl, trivial⟩, hM.pick [0] rfl⟩
 rintro a w28 ⟨t11, rfl, hf, hM⟩
 try dsimp only at h
 refine wp_ret ?_
 obtain rfl := some_inj h
 have hM := hM.outs (own' := []) 0 rfl
 exact leave1 hf rfl rfl ⟨rfl, hM.fin⟩

set_option maxRecDepth 100000 in
set_option maxHeartbeats 4000000 in
theorem r_laws_FnAutomata (C : Cx) (code1 : Str) (A2 : Option Addr) (c3 : Nat) (hp4 : (sliceRep byteRep).R C.w0 C.S0 code1 [vL A2 code1 c3]) (more5 : Str) (A6 : Option Addr) (c7 : Nat) (hp8 : (sliceRep byteRep).R C.w0 C.S0 more5 [vL A6 more5 c7]) (r : Bool) (h : m_laws_FnAutomata code1 more5 = some r) :
    Calls Tryz.prog 3 #[vL A2 (code1) c3, vL A6 (more5) c7] C.w0 fun e w => e = .returned (.bool (r)) ∧ Mem C w [] [] := by
 have hM := Mem.begin C [.dat (sliceRep byteRep) more5 [vL A6 more5 c7], .dat (sliceRep byteRep) code1 [vL A2 code1 c3]] ⟨hp8, hp4, trivial⟩
 refine enter Tryz.func3 rfl Tryz.ntmps3 rfl fun a hf => ?_
 unfold m_laws_FnAutomata at h
 refine wp_seq ?_
 refine region_pl ?_
 refine q_ hf rfl rfl rfl (e_assign hf rfl) fun a hf => ?_
 refine pl_nil ?_
 refine then_n ?_
 iterate 2 refine wp_seq ?_
 refine region_pl ?_
 iterate 2 refine q_ hf rfl rfl rfl (e_move hf rfl) fun a hf => ?_
 obtain ⟨y9, hz10, h⟩ := bind_some h
 refine pl_l hf rfl rfl rfl (w_call hf Tryz.call5 rfl (r_laws_a2Long ⟨_, Sh C _ _, none_, hM.sh_lt, none_not, C.G, hM.g_lt, g_none, hM.tabs⟩ code1 _ _ (hM.dat (k := 1) rfl) more5 _ _ (hM.dat (k := 0) rfl) _ hz10) ?_)
 rintro _ w11 ⟨rfl, hM2⟩
 obtain ⟨hM, hx12, hup13⟩ := hM.back hM2
 dsimp only [List.cons_append, List.nil_append] at hM hup13
 clear hM2
 refine ⟨_, rfl, fun a hf => ?_⟩
 refine pl_nil ?_
 refine then_n ?_
 rcases cond_some h with ⟨hc14, h⟩ | ⟨hc14, h⟩
 ·refine cond_t hf rfl hc14 ?_
  refine wp_seq ?_
  refine region_pl ?_
  refine q_ hf rfl rfl rfl (e_assign hf rfl) fun a hf => ?_
  refine pl_nil ?_
  refine then_n ?_
  refine wp_ret ?_
  refine then_r ?_
  obtain rfl := some_inj h
  exact leave1 hf rfl rfl ⟨rfl, hM.fin⟩
 refine cond_f hf rfl hc14 ?_
 refine wp_skip ?_
 refine then_n ?_
 refine wp_seq ?_
 refine region_pl ?_
 refine q_ hf rfl rfl rfl (e_move hf rfl) fun a hf => ?_
 obtain ⟨y15, hz16, h⟩ := bind_some h
 refine pl_l hf rfl rfl rfl (w_call hf Tryz.call6 rfl (r_spec_A2Lexicon ⟨_, Sh C _ _, none_, hM.sh_lt, none_not, C.G, hM.g_lt, g_none, hM.tabs⟩ code1 _ _ (hM.dat (k := 1) rfl) _ hz16) ?_)
 rintro _ w19 ⟨A17, c18, rfl, hM2⟩
 obtain ⟨hM, hx20, hup21⟩ := hM.back hM2
 dsimp only [List.cons_append, List.nil_append] at hM hup21
 clear hM2
 refine ⟨_, rfl, fun a hf => ?_⟩
 refine pl_l hf rfl rfl rfl (w_alloc hM (cs := [vL none (([] : (List Str))) 0]) Tryz.zeroValue26 rfl fun b22 w23 hx24 hM a hf => ?_)
 refine pl_0 hf rfl rfl (w_store hf hM (us := [vL A17 (y15.Words) c18]) (cs' := [vL A17 (y15.Words) c18]) rfl rfl (k := 0) rfl rfl Tryz.sizeOf26 rfl rfl rfl fun w26 hM => ?_)
 dsimp only [List.set] at hM
 refine pl_nil ?_
 refine then_n ?_
 refine wp_seq ?_
 refine region_pl ?_
 refine q_ hf rfl rfl rfl (e_move hf rfl) fun a hf => ?_
 obtain ⟨y29, hz30, h⟩ := bind_some h
 refine pl_l hf rfl rfl rfl (w_call hf Tryz.call7 rfl (r_spec_A2Word ⟨_, Sh C _ _, none_, hM.sh_lt, none_not, C.G, hM.g_lt, g_none, hM.tabs⟩ more5 _ _ (hM.dat (k := 0) rfl) _ hz30) ?_)
 rintro _ w32 ⟨rfl, hM2, hv31⟩
 obtain ⟨hM, hx33, hup34⟩ := hM.back hM2
 dsimp only [List.cons_append, List.nil_append] at hM hup34
 clear hM2
 refine ⟨_, rfl, fun a hf => ?_⟩
 refine q_ hf rfl rfl rfl (e_assign hf rfl) fun a hf => ?_
 refine pl_nil ?_
 refine then_n ?_
 refine wp_seq ?_
 refine region_pl ?_
 refine q_ hf rfl rfl rfl (e_loadA hf (us := [vL A17 (y15.Words) c18]) rfl ⟨Tryz.isAgg26, Tryz.sizeOf26⟩ rfl (hM.boxSub (k := 0) (us := [vL A17 (y15.Words) c18]) (o := 0) rfl rfl)) fun a hf => ?_
 have hM := hM.freezeRow (k := 1) rfl rfl
 dsimp only [List.eraseIdx] at hM
 obtain ⟨y35, hz36, h⟩ := bind_some h
 refine pl_l hf rfl rfl rfl (w_call hf Tryz.call8 rfl (r_impl_BuildDawg ⟨_, Sh C _ _, none_, hM.sh_lt, none_not, C.G, hM.g_lt, g_none, hM.tabs⟩ y15 _ _ (hM.dat (k := 0) rfl) _ hz36) ?_)
 rintro _ w40 ⟨A37, c38, rfl, hM2, hv39⟩
 obtain ⟨hM, hx41, hup42⟩ := hM.back hM2
 dsimp only [List.cons_append, List.nil_append] at hM hup42
 clear hM2
 refine ⟨_, rfl, fun a hf => ?_⟩
 refine q_ hf rfl rfl rfl (e_move hf rfl) fun a hf => ?_
 iterate 2 refine q_ hf rfl rfl rfl (e_extract hf rfl rfl) fun a hf => ?_
 refine pl_l hf rfl rfl rfl (w_alloc hM (cs := [vL none (([] : (List Node))) 0]) Tryz.zeroValue31 rfl fun b43 w44 hx45 hM a hf => ?_)
 refine pl_0 hf rfl rfl (w_store hf hM (us := [vL A37 (y35.1.Nodes) c38]) (cs' := [vL A37 (y35.1.Nodes) c38]) rfl rfl (k := 0) rfl rfl Tryz.sizeOf31 rfl rfl rfl fun w47 hM => ?_)
 dsimp only [List.set] at hM
 refine q_ hf rfl rfl rfl (e_assign hf rfl) fun a hf => ?_
 refine pl_nil ?_
 refine then_n ?_
 refine wp_seq ?_
 obtain ⟨x52, h53, h⟩ := bind_some h
 refine seq_join (fun a w => ∃ (t50 : Bool), t50 = x52 ∧ Has 130 a [(5, vP b22 (0)), (6, vS (y29)), (7, vP b43 (0)), (38, .bool (t50))] ∧ Mem C w [.box b43 [vL A37 (y35.1.Nodes) c38] 31, .row NodeRep A37 c38 47 y35.1.Nodes true, .box b22 [vL A17 (y15.Words) c18] 26] [.dat (sliceRep strRep) y15.Words [vL A17 y15.Words c18], .dat (sliceRep byteRep) more5 [vL A6 more5 c7], .dat (sliceRep byteRep) code1 [vL A2 code1 c3]]) ?_ ?_
 ·refine region_pl ?_
  refine q_ hf rfl rfl rfl (e_move hf rfl) fun a hf => ?_
  refine q_ hf rfl rfl rfl (e_ne hf (x := y35.2) (y := 0) rfl rfl) fun a hf => ?_
  refine q_ hf rfl rfl rfl (e_move hf rfl) fun a hf => ?_
  rcases cond_some h53 with ⟨hc54, h53⟩ | ⟨hc54, h53⟩
  ·iterate 4 refine pl_gs (wanted_f hf rfl rfl rfl rfl hc54) hf rfl rfl fun a hf => ?_
   refine q_ hf rfl rfl rfl (e_pick_t hf rfl hc54 rfl) fun a hf => ?_
   refine pl_nil ?_
   obtain rfl := some_inj h53
   refine then_n ?_
   exact ⟨true, rfl, hf.keep ⟨rfl, rfl, rfl, rfl, trivial⟩, hM.pick [0, 1, 2] rfl⟩
  refine gq (wanted_t hf rfl rfl rfl rfl hc54) hf rfl rfl (e_field hf rfl Tryz.underlying31 rfl Tryz.sizeOf29 (o' := 0) rfl) fun a hf => ?_
  refine gq (wanted_t hf rfl rfl rfl rfl hc54) hf rfl rfl (e_load1 hf rfl Tryz.isAgg29 (hM.boxCell (k := 0) rfl rfl)) fun a hf => ?_
  have hl56 := row_len (hM.ownAt (k := 1) rfl)
  refine gq (wanted_t hf rfl rfl rfl rfl hc54) hf rfl rfl (e_lenL hf (x := y35.1.Nodes) rfl Tryz.underlying29) fun a hf => ?_
  refine gq (wanted_t hf rfl rfl rfl rfl hc54) hf rfl rfl (e_gt hf (x := (y35.1.Nodes.length : Int)) (y := 3000) rfl rfl) fun a hf => ?_
  refine q_ hf rfl rfl rfl (e_pick_f hf rfl hc54 rfl) fun a hf => ?_
  refine pl_nil ?_
  obtain rfl := some_inj h53
  refine then_n ?_
  exact ⟨(decide (3000 < (y35.1.Nodes.length : Int))), rfl, hf.keep ⟨rfl, rfl, rfl, rfl, trivial⟩, hM.pick [0, 1, 2] rfl⟩
 rintro a w58 ⟨t50, rfl, hf, hM⟩
 try dsimp only at h
 rcases cond_some h with ⟨hc59, h⟩ | ⟨hc59, h⟩
 ·refine cond_t hf rfl hc59 ?_
  refine wp_seq ?_
  refine region_pl ?_
  refine q_ hf rfl rfl rfl (e_assign hf rfl) fun a hf => ?_
  refine pl_nil ?_
  refine then_n ?_
  refine wp_ret ?_
  refine then_r ?_
  obtain rfl := some_inj h
  have hM := hM.outs (own' := []) 0 rfl
  exact leave1 hf rfl rfl ⟨rfl, hM.fin⟩
 refine cond_f hf rfl hc59 ?_
 refine wp_skip ?_
 refine then_n ?_
 refine wp_seq ?_
 refine region_pl ?_
 refine q_ hf rfl rfl rfl (e_loadA hf (us := [vL A37 (y35.1.Nodes) c38]) rfl ⟨Tryz.isAgg31, Tryz.sizeOf31⟩ rfl (hM.boxSub (k := 0) (us := [vL A37 (y35.1.Nodes) c38]) (o := 0) rfl rfl)) fun a hf => ?_
 obtain ⟨y60, hz61, h⟩ := bind_some h
 refine pl_l hf rfl rfl rfl (w_call hf Tryz.call9 rfl (r_impl_WordsOf ⟨_, All C _ _, none_, hM.all_lt, none_not, C.G, hM.g_lt, g_none, hM.tabs⟩ y35.1 _ _ (hM.lendRow (k := 1) rfl) _ hz61) ?_)
 rintro _ w65 ⟨A62, c63, rfl, hM2, hv64⟩
 obtain ⟨hM, hx66⟩ := hM.backAF strRep_flat hM2
 clear hM2
 refine ⟨_, rfl, fun a hf => ?_⟩
 refine q_ hf rfl rfl rfl (e_move hf rfl) fun a hf => ?_
 iterate 2 refine q_ hf rfl rfl rfl (e_extract hf rfl rfl) fun a hf => ?_
 iterate 2 refine q_ hf rfl rfl rfl (e_assign hf rfl) fun a hf => ?_
 refine pl_nil ?_
 refine then_n ?_
 refine wp_seq ?_
 refine region_pl ?_
 refine q_ hf rfl rfl rfl (e_loadA hf (us := [vL A37 (y35.1.Nodes) c38]) rfl ⟨Tryz.isAgg31, Tryz.sizeOf31⟩ rfl (hM.boxSub (k := 1) (us := [vL A37 (y35.1.Nodes) c38]) (o := 0) rfl rfl)) fun a hf => ?_
 obtain ⟨y68, hz69, h⟩ := bind_some h
 refine pl_l hf rfl rfl rfl (w_call hf Tryz.call10 rfl (r_impl_LexiconOf ⟨_, All C _ _, none_, hM.all_lt, none_not, C.G, hM.g_lt, g_none, hM.tabs⟩ y35.1 _ _ (hM.lendRow (k := 2) rfl) _ hz69) ?_)
 rintro _ w73 ⟨A70, c71, rfl, hM2, hv72⟩
 obtain ⟨hM, hx74⟩ := hM.backAF strRep_flat hM2
 clear hM2
 refine ⟨_, rfl, fun a hf => ?_⟩
 refine q_ hf rfl rfl rfl (e_move hf rfl) fun a hf => ?_
 iterate 2 refine q_ hf rfl rfl rfl (e_extract hf rfl rfl) fun a hf => ?_
 refine pl_l hf rfl rfl rfl (w_alloc hM (cs := [vL none (([] : (List Str))) 0]) Tryz.zeroValue26 rfl fun b76 w77 hx78 hM a hf => ?_)
 refine pl_0 hf rfl rfl (w_store hf hM (us := [vL A70 (y68.1.Words) c71]) (cs' := [vL A70 (y68.1.Words) c71]) rfl rfl (k := 0) rfl rfl Tryz.sizeOf26 rfl rfl rfl fun w80 hM => ?_)
 dsimp only [List.set] at hM
 refine q_ hf rfl rfl rfl (e_assign hf rfl) fun a hf => ?_
 refine pl_nil ?_
 refine then_n ?_
 refine wp_seq ?_
 refine region_pl ?_
 refine q_ hf rfl rfl rfl (e_loadA hf (us := [vL A37 (y35.1.Nodes) c38]) rfl ⟨Tryz.isAgg31, Tryz.sizeOf31⟩ rfl (hM.boxSub (k := 3) (us := [vL A37 (y35.1.Nodes) c38]) (o := 0) rfl rfl)) fun a hf => ?_
 obtain ⟨y83, hz84, h⟩ := bind_some h
 refine pl_l hf rfl rfl rfl (w_call hf Tryz.call12 rfl (r_impl_DawgText ⟨_, All C _ _, none_, hM.all_lt, none_not, C.G, hM.g_lt, g_none, hM.tabs⟩ y35.1 _ _ (hM.lendRow (k := 4) rfl) _ hz84) ?_)
 rintro _ w86 ⟨rfl, hM2, hv85⟩
 obtain ⟨hM, hx87⟩ := hM.backA hM2
 clear hM2
 refine ⟨_, rfl, fun a hf => ?_⟩
 obtain ⟨y89, hz90, h⟩ := bind_some h
 refine pl_l hf rfl rfl rfl (w_call hf Tryz.call11 rfl (r_impl_ReadDawg ⟨_, Sh C _ _, none_, hM.sh_lt, none_not, C.G, hM.g_lt, g_none, hM.tabs⟩ y83 hv85 _ hz90) ?_)
 rintro _ w93 ⟨A91, c92, rfl, hM2⟩
 obtain ⟨hM, hx94, hup95⟩ := hM.back hM2
 dsimp only [List.cons_append, List.nil_append] at hM hup95
 clear hM2
 refine ⟨_, rfl, fun a hf => ?_⟩
 refine q_ hf rfl rfl rfl (e_move hf rfl) fun a hf => ?_
 iterate 2 refine q_ hf rfl rfl rfl (e_extract hf rfl rfl) fun a hf => ?_
 refine pl_l hf rfl rfl rfl (w_alloc hM (cs := [vL none (([] : (List Node))) 0]) Tryz.zeroValue31 rfl fun b96 w97 hx98 hM a hf => ?_)
 refine pl_0 hf rfl rfl (w_store hf hM (us := [vL A91 (y89.1.Nodes) c92]) (cs' := [vL A91 (y89.1.Nodes) c92]) rfl rfl (k := 0) rfl rfl Tryz.sizeOf31 rfl rfl rfl fun w100 hM => ?_)
 dsimp only [List.set] at hM
 refine q_ hf rfl rfl rfl (e_assign hf rfl) fun a hf => ?_
 refine pl_nil ?_
 refine then_n ?_
 refine wp_seq ?_
 obtain ⟨x105, h106, h⟩ := bind_some h
 refine seq_join (fun a w => ∃ (t103 : Bool), t103 = x105 ∧ Has 130 a [(5, vP b22 (0)), (6, vS (y29)), (7, vP b43 (0)), (88, .bool (t103))] ∧ Mem C w [.box b96 [vL A91 (y89.1.Nodes) c92] 31, .row NodeRep A91 c92 47 y89.1.Nodes true, .box b76 [vL A70 (y68.1.Words) c71] 26, .row strRep A70 c71 9 y68.1.Words true, .row strRep A62 c63 9 y60.1 true, .box b43 [vL A37 (y35.1.Nodes) c38] 31, .row NodeRep A37 c38 47 y35.1.Nodes true, .box b22 [vL A17 (y15.Words) c18] 26] [.dat (sliceRep strRep) y15.Words [vL A17 y15.Words c18], .dat (sliceRep byteRep) more5 [vL A6 more5 c7], .dat (sliceRep byteRep) code1 [vL A2 code1 c3]]) ?_ ?_
 ·refine region_pl ?_
  refine q_ hf rfl rfl rfl (e_move hf rfl) fun a hf => ?_
  refine q_ hf rfl rfl rfl (e_ne hf (x := y60.2) (y := 0) rfl rfl) fun a hf => ?_
  refine q_ hf rfl rfl rfl (e_move hf rfl) fun a hf => ?_
  rcases cond_some h106 with ⟨hc107, h106⟩ | ⟨hc107, h106⟩
  ·iterate 2 refine pl_gs (wanted_f hf rfl rfl rfl rfl hc107) hf rfl rfl fun a hf => ?_
   refine q_ hf rfl rfl rfl (e_pick_t hf rfl hc107 rfl) fun a hf => ?_
   refine q_ hf rfl rfl rfl (e_move hf rfl) fun a hf => ?_
   iterate 2 refine pl_gs (wanted_f hf rfl rfl rfl rfl rfl) hf rfl rfl fun a hf => ?_
   refine q_ hf rfl rfl rfl (e_pick_t hf rfl rfl rfl) fun a hf => ?_
   refine q_ hf rfl rfl rfl (e_move hf rfl) fun a hf => ?_
   iterate 5 refine pl_gs (wanted_f hf rfl rfl rfl rfl rfl) hf rfl rfl fun a hf => ?_
   refine q_ hf rfl rfl rfl (e_pick_t hf rfl rfl rfl) fun a hf => ?_
   refine q_ hf rfl rfl rfl (e_move hf rfl) fun a hf => ?_
   iterate 4 refine pl_gs (wanted_f hf rfl rfl rfl rfl rfl) hf rfl rfl fun a hf => ?_
   refine q_ hf rfl rfl rfl (e_pick_t hf rfl rfl rfl) fun a hf => ?_
   refine q_ hf rfl rfl rfl (e_move hf rfl) fun a hf => ?_
   iterate 4 refine pl_gs (wanted_f hf rfl rfl rfl rfl rfl) hf rfl rfl fun a hf => ?_
   refine q_ hf rfl rfl rfl (e_pick_t hf rfl rfl rfl) fun a hf => ?_
   refine q_ hf rfl rfl rfl (e_move hf rfl) fun a hf => ?_
   iterate 3 refine pl_gs (wanted_f hf rfl rfl rfl rfl rfl) hf rfl rfl fun a hf => ?_
   refine q_ hf rfl rfl rfl (e_pick_t hf rfl rfl rfl) fun a hf => ?_
   refine pl_nil ?_
   obtain rfl := some_inj h106
   refine then_n ?_
   exact ⟨true, rfl, hf.keep ⟨rfl, rfl, rfl, rfl, trivial⟩, hM.pick [0, 1, 2] rfl⟩
  refine gq (wanted_t hf rfl rfl rfl rfl hc107) hf rfl rfl (e_move hf rfl) fun a hf => ?_
  refine gq (wanted_t hf rfl rfl rfl rfl hc107) hf rfl rfl (e_ne hf (x := y68.2) (y := 0) rfl rfl) fun a hf => ?_
  refine q_ hf rfl rfl rfl (e_pick_f hf rfl hc107 rfl) fun a hf => ?_
  refine q_ hf rfl rfl rfl (e_move hf rfl) fun a hf => ?_
  rcases cond_some h106 with ⟨hc109, h106⟩ | ⟨hc109, h106⟩
  ·iterate 2 refine pl_gs (wanted_f hf rfl rfl rfl rfl hc109) hf rfl rfl fun a hf => ?_
   refine q_ hf rfl rfl rfl (e_pick_t hf rfl hc109 rfl) fun a hf => ?_
   refine q_ hf rfl rfl rfl (e_move hf rfl) fun a hf => ?_
   iterate 5 refine pl_gs (wanted_f hf rfl rfl rfl rfl rfl) hf rfl rfl fun a hf => ?_
   refine q_ hf rfl rfl rfl (e_pick_t hf rfl rfl rfl) fun a hf => ?_
   refine q_ hf rfl rfl rfl (e_move hf rfl) fun a hf => ?_
   iterate 4 refine pl_gs (wanted_f hf rfl rfl rfl rfl rfl) hf rfl rfl fun a hf => ?_
   refine q_ hf rfl rfl rfl (e_pick_t hf rfl rfl rfl) fun a hf => ?_
   refine q_ hf rfl rfl rfl (e_move hf rfl) fun a hf => ?_
   iterate 4 refine pl_gs (wanted_f hf rfl rfl rfl rfl rfl) hf rfl rfl fun a hf => ?_
   refine q_ hf rfl rfl rfl (e_pick_t hf rfl rfl rfl) fun a hf => ?_
   refine q_ hf rfl rfl rfl (e_move hf rfl) fun a hf => ?_
   iterate 3 refine pl_gs (wanted_f hf rfl rfl rfl rfl rfl) hf rfl rfl fun a hf => ?_
   refine q_ hf rfl rfl rfl (e_pick_t hf rfl rfl rfl) fun a hf => ?_
   refine pl_nil ?_
   obtain rfl := some_inj h106
   refine then_n ?_
   exact ⟨true, rfl, hf.keep ⟨rfl, rfl, rfl, rfl, trivial⟩, hM.pick [0, 1, 2] rfl⟩
  refine gq (wanted_t hf rfl rfl rfl rfl hc109) hf rfl rfl (e_move hf rfl) fun a hf => ?_
  refine gq (wanted_t hf rfl rfl rfl rfl hc109) hf rfl rfl (e_not hf rfl) fun a hf => ?_
  refine q_ hf rfl rfl rfl (e_pick_f hf rfl hc109 rfl) fun a hf => ?_
  refine q_ hf rfl rfl rfl (e_move hf rfl) fun a hf => ?_
  rcases cond_some h106 with ⟨hc111, h106⟩ | ⟨hc111, h106⟩
  ·iterate 5 refine pl_gs (wanted_f hf rfl rfl rfl rfl hc111) hf rfl rfl fun a hf => ?_
   refine q_ hf rfl rfl rfl (e_pick_t hf rfl hc111 rfl) fun a hf => ?_
   refine q_ hf rfl rfl rfl (e_move hf rfl) fun a hf => ?_
   iterate 4 refine pl_gs (wanted_f hf rfl rfl rfl rfl rfl) hf rfl rfl fun a hf => ?_
   refine q_ hf rfl rfl rfl (e_pick_t hf rfl rfl rfl) fun a hf => ?_
   refine q_ hf rfl rfl rfl (e_move hf rfl) fun a hf => ?_
   iterate 4 refine pl_gs (wanted_f hf rfl rfl rfl rfl rfl) hf rfl rfl fun a hf => ?_
   refine q_ hf rfl rfl rfl (e_pick_t hf rfl rfl rfl) fun a hf => ?_
   refine q_ hf rfl rfl rfl (e_move hf rfl) fun a hf => ?_
   iterate 3 refine pl_gs (wanted_f hf rfl rfl rfl rfl rfl) hf rfl rfl fun a hf => ?_
   refine q_ hf rfl rfl rfl (e_pick_t hf rfl rfl rfl) fun a hf => ?_
   refine pl_nil ?_
   obtain rfl := some_inj h106
   refine then_n ?_
   exact ⟨true, rfl, hf.keep ⟨rfl, rfl, rfl, rfl, trivial⟩, hM.pick [0, 1, 2] rfl⟩
  refine gq (wanted_t hf rfl rfl rfl rfl hc111) hf rfl rfl (e_move hf rfl) fun a hf => ?_
  refine gq (wanted_t hf rfl rfl rfl rfl hc111) hf rfl rfl (e_field hf rfl Tryz.underlying26 rfl Tryz.sizeOf24 (o' := 0) rfl) fun a hf => ?_
  refine gq (wanted_t hf rfl rfl rfl rfl hc111) hf rfl rfl (e_load1 hf rfl Tryz.isAgg24 (hM.boxCell (k := 7) rfl rfl)) fun a hf => ?_
  obtain ⟨y113, hz114, h106⟩ := bind_some h106
  refine pl_gl (wanted_t hf rfl rfl rfl rfl hc111) hf rfl rfl (w_call hf Tryz.call13 rfl (r_laws_a2Same ⟨_, All C _ _, none_, hM.all_lt, none_not, C.G, hM.g_lt, g_none, hM.tabs⟩ y60.1 _ _ (hM.lendRow (k := 4) rfl) y15.Words _ _ (hM.lendDat (k := 0) rfl) _ hz114) ?_)
  rintro _ w115 ⟨rfl, hM2⟩
  obtain ⟨hM, hx116⟩ := hM.backA hM2
  clear hM2
  refine ⟨_, rfl, fun a hf => ?_⟩
  refine gq (wanted_t hf rfl rfl rfl rfl hc111) hf rfl rfl (e_not hf rfl) fun a hf => ?_
  refine q_ hf rfl rfl rfl (e_pick_f hf rfl hc111 rfl) fun a hf => ?_
  refine q_ hf rfl rfl rfl (e_move hf rfl) fun a hf => ?_
  rcases cond_some h106 with ⟨hc118, h106⟩ | ⟨hc118, h106⟩
  ·iterate 4 refine pl_gs (wanted_f hf rfl rfl rfl rfl hc118) hf rfl rfl fun a hf => ?_
   refine q_ hf rfl rfl rfl (e_pick_t hf rfl hc118 rfl) fun a hf => ?_
   refine q_ hf rfl rfl rfl (e_move hf rfl) fun a hf => ?_
   iterate 4 refine pl_gs (wanted_f hf rfl rfl rfl rfl rfl) hf rfl rfl fun a hf => ?_
   refine q_ hf rfl rfl rfl (e_pick_t hf rfl rfl rfl) fun a hf => ?_
   refine q_ hf rfl rfl rfl (e_move hf rfl) fun a hf => ?_
   iterate 3 refine pl_gs (wanted_f hf rfl rfl rfl rfl rfl) hf rfl rfl fun a hf => ?_
   refine q_ hf rfl rfl rfl (e_pick_t hf rfl rfl rfl) fun a hf => ?_
   refine pl_nil ?_
   obtain rfl := some_inj h106
   refine then_n ?_
   exact ⟨true, rfl, hf.keep ⟨rfl, rfl, rfl, rfl, trivial⟩, hM.pick [0, 1, 2] rfl⟩
  refine gq (wanted_t hf rfl rfl rfl rfl hc118) hf rfl rfl (e_loadA hf (us := [vL A70 (y68.1.Words) c71]) rfl ⟨Tryz.isAgg26, Tryz.sizeOf26⟩ rfl (hM.boxSub (k := 2) (us := [vL A70 (y68.1.Words) c71]) (o := 0) rfl rfl)) fun a hf => ?_
  refine gq (wanted_t hf rfl rfl rfl rfl hc118) hf rfl rfl (e_loadA hf (us := [vL A17 (y15.Words) c18]) rfl ⟨Tryz.isAgg26, Tryz.sizeOf26⟩ rfl (hM.boxSub (k := 7) (us := [vL A17 (y15.Words) c18]) (o := 0) rfl rfl)) fun a hf => ?_
  obtain ⟨y120, hz121, h106⟩ := bind_some h106
  refine pl_gl (wanted_t hf rfl rfl rfl rfl hc118) hf rfl rfl (w_call hf Tryz.call14 rfl (r_spec_SameLexicon ⟨_, All C _ _, none_, hM.all_lt, none_not, C.G, hM.g_lt, g_none, hM.tabs⟩ y68.1 _ _ (hM.lendRow (k := 3) rfl) y15 _ _ (hM.lendDat (k := 0) rfl) _ hz121) ?_)
  rintro _ w122 ⟨rfl, hM2⟩
  obtain ⟨hM, hx123⟩ := hM.backA hM2
  clear hM2
  refine ⟨_, rfl, fun a hf => ?_⟩
  refine gq (wanted_t hf rfl rfl rfl rfl hc118) hf rfl rfl (e_not hf rfl) fun a hf => ?_
  refine q_ hf rfl rfl rfl (e_pick_f hf rfl hc118 rfl) fun a hf => ?_
  refine q_ hf rfl rfl rfl (e_move hf rfl) fun a hf => ?_
  rcases cond_some h106 with ⟨hc125, h106⟩ | ⟨hc125, h106⟩
  ·iterate 4 refine pl_gs (wanted_f hf rfl rfl rfl rfl hc125) hf rfl rfl fun a hf => ?_
   refine q_ hf rfl rfl rfl (e_pick_t hf rfl hc125 rfl) fun a hf => ?_
   refine q_ hf rfl rfl rfl (e_move hf rfl) fun a hf => ?_
   iterate 3 refine pl_gs (wanted_f hf rfl rfl rfl rfl rfl) hf rfl rfl fun a hf => ?_
   refine q_ hf rfl rfl rfl (e_pick_t hf rfl rfl rfl) fun a hf => ?_
   refine pl_nil ?_
   obtain rfl := some_inj h106
   refine then_n ?_
   exact ⟨true, rfl, hf.keep ⟨rfl, rfl, rfl, rfl, trivial⟩, hM.pick [0, 1, 2] rfl⟩
  refine gq (wanted_t hf rfl rfl rfl rfl hc125) hf rfl rfl (e_loadA hf (us := [vL A91 (y89.1.Nodes) c92]) rfl ⟨Tryz.isAgg31, Tryz.sizeOf31⟩ rfl (hM.boxSub (k := 0) (us := [vL A91 (y89.1.Nodes) c92]) (o := 0) rfl rfl)) fun a hf => ?_
  refine gq (wanted_t hf rfl rfl rfl rfl hc125) hf rfl rfl (e_loadA hf (us := [vL A37 (y35.1.Nodes) c38]) rfl ⟨Tryz.isAgg31, Tryz.sizeOf31⟩ rfl (hM.boxSub (k := 5) (us := [vL A37 (y35.1.Nodes) c38]) (o := 0) rfl rfl)) fun a hf => ?_
  obtain ⟨y127, hz128, h106⟩ := bind_some h106
  refine pl_gl (wanted_t hf rfl rfl rfl rfl hc125) hf rfl rfl (w_call hf Tryz.call15 rfl (r_spec_SameDawg ⟨_, All C _ _, none_, hM.all_lt, none_not, C.G, hM.g_lt, g_none, hM.tabs⟩ y89.1 _ _ (hM.lendRow (k := 1) rfl) y35.1 _ _ (hM.lendRow (k := 6) rfl) _ hz128) ?_)
  rintro _ w129 ⟨rfl, hM2⟩
  obtain ⟨hM, hx130⟩ := hM.backA hM2
  clear hM2
  refine ⟨_, rfl, fun a hf => ?_⟩
  refine gq (wanted_t hf rfl rfl rfl rfl hc125) hf rfl rfl (e_not hf rfl) fun a hf => ?_
  refine q_ hf rfl rfl rfl (e_pick_f hf rfl hc125 rfl) fun a hf => ?_
  refine q_ hf rfl rfl rfl (e_move hf rfl) fun a hf => ?_
  rcases cond_some h106 with ⟨hc132, h106⟩ | ⟨hc132, h106⟩
  ·iterate 3 refine pl_gs (wanted_f hf rfl rfl rfl rfl hc132) hf rfl rfl fun a hf => ?_
   refine q_ hf rfl rfl rfl (e_pick_t hf rfl hc132 rfl) fun a hf => ?_
   refine pl_nil ?_
   obtain rfl := some_inj h106
   refine then_n ?_
   exact ⟨true, rfl, hf.keep ⟨rfl, rfl, rfl, rfl, trivial⟩, hM.pick [0, 1, 2] rfl⟩
  refine gq (wanted_t hf rfl rfl rfl rfl hc132) hf rfl rfl (e_loadA hf (us := [vL A37 (y35.1.Nodes) c38]) rfl ⟨Tryz.isAgg31, Tryz.sizeOf31⟩ rfl (hM.boxSub (k := 5) (us := [vL A37 (y35.1.Nodes) c38]) (o := 0) rfl rfl)) fun a hf => ?_
  obtain ⟨y134, hz135, h106⟩ := bind_some h106
  refine pl_gl (wanted_t hf rfl rfl rfl rfl hc132) hf rfl rfl (w_call hf Tryz.call16 rfl (r_impl_ValidDawg ⟨_, All C _ _, none_, hM.all_lt, none_not, C.G, hM.g_lt, g_none, hM.tabs⟩ y35.1 _ _ (hM.lendRow (k := 6) rfl) _ hz135) ?_)
  rintro _ w136 ⟨rfl, hM2⟩
  obtain ⟨hM, hx137⟩ := hM.backA hM2
  clear hM2
  refine ⟨_, rfl, fun a hf => ?_⟩
  refine gq (wanted_t hf rfl rfl rfl rfl hc132) hf rfl rfl (e_not hf rfl) fun a hf => ?_
  refine q_ hf rfl rfl rfl (e_pick_f hf rfl hc132 rfl) fun a hf => ?_
  refine pl_nil ?_
  obtain rfl := some_inj h106
  refine then_n ?_
  exact ⟨(!y134), rfl, hf.keep ⟨rfl, rfl, rfl, rfl, trivial⟩, hM.pick [0, 1, 2] rfl⟩
 rintro a w140 ⟨t103, rfl, hf, hM⟩
 try dsimp only at h
 rcases cond_some h with ⟨hc141, h⟩ | ⟨hc141, h⟩
 ·refine cond_t hf rfl hc141 ?_
  refine wp_seq ?_
  refine region_pl ?_
  refine q_ hf rfl rfl rfl (e_assign hf rfl) fun a hf => ?_
  refine pl_nil ?_
  refine then_n ?_
  refine wp_ret ?_
  refine then_r ?_
  obtain rfl := some_inj h
  have hM := hM.outs (own' := []) 0 rfl
  exact leave1 hf rfl rfl ⟨rfl, hM.fin⟩
 refine cond_f hf rfl hc141 ?_
 refine wp_skip ?_
 refine then_n ?_
 obtain ⟨x142, h143, h⟩ := bind_some h
 refine seq_join (fun a w => (.inl ()) = x142 ∧ Has 130 a [(5, vP b22 (0)), (6, vS (y29)), (7, vP b43 (0))] ∧ Mem C w [.box b96 [vL A91 (y89.1.Nodes) c92] 31, .row NodeRep A91 c92 47 y89.1.Nodes true, .box b76 [vL A70 (y68.1.Words) c71] 26, .row strRep A70 c71 9 y68.1.Words true, .row strRep A62 c63 9 y60.1 true, .box b43 [vL A37 (y35.1.Nodes) c38] 31, .row NodeRep A37 c38 47 y35.1.Nodes true, .box b22 [vL A17 (y15.Words) c18] 26] [.dat (sliceRep strRep) y15.Words [vL A17 y15.Words c18], .dat (sliceRep byteRep) more5 [vL A6 more5 c7], .dat (sliceRep byteRep) code1 [vL A2 code1 c3]]) ?_ ?_
 ·refine wp_seq ?_
  refine region_pl ?_
  refine q_ hf rfl rfl rfl (e_assign hf rfl) fun a hf => ?_
  refine pl_nil ?_
  refine then_n ?_
  refine wp_block ?_
  obtain ⟨x147, h148, h143⟩ := bind_some h143
  refine wp_loopM h148 (fun s a w => ∃ (a144 : Int), a144 = s ∧ Has 130 a [(5, vP b22 (0)), (6, vS (y29)), (7, vP b43 (0)), (15, vI (a144))] ∧ Mem C w [.box b96 [vL A91 (y89.1.Nodes) c92] 31, .row NodeRep A91 c92 47 y89.1.Nodes true, .box b76 [vL A70 (y68.1.Words) c71] 26, .row strRep A70 c71 9 y68.1.Words true, .row strRep A62 c63 9 y60.1 true, .box b43 [vL A37 (y35.1.Nodes) c38] 31, .row NodeRep A37 c38 47 y35.1.Nodes true, .box b22 [vL A17 (y15.Words) c18] 26] [.dat (sliceRep strRep) y15.Words [vL A17 y15.Words c18], .dat (sliceRep byteRep) more5 [vL A6 more5 c7], .dat (sliceRep byteRep) code1 [vL A2 code1 c3]] ∧ R64 a144) ?_ ?_
  ·exact ⟨0, rfl, hf.keep ⟨rfl, rfl, rfl, rfl, trivial⟩, hM.pick [0, 1, 2] rfl, (R64_lit rfl)⟩
  rintro s o149 a w146 ⟨a144, rfl, hf, hM, hv145⟩ h150 hd151
  replace h150 : m_laws_FnAutomata_l1 y35 a144 = some o149 := h150
  unfold m_laws_FnAutomata_l1 at h150
  iterate 2 refine wp_seq ?_
  refine region_pl ?_
  refine q_ hf rfl rfl rfl (e_move hf rfl) fun a hf => ?_
  refine q_ hf rfl rfl rfl (e_field hf rfl Tryz.underlying31 rfl Tryz.sizeOf29 (o' := 0) rfl) fun a hf => ?_
  refine q_ hf rfl rfl rfl (e_load1 hf rfl Tryz.isAgg29 (hM.boxCell (k := 5) rfl rfl)) fun a hf => ?_
  have hl152 := row_len (hM.ownAt (k := 6) rfl)
  refine q_ hf rfl rfl rfl (e_lenL hf (x := y35.1.Nodes) rfl Tryz.underlying29) fun a hf => ?_
  refine q_ hf rfl rfl rfl (e_lt hf (x := a144) (y := (y35.1.Nodes.length : Int)) rfl rfl) fun a hf => ?_
  refine pl_nil ?_
  refine then_n ?_
  rcases cond_some h150 with ⟨hc153, h150⟩ | ⟨hc153, h150⟩
  ·refine cond_t hf rfl hc153 ?_
   refine wp_skip ?_
   refine then_n ?_
   obtain ⟨x154, h155, h150⟩ := bind_some h150
   refine seq_join (fun a w => (.inl ()) = x154 ∧ Has 130 a [(5, vP b22 (0)), (6, vS (y29)), (7, vP b43 (0)), (15, vI (a144))] ∧ Mem C w [.box b96 [vL A91 (y89.1.Nodes) c92] 31, .row NodeRep A91 c92 47 y89.1.Nodes true, .box b76 [vL A70 (y68.1.Words) c71] 26, .row strRep A70 c71 9 y68.1.Words true, .row strRep A62 c63 9 y60.1 true, .box b43 [vL A37 (y35.1.Nodes) c38] 31, .row NodeRep A37 c38 47 y35.1.Nodes true, .box b22 [vL A17 (y15.Words) c18] 26] [.dat (sliceRep strRep) y15.Words [vL A17 y15.Words c18], .dat (sliceRep byteRep) more5 [vL A6 more5 c7], .dat (sliceRep byteRep) code1 [vL A2 code1 c3]]) ?_ ?_
   ·refine wp_block ?_
    refine wp_seq ?_
    refine region_pl ?_
    refine q_ hf rfl rfl rfl (e_assign hf rfl) fun a hf => ?_
    refine pl_nil ?_
    refine then_n ?_
    refine wp_block ?_
    obtain ⟨x159, h160, h155⟩ := bind_some h155
    refine wp_loopM h160 (fun s a w => ∃ (b156 : Int), b156 = s ∧ Has 130 a [(5, vP b22 (0)), (6, vS (y29)), (7, vP b43 (0)), (15, vI (a144)), (16, vI (b156))] ∧ Mem C w [.box b96 [vL A91 (y89.1.Nodes) c92] 31, .row NodeRep A91 c92 47 y89.1.Nodes true, .box b76 [vL A70 (y68.1.Words) c71] 26, .row strRep A70 c71 9 y68.1.Words true, .row strRep A62 c63 9 y60.1 true, .box b43 [vL A37 (y35.1.Nodes) c38] 31, .row NodeRep A37 c38 47 y35.1.Nodes true, .box b22 [vL A17 (y15.Words) c18] 26] [.dat (sliceRep strRep) y15.Words [vL A17 y15.Words c18], .dat (sliceRep byteRep) more5 [vL A6 more5 c7], .dat (sliceRep byteRep) code1 [vL A2 code1 c3]] ∧ R64 b156) ?_ ?_
    ·exact ⟨0, rfl, hf.keep ⟨rfl, rfl, rfl, rfl, rfl, trivial⟩, hM.pick [0, 1, 2] rfl, (R64_lit rfl)⟩
    rintro s o161 a w158 ⟨b156, rfl, hf, hM, hv157⟩ h162 hd163
    replace h162 : m_laws_FnAutomata_l2 a144 y35 b156 = some o161 := h162
    unfold m_laws_FnAutomata_l2 at h162
    iterate 2 refine wp_seq ?_
    refine region_pl ?_
    iterate 2 refine q_ hf rfl rfl rfl (e_move hf rfl) fun a hf => ?_
    refine q_ hf rfl rfl rfl (e_lt hf (x := b156) (y := a144) rfl rfl) fun a hf => ?_
    refine pl_nil ?_
    refine then_n ?_
    rcases cond_some h162 with ⟨hc164, h162⟩ | ⟨hc164, h162⟩
    ·refine cond_t hf rfl hc164 ?_
     refine wp_skip ?_
     refine then_n ?_
     refine wp_seq ?_
     refine wp_block ?_
     refine wp_seq ?_
     refine region_pl ?_
     refine q_ hf rfl rfl rfl (e_field hf rfl Tryz.underlying31 rfl Tryz.sizeOf29 (o' := 0) rfl) fun a hf => ?_
     refine q_ hf rfl rfl rfl (e_load1 hf rfl Tryz.isAgg29 (hM.boxCell (k := 5) rfl rfl)) fun a hf => ?_
     refine q_ hf rfl rfl rfl (e_move hf rfl) fun a hf => ?_
     obtain ⟨e165, hz166, h162⟩ := bind_some h162
     obtain ⟨b171, _, hA172, h167, h168, hr169, hcell170⟩ := hM.rowElemN (k := 6) rfl (n := 3) rfl hz166
     obtain ⟨A174, c175, rfl, hv173, hv176⟩ := NodeRep_open hr169
     have hM := hM.add (y := .dat (sliceRep intRep) e165.Next [vL A174 e165.Next c175]) hv176
     refine q_ hf rfl rfl rfl (e_indexAddr (A := A37) (b := b171) (o := 0) (xs := y35.1.Nodes) (i := a144) hf hA172 rfl rfl Tryz.underlying29 Tryz.sizeOf47 h167 h168) fun a hf => ?_
     refine q_ hf rfl rfl rfl (e_loadA hf (us := [.bool (e165.Final), vS (e165.Letters), vL A174 (e165.Next) c175]) rfl ⟨Tryz.isAgg47, Tryz.sizeOf47⟩ rfl hcell170) fun a hf => ?_
     refine pl_l hf rfl rfl rfl (w_slice hf hM (K := NodeRep) (xs := ([e165] : (List Node))) (os := [.tmp 105]) Tryz.underlying29 ei_47 rfl rfl rfl rfl rfl ⟨⟨[.bool (e165.Final), vS (e165.Letters), vL A174 (e165.Next) c175], rfl, (NodeRep_mk (x := e165) hv173 (hM.dat (k := 0) rfl))⟩, trivial⟩ rfl fun b177 w178 hx179 hM a hf => ?_)
     refine q_ hf rfl rfl rfl (e_build hf Tryz.zeroValue31 Tryz.underlying31 (bp_31 _ Tryz.underlying31.symm) rfl (cs := #[vL (some ⟨b177, 0, none⟩) (([e165] : (List Node))) 1]) (by kernel_rfl)) fun a hf => ?_
     refine pl_l hf rfl rfl rfl (w_alloc hM (cs := [vL none (([] : (List Node))) 0]) Tryz.zeroValue31 rfl fun b180 w181 hx182 hM a hf => ?_)
     refine pl_0 hf rfl rfl (w_store hf hM (us := [vL (some ⟨b177, 0, none⟩) (([e165] : (List Node))) 1]) (cs' := [vL (some ⟨b177, 0, none⟩) (([e165] : (List Node))) 1]) rfl rfl (k := 0) rfl rfl Tryz.sizeOf31 rfl rfl rfl fun w184 hM => ?_)
     dsimp only [List.set] at hM
     refine pl_nil ?_
     refine then_n ?_
     refine wp_seq ?_
     refine region_pl ?_
     refine q_ hf rfl rfl rfl (e_field hf rfl Tryz.underlying31 rfl Tryz.sizeOf29 (o' := 0) rfl) fun a hf => ?_
     refine q_ hf rfl rfl rfl (e_load1 hf rfl Tryz.isAgg29 (hM.boxCell (k := 7) rfl rfl)) fun a hf => ?_
     refine q_ hf rfl rfl rfl (e_move hf rfl) fun a hf => ?_
     obtain ⟨e187, hz188, h162⟩ := bind_some h162
     obtain ⟨b193, _, hA194, h189, h190, hr191, hcell192⟩ := hM.rowElemN (k := 8) rfl (n := 3) rfl hz188
     obtain ⟨A196, c197, rfl, hv195, hv198⟩ := NodeRep_open hr191
     have hM := hM.add (y := .dat (sliceRep intRep) e187.Next [vL A196 e187.Next c197]) hv198
     refine q_ hf rfl rfl rfl (e_indexAddr (A := A37) (b := b193) (o := 0) (xs := y35.1.Nodes) (i := b156) hf hA194 rfl rfl Tryz.underlying29 Tryz.sizeOf47 h189 h190) fun a hf => ?_
     refine q_ hf rfl rfl rfl (e_loadA hf (us := [.bool (e187.Final), vS (e187.Letters), vL A196 (e187.Next) c197]) rfl ⟨Tryz.isAgg47, Tryz.sizeOf47⟩ rfl hcell192) fun a hf => ?_
     refine pl_l hf rfl rfl rfl (w_slice hf hM (K := NodeRep) (xs := ([e187] : (List Node))) (os := [.tmp 112]) Tryz.underlying29 ei_47 rfl rfl rfl rfl rfl ⟨⟨[.bool (e187.Final), vS (e187.Letters), vL A196 (e187.Next) c197], rfl, (NodeRep_mk (x := e187) hv195 (hM.dat (k := 0) rfl))⟩, trivial⟩ rfl fun b199 w200 hx201 hM a hf => ?_)
     refine q_ hf rfl rfl rfl (e_build hf Tryz.zeroValue31 Tryz.underlying31 (bp_31 _ Tryz.underlying31.symm) rfl (cs := #[vL (some ⟨b199, 0, none⟩) (([e187] : (List Node))) 1]) (by kernel_rfl)) fun a hf => ?_
     refine pl_l hf rfl rfl rfl (w_alloc hM (cs := [vL none (([] : (List Node))) 0]) Tryz.zeroValue31 rfl fun b202 w203 hx204 hM a hf => ?_)
     refine pl_0 hf rfl rfl (w_store hf hM (us := [vL (some ⟨b199, 0, none⟩) (([e187] : (List Node))) 1]) (cs' := [vL (some ⟨b199, 0, none⟩) (([e187] : (List Node))) 1]) rfl rfl (k := 0) rfl rfl Tryz.sizeOf31 rfl rfl rfl fun w206 hM => ?_)
     dsimp only [List.set] at hM
     refine pl_nil ?_
     refine then_n ?_
     refine wp_seq ?_
     refine region_pl ?_
     refine q_ hf rfl rfl rfl (e_loadA hf (us := [vL (some ⟨b177, 0, none⟩) (([e165] : (List Node))) 1]) rfl ⟨Tryz.isAgg31, Tryz.sizeOf31⟩ rfl (hM.boxSub (k := 2) (us := [vL (some ⟨b177, 0, none⟩) (([e165] : (List Node))) 1]) (o := 0) rfl rfl)) fun a hf => ?_
     refine q_ hf rfl rfl rfl (e_loadA hf (us := [vL (some ⟨b199, 0, none⟩) (([e187] : (List Node))) 1]) rfl ⟨Tryz.isAgg31, Tryz.sizeOf31⟩ rfl (hM.boxSub (k := 0) (us := [vL (some ⟨b199, 0, none⟩) (([e187] : (List Node))) 1]) (o := 0) rfl rfl)) fun a hf => ?_
     obtain ⟨y209, hz210, h162⟩ := bind_some h162
     refine pl_l hf rfl rfl rfl (w_call hf Tryz.call15 rfl (r_spec_SameDawg ⟨_, All C _ _, none_, hM.all_lt, none_not, C.G, hM.g_lt, g_none, hM.tabs⟩ (⟨([e165] : (List Node))⟩ : Dawg) _ _ (hM.lendRow (k := 3) rfl) (⟨([e187] : (List Node))⟩ : Dawg) _ _ (hM.lendRow (k := 1) rfl) _ hz210) ?_)
     rintro _ w211 ⟨rfl, hM2⟩
     obtain ⟨hM, hx212⟩ := hM.backA hM2
     clear hM2
     refine ⟨_, rfl, fun a hf => ?_⟩
     refine pl_nil ?_
     refine then_n ?_
     rcases cond_some h162 with ⟨hc214, h162⟩ | ⟨hc214, h162⟩
     ·refine cond_t hf rfl hc214 ?_
      refine wp_seq ?_
      refine region_pl ?_
      refine q_ hf rfl rfl rfl (e_assign hf rfl) fun a hf => ?_
      refine pl_nil ?_
      refine then_n ?_
      refine wp_ret ?_
      refine blk_r ?_
      refine then_r ?_
      obtain rfl := some_inj h162
      obtain rfl := hd163 _ rfl
      try dsimp only at h155
      refine then_r ?_
      iterate 2 refine blk_r ?_
      obtain rfl := some_inj h155
      try dsimp only at h150
      refine then_r ?_
      obtain rfl := some_inj h150
      obtain rfl := hd151 _ rfl
      try dsimp only at h143
      refine then_r ?_
      refine blk_r ?_
      obtain rfl := some_inj h143
      try dsimp only at h
      refine then_r ?_
      obtain rfl := some_inj h
      have hM := hM.outs (own' := []) 0 rfl
      exact leave1 hf rfl rfl ⟨rfl, hM.fin⟩
     refine cond_f hf rfl hc214 ?_
     refine wp_skip ?_
     refine blk_n ?_
     refine then_n ?_
     refine region_pl ?_
     refine q_ hf rfl rfl rfl (e_move hf rfl) fun a hf => ?_
     obtain ⟨z215, hz216, h162⟩ := bind_some h162
     refine q_ hf rfl rfl rfl (e_add hf rfl rfl hz216) fun a hf => ?_
     refine q_ hf rfl rfl rfl (e_assign hf rfl) fun a hf => ?_
     refine pl_nil ?_
     obtain rfl := some_inj h162
     refine then_n ⟨_, rfl, ?_⟩
     exact ⟨z215, rfl, hf.keep ⟨rfl, rfl, rfl, rfl, rfl, trivial⟩, (hM.drop (.cons _ (.cons _ (.cons _ (.cons _ (.cons_cons _ (.cons_cons _ (.cons_cons _ (.cons_cons _ (.cons_cons _ (.cons_cons _ (.cons_cons _ (.cons_cons _ .slnil))))))))))))).pick [2, 3, 4] rfl, (chk_R hz216)⟩
    refine cond_f hf rfl hc164 ?_
    refine wp_exit ?_
    refine then_x ?_
    obtain rfl := some_inj h162
    obtain rfl := hd163 _ rfl
    try dsimp only at h155
    refine then_x ?_
    refine exit_hit ?_
    refine blk_n ?_
    obtain rfl := some_inj h155
    refine then_n ?_
    exact ⟨rfl, hf.keep ⟨rfl, rfl, rfl, rfl, trivial⟩, hM.pick [0, 1, 2] rfl⟩
   rintro a w223 ⟨rfl, hf, hM⟩
   try dsimp only at h150
   refine region_pl ?_
   refine q_ hf rfl rfl rfl (e_move hf rfl) fun a hf => ?_
   obtain ⟨z224, hz225, h150⟩ := bind_some h150
   refine q_ hf rfl rfl rfl (e_add hf rfl rfl hz225) fun a hf => ?_
   refine q_ hf rfl rfl rfl (e_assign hf rfl) fun a hf => ?_
   refine pl_nil ?_
   obtain rfl := some_inj h150
   refine then_n ⟨_, rfl, ?_⟩
   exact ⟨z224, rfl, hf.keep ⟨rfl, rfl, rfl, rfl, trivial⟩, hM.pick [0, 1, 2] rfl, (chk_R hz225)⟩
  refine cond_f hf rfl hc153 ?_
  refine wp_exit ?_
  refine then_x ?_
  obtain rfl := some_inj h150
  obtain rfl := hd151 _ rfl
  try dsimp only at h143
  refine then_x ?_
  refine exit_hit ?_
  obtain rfl := some_inj h143
  refine then_n ?_
  exact ⟨rfl, hf.keep ⟨rfl, rfl, rfl, trivial⟩, hM.pick [0, 1, 2] rfl⟩
 rintro a w233 ⟨rfl, hf, hM⟩
 try dsimp only at h
 obtain ⟨x236, h237, h⟩ := bind_some h
 refine seq_join (fun a w => ∃ (word234 : Bool), word234 = x236 ∧ Has 130 a [(4, .bool (word234))] ∧ Mem C w [.box b96 [vL A91 (y89.1.Nodes) c92] 31, .row NodeRep A91 c92 47 y89.1.Nodes true, .box b76 [vL A70 (y68.1.Words) c71] 26, .row strRep A70 c71 9 y68.1.Words true, .row strRep A62 c63 9 y60.1 true, .box b43 [vL A37 (y35.1.Nodes) c38] 31, .row NodeRep A37 c38 47 y35.1.Nodes true, .box b22 [vL A17 (y15.Words) c18] 26] [.dat (sliceRep strRep) y15.Words [vL A17 y15.Words c18], .dat (sliceRep byteRep) more5 [vL A6 more5 c7], .dat (sliceRep byteRep) code1 [vL A2 code1 c3]]) ?_ ?_
 ·obtain ⟨w238, hw⟩ : ∃ x, x = w233.drew := ⟨_, rfl⟩
  refine region_pi (.q 0 (.q 1 (.q 3 (.q 4 (.l 2 (.l 5 (.q 6 (.q 7 (.q 8 (.l 9 (.q 10 (.q 11 (.q 12 (.nil)))))))))))))) (Ext w238) rfl (by kernel_rfl) ?_
  have hM := hM.drew
  rw [← hw] at hM ⊢
  clear hw
  refine pi_q hf rfl rfl rfl rfl (Ext.refl _) (e_loadA hf (us := [vL A37 (y35.1.Nodes) c38]) rfl ⟨Tryz.isAgg31, Tryz.sizeOf31⟩ rfl (hM.boxSub (k := 5) (us := [vL A37 (y35.1.Nodes) c38]) (o := 0) rfl rfl)) fun a hf => ?_
  refine pi_q hf rfl rfl rfl rfl (Ext.refl _) (e_move hf rfl) fun a hf => ?_
  refine pi_q hf rfl rfl rfl rfl (Ext.refl _) (e_loadA hf (us := [vL A17 (y15.Words) c18]) rfl ⟨Tryz.isAgg26, Tryz.sizeOf26⟩ rfl (hM.boxSub (k := 7) (us := [vL A17 (y15.Words) c18]) (o := 0) rfl rfl)) fun a hf => ?_
  refine pi_q hf rfl rfl rfl rfl (Ext.refl _) (e_move hf rfl) fun a hf => ?_
  refine pi_one ?_
  obtain ⟨y239, hz240, h237⟩ := bind_some h237
  refine pi_l hf rfl rfl rfl rfl (w_call hf Tryz.call17 rfl (r_impl_AcceptsWord ⟨_, All C _ _, none_, hM.all_lt, none_not, C.G, hM.g_lt, g_none, hM.tabs⟩ y35.1 _ _ (hM.lendRow (k := 6) rfl) y29 hv31 _ hz240) ?_)
  rintro _ w241 ⟨rfl, hM2⟩
  obtain ⟨hM, hx242⟩ := hM.backA hM2
  clear hM2
  refine ⟨_, rfl, Ext w241, fun _ h => Ext.trans hx242 h, Ext.refl _, fun a hf => ?_⟩
  refine pi_one ?_
  obtain ⟨y244, hz245, h237⟩ := bind_some h237
  refine pi_l hf rfl rfl rfl rfl (w_call hf Tryz.call18 rfl (r_spec_HasWord ⟨_, Sh C _ _, none_, hM.sh_lt, none_not, C.G, hM.g_lt, g_none, hM.tabs⟩ y15 _ _ (hM.dat (k := 0) rfl) y29 hv31 _ hz245) ?_)
  rintro _ w246 ⟨rfl, hM2⟩
  obtain ⟨hM, hx247, hup248⟩ := hM.back hM2
  dsimp only [List.cons_append, List.nil_append] at hM hup248
  clear hM2
  refine ⟨_, rfl, Ext w246, fun _ h => Ext.trans hx247 h, Ext.refl _, fun a hf => ?_⟩
  refine pi_q hf rfl rfl rfl rfl (Ext.refl _) (e_eqT hf rfl rfl Tryz.underlying4) fun a hf => ?_
  refine pi_q hf rfl rfl rfl rfl (Ext.refl _) (e_move hf rfl) fun a hf => ?_
  rcases cond_some h237 with ⟨hc249, h237⟩ | ⟨hc249, h237⟩
  ·refine pi_gq hf rfl (wanted_t hf rfl rfl rfl rfl hc249) rfl rfl (Ext.refl _) (e_loadA hf (us := [vL A37 (y35.1.Nodes) c38]) rfl ⟨Tryz.isAgg31, Tryz.sizeOf31⟩ rfl (hM.boxSub (k := 5) (us := [vL A37 (y35.1.Nodes) c38]) (o := 0) rfl rfl)) fun a hf => ?_
   refine pi_one ?_
   obtain ⟨y250, hz251, h237⟩ := bind_some h237
   refine pi_gl hf rfl (wanted_t hf rfl rfl rfl rfl hc249) rfl rfl (w_call hf Tryz.call17 rfl (r_impl_AcceptsWord ⟨_, All C _ _, none_, hM.all_lt, none_not, C.G, hM.g_lt, g_none, hM.tabs⟩ y35.1 _ _ (hM.lendRow (k := 6) rfl) ([] : Str) (lit_len rfl) _ hz251) ?_)
   rintro _ w252 ⟨rfl, hM2⟩
   obtain ⟨hM, hx253⟩ := hM.backA hM2
   clear hM2
   refine ⟨_, rfl, Ext w252, fun _ h => Ext.trans hx253 h, Ext.refl _, fun a hf => ?_⟩
   refine pi_gq hf rfl (wanted_t hf rfl rfl rfl rfl hc249) rfl rfl (Ext.refl _) (e_not hf rfl) fun a hf => ?_
   refine pi_q hf rfl rfl rfl rfl (Ext.refl _) (e_pick_t hf rfl hc249 rfl) fun a hf => ?_
   refine pi_q hf rfl rfl rfl rfl (Ext.refl _) (e_assign hf rfl) fun a hf => ?_
   refine pi_nil ?_
   obtain rfl := some_inj h237
   refine then_n ?_
   exact ⟨(!y250), rfl, hf.keep ⟨rfl, trivial⟩, hM.pick [0, 1, 2] rfl⟩
  refine pi_gs hf rfl (wanted_f hf rfl rfl rfl rfl hc249) rfl rfl (Ext.refl _) fun a hf => ?_
  refine pi_one ?_
  refine pi_ls hf rfl (wanted_f hf rfl rfl rfl rfl hc249) rfl rfl (Ext.refl _) fun a hf => ?_
  refine pi_gs hf rfl (wanted_f hf rfl rfl rfl rfl hc249) rfl rfl (Ext.refl _) fun a hf => ?_
  refine pi_q hf rfl rfl rfl rfl (Ext.refl _) (e_pick_f hf rfl hc249 rfl) fun a hf => ?_
  refine pi_q hf rfl rfl rfl rfl (Ext.refl _) (e_assign hf rfl) fun a hf => ?_
  refine pi_nil ?_
  obtain rfl := some_inj h237
  refine then_n ?_
  exact ⟨false, rfl, hf.keep ⟨rfl, trivial⟩, hM.pick [0, 1, 2] rfl⟩
 rintro a w257 ⟨word234, rfl, hf, hM⟩
 try dsimp only at h
 refine wp_ret ?_
 obtain rfl := some_inj h
 have hM := hM.outs (own' := []) 0 rfl
 exact leave1 hf rfl rfl ⟨rfl, hM.fin⟩

end Go.Proofs.YtdaoecpkgobelaaGreatDoor
