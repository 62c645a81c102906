/- The functions that this law reaches do what their models say. Printed by gen.py. -/
import Derived.Test.YtgmikhdealhlfaaGreatDoorMod
import Derived.Test.YtgmikhdealhlfaaGreatDoorLib
import Derived.Test.YtgmikhdealhlfaaGreatDoorFnSlotsRef
namespace Go.Proofs.YtgmikhdealhlfaaGreatDoor
open Go Go.RowKit
set_option linter.unusedSimpArgs false
set_option linter.unusedVariables false

set_option maxRecDepth 100000 in
set_option maxHeartbeats 4000000 in
theorem r_impl_Grid_turned (C : Cx) (g1 : Grid) (hp2 : R64 g1.Rows) (hp3 : R64 g1.Cols) (hp4 : g1.Cells.length ≤ maxLen) (r : Grid) (h : m_impl_Grid_turned g1 = some r) :
    Calls Tryz.prog 66 #[.agg #[vI (g1.Rows), vI (g1.Cols), vS (g1.Cells)]] C.w0 fun e w => e = .returned (.agg #[vI (r.Rows), vI (r.Cols), vS (r.Cells)]) ∧ Mem C w [] [] ∧ R64 r.Rows ∧ R64 r.Cols ∧ r.Cells.length ≤ maxLen := by
  have hM := Mem.begin C [] trivial
  refine enter Tryz.func66 rfl Tryz.ntmps66 rfl fun a hf => ?_
  unfold m_impl_Grid_turned at h
  refine wp_seq ?_
  refine region_pl ?_
  refine pl_l hf rfl rfl rfl (w_box hf hM (cs := [vI (g1.Rows), vI (g1.Cols), vS (g1.Cells)]) rfl rfl fun b5 w6 hx7 hM a hf => ?_)
  refine pl_l hf rfl rfl rfl (w_alloc hM (cs := [vI (0), vI (0), vS (([] : Str))]) Tryz.zeroValue25 rfl fun b9 w10 hx11 hM a hf => ?_)
  refine pl_nil ?_
  refine then_n ?_
  refine wp_seq ?_
  refine region_pl ?_
  refine pl_l hf rfl rfl rfl (w_slice0 (K := byteRep) hM Tryz.underlying22 ei_5 fun b13 w14 hx15 hM a hf => ?_)
  refine q_ hf rfl rfl rfl (e_assign hf rfl) fun a hf => ?_
  refine pl_nil ?_
  refine then_n ?_
  obtain ⟨x19, h20, h⟩ := bind_some h
  refine seq_join (fun a w => ∃ (xs16 : Str) (A17 : Option Addr) (c18 : Nat), xs16 = x19 ∧ Has 38 a [(1, vP b5 (0)), (2, vP b9 (0)), (3, vL A17 (xs16) c18)] ∧ Mem C w [.row byteRep A17 c18 5 xs16 true, .box b9 [vI (0), vI (0), vS (([] : Str))] 25, .box b5 [vI (g1.Rows), vI (g1.Cols), vS (g1.Cells)] 25] []) ?_ ?_
  · refine wp_seq ?_
    refine region_pl ?_
    refine q_ hf rfl rfl rfl (e_assign hf rfl) fun a hf => ?_
    refine pl_nil ?_
    refine then_n ?_
    refine wp_block ?_
    obtain ⟨x30, h31, h20⟩ := bind_some h20
    refine wp_loopM h31 (fun s a w => ∃ (xs21 : Str) (row24 : Int) (A22 : Option Addr) (c23 : Nat), (xs21, row24) = s ∧ Has 38 a [(1, vP b5 (0)), (2, vP b9 (0)), (3, vL A22 (xs21) c23), (4, vI (row24))] ∧ Mem C w [.row byteRep A22 c23 5 xs21 true, .box b9 [vI (0), vI (0), vS (([] : Str))] 25, .box b5 [vI (g1.Rows), vI (g1.Cols), vS (g1.Cells)] 25] [] ∧ R64 row24) ?_ ?_
    · exact ⟨([] : Str), 0, (some ⟨b13, 0, none⟩), 0, rfl, hf.keep ⟨rfl, rfl, rfl, rfl, trivial⟩, hM.pick [] rfl, (R64_lit rfl)⟩
    · rintro s o32 a w26 ⟨xs21, row24, A22, c23, rfl, hf, hM, hv25⟩ h33 hd34
      replace h33 : m_impl_Grid_turned_l1 g1 xs21 row24 = some o32 := h33
      unfold m_impl_Grid_turned_l1 at h33
      refine wp_seq ?_
      refine wp_seq ?_
      refine region_pl ?_
      refine q_ hf rfl rfl rfl (e_move hf rfl) fun a hf => ?_
      refine q_ hf rfl rfl rfl (e_field hf rfl Tryz.underlying25 rfl Tryz.sizeOf2 (o' := 1) rfl) fun a hf => ?_
      refine q_ hf rfl rfl rfl (e_load1 hf rfl Tryz.isAgg2 (hM.boxCell (k := 2) rfl rfl)) fun a hf => ?_
      refine q_ hf rfl rfl rfl (e_lt hf (x := row24) (y := g1.Cols) rfl rfl) fun a hf => ?_
      refine pl_nil ?_
      refine then_n ?_
      rcases cond_some h33 with ⟨hc35, h33⟩ | ⟨hc35, h33⟩
      · refine cond_t hf rfl hc35 ?_
        refine wp_skip ?_
        refine then_n ?_
        obtain ⟨x39, h40, h33⟩ := bind_some h33
        refine seq_join (fun a w => ∃ (xs36 : Str) (A37 : Option Addr) (c38 : Nat), xs36 = x39 ∧ Has 38 a [(1, vP b5 (0)), (2, vP b9 (0)), (3, vL A37 (xs36) c38), (4, vI (row24))] ∧ Mem C w [.row byteRep A37 c38 5 xs36 true, .box b9 [vI (0), vI (0), vS (([] : Str))] 25, .box b5 [vI (g1.Rows), vI (g1.Cols), vS (g1.Cells)] 25] []) ?_ ?_
        · refine wp_block ?_
          refine wp_seq ?_
          refine region_pl ?_
          refine q_ hf rfl rfl rfl (e_assign hf rfl) fun a hf => ?_
          refine pl_nil ?_
          refine then_n ?_
          refine wp_block ?_
          obtain ⟨x50, h51, h40⟩ := bind_some h40
          refine wp_loopM h51 (fun s a w => ∃ (xs41 : Str) (n44 : Int) (A42 : Option Addr) (c43 : Nat), (xs41, n44) = s ∧ Has 38 a [(1, vP b5 (0)), (2, vP b9 (0)), (3, vL A42 (xs41) c43), (4, vI (row24)), (5, vI (n44))] ∧ Mem C w [.row byteRep A42 c43 5 xs41 true, .box b9 [vI (0), vI (0), vS (([] : Str))] 25, .box b5 [vI (g1.Rows), vI (g1.Cols), vS (g1.Cells)] 25] [] ∧ R64 n44) ?_ ?_
          · exact ⟨xs21, 0, A22, c23, rfl, hf.keep ⟨rfl, rfl, rfl, rfl, rfl, trivial⟩, hM.pick [] rfl, (R64_lit rfl)⟩
          · rintro s o52 a w46 ⟨xs41, n44, A42, c43, rfl, hf, hM, hv45⟩ h53 hd54
            replace h53 : m_impl_Grid_turned_l2 g1 row24 xs41 n44 = some o52 := h53
            unfold m_impl_Grid_turned_l2 at h53
            refine wp_seq ?_
            refine wp_seq ?_
            refine region_pl ?_
            refine q_ hf rfl rfl rfl (e_move hf rfl) fun a hf => ?_
            refine q_ hf rfl rfl rfl (e_field hf rfl Tryz.underlying25 rfl Tryz.sizeOf2 (o' := 0) rfl) fun a hf => ?_
            refine q_ hf rfl rfl rfl (e_load1 hf rfl Tryz.isAgg2 (hM.boxCell (k := 2) rfl rfl)) fun a hf => ?_
            refine q_ hf rfl rfl rfl (e_lt hf (x := n44) (y := g1.Rows) rfl rfl) fun a hf => ?_
            refine pl_nil ?_
            refine then_n ?_
            rcases cond_some h53 with ⟨hc55, h53⟩ | ⟨hc55, h53⟩
            · refine cond_t hf rfl hc55 ?_
              refine wp_skip ?_
              refine then_n ?_
              refine wp_seq ?_
              refine wp_block ?_
              refine region_pl ?_
              refine q_ hf rfl rfl rfl (e_move hf rfl) fun a hf => ?_
              refine q_ hf rfl rfl rfl (e_field hf rfl Tryz.underlying25 rfl Tryz.sizeOf9 (o' := 2) rfl) fun a hf => ?_
              refine q_ hf rfl rfl rfl (e_load1 hf rfl Tryz.isAgg9 (hM.boxCell (k := 2) rfl rfl)) fun a hf => ?_
              refine q_ hf rfl rfl rfl (e_move hf rfl) fun a hf => ?_
              refine q_ hf rfl rfl rfl (e_field hf rfl Tryz.underlying25 rfl Tryz.sizeOf2 (o' := 1) rfl) fun a hf => ?_
              refine q_ hf rfl rfl rfl (e_load1 hf rfl Tryz.isAgg2 (hM.boxCell (k := 2) rfl rfl)) fun a hf => ?_
              obtain ⟨z56, hz57, h53⟩ := bind_some h53
              refine q_ hf rfl rfl rfl (e_mul hf rfl rfl hz57) fun a hf => ?_
              refine q_ hf rfl rfl rfl (e_move hf rfl) fun a hf => ?_
              obtain ⟨z58, hz59, h53⟩ := bind_some h53
              refine q_ hf rfl rfl rfl (e_add hf rfl rfl hz59) fun a hf => ?_
              obtain ⟨c60, hz61, h53⟩ := bind_some h53
              refine q_ hf rfl rfl rfl (e_indexS hf (x := g1.Cells) rfl rfl Tryz.underlying9 hz61) fun a hf => ?_
              refine pl_l hf rfl rfl rfl (w_slice hf hM (K := byteRep) (xs := ([c60] : Str)) (os := [.tmp 28]) Tryz.underlying22 ei_5 rfl rfl rfl rfl rfl ⟨⟨[vB (c60)], rfl, rfl⟩, trivial⟩ rfl fun b62 w63 hx64 hM a hf => ?_)
              obtain ⟨xs65, hz66, h53⟩ := bind_some h53
              refine pl_l hf rfl rfl rfl (w_append hf hM Tryz.underlying22 ei_5 rfl rfl rfl (k := 1) rfl (hM.srcRow (k := 0) rfl) hz66 fun A67 c68 w69 hM a hf => ?_)
              dsimp only [List.set] at hM
              refine q_ hf rfl rfl rfl (e_assign hf rfl) fun a hf => ?_
              refine pl_nil ?_
              refine blk_n ?_
              refine then_n ?_
              refine region_pl ?_
              refine q_ hf rfl rfl rfl (e_move hf rfl) fun a hf => ?_
              obtain ⟨z72, hz73, h53⟩ := bind_some h53
              refine q_ hf rfl rfl rfl (e_add hf rfl rfl hz73) fun a hf => ?_
              refine q_ hf rfl rfl rfl (e_assign hf rfl) fun a hf => ?_
              refine pl_nil ?_
              obtain rfl := some_inj h53
              refine then_n ⟨_, rfl, ?_⟩
              exact ⟨xs65, z72, A67, c68, rfl, hf.keep ⟨rfl, rfl, rfl, rfl, rfl, trivial⟩, (hM.drop (.cons _ (.cons_cons _ (.cons_cons _ (.cons_cons _ .slnil))))).pick [] rfl, (chk_R hz73)⟩
            · refine cond_f hf rfl hc55 ?_
              refine wp_exit ?_
              refine then_x ?_
              obtain rfl := some_inj h53
              obtain rfl := hd54 _ rfl
              try dsimp only at h40
              refine then_x ?_
              refine exit_hit ?_
              refine blk_n ?_
              obtain rfl := some_inj h40
              refine then_n ?_
              exact ⟨xs41, A42, c43, rfl, hf.keep ⟨rfl, rfl, rfl, rfl, trivial⟩, hM.pick [] rfl⟩
        · rintro a w79 ⟨xs36, A37, c38, rfl, hf, hM⟩
          try dsimp only at h33
          refine region_pl ?_
          refine q_ hf rfl rfl rfl (e_move hf rfl) fun a hf => ?_
          obtain ⟨z80, hz81, h33⟩ := bind_some h33
          refine q_ hf rfl rfl rfl (e_add hf rfl rfl hz81) fun a hf => ?_
          refine q_ hf rfl rfl rfl (e_assign hf rfl) fun a hf => ?_
          refine pl_nil ?_
          obtain rfl := some_inj h33
          refine then_n ⟨_, rfl, ?_⟩
          exact ⟨xs36, z80, A37, c38, rfl, hf.keep ⟨rfl, rfl, rfl, rfl, trivial⟩, hM.pick [] rfl, (chk_R hz81)⟩
      · refine cond_f hf rfl hc35 ?_
        refine wp_exit ?_
        refine then_x ?_
        obtain rfl := some_inj h33
        obtain rfl := hd34 _ rfl
        try dsimp only at h20
        refine then_x ?_
        refine exit_hit ?_
        obtain rfl := some_inj h20
        refine then_n ?_
        exact ⟨xs21, A22, c23, rfl, hf.keep ⟨rfl, rfl, rfl, trivial⟩, hM.pick [] rfl⟩
  · rintro a w87 ⟨xs16, A17, c18, rfl, hf, hM⟩
    try dsimp only at h
    refine wp_seq ?_
    refine region_pl ?_
    refine q_ hf rfl rfl rfl (e_field hf rfl Tryz.underlying25 rfl Tryz.sizeOf2 (o' := 1) rfl) fun a hf => ?_
    refine q_ hf rfl rfl rfl (e_load1 hf rfl Tryz.isAgg2 (hM.boxCell (k := 2) rfl rfl)) fun a hf => ?_
    refine q_ hf rfl rfl rfl (e_field hf rfl Tryz.underlying25 rfl Tryz.sizeOf2 (o' := 0) rfl) fun a hf => ?_
    refine q_ hf rfl rfl rfl (e_load1 hf rfl Tryz.isAgg2 (hM.boxCell (k := 2) rfl rfl)) fun a hf => ?_
    refine q_ hf rfl rfl rfl (e_move hf rfl) fun a hf => ?_
    have hl88 := row_len (hM.ownAt (k := 0) rfl)
    refine q_ hf rfl rfl rfl (e_bytesStr hf (xs := xs16) rfl Tryz.underlying22 Tryz.underlying5 Tryz.underlying9 (hM.lendRow (k := 0) rfl)) fun a hf => ?_
    refine q_ hf rfl rfl rfl (e_build hf Tryz.zeroValue25 Tryz.underlying25 (bp_25 _ Tryz.underlying25.symm) rfl (cs := #[vI (g1.Cols), vI (g1.Rows), vS (xs16)]) (by kernel_rfl)) fun a hf => ?_
    refine pl_0 hf rfl rfl (w_store hf hM (us := [vI (g1.Cols), vI (g1.Rows), vS (xs16)]) (cs' := [vI (g1.Cols), vI (g1.Rows), vS (xs16)]) rfl rfl (k := 1) rfl rfl Tryz.sizeOf25 rfl rfl rfl fun w89 hM => ?_)
    dsimp only [List.set] at hM
    refine pl_nil ?_
    refine then_n ?_
    refine wp_ret ?_
    obtain rfl := some_inj h
    have hres92 := leaveV1 (P := Tryz.prog) Tryz.results66 (res_agg hf rfl ⟨Tryz.isAgg25, Tryz.sizeOf25⟩ (us := [vI (g1.Cols), vI (g1.Rows), vS (xs16)]) rfl (hM.boxSub (k := 1) (o := 0) rfl rfl))
    have hM := hM.outs (own' := []) 0 rfl
    exact bodyPost_ret hres92 hf.defers ⟨rfl, hM.fin, hp3, hp2, hl88⟩

set_option maxRecDepth 100000 in
set_option maxHeartbeats 4000000 in
theorem r_impl_Grid_slots (C : Cx) (g1 : Grid) (hp2 : R64 g1.Rows) (hp3 : R64 g1.Cols) (hp4 : g1.Cells.length ≤ maxLen) (r : (List Slot)) (h : m_impl_Grid_slots g1 = some r) :
    Calls Tryz.prog 39 #[.agg #[vI (g1.Rows), vI (g1.Cols), vS (g1.Cells)]] C.w0 fun e w => ∃ (A_1 : Option Addr), ∃ (c_1 : Nat), e = .returned (vL A_1 (r) c_1) ∧ Mem C w [.row SlotRep A_1 c_1 60 r true] [] := by
  have hM := Mem.begin C [] trivial
  refine enter Tryz.func39 rfl Tryz.ntmps39 rfl fun a hf => ?_
  unfold m_impl_Grid_slots at h
  refine wp_seq ?_
  refine region_pl ?_
  refine pl_l hf rfl rfl rfl (w_box hf hM (cs := [vI (g1.Rows), vI (g1.Cols), vS (g1.Cells)]) rfl rfl fun b5 w6 hx7 hM a hf => ?_)
  refine q_ hf rfl rfl rfl (e_assign hf rfl) fun a hf => ?_
  refine pl_nil ?_
  refine then_n ?_
  refine wp_seq ?_
  refine region_pl ?_
  refine q_ hf rfl rfl rfl (e_loadA hf (us := [vI (g1.Rows), vI (g1.Cols), vS (g1.Cells)]) rfl ⟨Tryz.isAgg25, Tryz.sizeOf25⟩ rfl (hM.boxSub (k := 0) (us := [vI (g1.Rows), vI (g1.Cols), vS (g1.Cells)]) (o := 0) rfl rfl)) fun a hf => ?_
  obtain ⟨y9, hz10, h⟩ := bind_some h
  refine pl_l hf rfl rfl rfl (w_call hf Tryz.call65 rfl (r_impl_Grid_across ⟨_, Sh C _ _, none_, hM.sh_lt, none_not, C.G, hM.g_lt, g_none, hM.tabs⟩ g1 hp2 hp3 hp4 _ hz10) ?_)
  rintro _ w13 ⟨A11, c12, rfl, hM2⟩
  obtain ⟨hM, hx14, hup15⟩ := hM.back hM2
  dsimp only [List.cons_append, List.nil_append] at hM hup15
  clear hM2
  refine ⟨_, rfl, fun a hf => ?_⟩
  refine q_ hf rfl rfl rfl (e_assign hf rfl) fun a hf => ?_
  refine pl_nil ?_
  refine then_n ?_
  obtain ⟨x19, h20, h⟩ := bind_some h
  refine seq_join (fun a w => ∃ (xs16 : (List Slot)) (A17 : Option Addr) (c18 : Nat), xs16 = x19 ∧ Has 28 a [(3, vL A17 (xs16) c18)] ∧ Mem C w [.row SlotRep A17 c18 60 xs16 true, .box b5 [vI (g1.Rows), vI (g1.Cols), vS (g1.Cells)] 25] []) ?_ ?_
  · refine wp_seq ?_
    refine region_pl ?_
    refine q_ hf rfl rfl rfl (e_loadA hf (us := [vI (g1.Rows), vI (g1.Cols), vS (g1.Cells)]) rfl ⟨Tryz.isAgg25, Tryz.sizeOf25⟩ rfl (hM.boxSub (k := 1) (us := [vI (g1.Rows), vI (g1.Cols), vS (g1.Cells)]) (o := 0) rfl rfl)) fun a hf => ?_
    obtain ⟨y21, hz22, h20⟩ := bind_some h20
    refine pl_l hf rfl rfl rfl (w_call hf Tryz.call66 rfl (r_impl_Grid_turned ⟨_, Sh C _ _, none_, hM.sh_lt, none_not, C.G, hM.g_lt, g_none, hM.tabs⟩ g1 hp2 hp3 hp4 _ hz22) ?_)
    rintro _ w26 ⟨rfl, hM2, hv23, hv24, hv25⟩
    obtain ⟨hM, hx27, hup28⟩ := hM.back hM2
    dsimp only [List.cons_append, List.nil_append] at hM hup28
    clear hM2
    refine ⟨_, rfl, fun a hf => ?_⟩
    obtain ⟨y29, hz30, h20⟩ := bind_some h20
    refine pl_l hf rfl rfl rfl (w_call hf Tryz.call65 rfl (r_impl_Grid_across ⟨_, Sh C _ _, none_, hM.sh_lt, none_not, C.G, hM.g_lt, g_none, hM.tabs⟩ y21 hv23 hv24 hv25 _ hz30) ?_)
    rintro _ w33 ⟨A31, c32, rfl, hM2⟩
    obtain ⟨hM, hx34, hup35⟩ := hM.back hM2
    dsimp only [List.cons_append, List.nil_append] at hM hup35
    clear hM2
    refine ⟨_, rfl, fun a hf => ?_⟩
    have hl36 := row_len (hM.ownAt (k := 0) rfl)
    refine q_ hf rfl rfl rfl (e_lenL hf (x := y29) rfl Tryz.underlying30) fun a hf => ?_
    refine q_ hf rfl rfl rfl (e_move hf rfl) fun a hf => ?_
    refine pl_nil ?_
    refine then_n ?_
    refine wp_block ?_
    obtain ⟨x46, h47, h20⟩ := bind_some h20
    refine wp_loopM h47 (fun s a w => ∃ (xs37 : (List Slot)) (n40 : Int) (A38 : Option Addr) (c39 : Nat), (xs37, n40) = s ∧ Has 28 a [(3, vL A38 (xs37) c39), (10, vL A31 (y29) c32), (11, vI ((y29.length : Int))), (12, vI (n40))] ∧ Mem C w [.row SlotRep A31 c32 60 y29 true, .row SlotRep A38 c39 60 xs37 true, .box b5 [vI (g1.Rows), vI (g1.Cols), vS (g1.Cells)] 25] [] ∧ R64 n40) ?_ ?_
    · exact ⟨y9, 0, A11, c12, rfl, hf.keep ⟨rfl, rfl, rfl, rfl, trivial⟩, hM.pick [] rfl, (R64_lit rfl)⟩
    · rintro s o48 a w42 ⟨xs37, n40, A38, c39, rfl, hf, hM, hv41⟩ h49 hd50
      replace h49 : m_impl_Grid_slots_l1 y29 xs37 n40 = some o48 := h49
      unfold m_impl_Grid_slots_l1 at h49
      refine wp_seq ?_
      refine region_pl ?_
      refine q_ hf rfl rfl rfl (e_lt hf (x := n40) (y := (y29.length : Int)) rfl rfl) fun a hf => ?_
      refine pl_nil ?_
      refine then_n ?_
      refine wp_seq ?_
      rcases cond_some h49 with ⟨hc51, h49⟩ | ⟨hc51, h49⟩
      · refine cond_t hf rfl hc51 ?_
        refine wp_skip ?_
        refine then_n ?_
        refine wp_seq ?_
        refine wp_block ?_
        refine wp_seq ?_
        refine region_pl ?_
        obtain ⟨e52, hz53, h49⟩ := bind_some h49
        obtain ⟨b58, _, hA59, h54, h55, hr56, hcell57⟩ := hM.rowElemN (k := 0) rfl (n := 4) rfl hz53
        obtain ⟨rfl, hv60, hv61, hv62⟩ := SlotRep_open hr56
        refine q_ hf rfl rfl rfl (e_indexAddr (A := A31) (b := b58) (o := 0) (xs := y29) (i := n40) hf hA59 rfl rfl Tryz.underlying30 Tryz.sizeOf60 h54 h55) fun a hf => ?_
        refine q_ hf rfl rfl rfl (e_loadA hf (us := [vI (e52.Row), vI (e52.Col), .bool (e52.Down), vI (e52.Length)]) rfl ⟨Tryz.isAgg60, Tryz.sizeOf60⟩ rfl hcell57) fun a hf => ?_
        refine pl_l hf rfl rfl rfl (w_alloc hM (cs := [vI (0), vI (0), .bool (false), vI (0)]) Tryz.zeroValue60 rfl fun b63 w64 hx65 hM a hf => ?_)
        refine pl_0 hf rfl rfl (w_store hf hM (us := [vI (e52.Row), vI (e52.Col), .bool (e52.Down), vI (e52.Length)]) (cs' := [vI (e52.Row), vI (e52.Col), .bool (e52.Down), vI (e52.Length)]) rfl rfl (k := 0) rfl rfl Tryz.sizeOf60 rfl rfl rfl fun w67 hM => ?_)
        dsimp only [List.set] at hM
        refine pl_nil ?_
        refine then_n ?_
        refine region_pl ?_
        refine q_ hf rfl rfl rfl (e_move hf rfl) fun a hf => ?_
        refine q_ hf rfl rfl rfl (e_field hf rfl Tryz.underlying60 rfl Tryz.sizeOf2 (o' := 1) rfl) fun a hf => ?_
        refine q_ hf rfl rfl rfl (e_load1 hf rfl Tryz.isAgg2 (hM.boxCell (k := 0) rfl rfl)) fun a hf => ?_
        refine q_ hf rfl rfl rfl (e_field hf rfl Tryz.underlying60 rfl Tryz.sizeOf2 (o' := 0) rfl) fun a hf => ?_
        refine q_ hf rfl rfl rfl (e_load1 hf rfl Tryz.isAgg2 (hM.boxCell (k := 0) rfl rfl)) fun a hf => ?_
        refine q_ hf rfl rfl rfl (e_field hf rfl Tryz.underlying60 rfl Tryz.sizeOf2 (o' := 3) rfl) fun a hf => ?_
        refine q_ hf rfl rfl rfl (e_load1 hf rfl Tryz.isAgg2 (hM.boxCell (k := 0) rfl rfl)) fun a hf => ?_
        refine q_ hf rfl rfl rfl (e_build hf Tryz.zeroValue60 Tryz.underlying60 (bp_60 _ Tryz.underlying60.symm) rfl (cs := #[vI (e52.Col), vI (e52.Row), .bool (true), vI (e52.Length)]) (by kernel_rfl)) fun a hf => ?_
        refine pl_l hf rfl rfl rfl (w_slice hf hM (K := SlotRep) (xs := ([(⟨e52.Col, e52.Row, true, e52.Length⟩ : Slot)] : (List Slot))) (os := [.tmp 23]) Tryz.underlying30 ei_60 rfl rfl rfl rfl rfl ⟨⟨[vI (e52.Col), vI (e52.Row), .bool (true), vI (e52.Length)], rfl, (SlotRep_mk (x := (⟨e52.Col, e52.Row, true, e52.Length⟩ : Slot)) hv61 hv60 hv62)⟩, trivial⟩ rfl fun b70 w71 hx72 hM a hf => ?_)
        obtain ⟨xs73, hz74, h49⟩ := bind_some h49
        refine pl_l hf rfl rfl rfl (w_append hf hM Tryz.underlying30 ei_60 rfl rfl rfl (k := 3) rfl (hM.srcRow (k := 0) rfl) hz74 fun A75 c76 w77 hM a hf => ?_)
        dsimp only [List.set] at hM
        refine q_ hf rfl rfl rfl (e_assign hf rfl) fun a hf => ?_
        refine pl_nil ?_
        refine blk_n ?_
        refine then_n ?_
        refine region_pl ?_
        obtain ⟨z80, hz81, h49⟩ := bind_some h49
        refine q_ hf rfl rfl rfl (e_add hf rfl rfl hz81) fun a hf => ?_
        refine q_ hf rfl rfl rfl (e_move hf rfl) fun a hf => ?_
        refine pl_nil ?_
        obtain rfl := some_inj h49
        refine then_n ⟨_, rfl, ?_⟩
        exact ⟨xs73, z80, A75, c76, rfl, hf.keep ⟨rfl, rfl, rfl, rfl, trivial⟩, (hM.drop (.cons _ (.cons _ (.cons_cons _ (.cons_cons _ (.cons_cons _ .slnil)))))).pick [] rfl, (chk_R hz81)⟩
      · refine cond_f hf rfl hc51 ?_
        refine wp_exit ?_
        refine then_x ?_
        obtain rfl := some_inj h49
        obtain rfl := hd50 _ rfl
        try dsimp only at h20
        refine then_x ?_
        refine exit_hit ?_
        obtain rfl := some_inj h20
        refine then_n ?_
        exact ⟨xs37, A38, c39, rfl, hf.keep ⟨rfl, trivial⟩, (hM.drop (.cons _ (.cons_cons _ (.cons_cons _ .slnil)))).pick [] rfl⟩
  · rintro a w87 ⟨xs16, A17, c18, rfl, hf, hM⟩
    try dsimp only at h
    refine wp_seq ?_
    refine region_pl ?_
    refine q_ hf rfl rfl rfl (e_move hf rfl) fun a hf => ?_
    refine q_ hf rfl rfl rfl (e_assign hf rfl) fun a hf => ?_
    refine pl_nil ?_
    refine then_n ?_
    refine wp_ret ?_
    obtain rfl := some_inj h
    have hM := hM.outs (own' := [.row SlotRep A17 c18 60 xs16 true]) 1 rfl
    exact leave1 hf rfl rfl ⟨A17, c18, rfl, hM.fin⟩

set_option maxRecDepth 100000 in
set_option maxHeartbeats 4000000 in
theorem r_impl_Grid_slotAt (C : Cx) (g1 : Grid) (hp2 : R64 g1.Rows) (hp3 : R64 g1.Cols) (hp4 : g1.Cells.length ≤ maxLen) (slot5 : Int) (hp6 : R64 slot5) (r : (Slot × Bool)) (h : m_impl_Grid_slotAt g1 slot5 = some r) :
    Calls Tryz.prog 31 #[.agg #[vI (g1.Rows), vI (g1.Cols), vS (g1.Cells)], vI (slot5)] C.w0 fun e w => e = .returned (.tuple #[.agg #[vI (r.1.Row), vI (r.1.Col), .bool (r.1.Down), vI (r.1.Length)], .bool (r.2)]) ∧ Mem C w [] [] ∧ R64 r.1.Row ∧ R64 r.1.Col ∧ R64 r.1.Length := by
  have hM := Mem.begin C [] trivial
  refine enter Tryz.func31 rfl Tryz.ntmps31 rfl fun a hf => ?_
  unfold m_impl_Grid_slotAt at h
  refine wp_seq ?_
  refine region_pl ?_
  refine pl_l hf rfl rfl rfl (w_box hf hM (cs := [vI (g1.Rows), vI (g1.Cols), vS (g1.Cells)]) rfl rfl fun b7 w8 hx9 hM a hf => ?_)
  refine pl_l hf rfl rfl rfl (w_alloc hM (cs := [vI (0), vI (0), .bool (false), vI (0)]) Tryz.zeroValue60 rfl fun b11 w12 hx13 hM a hf => ?_)
  refine q_ hf rfl rfl rfl (e_assign hf rfl) fun a hf => ?_
  refine pl_nil ?_
  refine then_n ?_
  refine wp_seq ?_
  refine region_pl ?_
  refine q_ hf rfl rfl rfl (e_loadA hf (us := [vI (g1.Rows), vI (g1.Cols), vS (g1.Cells)]) rfl ⟨Tryz.isAgg25, Tryz.sizeOf25⟩ rfl (hM.boxSub (k := 1) (us := [vI (g1.Rows), vI (g1.Cols), vS (g1.Cells)]) (o := 0) rfl rfl)) fun a hf => ?_
  obtain ⟨y15, hz16, h⟩ := bind_some h
  refine pl_l hf rfl rfl rfl (w_call hf Tryz.call39 rfl (r_impl_Grid_slots ⟨_, Sh C _ _, none_, hM.sh_lt, none_not, C.G, hM.g_lt, g_none, hM.tabs⟩ g1 hp2 hp3 hp4 _ hz16) ?_)
  rintro _ w19 ⟨A17, c18, rfl, hM2⟩
  obtain ⟨hM, hx20, hup21⟩ := hM.back hM2
  dsimp only [List.cons_append, List.nil_append] at hM hup21
  clear hM2
  refine ⟨_, rfl, fun a hf => ?_⟩
  refine q_ hf rfl rfl rfl (e_assign hf rfl) fun a hf => ?_
  refine pl_nil ?_
  refine then_n ?_
  refine wp_seq ?_
  refine wp_seq ?_
  refine region_pl ?_
  refine q_ hf rfl rfl rfl (e_move hf rfl) fun a hf => ?_
  refine q_ hf rfl rfl rfl (e_move hf rfl) fun a hf => ?_
  have hl22 := row_len (hM.ownAt (k := 0) rfl)
  refine q_ hf rfl rfl rfl (e_lenL hf (x := y15) rfl Tryz.underlying30) fun a hf => ?_
  obtain ⟨z23, hz24, h⟩ := bind_some h
  refine q_ hf rfl rfl rfl (e_sub hf rfl rfl hz24) fun a hf => ?_
  obtain ⟨y25, hz26, h⟩ := bind_some h
  refine pl_l hf rfl rfl rfl (w_call hf Tryz.call59 rfl (r_impl_within ⟨_, Sh C _ _, none_, hM.sh_lt, none_not, C.G, hM.g_lt, g_none, hM.tabs⟩ slot5 hp6 0 (R64_lit rfl) z23 (chk_R hz24) _ hz26) ?_)
  rintro _ w27 ⟨rfl, hM2⟩
  obtain ⟨hM, hx28, hup29⟩ := hM.back hM2
  dsimp only [List.cons_append, List.nil_append] at hM hup29
  clear hM2
  refine ⟨_, rfl, fun a hf => ?_⟩
  refine q_ hf rfl rfl rfl (e_not hf rfl) fun a hf => ?_
  refine pl_nil ?_
  refine then_n ?_
  rcases cond_some h with ⟨hc30, h⟩ | ⟨hc30, h⟩
  · refine cond_t hf rfl hc30 ?_
    refine wp_seq ?_
    refine region_pl ?_
    refine q_ hf rfl rfl rfl (e_build hf Tryz.zeroValue60 Tryz.underlying60 (bp_60 _ Tryz.underlying60.symm) rfl (cs := #[vI (0), vI (0), .bool (false), vI (0)]) (by kernel_rfl)) fun a hf => ?_
    refine pl_0 hf rfl rfl (w_store hf hM (us := [vI (0), vI (0), .bool (false), vI (0)]) (cs' := [vI (0), vI (0), .bool (false), vI (0)]) rfl rfl (k := 1) rfl rfl Tryz.sizeOf60 rfl rfl rfl fun w31 hM => ?_)
    dsimp only [List.set] at hM
    refine q_ hf rfl rfl rfl (e_assign hf rfl) fun a hf => ?_
    refine pl_nil ?_
    refine then_n ?_
    refine wp_ret ?_
    refine then_r ?_
    obtain rfl := some_inj h
    have hres34 := leaveV2 (P := Tryz.prog) Tryz.results31 (res_agg hf rfl ⟨Tryz.isAgg60, Tryz.sizeOf60⟩ (us := [vI (0), vI (0), .bool (false), vI (0)]) rfl (hM.boxSub (k := 1) (o := 0) rfl rfl)) (res_tmp hf rfl)
    have hM := hM.outs (own' := []) 0 rfl
    exact bodyPost_ret hres34 hf.defers ⟨rfl, hM.fin, (R64_lit rfl), (R64_lit rfl), (R64_lit rfl)⟩
  · refine cond_f hf rfl hc30 ?_
    refine wp_skip ?_
    refine then_n ?_
    refine wp_seq ?_
    refine region_pl ?_
    refine q_ hf rfl rfl rfl (e_move hf rfl) fun a hf => ?_
    refine q_ hf rfl rfl rfl (e_move hf rfl) fun a hf => ?_
    obtain ⟨e35, hz36, h⟩ := bind_some h
    obtain ⟨b41, _, hA42, h37, h38, hr39, hcell40⟩ := hM.rowElemN (k := 0) rfl (n := 4) rfl hz36
    obtain ⟨rfl, hv43, hv44, hv45⟩ := SlotRep_open hr39
    refine q_ hf rfl rfl rfl (e_indexAddr (A := A17) (b := b41) (o := 0) (xs := y15) (i := slot5) hf hA42 rfl rfl Tryz.underlying30 Tryz.sizeOf60 h37 h38) fun a hf => ?_
    refine q_ hf rfl rfl rfl (e_loadA hf (us := [vI (e35.Row), vI (e35.Col), .bool (e35.Down), vI (e35.Length)]) rfl ⟨Tryz.isAgg60, Tryz.sizeOf60⟩ rfl hcell40) fun a hf => ?_
    refine pl_0 hf rfl rfl (w_store hf hM (us := [vI (e35.Row), vI (e35.Col), .bool (e35.Down), vI (e35.Length)]) (cs' := [vI (e35.Row), vI (e35.Col), .bool (e35.Down), vI (e35.Length)]) rfl rfl (k := 1) rfl rfl Tryz.sizeOf60 rfl rfl rfl fun w46 hM => ?_)
    dsimp only [List.set] at hM
    refine q_ hf rfl rfl rfl (e_assign hf rfl) fun a hf => ?_
    refine pl_nil ?_
    refine then_n ?_
    refine wp_ret ?_
    obtain rfl := some_inj h
    have hres49 := leaveV2 (P := Tryz.prog) Tryz.results31 (res_agg hf rfl ⟨Tryz.isAgg60, Tryz.sizeOf60⟩ (us := [vI (e35.Row), vI (e35.Col), .bool (e35.Down), vI (e35.Length)]) rfl (hM.boxSub (k := 1) (o := 0) rfl rfl)) (res_tmp hf rfl)
    have hM := hM.outs (own' := []) 0 rfl
    exact bodyPost_ret hres49 hf.defers ⟨rfl, hM.fin, hv43, hv44, hv45⟩

set_option maxRecDepth 100000 in
set_option maxHeartbeats 4000000 in
theorem r_impl_onlySmall (C : Cx) (s1 : Str) (hp2 : s1.length ≤ maxLen) (r : Bool) (h : m_impl_onlySmall s1 = some r) :
    Calls Tryz.prog 62 #[vS (s1)] C.w0 fun e w => e = .returned (.bool (r)) ∧ Mem C w [] [] := by
  have hM := Mem.begin C [] trivial
  refine enter Tryz.func62 rfl Tryz.ntmps62 rfl fun a hf => ?_
  unfold m_impl_onlySmall at h
  refine wp_seq ?_
  refine region_pl ?_
  refine q_ hf rfl rfl rfl (e_assign hf rfl) fun a hf => ?_
  refine pl_nil ?_
  refine then_n ?_
  obtain ⟨x3, h4, h⟩ := bind_some h
  refine seq_join (fun a w => (.inl ()) = x3 ∧ Has 16 a [] ∧ Mem C w [] []) ?_ ?_
  · refine wp_seq ?_
    refine region_pl ?_
    refine q_ hf rfl rfl rfl (e_move hf rfl) fun a hf => ?_
    refine pl_l hf rfl rfl rfl (w_bytes hf hM (x := s1) rfl Tryz.underlying9 Tryz.underlying22 Tryz.underlying5 hp2 fun A5 c6 w7 hx8 hM a hf => ?_)
    have hl9 := row_len (hM.ownAt (k := 0) rfl)
    refine q_ hf rfl rfl rfl (e_lenL hf (x := s1) rfl Tryz.underlying22) fun a hf => ?_
    refine q_ hf rfl rfl rfl (e_move hf rfl) fun a hf => ?_
    refine pl_nil ?_
    refine then_n ?_
    refine wp_block ?_
    obtain ⟨x13, h14, h4⟩ := bind_some h4
    refine wp_loopM h14 (fun s a w => ∃ (n10 : Int), n10 = s ∧ Has 16 a [(6, vL A5 (s1) c6), (7, vI ((s1.length : Int))), (8, vI (n10))] ∧ Mem C w [.row byteRep A5 c6 5 s1 false] [] ∧ R64 n10) ?_ ?_
    · exact ⟨0, rfl, hf.keep ⟨rfl, rfl, rfl, trivial⟩, hM.pick [] rfl, (R64_lit rfl)⟩
    · rintro s o15 a w12 ⟨n10, rfl, hf, hM, hv11⟩ h16 hd17
      replace h16 : m_impl_onlySmall_l1 s1 n10 = some o15 := h16
      unfold m_impl_onlySmall_l1 at h16
      refine wp_seq ?_
      refine region_pl ?_
      refine q_ hf rfl rfl rfl (e_lt hf (x := n10) (y := (s1.length : Int)) rfl rfl) fun a hf => ?_
      refine pl_nil ?_
      refine then_n ?_
      refine wp_seq ?_
      rcases cond_some h16 with ⟨hc18, h16⟩ | ⟨hc18, h16⟩
      · refine cond_t hf rfl hc18 ?_
        refine wp_skip ?_
        refine then_n ?_
        refine wp_seq ?_
        refine wp_block ?_
        refine wp_seq ?_
        refine region_pl ?_
        obtain ⟨e19, hz20, h16⟩ := bind_some h16
        obtain ⟨b25, _, hA26, h21, h22, hr23, hcell24⟩ := hM.rowElemN (k := 0) rfl (n := 1) rfl hz20
        obtain rfl : _ = _ := hr23
        refine q_ hf rfl rfl rfl (e_indexAddr (A := A5) (b := b25) (o := 0) (xs := s1) (i := n10) hf hA26 rfl rfl Tryz.underlying22 Tryz.sizeOf5 h21 h22) fun a hf => ?_
        refine q_ hf rfl rfl rfl (e_load1 hf rfl Tryz.isAgg5 (hcell24 0 _ rfl)) fun a hf => ?_
        refine q_ hf rfl rfl rfl (e_assign hf rfl) fun a hf => ?_
        refine pl_nil ?_
        refine then_n ?_
        refine wp_seq ?_
        refine region_pl ?_
        refine q_ hf rfl rfl rfl (e_move hf rfl) fun a hf => ?_
        obtain ⟨y27, hz28, h16⟩ := bind_some h16
        refine pl_l hf rfl rfl rfl (w_call hf Tryz.call81 rfl (r_impl_small ⟨_, Sh C _ _, none_, hM.sh_lt, none_not, C.G, hM.g_lt, g_none, hM.tabs⟩ e19 _ hz28) ?_)
        rintro _ w29 ⟨rfl, hM2⟩
        obtain ⟨hM, hx30, hup31⟩ := hM.back hM2
        dsimp only [List.cons_append, List.nil_append] at hM hup31
        clear hM2
        refine ⟨_, rfl, fun a hf => ?_⟩
        refine q_ hf rfl rfl rfl (e_not hf rfl) fun a hf => ?_
        refine pl_nil ?_
        refine then_n ?_
        rcases cond_some h16 with ⟨hc32, h16⟩ | ⟨hc32, h16⟩
        · refine cond_t hf rfl hc32 ?_
          refine wp_seq ?_
          refine region_pl ?_
          refine q_ hf rfl rfl rfl (e_assign hf rfl) fun a hf => ?_
          refine pl_nil ?_
          refine then_n ?_
          refine wp_ret ?_
          refine blk_r ?_
          refine then_r ?_
          obtain rfl := some_inj h16
          obtain rfl := hd17 _ rfl
          try dsimp only at h4
          refine then_r ?_
          refine blk_r ?_
          obtain rfl := some_inj h4
          try dsimp only at h
          refine then_r ?_
          obtain rfl := some_inj h
          have hM := hM.outs (own' := []) 0 rfl
          exact leave1 hf rfl rfl ⟨rfl, hM.fin⟩
        · refine cond_f hf rfl hc32 ?_
          refine wp_skip ?_
          refine blk_n ?_
          refine then_n ?_
          refine region_pl ?_
          obtain ⟨z33, hz34, h16⟩ := bind_some h16
          refine q_ hf rfl rfl rfl (e_add hf rfl rfl hz34) fun a hf => ?_
          refine q_ hf rfl rfl rfl (e_move hf rfl) fun a hf => ?_
          refine pl_nil ?_
          obtain rfl := some_inj h16
          refine then_n ⟨_, rfl, ?_⟩
          exact ⟨z33, rfl, hf.keep ⟨rfl, rfl, rfl, trivial⟩, hM.pick [] rfl, (chk_R hz34)⟩
      · refine cond_f hf rfl hc18 ?_
        refine wp_exit ?_
        refine then_x ?_
        obtain rfl := some_inj h16
        obtain rfl := hd17 _ rfl
        try dsimp only at h4
        refine then_x ?_
        refine exit_hit ?_
        obtain rfl := some_inj h4
        refine then_n ?_
        exact ⟨rfl, hf.keep trivial, (hM.drop (.cons _ .slnil)).pick [] rfl⟩
  · rintro a w41 ⟨rfl, hf, hM⟩
    try dsimp only at h
    refine wp_seq ?_
    refine region_pl ?_
    refine q_ hf rfl rfl rfl (e_assign hf rfl) fun a hf => ?_
    refine pl_nil ?_
    refine then_n ?_
    refine wp_ret ?_
    obtain rfl := some_inj h
    exact leave1 hf rfl rfl ⟨rfl, hM.fin⟩

set_option maxRecDepth 100000 in
set_option maxHeartbeats 4000000 in
theorem r_impl_IsWord (C : Cx) (s1 : Str) (hp2 : s1.length ≤ maxLen) (r : Bool) (h : m_impl_IsWord s1 = some r) :
    Calls Tryz.prog 32 #[vS (s1)] C.w0 fun e w => e = .returned (.bool (r)) ∧ Mem C w [] [] := by
  have hM := Mem.begin C [] trivial
  refine enter Tryz.func32 rfl Tryz.ntmps32 rfl fun a hf => ?_
  unfold m_impl_IsWord at h
  refine wp_seq ?_
  refine region_pl ?_
  refine q_ hf rfl rfl rfl (e_assign hf rfl) fun a hf => ?_
  refine pl_nil ?_
  refine then_n ?_
  obtain ⟨x5, h6, h⟩ := bind_some h
  refine seq_join (fun a w => ∃ (t3 : Bool), t3 = x5 ∧ Has 15 a [(2, .bool (t3))] ∧ Mem C w [] []) ?_ ?_
  · refine region_pl ?_
    refine q_ hf rfl rfl rfl (e_move hf rfl) fun a hf => ?_
    refine q_ hf rfl rfl rfl (e_lenS hf (x := s1) rfl Tryz.underlying9) fun a hf => ?_
    refine q_ hf rfl rfl rfl (e_ge hf (x := (s1.length : Int)) (y := 1) rfl rfl) fun a hf => ?_
    refine q_ hf rfl rfl rfl (e_move hf rfl) fun a hf => ?_
    rcases cond_some h6 with ⟨hc7, h6⟩ | ⟨hc7, h6⟩
    · refine gq (wanted_t hf rfl rfl rfl rfl hc7) hf rfl rfl (e_move hf rfl) fun a hf => ?_
      refine gq (wanted_t hf rfl rfl rfl rfl hc7) hf rfl rfl (e_lenS hf (x := s1) rfl Tryz.underlying9) fun a hf => ?_
      refine gq (wanted_t hf rfl rfl rfl rfl hc7) hf rfl rfl (e_le hf (x := (s1.length : Int)) (y := 12) rfl rfl) fun a hf => ?_
      refine q_ hf rfl rfl rfl (e_pick_t hf rfl hc7 rfl) fun a hf => ?_
      refine q_ hf rfl rfl rfl (e_move hf rfl) fun a hf => ?_
      rcases cond_some h6 with ⟨hc8, h6⟩ | ⟨hc8, h6⟩
      · refine gq (wanted_t hf rfl rfl rfl rfl hc8) hf rfl rfl (e_move hf rfl) fun a hf => ?_
        obtain ⟨y9, hz10, h6⟩ := bind_some h6
        refine pl_gl (wanted_t hf rfl rfl rfl rfl hc8) hf rfl rfl (w_call hf Tryz.call62 rfl (r_impl_onlySmall ⟨_, Sh C _ _, none_, hM.sh_lt, none_not, C.G, hM.g_lt, g_none, hM.tabs⟩ s1 hp2 _ hz10) ?_)
        rintro _ w11 ⟨rfl, hM2⟩
        obtain ⟨hM, hx12, hup13⟩ := hM.back hM2
        dsimp only [List.cons_append, List.nil_append] at hM hup13
        clear hM2
        refine ⟨_, rfl, fun a hf => ?_⟩
        refine q_ hf rfl rfl rfl (e_pick_t hf rfl hc8 rfl) fun a hf => ?_
        refine q_ hf rfl rfl rfl (e_assign hf rfl) fun a hf => ?_
        refine pl_nil ?_
        obtain rfl := some_inj h6
        refine then_n ?_
        exact ⟨y9, rfl, hf.keep ⟨rfl, trivial⟩, hM.pick [] rfl⟩
      · refine pl_gs (wanted_f hf rfl rfl rfl rfl hc8) hf rfl rfl fun a hf => ?_
        refine pl_gs (wanted_f hf rfl rfl rfl rfl hc8) hf rfl rfl fun a hf => ?_
        refine q_ hf rfl rfl rfl (e_pick_f hf rfl hc8 rfl) fun a hf => ?_
        refine q_ hf rfl rfl rfl (e_assign hf rfl) fun a hf => ?_
        refine pl_nil ?_
        obtain rfl := some_inj h6
        refine then_n ?_
        exact ⟨false, rfl, hf.keep ⟨rfl, trivial⟩, hM.pick [] rfl⟩
    · refine pl_gs (wanted_f hf rfl rfl rfl rfl hc7) hf rfl rfl fun a hf => ?_
      refine pl_gs (wanted_f hf rfl rfl rfl rfl hc7) hf rfl rfl fun a hf => ?_
      refine pl_gs (wanted_f hf rfl rfl rfl rfl hc7) hf rfl rfl fun a hf => ?_
      refine q_ hf rfl rfl rfl (e_pick_f hf rfl hc7 rfl) fun a hf => ?_
      refine q_ hf rfl rfl rfl (e_move hf rfl) fun a hf => ?_
      refine pl_gs (wanted_f hf rfl rfl rfl rfl rfl) hf rfl rfl fun a hf => ?_
      refine pl_gs (wanted_f hf rfl rfl rfl rfl rfl) hf rfl rfl fun a hf => ?_
      refine q_ hf rfl rfl rfl (e_pick_f hf rfl rfl rfl) fun a hf => ?_
      refine q_ hf rfl rfl rfl (e_assign hf rfl) fun a hf => ?_
      refine pl_nil ?_
      obtain rfl := some_inj h6
      refine then_n ?_
      exact ⟨false, rfl, hf.keep ⟨rfl, trivial⟩, hM.pick [] rfl⟩
  · rintro a w17 ⟨t3, rfl, hf, hM⟩
    try dsimp only at h
    refine wp_ret ?_
    obtain rfl := some_inj h
    exact leave1 hf rfl rfl ⟨rfl, hM.fin⟩

set_option maxRecDepth 100000 in
set_option maxHeartbeats 4000000 in
theorem r_impl_Grid_index (C : Cx) (g1 : Grid) (hp2 : R64 g1.Rows) (hp3 : R64 g1.Cols) (hp4 : g1.Cells.length ≤ maxLen) (s5 : Slot) (hp6 : R64 s5.Row) (hp7 : R64 s5.Col) (hp8 : R64 s5.Length) (n9 : Int) (hp10 : R64 n9) (r : Int) (h : m_impl_Grid_index g1 s5 n9 = some r) :
    Calls Tryz.prog 63 #[.agg #[vI (g1.Rows), vI (g1.Cols), vS (g1.Cells)], .agg #[vI (s5.Row), vI (s5.Col), .bool (s5.Down), vI (s5.Length)], vI (n9)] C.w0 fun e w => e = .returned (vI (r)) ∧ Mem C w [] [] ∧ R64 r := by
  have hM := Mem.begin C [] trivial
  refine enter Tryz.func63 rfl Tryz.ntmps63 rfl fun a hf => ?_
  unfold m_impl_Grid_index at h
  refine wp_seq ?_
  refine region_pl ?_
  refine pl_l hf rfl rfl rfl (w_box hf hM (cs := [vI (g1.Rows), vI (g1.Cols), vS (g1.Cells)]) rfl rfl fun b11 w12 hx13 hM a hf => ?_)
  refine pl_l hf rfl rfl rfl (w_box hf hM (cs := [vI (s5.Row), vI (s5.Col), .bool (s5.Down), vI (s5.Length)]) rfl rfl fun b15 w16 hx17 hM a hf => ?_)
  refine q_ hf rfl rfl rfl (e_assign hf rfl) fun a hf => ?_
  refine pl_nil ?_
  refine then_n ?_
  refine wp_seq ?_
  refine wp_seq ?_
  refine region_pl ?_
  refine q_ hf rfl rfl rfl (e_field hf rfl Tryz.underlying60 rfl Tryz.sizeOf4 (o' := 2) rfl) fun a hf => ?_
  refine q_ hf rfl rfl rfl (e_load1 hf rfl Tryz.isAgg4 (hM.boxCell (k := 0) rfl rfl)) fun a hf => ?_
  refine pl_nil ?_
  refine then_n ?_
  rcases cond_some h with ⟨hc19, h⟩ | ⟨hc19, h⟩
  · refine cond_t hf rfl hc19 ?_
    refine wp_seq ?_
    refine region_pl ?_
    refine q_ hf rfl rfl rfl (e_field hf rfl Tryz.underlying60 rfl Tryz.sizeOf2 (o' := 0) rfl) fun a hf => ?_
    refine q_ hf rfl rfl rfl (e_load1 hf rfl Tryz.isAgg2 (hM.boxCell (k := 0) rfl rfl)) fun a hf => ?_
    refine q_ hf rfl rfl rfl (e_move hf rfl) fun a hf => ?_
    obtain ⟨z20, hz21, h⟩ := bind_some h
    refine q_ hf rfl rfl rfl (e_add hf rfl rfl hz21) fun a hf => ?_
    refine q_ hf rfl rfl rfl (e_field hf rfl Tryz.underlying25 rfl Tryz.sizeOf2 (o' := 1) rfl) fun a hf => ?_
    refine q_ hf rfl rfl rfl (e_load1 hf rfl Tryz.isAgg2 (hM.boxCell (k := 1) rfl rfl)) fun a hf => ?_
    obtain ⟨z22, hz23, h⟩ := bind_some h
    refine q_ hf rfl rfl rfl (e_mul hf rfl rfl hz23) fun a hf => ?_
    refine q_ hf rfl rfl rfl (e_field hf rfl Tryz.underlying60 rfl Tryz.sizeOf2 (o' := 1) rfl) fun a hf => ?_
    refine q_ hf rfl rfl rfl (e_load1 hf rfl Tryz.isAgg2 (hM.boxCell (k := 0) rfl rfl)) fun a hf => ?_
    obtain ⟨z24, hz25, h⟩ := bind_some h
    refine q_ hf rfl rfl rfl (e_add hf rfl rfl hz25) fun a hf => ?_
    refine q_ hf rfl rfl rfl (e_assign hf rfl) fun a hf => ?_
    refine pl_nil ?_
    refine then_n ?_
    refine wp_ret ?_
    refine then_r ?_
    obtain rfl := some_inj h
    have hM := hM.outs (own' := []) 0 rfl
    exact leave1 hf rfl rfl ⟨rfl, hM.fin, (chk_R hz25)⟩
  · refine cond_f hf rfl hc19 ?_
    refine wp_skip ?_
    refine then_n ?_
    refine wp_seq ?_
    refine region_pl ?_
    refine q_ hf rfl rfl rfl (e_field hf rfl Tryz.underlying60 rfl Tryz.sizeOf2 (o' := 0) rfl) fun a hf => ?_
    refine q_ hf rfl rfl rfl (e_load1 hf rfl Tryz.isAgg2 (hM.boxCell (k := 0) rfl rfl)) fun a hf => ?_
    refine q_ hf rfl rfl rfl (e_field hf rfl Tryz.underlying25 rfl Tryz.sizeOf2 (o' := 1) rfl) fun a hf => ?_
    refine q_ hf rfl rfl rfl (e_load1 hf rfl Tryz.isAgg2 (hM.boxCell (k := 1) rfl rfl)) fun a hf => ?_
    obtain ⟨z26, hz27, h⟩ := bind_some h
    refine q_ hf rfl rfl rfl (e_mul hf rfl rfl hz27) fun a hf => ?_
    refine q_ hf rfl rfl rfl (e_field hf rfl Tryz.underlying60 rfl Tryz.sizeOf2 (o' := 1) rfl) fun a hf => ?_
    refine q_ hf rfl rfl rfl (e_load1 hf rfl Tryz.isAgg2 (hM.boxCell (k := 0) rfl rfl)) fun a hf => ?_
    obtain ⟨z28, hz29, h⟩ := bind_some h
    refine q_ hf rfl rfl rfl (e_add hf rfl rfl hz29) fun a hf => ?_
    refine q_ hf rfl rfl rfl (e_move hf rfl) fun a hf => ?_
    obtain ⟨z30, hz31, h⟩ := bind_some h
    refine q_ hf rfl rfl rfl (e_add hf rfl rfl hz31) fun a hf => ?_
    refine q_ hf rfl rfl rfl (e_assign hf rfl) fun a hf => ?_
    refine pl_nil ?_
    refine then_n ?_
    refine wp_ret ?_
    obtain rfl := some_inj h
    have hM := hM.outs (own' := []) 0 rfl
    exact leave1 hf rfl rfl ⟨rfl, hM.fin, (chk_R hz31)⟩

set_option maxRecDepth 100000 in
set_option maxHeartbeats 4000000 in
theorem r_impl_Grid_pattern (C : Cx) (g1 : Grid) (hp2 : R64 g1.Rows) (hp3 : R64 g1.Cols) (hp4 : g1.Cells.length ≤ maxLen) (s5 : Slot) (hp6 : R64 s5.Row) (hp7 : R64 s5.Col) (hp8 : R64 s5.Length) (r : Str) (h : m_impl_Grid_pattern g1 s5 = some r) :
    Calls Tryz.prog 34 #[.agg #[vI (g1.Rows), vI (g1.Cols), vS (g1.Cells)], .agg #[vI (s5.Row), vI (s5.Col), .bool (s5.Down), vI (s5.Length)]] C.w0 fun e w => e = .returned (vS (r)) ∧ Mem C w [] [] ∧ r.length ≤ maxLen := by
  have hM := Mem.begin C [] trivial
  refine enter Tryz.func34 rfl Tryz.ntmps34 rfl fun a hf => ?_
  unfold m_impl_Grid_pattern at h
  refine wp_seq ?_
  refine region_pl ?_
  refine pl_l hf rfl rfl rfl (w_box hf hM (cs := [vI (g1.Rows), vI (g1.Cols), vS (g1.Cells)]) rfl rfl fun b9 w10 hx11 hM a hf => ?_)
  refine pl_l hf rfl rfl rfl (w_box hf hM (cs := [vI (s5.Row), vI (s5.Col), .bool (s5.Down), vI (s5.Length)]) rfl rfl fun b13 w14 hx15 hM a hf => ?_)
  refine q_ hf rfl rfl rfl (e_assign hf rfl) fun a hf => ?_
  refine pl_nil ?_
  refine then_n ?_
  refine wp_seq ?_
  refine region_pl ?_
  refine pl_l hf rfl rfl rfl (w_slice0 (K := byteRep) hM Tryz.underlying22 ei_5 fun b17 w18 hx19 hM a hf => ?_)
  refine q_ hf rfl rfl rfl (e_assign hf rfl) fun a hf => ?_
  refine pl_nil ?_
  refine then_n ?_
  obtain ⟨x23, h24, h⟩ := bind_some h
  refine seq_join (fun a w => ∃ (xs20 : Str) (A21 : Option Addr) (c22 : Nat), xs20 = x23 ∧ Has 26 a [(5, vL A21 (xs20) c22)] ∧ Mem C w [.row byteRep A21 c22 5 xs20 true, .box b13 [vI (s5.Row), vI (s5.Col), .bool (s5.Down), vI (s5.Length)] 60, .box b9 [vI (g1.Rows), vI (g1.Cols), vS (g1.Cells)] 25] []) ?_ ?_
  · refine wp_seq ?_
    refine region_pl ?_
    refine q_ hf rfl rfl rfl (e_assign hf rfl) fun a hf => ?_
    refine pl_nil ?_
    refine then_n ?_
    refine wp_block ?_
    obtain ⟨x34, h35, h24⟩ := bind_some h24
    refine wp_loopM h35 (fun s a w => ∃ (xs25 : Str) (n28 : Int) (A26 : Option Addr) (c27 : Nat), (xs25, n28) = s ∧ Has 26 a [(2, vP b9 (0)), (3, vP b13 (0)), (5, vL A26 (xs25) c27), (6, vI (n28))] ∧ Mem C w [.row byteRep A26 c27 5 xs25 true, .box b13 [vI (s5.Row), vI (s5.Col), .bool (s5.Down), vI (s5.Length)] 60, .box b9 [vI (g1.Rows), vI (g1.Cols), vS (g1.Cells)] 25] [] ∧ R64 n28) ?_ ?_
    · exact ⟨([] : Str), 0, (some ⟨b17, 0, none⟩), 0, rfl, hf.keep ⟨rfl, rfl, rfl, rfl, trivial⟩, hM.pick [] rfl, (R64_lit rfl)⟩
    · rintro s o36 a w30 ⟨xs25, n28, A26, c27, rfl, hf, hM, hv29⟩ h37 hd38
      replace h37 : m_impl_Grid_pattern_l1 s5 g1 xs25 n28 = some o36 := h37
      unfold m_impl_Grid_pattern_l1 at h37
      refine wp_seq ?_
      refine wp_seq ?_
      refine region_pl ?_
      refine q_ hf rfl rfl rfl (e_move hf rfl) fun a hf => ?_
      refine q_ hf rfl rfl rfl (e_field hf rfl Tryz.underlying60 rfl Tryz.sizeOf2 (o' := 3) rfl) fun a hf => ?_
      refine q_ hf rfl rfl rfl (e_load1 hf rfl Tryz.isAgg2 (hM.boxCell (k := 1) rfl rfl)) fun a hf => ?_
      refine q_ hf rfl rfl rfl (e_lt hf (x := n28) (y := s5.Length) rfl rfl) fun a hf => ?_
      refine pl_nil ?_
      refine then_n ?_
      rcases cond_some h37 with ⟨hc39, h37⟩ | ⟨hc39, h37⟩
      · refine cond_t hf rfl hc39 ?_
        refine wp_skip ?_
        refine then_n ?_
        refine wp_seq ?_
        refine wp_block ?_
        obtain ⟨w40, hw⟩ : ∃ x, x = w30.drew := ⟨_, rfl⟩
        refine region_pi (.q 0 (.q 1 (.q 2 (.q 3 (.q 4 (.q 5 (.l 6 (.q 7 (.l 8 (.l 9 (.q 10 (.nil)))))))))))) (Ext w40) rfl (by kernel_rfl) ?_
        have hM := hM.drew
        rw [← hw] at hM ⊢
        clear hw
        refine pi_q hf rfl rfl rfl rfl (Ext.refl _) (e_move hf rfl) fun a hf => ?_
        refine pi_q hf rfl rfl rfl rfl (Ext.refl _) (e_field hf rfl Tryz.underlying25 rfl Tryz.sizeOf9 (o' := 2) rfl) fun a hf => ?_
        refine pi_q hf rfl rfl rfl rfl (Ext.refl _) (e_load1 hf rfl Tryz.isAgg9 (hM.boxCell (k := 2) rfl rfl)) fun a hf => ?_
        refine pi_q hf rfl rfl rfl rfl (Ext.refl _) (e_loadA hf (us := [vI (g1.Rows), vI (g1.Cols), vS (g1.Cells)]) rfl ⟨Tryz.isAgg25, Tryz.sizeOf25⟩ rfl (hM.boxSub (k := 2) (us := [vI (g1.Rows), vI (g1.Cols), vS (g1.Cells)]) (o := 0) rfl rfl)) fun a hf => ?_
        refine pi_q hf rfl rfl rfl rfl (Ext.refl _) (e_loadA hf (us := [vI (s5.Row), vI (s5.Col), .bool (s5.Down), vI (s5.Length)]) rfl ⟨Tryz.isAgg60, Tryz.sizeOf60⟩ rfl (hM.boxSub (k := 1) (us := [vI (s5.Row), vI (s5.Col), .bool (s5.Down), vI (s5.Length)]) (o := 0) rfl rfl)) fun a hf => ?_
        refine pi_q hf rfl rfl rfl rfl (Ext.refl _) (e_move hf rfl) fun a hf => ?_
        refine pi_one ?_
        obtain ⟨y41, hz42, h37⟩ := bind_some h37
        refine pi_l hf rfl rfl rfl rfl (w_call hf Tryz.call63 rfl (r_impl_Grid_index ⟨_, Sh C _ _, none_, hM.sh_lt, none_not, C.G, hM.g_lt, g_none, hM.tabs⟩ g1 hp2 hp3 hp4 s5 hp6 hp7 hp8 n28 hv29 _ hz42) ?_)
        rintro _ w44 ⟨rfl, hM2, hv43⟩
        obtain ⟨hM, hx45, hup46⟩ := hM.back hM2
        dsimp only [List.cons_append, List.nil_append] at hM hup46
        clear hM2
        refine ⟨_, rfl, Ext w44, fun _ h => Ext.trans hx45 h, Ext.refl _, fun a hf => ?_⟩
        obtain ⟨c47, hz48, h37⟩ := bind_some h37
        refine pi_q hf rfl rfl rfl rfl (Ext.refl _) (e_indexS hf (x := g1.Cells) rfl rfl Tryz.underlying9 hz48) fun a hf => ?_
        refine pi_one ?_
        refine pi_l hf rfl rfl rfl rfl (w_slice hf hM (K := byteRep) (xs := ([c47] : Str)) (os := [.tmp 21]) Tryz.underlying22 ei_5 rfl rfl rfl rfl rfl ⟨⟨[vB (c47)], rfl, rfl⟩, trivial⟩ rfl fun b49 w50 hx51 hM => ⟨Ext w50, fun _ h => Ext.trans hx51 h, Ext.refl _, fun a hf => ?_⟩)
        refine pi_one ?_
        obtain ⟨xs52, hz53, h37⟩ := bind_some h37
        refine pi_z hf rfl rfl rfl rfl (by kernel_rfl) (w_append hf hM Tryz.underlying22 ei_5 rfl rfl rfl (k := 1) rfl (hM.srcRow (k := 0) rfl) hz53 fun A54 c55 w56 hM a hf => ?_)
        dsimp only [List.set] at hM
        refine pi_q hf rfl rfl rfl rfl (Ext.refl _) (e_assign hf rfl) fun a hf => ?_
        refine pi_nil ?_
        refine blk_n ?_
        refine then_n ?_
        refine region_pl ?_
        refine q_ hf rfl rfl rfl (e_move hf rfl) fun a hf => ?_
        obtain ⟨z59, hz60, h37⟩ := bind_some h37
        refine q_ hf rfl rfl rfl (e_add hf rfl rfl hz60) fun a hf => ?_
        refine q_ hf rfl rfl rfl (e_assign hf rfl) fun a hf => ?_
        refine pl_nil ?_
        obtain rfl := some_inj h37
        refine then_n ⟨_, rfl, ?_⟩
        exact ⟨xs52, z59, A54, c55, rfl, hf.keep ⟨rfl, rfl, rfl, rfl, trivial⟩, (hM.drop (.cons _ (.cons_cons _ (.cons_cons _ (.cons_cons _ .slnil))))).pick [] rfl, (chk_R hz60)⟩
      · refine cond_f hf rfl hc39 ?_
        refine wp_exit ?_
        refine then_x ?_
        obtain rfl := some_inj h37
        obtain rfl := hd38 _ rfl
        try dsimp only at h24
        refine then_x ?_
        refine exit_hit ?_
        obtain rfl := some_inj h24
        refine then_n ?_
        exact ⟨xs25, A26, c27, rfl, hf.keep ⟨rfl, trivial⟩, hM.pick [] rfl⟩
  · rintro a w66 ⟨xs20, A21, c22, rfl, hf, hM⟩
    try dsimp only at h
    refine wp_seq ?_
    refine region_pl ?_
    refine q_ hf rfl rfl rfl (e_move hf rfl) fun a hf => ?_
    have hl67 := row_len (hM.ownAt (k := 0) rfl)
    refine q_ hf rfl rfl rfl (e_bytesStr hf (xs := xs20) rfl Tryz.underlying22 Tryz.underlying5 Tryz.underlying9 (hM.lendRow (k := 0) rfl)) fun a hf => ?_
    refine q_ hf rfl rfl rfl (e_assign hf rfl) fun a hf => ?_
    refine pl_nil ?_
    refine then_n ?_
    refine wp_ret ?_
    obtain rfl := some_inj h
    have hM := hM.outs (own' := []) 0 rfl
    exact leave1 hf rfl rfl ⟨rfl, hM.fin, hl67⟩

set_option maxRecDepth 100000 in
set_option maxHeartbeats 4000000 in
theorem r_impl_fitsPattern (C : Cx) (pattern1 : Str) (hp2 : pattern1.length ≤ maxLen) (word3 : Str) (hp4 : word3.length ≤ maxLen) (r : Bool) (h : m_impl_fitsPattern pattern1 word3 = some r) :
    Calls Tryz.prog 33 #[vS (pattern1), vS (word3)] C.w0 fun e w => e = .returned (.bool (r)) ∧ Mem C w [] [] := by
  have hM := Mem.begin C [] trivial
  refine enter Tryz.func33 rfl Tryz.ntmps33 rfl fun a hf => ?_
  unfold m_impl_fitsPattern at h
  refine wp_seq ?_
  refine region_pl ?_
  refine q_ hf rfl rfl rfl (e_assign hf rfl) fun a hf => ?_
  refine pl_nil ?_
  refine then_n ?_
  refine wp_seq ?_
  refine wp_seq ?_
  refine region_pl ?_
  refine q_ hf rfl rfl rfl (e_move hf rfl) fun a hf => ?_
  refine q_ hf rfl rfl rfl (e_lenS hf (x := pattern1) rfl Tryz.underlying9) fun a hf => ?_
  refine q_ hf rfl rfl rfl (e_move hf rfl) fun a hf => ?_
  refine q_ hf rfl rfl rfl (e_lenS hf (x := word3) rfl Tryz.underlying9) fun a hf => ?_
  refine q_ hf rfl rfl rfl (e_ne hf (x := (pattern1.length : Int)) (y := (word3.length : Int)) rfl rfl) fun a hf => ?_
  refine pl_nil ?_
  refine then_n ?_
  rcases cond_some h with ⟨hc5, h⟩ | ⟨hc5, h⟩
  · refine cond_t hf rfl hc5 ?_
    refine wp_seq ?_
    refine region_pl ?_
    refine q_ hf rfl rfl rfl (e_assign hf rfl) fun a hf => ?_
    refine pl_nil ?_
    refine then_n ?_
    refine wp_ret ?_
    refine then_r ?_
    obtain rfl := some_inj h
    exact leave1 hf rfl rfl ⟨rfl, hM.fin⟩
  · refine cond_f hf rfl hc5 ?_
    refine wp_skip ?_
    refine then_n ?_
    obtain ⟨x6, h7, h⟩ := bind_some h
    refine seq_join (fun a w => (.inl ()) = x6 ∧ Has 29 a [] ∧ Mem C w [] []) ?_ ?_
    · refine wp_seq ?_
      refine region_pl ?_
      refine q_ hf rfl rfl rfl (e_move hf rfl) fun a hf => ?_
      refine pl_l hf rfl rfl rfl (w_range hf hM (x := word3) rfl Tryz.underlying9 fun b8 w9 hx10 hM a hf => ?_)
      refine pl_nil ?_
      refine then_n ?_
      refine wp_block ?_
      obtain ⟨x14, h15, h7⟩ := bind_some h7
      refine wp_loopM h15 (fun s a w => ∃ (pos11 : Nat), pos11 = s ∧ Has 29 a [(0, vS (pattern1)), (1, vS (word3)), (12, vP b8 0)] ∧ Mem C w [.obj b8 (.stringIter ⟨List.toArray word3⟩ pos11)] []) ?_ ?_
      · exact ⟨0, rfl, hf.keep ⟨rfl, rfl, rfl, trivial⟩, hM.pick [] rfl⟩
      · rintro s o16 a w12 ⟨pos11, rfl, hf, hM⟩ h17 hd18
        replace h17 : m_impl_fitsPattern_l1 word3 pattern1 pos11 = some o16 := h17
        unfold m_impl_fitsPattern_l1 at h17
        refine wp_seq ?_
        refine region_pl ?_
        rcases cond_some h17 with ⟨hc19, h17⟩ | ⟨hc19, h17⟩
        · refine pl_l hf rfl rfl rfl (w_next hf hM rfl (k := 0) rfl hc19 fun w20 hM a hf => ?_)
          dsimp only [List.set] at hM
          refine q_ hf rfl rfl rfl (e_extract hf rfl rfl) fun a hf => ?_
          refine pl_nil ?_
          refine then_n ?_
          refine wp_seq ?_
          refine cond_t hf rfl rfl ?_
          refine wp_skip ?_
          refine then_n ?_
          refine wp_block ?_
          refine wp_seq ?_
          refine region_pl ?_
          refine q_ hf rfl rfl rfl (e_extract hf rfl rfl) fun a hf => ?_
          refine q_ hf rfl rfl rfl (e_assign hf rfl) fun a hf => ?_
          refine pl_nil ?_
          refine then_n ?_
          obtain ⟨x24, h25, h17⟩ := bind_some h17
          refine seq_join (fun a w => ∃ (t22 : Bool), t22 = x24 ∧ Has 29 a [(0, vS (pattern1)), (1, vS (word3)), (12, vP b8 0), (28, .bool (t22))] ∧ Mem C w [.obj b8 (.stringIter ⟨List.toArray word3⟩ (pos11 + runeW word3 pos11))] []) ?_ ?_
          · obtain ⟨w26, hw⟩ : ∃ x, x = w20.drew := ⟨_, rfl⟩
            refine region_pi (.q 0 (.q 1 (.q 2 (.q 3 (.q 4 (.q 5 (.q 6 (.q 7 (.q 8 (.q 9 (.q 10 (.q 11 (.q 12 (.nil)))))))))))))) (Ext w26) rfl (by kernel_rfl) ?_
            have hM := hM.drew
            rw [← hw] at hM ⊢
            clear hw
            refine pi_q hf rfl rfl rfl rfl (Ext.refl _) (e_move hf rfl) fun a hf => ?_
            refine pi_q hf rfl rfl rfl rfl (Ext.refl _) (e_move hf rfl) fun a hf => ?_
            obtain ⟨c27, hz28, h25⟩ := bind_some h25
            refine pi_q hf rfl rfl rfl rfl (Ext.refl _) (e_indexS hf (x := pattern1) rfl rfl Tryz.underlying9 hz28) fun a hf => ?_
            refine pi_q hf rfl rfl rfl rfl (Ext.refl _) (e_neB hf (x := c27) (y := 46) rfl rfl) fun a hf => ?_
            refine pi_q hf rfl rfl rfl rfl (Ext.refl _) (e_move hf rfl) fun a hf => ?_
            rcases cond_some h25 with ⟨hc29, h25⟩ | ⟨hc29, h25⟩
            · refine pi_gq hf rfl (wanted_t hf rfl rfl rfl rfl hc29) rfl rfl (Ext.refl _) (e_move hf rfl) fun a hf => ?_
              refine pi_gq hf rfl (wanted_t hf rfl rfl rfl rfl hc29) rfl rfl (Ext.refl _) (e_move hf rfl) fun a hf => ?_
              obtain ⟨c30, hz31, h25⟩ := bind_some h25
              refine pi_gq hf rfl (wanted_t hf rfl rfl rfl rfl hc29) rfl rfl (Ext.refl _) (e_indexS hf (x := pattern1) rfl rfl Tryz.underlying9 hz31) fun a hf => ?_
              refine pi_gq hf rfl (wanted_t hf rfl rfl rfl rfl hc29) rfl rfl (Ext.refl _) (e_move hf rfl) fun a hf => ?_
              refine pi_gq hf rfl (wanted_t hf rfl rfl rfl rfl hc29) rfl rfl (Ext.refl _) (e_move hf rfl) fun a hf => ?_
              obtain ⟨c32, hz33, h25⟩ := bind_some h25
              refine pi_gq hf rfl (wanted_t hf rfl rfl rfl rfl hc29) rfl rfl (Ext.refl _) (e_indexS hf (x := word3) rfl rfl Tryz.underlying9 hz33) fun a hf => ?_
              refine pi_gq hf rfl (wanted_t hf rfl rfl rfl rfl hc29) rfl rfl (Ext.refl _) (e_neB hf (x := c30) (y := c32) rfl rfl) fun a hf => ?_
              refine pi_q hf rfl rfl rfl rfl (Ext.refl _) (e_pick_t hf rfl hc29 rfl) fun a hf => ?_
              refine pi_nil ?_
              obtain rfl := some_inj h25
              refine then_n ?_
              exact ⟨(c30 != c32), rfl, hf.keep ⟨rfl, rfl, rfl, rfl, trivial⟩, hM.pick [] rfl⟩
            · refine pi_gs hf rfl (wanted_f hf rfl rfl rfl rfl hc29) rfl rfl (Ext.refl _) fun a hf => ?_
              refine pi_gs hf rfl (wanted_f hf rfl rfl rfl rfl hc29) rfl rfl (Ext.refl _) fun a hf => ?_
              refine pi_gs hf rfl (wanted_f hf rfl rfl rfl rfl hc29) rfl rfl (Ext.refl _) fun a hf => ?_
              refine pi_gs hf rfl (wanted_f hf rfl rfl rfl rfl hc29) rfl rfl (Ext.refl _) fun a hf => ?_
              refine pi_gs hf rfl (wanted_f hf rfl rfl rfl rfl hc29) rfl rfl (Ext.refl _) fun a hf => ?_
              refine pi_gs hf rfl (wanted_f hf rfl rfl rfl rfl hc29) rfl rfl (Ext.refl _) fun a hf => ?_
              refine pi_gs hf rfl (wanted_f hf rfl rfl rfl rfl hc29) rfl rfl (Ext.refl _) fun a hf => ?_
              refine pi_q hf rfl rfl rfl rfl (Ext.refl _) (e_pick_f hf rfl hc29 rfl) fun a hf => ?_
              refine pi_nil ?_
              obtain rfl := some_inj h25
              refine then_n ?_
              exact ⟨false, rfl, hf.keep ⟨rfl, rfl, rfl, rfl, trivial⟩, hM.pick [] rfl⟩
          · rintro a w36 ⟨t22, rfl, hf, hM⟩
            try dsimp only at h17
            rcases cond_some h17 with ⟨hc37, h17⟩ | ⟨hc37, h17⟩
            · refine cond_t hf rfl hc37 ?_
              refine wp_seq ?_
              refine region_pl ?_
              refine q_ hf rfl rfl rfl (e_assign hf rfl) fun a hf => ?_
              refine pl_nil ?_
              refine then_n ?_
              refine wp_ret ?_
              refine blk_r ?_
              obtain rfl := some_inj h17
              obtain rfl := hd18 _ rfl
              try dsimp only at h7
              refine then_r ?_
              refine blk_r ?_
              obtain rfl := some_inj h7
              try dsimp only at h
              refine then_r ?_
              obtain rfl := some_inj h
              have hM := hM.outs (own' := []) 0 rfl
              exact leave1 hf rfl rfl ⟨rfl, hM.fin⟩
            · refine cond_f hf rfl hc37 ?_
              refine wp_skip ?_
              refine blk_n ?_
              obtain rfl := some_inj h17
              refine then_n ⟨_, rfl, ?_⟩
              exact ⟨(pos11 + runeW word3 pos11), rfl, hf.keep ⟨rfl, rfl, rfl, trivial⟩, hM.pick [] rfl⟩
        · refine pl_l hf rfl rfl rfl (w_nextEnd hf hM rfl (k := 0) rfl hc19 fun w39 hx40 hM a hf => ?_)
          refine q_ hf rfl rfl rfl (e_extract hf rfl rfl) fun a hf => ?_
          refine pl_nil ?_
          refine then_n ?_
          refine wp_seq ?_
          refine cond_f hf rfl rfl ?_
          refine wp_exit ?_
          refine then_x ?_
          obtain rfl := some_inj h17
          obtain rfl := hd18 _ rfl
          try dsimp only at h7
          refine then_x ?_
          refine exit_hit ?_
          obtain rfl := some_inj h7
          refine then_n ?_
          exact ⟨rfl, hf.keep trivial, (hM.drop (.cons _ .slnil)).pick [] rfl⟩
    · rintro a w46 ⟨rfl, hf, hM⟩
      try dsimp only at h
      refine wp_seq ?_
      refine region_pl ?_
      refine q_ hf rfl rfl rfl (e_assign hf rfl) fun a hf => ?_
      refine pl_nil ?_
      refine then_n ?_
      refine wp_ret ?_
      obtain rfl := some_inj h
      exact leave1 hf rfl rfl ⟨rfl, hM.fin⟩

set_option maxRecDepth 100000 in
set_option maxHeartbeats 4000000 in
theorem r_impl_Grid_put (C : Cx) (g1 : Grid) (hp2 : R64 g1.Rows) (hp3 : R64 g1.Cols) (hp4 : g1.Cells.length ≤ maxLen) (s5 : Slot) (hp6 : R64 s5.Row) (hp7 : R64 s5.Col) (hp8 : R64 s5.Length) (word9 : Str) (hp10 : word9.length ≤ maxLen) (r : Grid) (h : m_impl_Grid_put g1 s5 word9 = some r) :
    Calls Tryz.prog 35 #[.agg #[vI (g1.Rows), vI (g1.Cols), vS (g1.Cells)], .agg #[vI (s5.Row), vI (s5.Col), .bool (s5.Down), vI (s5.Length)], vS (word9)] C.w0 fun e w => e = .returned (.agg #[vI (r.Rows), vI (r.Cols), vS (r.Cells)]) ∧ Mem C w [] [] ∧ R64 r.Rows ∧ R64 r.Cols ∧ r.Cells.length ≤ maxLen := by
  have hM := Mem.begin C [] trivial
  refine enter Tryz.func35 rfl Tryz.ntmps35 rfl fun a hf => ?_
  unfold m_impl_Grid_put at h
  refine wp_seq ?_
  refine region_pl ?_
  refine pl_l hf rfl rfl rfl (w_box hf hM (cs := [vI (g1.Rows), vI (g1.Cols), vS (g1.Cells)]) rfl rfl fun b11 w12 hx13 hM a hf => ?_)
  refine pl_l hf rfl rfl rfl (w_box hf hM (cs := [vI (s5.Row), vI (s5.Col), .bool (s5.Down), vI (s5.Length)]) rfl rfl fun b15 w16 hx17 hM a hf => ?_)
  refine pl_l hf rfl rfl rfl (w_alloc hM (cs := [vI (0), vI (0), vS (([] : Str))]) Tryz.zeroValue25 rfl fun b19 w20 hx21 hM a hf => ?_)
  refine pl_nil ?_
  refine then_n ?_
  refine wp_seq ?_
  refine region_pl ?_
  refine q_ hf rfl rfl rfl (e_field hf rfl Tryz.underlying25 rfl Tryz.sizeOf9 (o' := 2) rfl) fun a hf => ?_
  refine q_ hf rfl rfl rfl (e_load1 hf rfl Tryz.isAgg9 (hM.boxCell (k := 2) rfl rfl)) fun a hf => ?_
  refine pl_l hf rfl rfl rfl (w_bytes hf hM (x := g1.Cells) rfl Tryz.underlying9 Tryz.underlying22 Tryz.underlying5 hp4 fun A23 c24 w25 hx26 hM a hf => ?_)
  refine q_ hf rfl rfl rfl (e_assign hf rfl) fun a hf => ?_
  refine pl_nil ?_
  refine then_n ?_
  obtain ⟨x28, h29, h⟩ := bind_some h
  refine seq_join (fun a w => ∃ (xs27 : Str), xs27 = x28 ∧ Has 30 a [(3, vP b11 (0)), (6, vP b19 (0)), (7, vL A23 (xs27) c24)] ∧ Mem C w [.row byteRep A23 c24 5 xs27 false, .box b19 [vI (0), vI (0), vS (([] : Str))] 25, .box b15 [vI (s5.Row), vI (s5.Col), .bool (s5.Down), vI (s5.Length)] 60, .box b11 [vI (g1.Rows), vI (g1.Cols), vS (g1.Cells)] 25] []) ?_ ?_
  · refine wp_seq ?_
    refine region_pl ?_
    refine q_ hf rfl rfl rfl (e_move hf rfl) fun a hf => ?_
    refine pl_l hf rfl rfl rfl (w_range hf hM (x := word9) rfl Tryz.underlying9 fun b30 w31 hx32 hM a hf => ?_)
    refine pl_nil ?_
    refine then_n ?_
    refine wp_block ?_
    obtain ⟨x38, h39, h29⟩ := bind_some h29
    refine wp_loopM h39 (fun s a w => ∃ (pos33 : Nat) (xs34 : Str), (pos33, xs34) = s ∧ Has 30 a [(2, vS (word9)), (3, vP b11 (0)), (4, vP b15 (0)), (6, vP b19 (0)), (7, vL A23 (xs34) c24), (13, vP b30 0)] ∧ Mem C w [.obj b30 (.stringIter ⟨List.toArray word9⟩ pos33), .row byteRep A23 c24 5 xs34 false, .box b19 [vI (0), vI (0), vS (([] : Str))] 25, .box b15 [vI (s5.Row), vI (s5.Col), .bool (s5.Down), vI (s5.Length)] 60, .box b11 [vI (g1.Rows), vI (g1.Cols), vS (g1.Cells)] 25] []) ?_ ?_
    · exact ⟨0, g1.Cells, rfl, hf.keep ⟨rfl, rfl, rfl, rfl, rfl, rfl, trivial⟩, hM.pick [] rfl⟩
    · rintro s o40 a w35 ⟨pos33, xs34, rfl, hf, hM⟩ h41 hd42
      replace h41 : m_impl_Grid_put_l1 word9 g1 s5 pos33 xs34 = some o40 := h41
      unfold m_impl_Grid_put_l1 at h41
      refine wp_seq ?_
      refine region_pl ?_
      rcases cond_some h41 with ⟨hc43, h41⟩ | ⟨hc43, h41⟩
      · refine pl_l hf rfl rfl rfl (w_next hf hM rfl (k := 0) rfl hc43 fun w44 hM a hf => ?_)
        dsimp only [List.set] at hM
        refine q_ hf rfl rfl rfl (e_extract hf rfl rfl) fun a hf => ?_
        refine pl_nil ?_
        refine then_n ?_
        refine wp_seq ?_
        refine cond_t hf rfl rfl ?_
        refine wp_skip ?_
        refine then_n ?_
        refine wp_block ?_
        refine wp_seq ?_
        refine region_pl ?_
        refine q_ hf rfl rfl rfl (e_extract hf rfl rfl) fun a hf => ?_
        refine q_ hf rfl rfl rfl (e_assign hf rfl) fun a hf => ?_
        refine pl_nil ?_
        refine then_n ?_
        obtain ⟨w46, hw⟩ : ∃ x, x = w44.drew := ⟨_, rfl⟩
        refine region_pi (.q 0 (.q 1 (.q 2 (.q 3 (.q 5 (.q 6 (.q 7 (.l 4 (.q 8 (.l 9 (.nil))))))))))) (Ext w46) rfl (by kernel_rfl) ?_
        have hM := hM.drew
        rw [← hw] at hM ⊢
        clear hw
        refine pi_q hf rfl rfl rfl rfl (Ext.refl _) (e_move hf rfl) fun a hf => ?_
        refine pi_q hf rfl rfl rfl rfl (Ext.refl _) (e_loadA hf (us := [vI (g1.Rows), vI (g1.Cols), vS (g1.Cells)]) rfl ⟨Tryz.isAgg25, Tryz.sizeOf25⟩ rfl (hM.boxSub (k := 4) (us := [vI (g1.Rows), vI (g1.Cols), vS (g1.Cells)]) (o := 0) rfl rfl)) fun a hf => ?_
        refine pi_q hf rfl rfl rfl rfl (Ext.refl _) (e_loadA hf (us := [vI (s5.Row), vI (s5.Col), .bool (s5.Down), vI (s5.Length)]) rfl ⟨Tryz.isAgg60, Tryz.sizeOf60⟩ rfl (hM.boxSub (k := 3) (us := [vI (s5.Row), vI (s5.Col), .bool (s5.Down), vI (s5.Length)]) (o := 0) rfl rfl)) fun a hf => ?_
        refine pi_q hf rfl rfl rfl rfl (Ext.refl _) (e_move hf rfl) fun a hf => ?_
        refine pi_q hf rfl rfl rfl rfl (Ext.refl _) (e_move hf rfl) fun a hf => ?_
        refine pi_q hf rfl rfl rfl rfl (Ext.refl _) (e_move hf rfl) fun a hf => ?_
        obtain ⟨c47, hz48, h41⟩ := bind_some h41
        refine pi_q hf rfl rfl rfl rfl (Ext.refl _) (e_indexS hf (x := word9) rfl rfl Tryz.underlying9 hz48) fun a hf => ?_
        refine pi_one ?_
        obtain ⟨y49, hz50, h41⟩ := bind_some h41
        refine pi_l hf rfl rfl rfl rfl (w_call hf Tryz.call63 rfl (r_impl_Grid_index ⟨_, Sh C _ _, none_, hM.sh_lt, none_not, C.G, hM.g_lt, g_none, hM.tabs⟩ g1 hp2 hp3 hp4 s5 hp6 hp7 hp8 (pos33 : Int) (R64_pos hc43 hp10) _ hz50) ?_)
        rintro _ w52 ⟨rfl, hM2, hv51⟩
        obtain ⟨hM, hx53, hup54⟩ := hM.back hM2
        dsimp only [List.cons_append, List.nil_append] at hM hup54
        clear hM2
        refine ⟨_, rfl, Ext w52, fun _ h => Ext.trans hx53 h, Ext.refl _, fun a hf => ?_⟩
        obtain ⟨e55, hz56, h41⟩ := bind_some h41
        obtain ⟨b61, _, hA62, h57, h58, hr59, hcell60⟩ := hM.rowElemN (k := 1) rfl (n := 1) rfl hz56
        obtain rfl : _ = _ := hr59
        refine pi_q hf rfl rfl rfl rfl (Ext.refl _) (e_indexAddr (A := A23) (b := b61) (o := 0) (xs := xs34) (i := y49) hf hA62 rfl rfl Tryz.underlying22 Tryz.sizeOf5 h57 h58) fun a hf => ?_
        refine pi_one ?_
        obtain ⟨xs64, hz65, h41⟩ := bind_some h41
        refine pi_z0 hf rfl rfl rfl (by kernel_rfl) (w_storeElem hf hM (x := c47) (row := [vB (c47)]) (i := y49) rfl rfl rfl hA62 (k := 1) rfl rfl Tryz.sizeOf5 rfl hz65 fun w63 hM => ?_)
        dsimp only [List.set] at hM
        have hf := hf.alter (d := 7) (v := vL A23 (xs64) c24) rfl (vL_len (setL_len hz65))
        have hf := hf.alter (d := 17) (v := vL A23 (xs64) c24) rfl (vL_len (setL_len hz65))
        refine pi_nil ?_
        refine blk_n ?_
        obtain rfl := some_inj h41
        refine then_n ⟨_, rfl, ?_⟩
        exact ⟨(pos33 + runeW word9 pos33), xs64, rfl, hf.keep ⟨rfl, rfl, rfl, rfl, rfl, rfl, trivial⟩, hM.pick [] rfl⟩
      · refine pl_l hf rfl rfl rfl (w_nextEnd hf hM rfl (k := 0) rfl hc43 fun w67 hx68 hM a hf => ?_)
        refine q_ hf rfl rfl rfl (e_extract hf rfl rfl) fun a hf => ?_
        refine pl_nil ?_
        refine then_n ?_
        refine wp_seq ?_
        refine cond_f hf rfl rfl ?_
        refine wp_exit ?_
        refine then_x ?_
        obtain rfl := some_inj h41
        obtain rfl := hd42 _ rfl
        try dsimp only at h29
        refine then_x ?_
        refine exit_hit ?_
        obtain rfl := some_inj h29
        refine then_n ?_
        exact ⟨xs34, rfl, hf.keep ⟨rfl, rfl, rfl, trivial⟩, (hM.drop (.cons _ (.cons_cons _ (.cons_cons _ (.cons_cons _ (.cons_cons _ .slnil)))))).pick [] rfl⟩
  · rintro a w73 ⟨xs27, rfl, hf, hM⟩
    try dsimp only at h
    refine wp_seq ?_
    refine region_pl ?_
    refine q_ hf rfl rfl rfl (e_move hf rfl) fun a hf => ?_
    have hl74 := row_len (hM.ownAt (k := 0) rfl)
    refine q_ hf rfl rfl rfl (e_bytesStr hf (xs := xs27) rfl Tryz.underlying22 Tryz.underlying5 Tryz.underlying9 (hM.lendRow (k := 0) rfl)) fun a hf => ?_
    refine q_ hf rfl rfl rfl (e_field hf rfl Tryz.underlying25 rfl Tryz.sizeOf9 (o' := 2) rfl) fun a hf => ?_
    refine pl_0 hf rfl rfl (w_store hf hM (us := [vS (xs27)]) (cs' := [vI (g1.Rows), vI (g1.Cols), vS (xs27)]) rfl rfl (k := 3) rfl rfl Tryz.sizeOf9 rfl rfl rfl fun w75 hM => ?_)
    dsimp only [List.set] at hM
    refine pl_nil ?_
    refine then_n ?_
    refine wp_seq ?_
    refine region_pl ?_
    refine q_ hf rfl rfl rfl (e_loadA hf (us := [vI (g1.Rows), vI (g1.Cols), vS (xs27)]) rfl ⟨Tryz.isAgg25, Tryz.sizeOf25⟩ rfl (hM.boxSub (k := 3) (us := [vI (g1.Rows), vI (g1.Cols), vS (xs27)]) (o := 0) rfl rfl)) fun a hf => ?_
    refine pl_0 hf rfl rfl (w_store hf hM (us := [vI (g1.Rows), vI (g1.Cols), vS (xs27)]) (cs' := [vI (g1.Rows), vI (g1.Cols), vS (xs27)]) rfl rfl (k := 1) rfl rfl Tryz.sizeOf25 rfl rfl rfl fun w78 hM => ?_)
    dsimp only [List.set] at hM
    refine pl_nil ?_
    refine then_n ?_
    refine wp_ret ?_
    obtain rfl := some_inj h
    have hres81 := leaveV1 (P := Tryz.prog) Tryz.results35 (res_agg hf rfl ⟨Tryz.isAgg25, Tryz.sizeOf25⟩ (us := [vI (g1.Rows), vI (g1.Cols), vS (xs27)]) rfl (hM.boxSub (k := 1) (o := 0) rfl rfl))
    have hM := hM.outs (own' := []) 0 rfl
    exact bodyPost_ret hres81 hf.defers ⟨rfl, hM.fin, hp2, hp3, hl74⟩

set_option maxRecDepth 100000 in
set_option maxHeartbeats 4000000 in
theorem r_impl_PutWord (C : Cx) (g1 : Grid) (hp2 : R64 g1.Rows) (hp3 : R64 g1.Cols) (hp4 : g1.Cells.length ≤ maxLen) (slot5 : Int) (hp6 : R64 slot5) (word7 : Str) (hp8 : word7.length ≤ maxLen) (r : (Grid × Int)) (h : m_impl_PutWord g1 slot5 word7 = some r) :
    Calls Tryz.prog 6 #[.agg #[vI (g1.Rows), vI (g1.Cols), vS (g1.Cells)], vI (slot5), vS (word7)] C.w0 fun e w => e = .returned (.tuple #[.agg #[vI (r.1.Rows), vI (r.1.Cols), vS (r.1.Cells)], vI (r.2)]) ∧ Mem C w [] [] ∧ R64 r.1.Rows ∧ R64 r.1.Cols ∧ r.1.Cells.length ≤ maxLen ∧ R64 r.2 := by
  have hM := Mem.begin C [] trivial
  refine enter Tryz.func6 rfl Tryz.ntmps6 rfl fun a hf => ?_
  unfold m_impl_PutWord at h
  refine wp_seq ?_
  refine region_pl ?_
  refine pl_l hf rfl rfl rfl (w_box hf hM (cs := [vI (g1.Rows), vI (g1.Cols), vS (g1.Cells)]) rfl rfl fun b9 w10 hx11 hM a hf => ?_)
  refine pl_l hf rfl rfl rfl (w_alloc hM (cs := [vI (0), vI (0), vS (([] : Str))]) Tryz.zeroValue25 rfl fun b13 w14 hx15 hM a hf => ?_)
  refine q_ hf rfl rfl rfl (e_assign hf rfl) fun a hf => ?_
  refine pl_nil ?_
  refine then_n ?_
  refine wp_seq ?_
  refine wp_seq ?_
  refine region_pl ?_
  refine q_ hf rfl rfl rfl (e_loadA hf (us := [vI (g1.Rows), vI (g1.Cols), vS (g1.Cells)]) rfl ⟨Tryz.isAgg25, Tryz.sizeOf25⟩ rfl (hM.boxSub (k := 1) (us := [vI (g1.Rows), vI (g1.Cols), vS (g1.Cells)]) (o := 0) rfl rfl)) fun a hf => ?_
  obtain ⟨y17, hz18, h⟩ := bind_some h
  refine pl_l hf rfl rfl rfl (w_call hf Tryz.call30 rfl (r_impl_ValidGrid ⟨_, Sh C _ _, none_, hM.sh_lt, none_not, C.G, hM.g_lt, g_none, hM.tabs⟩ g1 hp2 hp3 hp4 _ hz18) ?_)
  rintro _ w19 ⟨rfl, hM2⟩
  obtain ⟨hM, hx20, hup21⟩ := hM.back hM2
  dsimp only [List.cons_append, List.nil_append] at hM hup21
  clear hM2
  refine ⟨_, rfl, fun a hf => ?_⟩
  refine q_ hf rfl rfl rfl (e_not hf rfl) fun a hf => ?_
  refine pl_nil ?_
  refine then_n ?_
  rcases cond_some h with ⟨hc22, h⟩ | ⟨hc22, h⟩
  · refine cond_t hf rfl hc22 ?_
    refine wp_seq ?_
    refine region_pl ?_
    refine q_ hf rfl rfl rfl (e_build hf Tryz.zeroValue25 Tryz.underlying25 (bp_25 _ Tryz.underlying25.symm) rfl (cs := #[vI (0), vI (0), vS (([] : Str))]) (by kernel_rfl)) fun a hf => ?_
    refine pl_0 hf rfl rfl (w_store hf hM (us := [vI (0), vI (0), vS (([] : Str))]) (cs' := [vI (0), vI (0), vS (([] : Str))]) rfl rfl (k := 0) rfl rfl Tryz.sizeOf25 rfl rfl rfl fun w23 hM => ?_)
    dsimp only [List.set] at hM
    refine q_ hf rfl rfl rfl (e_assign hf rfl) fun a hf => ?_
    refine pl_nil ?_
    refine then_n ?_
    refine wp_ret ?_
    refine then_r ?_
    obtain rfl := some_inj h
    have hres26 := leaveV2 (P := Tryz.prog) Tryz.results6 (res_agg hf rfl ⟨Tryz.isAgg25, Tryz.sizeOf25⟩ (us := [vI (0), vI (0), vS (([] : Str))]) rfl (hM.boxSub (k := 0) (o := 0) rfl rfl)) (res_tmp hf rfl)
    have hM := hM.outs (own' := []) 0 rfl
    exact bodyPost_ret hres26 hf.defers ⟨rfl, hM.fin, (R64_lit rfl), (R64_lit rfl), (lit_len rfl), (R64_lit rfl)⟩
  · refine cond_f hf rfl hc22 ?_
    refine wp_skip ?_
    refine then_n ?_
    refine wp_seq ?_
    refine region_pl ?_
    refine q_ hf rfl rfl rfl (e_loadA hf (us := [vI (g1.Rows), vI (g1.Cols), vS (g1.Cells)]) rfl ⟨Tryz.isAgg25, Tryz.sizeOf25⟩ rfl (hM.boxSub (k := 1) (us := [vI (g1.Rows), vI (g1.Cols), vS (g1.Cells)]) (o := 0) rfl rfl)) fun a hf => ?_
    refine q_ hf rfl rfl rfl (e_move hf rfl) fun a hf => ?_
    obtain ⟨y27, hz28, h⟩ := bind_some h
    refine pl_l hf rfl rfl rfl (w_call hf Tryz.call31 rfl (r_impl_Grid_slotAt ⟨_, Sh C _ _, none_, hM.sh_lt, none_not, C.G, hM.g_lt, g_none, hM.tabs⟩ g1 hp2 hp3 hp4 slot5 hp6 _ hz28) ?_)
    rintro _ w32 ⟨rfl, hM2, hv29, hv30, hv31⟩
    obtain ⟨hM, hx33, hup34⟩ := hM.back hM2
    dsimp only [List.cons_append, List.nil_append] at hM hup34
    clear hM2
    refine ⟨_, rfl, fun a hf => ?_⟩
    refine q_ hf rfl rfl rfl (e_move hf rfl) fun a hf => ?_
    refine q_ hf rfl rfl rfl (e_extract hf rfl rfl) fun a hf => ?_
    refine q_ hf rfl rfl rfl (e_extract hf rfl rfl) fun a hf => ?_
    refine pl_l hf rfl rfl rfl (w_alloc hM (cs := [vI (0), vI (0), .bool (false), vI (0)]) Tryz.zeroValue60 rfl fun b35 w36 hx37 hM a hf => ?_)
    refine pl_0 hf rfl rfl (w_store hf hM (us := [vI (y27.1.Row), vI (y27.1.Col), .bool (y27.1.Down), vI (y27.1.Length)]) (cs' := [vI (y27.1.Row), vI (y27.1.Col), .bool (y27.1.Down), vI (y27.1.Length)]) rfl rfl (k := 0) rfl rfl Tryz.sizeOf60 rfl rfl rfl fun w39 hM => ?_)
    dsimp only [List.set] at hM
    refine q_ hf rfl rfl rfl (e_assign hf rfl) fun a hf => ?_
    refine pl_nil ?_
    refine then_n ?_
    refine wp_seq ?_
    refine wp_block ?_
    refine wp_seq ?_
    refine region_pl ?_
    refine q_ hf rfl rfl rfl (e_move hf rfl) fun a hf => ?_
    refine q_ hf rfl rfl rfl (e_not hf rfl) fun a hf => ?_
    refine q_ hf rfl rfl rfl (e_assign hf rfl) fun a hf => ?_
    refine pl_nil ?_
    refine then_n ?_
    rcases cond_some h with ⟨hc42, h⟩ | ⟨hc42, h⟩
    · refine cond_t hf rfl hc42 ?_
      refine wp_seq ?_
      refine region_pl ?_
      refine q_ hf rfl rfl rfl (e_build hf Tryz.zeroValue25 Tryz.underlying25 (bp_25 _ Tryz.underlying25.symm) rfl (cs := #[vI (0), vI (0), vS (([] : Str))]) (by kernel_rfl)) fun a hf => ?_
      refine pl_0 hf rfl rfl (w_store hf hM (us := [vI (0), vI (0), vS (([] : Str))]) (cs' := [vI (0), vI (0), vS (([] : Str))]) rfl rfl (k := 1) rfl rfl Tryz.sizeOf25 rfl rfl rfl fun w43 hM => ?_)
      dsimp only [List.set] at hM
      refine q_ hf rfl rfl rfl (e_assign hf rfl) fun a hf => ?_
      refine pl_nil ?_
      refine then_n ?_
      refine wp_ret ?_
      refine blk_r ?_
      refine then_r ?_
      obtain rfl := some_inj h
      have hres46 := leaveV2 (P := Tryz.prog) Tryz.results6 (res_agg hf rfl ⟨Tryz.isAgg25, Tryz.sizeOf25⟩ (us := [vI (0), vI (0), vS (([] : Str))]) rfl (hM.boxSub (k := 1) (o := 0) rfl rfl)) (res_tmp hf rfl)
      have hM := hM.outs (own' := []) 0 rfl
      exact bodyPost_ret hres46 hf.defers ⟨rfl, hM.fin, (R64_lit rfl), (R64_lit rfl), (lit_len rfl), (R64_lit rfl)⟩
    · refine cond_f hf rfl hc42 ?_
      refine wp_seq ?_
      refine region_pl ?_
      refine q_ hf rfl rfl rfl (e_move hf rfl) fun a hf => ?_
      obtain ⟨y47, hz48, h⟩ := bind_some h
      refine pl_l hf rfl rfl rfl (w_call hf Tryz.call32 rfl (r_impl_IsWord ⟨_, Sh C _ _, none_, hM.sh_lt, none_not, C.G, hM.g_lt, g_none, hM.tabs⟩ word7 hp8 _ hz48) ?_)
      rintro _ w49 ⟨rfl, hM2⟩
      obtain ⟨hM, hx50, hup51⟩ := hM.back hM2
      dsimp only [List.cons_append, List.nil_append] at hM hup51
      clear hM2
      refine ⟨_, rfl, fun a hf => ?_⟩
      refine q_ hf rfl rfl rfl (e_not hf rfl) fun a hf => ?_
      refine q_ hf rfl rfl rfl (e_assign hf rfl) fun a hf => ?_
      refine pl_nil ?_
      refine then_n ?_
      rcases cond_some h with ⟨hc52, h⟩ | ⟨hc52, h⟩
      · refine cond_t hf rfl hc52 ?_
        refine wp_seq ?_
        refine region_pl ?_
        refine q_ hf rfl rfl rfl (e_build hf Tryz.zeroValue25 Tryz.underlying25 (bp_25 _ Tryz.underlying25.symm) rfl (cs := #[vI (0), vI (0), vS (([] : Str))]) (by kernel_rfl)) fun a hf => ?_
        refine pl_0 hf rfl rfl (w_store hf hM (us := [vI (0), vI (0), vS (([] : Str))]) (cs' := [vI (0), vI (0), vS (([] : Str))]) rfl rfl (k := 1) rfl rfl Tryz.sizeOf25 rfl rfl rfl fun w53 hM => ?_)
        dsimp only [List.set] at hM
        refine q_ hf rfl rfl rfl (e_assign hf rfl) fun a hf => ?_
        refine pl_nil ?_
        refine then_n ?_
        refine wp_ret ?_
        refine blk_r ?_
        refine then_r ?_
        obtain rfl := some_inj h
        have hres56 := leaveV2 (P := Tryz.prog) Tryz.results6 (res_agg hf rfl ⟨Tryz.isAgg25, Tryz.sizeOf25⟩ (us := [vI (0), vI (0), vS (([] : Str))]) rfl (hM.boxSub (k := 1) (o := 0) rfl rfl)) (res_tmp hf rfl)
        have hM := hM.outs (own' := []) 0 rfl
        exact bodyPost_ret hres56 hf.defers ⟨rfl, hM.fin, (R64_lit rfl), (R64_lit rfl), (lit_len rfl), (R64_lit rfl)⟩
      · refine cond_f hf rfl hc52 ?_
        refine wp_seq ?_
        refine region_pl ?_
        refine q_ hf rfl rfl rfl (e_loadA hf (us := [vI (g1.Rows), vI (g1.Cols), vS (g1.Cells)]) rfl ⟨Tryz.isAgg25, Tryz.sizeOf25⟩ rfl (hM.boxSub (k := 2) (us := [vI (g1.Rows), vI (g1.Cols), vS (g1.Cells)]) (o := 0) rfl rfl)) fun a hf => ?_
        refine q_ hf rfl rfl rfl (e_loadA hf (us := [vI (y27.1.Row), vI (y27.1.Col), .bool (y27.1.Down), vI (y27.1.Length)]) rfl ⟨Tryz.isAgg60, Tryz.sizeOf60⟩ rfl (hM.boxSub (k := 0) (us := [vI (y27.1.Row), vI (y27.1.Col), .bool (y27.1.Down), vI (y27.1.Length)]) (o := 0) rfl rfl)) fun a hf => ?_
        obtain ⟨y57, hz58, h⟩ := bind_some h
        refine pl_l hf rfl rfl rfl (w_call hf Tryz.call34 rfl (r_impl_Grid_pattern ⟨_, Sh C _ _, none_, hM.sh_lt, none_not, C.G, hM.g_lt, g_none, hM.tabs⟩ g1 hp2 hp3 hp4 y27.1 hv29 hv30 hv31 _ hz58) ?_)
        rintro _ w60 ⟨rfl, hM2, hv59⟩
        obtain ⟨hM, hx61, hup62⟩ := hM.back hM2
        dsimp only [List.cons_append, List.nil_append] at hM hup62
        clear hM2
        refine ⟨_, rfl, fun a hf => ?_⟩
        refine q_ hf rfl rfl rfl (e_move hf rfl) fun a hf => ?_
        obtain ⟨y63, hz64, h⟩ := bind_some h
        refine pl_l hf rfl rfl rfl (w_call hf Tryz.call33 rfl (r_impl_fitsPattern ⟨_, Sh C _ _, none_, hM.sh_lt, none_not, C.G, hM.g_lt, g_none, hM.tabs⟩ y57 hv59 word7 hp8 _ hz64) ?_)
        rintro _ w65 ⟨rfl, hM2⟩
        obtain ⟨hM, hx66, hup67⟩ := hM.back hM2
        dsimp only [List.cons_append, List.nil_append] at hM hup67
        clear hM2
        refine ⟨_, rfl, fun a hf => ?_⟩
        refine q_ hf rfl rfl rfl (e_not hf rfl) fun a hf => ?_
        refine q_ hf rfl rfl rfl (e_assign hf rfl) fun a hf => ?_
        refine pl_nil ?_
        refine then_n ?_
        rcases cond_some h with ⟨hc68, h⟩ | ⟨hc68, h⟩
        · refine cond_t hf rfl hc68 ?_
          refine wp_seq ?_
          refine region_pl ?_
          refine q_ hf rfl rfl rfl (e_build hf Tryz.zeroValue25 Tryz.underlying25 (bp_25 _ Tryz.underlying25.symm) rfl (cs := #[vI (0), vI (0), vS (([] : Str))]) (by kernel_rfl)) fun a hf => ?_
          refine pl_0 hf rfl rfl (w_store hf hM (us := [vI (0), vI (0), vS (([] : Str))]) (cs' := [vI (0), vI (0), vS (([] : Str))]) rfl rfl (k := 1) rfl rfl Tryz.sizeOf25 rfl rfl rfl fun w69 hM => ?_)
          dsimp only [List.set] at hM
          refine q_ hf rfl rfl rfl (e_assign hf rfl) fun a hf => ?_
          refine pl_nil ?_
          refine then_n ?_
          refine wp_ret ?_
          refine blk_r ?_
          refine then_r ?_
          obtain rfl := some_inj h
          have hres72 := leaveV2 (P := Tryz.prog) Tryz.results6 (res_agg hf rfl ⟨Tryz.isAgg25, Tryz.sizeOf25⟩ (us := [vI (0), vI (0), vS (([] : Str))]) rfl (hM.boxSub (k := 1) (o := 0) rfl rfl)) (res_tmp hf rfl)
          have hM := hM.outs (own' := []) 0 rfl
          exact bodyPost_ret hres72 hf.defers ⟨rfl, hM.fin, (R64_lit rfl), (R64_lit rfl), (lit_len rfl), (R64_lit rfl)⟩
        · refine cond_f hf rfl hc68 ?_
          refine wp_skip ?_
          refine blk_n ?_
          refine then_n ?_
          refine wp_seq ?_
          refine region_pl ?_
          refine q_ hf rfl rfl rfl (e_loadA hf (us := [vI (g1.Rows), vI (g1.Cols), vS (g1.Cells)]) rfl ⟨Tryz.isAgg25, Tryz.sizeOf25⟩ rfl (hM.boxSub (k := 2) (us := [vI (g1.Rows), vI (g1.Cols), vS (g1.Cells)]) (o := 0) rfl rfl)) fun a hf => ?_
          refine q_ hf rfl rfl rfl (e_loadA hf (us := [vI (y27.1.Row), vI (y27.1.Col), .bool (y27.1.Down), vI (y27.1.Length)]) rfl ⟨Tryz.isAgg60, Tryz.sizeOf60⟩ rfl (hM.boxSub (k := 0) (us := [vI (y27.1.Row), vI (y27.1.Col), .bool (y27.1.Down), vI (y27.1.Length)]) (o := 0) rfl rfl)) fun a hf => ?_
          refine q_ hf rfl rfl rfl (e_move hf rfl) fun a hf => ?_
          obtain ⟨y73, hz74, h⟩ := bind_some h
          refine pl_l hf rfl rfl rfl (w_call hf Tryz.call35 rfl (r_impl_Grid_put ⟨_, Sh C _ _, none_, hM.sh_lt, none_not, C.G, hM.g_lt, g_none, hM.tabs⟩ g1 hp2 hp3 hp4 y27.1 hv29 hv30 hv31 word7 hp8 _ hz74) ?_)
          rintro _ w78 ⟨rfl, hM2, hv75, hv76, hv77⟩
          obtain ⟨hM, hx79, hup80⟩ := hM.back hM2
          dsimp only [List.cons_append, List.nil_append] at hM hup80
          clear hM2
          refine ⟨_, rfl, fun a hf => ?_⟩
          refine pl_0 hf rfl rfl (w_store hf hM (us := [vI (y73.Rows), vI (y73.Cols), vS (y73.Cells)]) (cs' := [vI (y73.Rows), vI (y73.Cols), vS (y73.Cells)]) rfl rfl (k := 1) rfl rfl Tryz.sizeOf25 rfl rfl rfl fun w81 hM => ?_)
          dsimp only [List.set] at hM
          refine q_ hf rfl rfl rfl (e_assign hf rfl) fun a hf => ?_
          refine pl_nil ?_
          refine then_n ?_
          refine wp_ret ?_
          obtain rfl := some_inj h
          have hres84 := leaveV2 (P := Tryz.prog) Tryz.results6 (res_agg hf rfl ⟨Tryz.isAgg25, Tryz.sizeOf25⟩ (us := [vI (y73.Rows), vI (y73.Cols), vS (y73.Cells)]) rfl (hM.boxSub (k := 1) (o := 0) rfl rfl)) (res_tmp hf rfl)
          have hM := hM.outs (own' := []) 0 rfl
          exact bodyPost_ret hres84 hf.defers ⟨rfl, hM.fin, hv75, hv76, hv77, (R64_lit rfl)⟩

set_option maxRecDepth 100000 in
set_option maxHeartbeats 4000000 in
theorem r_spec_IsWord (C : Cx) (s1 : Str) (hp2 : s1.length ≤ maxLen) (r : Bool) (h : m_spec_IsWord s1 = some r) :
    Calls Tryz.prog 36 #[vS (s1)] C.w0 fun e w => e = .returned (.bool (r)) ∧ Mem C w [] [] := by
  have hM := Mem.begin C [] trivial
  refine enter Tryz.func36 rfl Tryz.ntmps36 rfl fun a hf => ?_
  unfold m_spec_IsWord at h
  refine wp_seq ?_
  refine region_pl ?_
  refine q_ hf rfl rfl rfl (e_assign hf rfl) fun a hf => ?_
  refine pl_nil ?_
  refine then_n ?_
  obtain ⟨x3, h4, h⟩ := bind_some h
  refine seq_join (fun a w => (.inl ()) = x3 ∧ Has 18 a [(0, vS (s1))] ∧ Mem C w [] []) ?_ ?_
  · refine wp_seq ?_
    refine region_pl ?_
    refine q_ hf rfl rfl rfl (e_assign hf rfl) fun a hf => ?_
    refine pl_nil ?_
    refine then_n ?_
    refine wp_block ?_
    obtain ⟨x8, h9, h4⟩ := bind_some h4
    refine wp_loopM h9 (fun s a w => ∃ (n5 : Int), n5 = s ∧ Has 18 a [(0, vS (s1)), (3, vI (n5))] ∧ Mem C w [] [] ∧ R64 n5) ?_ ?_
    · exact ⟨0, rfl, hf.keep ⟨rfl, rfl, trivial⟩, hM.pick [] rfl, (R64_lit rfl)⟩
    · rintro s o10 a w7 ⟨n5, rfl, hf, hM, hv6⟩ h11 hd12
      replace h11 : m_spec_IsWord_l1 s1 n5 = some o10 := h11
      unfold m_spec_IsWord_l1 at h11
      refine wp_seq ?_
      refine wp_seq ?_
      refine region_pl ?_
      refine q_ hf rfl rfl rfl (e_move hf rfl) fun a hf => ?_
      refine q_ hf rfl rfl rfl (e_move hf rfl) fun a hf => ?_
      refine q_ hf rfl rfl rfl (e_lenS hf (x := s1) rfl Tryz.underlying9) fun a hf => ?_
      refine q_ hf rfl rfl rfl (e_lt hf (x := n5) (y := (s1.length : Int)) rfl rfl) fun a hf => ?_
      refine pl_nil ?_
      refine then_n ?_
      rcases cond_some h11 with ⟨hc13, h11⟩ | ⟨hc13, h11⟩
      · refine cond_t hf rfl hc13 ?_
        refine wp_skip ?_
        refine then_n ?_
        refine wp_seq ?_
        refine wp_block ?_
        refine wp_seq ?_
        refine region_pl ?_
        refine q_ hf rfl rfl rfl (e_move hf rfl) fun a hf => ?_
        refine q_ hf rfl rfl rfl (e_move hf rfl) fun a hf => ?_
        obtain ⟨c14, hz15, h11⟩ := bind_some h11
        refine q_ hf rfl rfl rfl (e_indexS hf (x := s1) rfl rfl Tryz.underlying9 hz15) fun a hf => ?_
        obtain ⟨y16, hz17, h11⟩ := bind_some h11
        refine pl_l hf rfl rfl rfl (w_call hf Tryz.call64 rfl (r_spec_l01Small ⟨_, Sh C _ _, none_, hM.sh_lt, none_not, C.G, hM.g_lt, g_none, hM.tabs⟩ c14 _ hz17) ?_)
        rintro _ w18 ⟨rfl, hM2⟩
        obtain ⟨hM, hx19, hup20⟩ := hM.back hM2
        dsimp only [List.cons_append, List.nil_append] at hM hup20
        clear hM2
        refine ⟨_, rfl, fun a hf => ?_⟩
        refine q_ hf rfl rfl rfl (e_not hf rfl) fun a hf => ?_
        refine pl_nil ?_
        refine then_n ?_
        rcases cond_some h11 with ⟨hc21, h11⟩ | ⟨hc21, h11⟩
        · refine cond_t hf rfl hc21 ?_
          refine wp_seq ?_
          refine region_pl ?_
          refine q_ hf rfl rfl rfl (e_assign hf rfl) fun a hf => ?_
          refine pl_nil ?_
          refine then_n ?_
          refine wp_ret ?_
          refine blk_r ?_
          refine then_r ?_
          obtain rfl := some_inj h11
          obtain rfl := hd12 _ rfl
          try dsimp only at h4
          refine then_r ?_
          refine blk_r ?_
          obtain rfl := some_inj h4
          try dsimp only at h
          refine then_r ?_
          obtain rfl := some_inj h
          exact leave1 hf rfl rfl ⟨rfl, hM.fin⟩
        · refine cond_f hf rfl hc21 ?_
          refine wp_skip ?_
          refine blk_n ?_
          refine then_n ?_
          refine region_pl ?_
          refine q_ hf rfl rfl rfl (e_move hf rfl) fun a hf => ?_
          obtain ⟨z22, hz23, h11⟩ := bind_some h11
          refine q_ hf rfl rfl rfl (e_add hf rfl rfl hz23) fun a hf => ?_
          refine q_ hf rfl rfl rfl (e_assign hf rfl) fun a hf => ?_
          refine pl_nil ?_
          obtain rfl := some_inj h11
          refine then_n ⟨_, rfl, ?_⟩
          exact ⟨z22, rfl, hf.keep ⟨rfl, rfl, trivial⟩, hM.pick [] rfl, (chk_R hz23)⟩
      · refine cond_f hf rfl hc13 ?_
        refine wp_exit ?_
        refine then_x ?_
        obtain rfl := some_inj h11
        obtain rfl := hd12 _ rfl
        try dsimp only at h4
        refine then_x ?_
        refine exit_hit ?_
        obtain rfl := some_inj h4
        refine then_n ?_
        exact ⟨rfl, hf.keep ⟨rfl, trivial⟩, hM.pick [] rfl⟩
  · rintro a w30 ⟨rfl, hf, hM⟩
    try dsimp only at h
    refine wp_seq ?_
    refine region_pl ?_
    refine q_ hf rfl rfl rfl (e_move hf rfl) fun a hf => ?_
    refine q_ hf rfl rfl rfl (e_lenS hf (x := s1) rfl Tryz.underlying9) fun a hf => ?_
    obtain ⟨y31, hz32, h⟩ := bind_some h
    refine pl_l hf rfl rfl rfl (w_call hf Tryz.call55 rfl (r_spec_l00In ⟨_, Sh C _ _, none_, hM.sh_lt, none_not, C.G, hM.g_lt, g_none, hM.tabs⟩ (s1.length : Int) (R64_len hp2) 1 (R64_lit rfl) 12 (R64_lit rfl) _ hz32) ?_)
    rintro _ w33 ⟨rfl, hM2⟩
    obtain ⟨hM, hx34, hup35⟩ := hM.back hM2
    dsimp only [List.cons_append, List.nil_append] at hM hup35
    clear hM2
    refine ⟨_, rfl, fun a hf => ?_⟩
    refine q_ hf rfl rfl rfl (e_assign hf rfl) fun a hf => ?_
    refine pl_nil ?_
    refine then_n ?_
    refine wp_ret ?_
    obtain rfl := some_inj h
    exact leave1 hf rfl rfl ⟨rfl, hM.fin⟩

set_option maxRecDepth 100000 in
set_option maxHeartbeats 4000000 in
theorem r_spec_l25Fits (C : Cx) (pattern1 : Str) (hp2 : pattern1.length ≤ maxLen) (word3 : Str) (hp4 : word3.length ≤ maxLen) (r : Bool) (h : m_spec_l25Fits pattern1 word3 = some r) :
    Calls Tryz.prog 37 #[vS (pattern1), vS (word3)] C.w0 fun e w => e = .returned (.bool (r)) ∧ Mem C w [] [] := by
  have hM := Mem.begin C [] trivial
  refine enter Tryz.func37 rfl Tryz.ntmps37 rfl fun a hf => ?_
  unfold m_spec_l25Fits at h
  refine wp_seq ?_
  refine region_pl ?_
  refine q_ hf rfl rfl rfl (e_assign hf rfl) fun a hf => ?_
  refine pl_nil ?_
  refine then_n ?_
  refine wp_seq ?_
  refine wp_seq ?_
  refine region_pl ?_
  refine q_ hf rfl rfl rfl (e_move hf rfl) fun a hf => ?_
  refine q_ hf rfl rfl rfl (e_lenS hf (x := pattern1) rfl Tryz.underlying9) fun a hf => ?_
  refine q_ hf rfl rfl rfl (e_move hf rfl) fun a hf => ?_
  refine q_ hf rfl rfl rfl (e_lenS hf (x := word3) rfl Tryz.underlying9) fun a hf => ?_
  refine q_ hf rfl rfl rfl (e_ne hf (x := (pattern1.length : Int)) (y := (word3.length : Int)) rfl rfl) fun a hf => ?_
  refine pl_nil ?_
  refine then_n ?_
  rcases cond_some h with ⟨hc5, h⟩ | ⟨hc5, h⟩
  · refine cond_t hf rfl hc5 ?_
    refine wp_seq ?_
    refine region_pl ?_
    refine q_ hf rfl rfl rfl (e_assign hf rfl) fun a hf => ?_
    refine pl_nil ?_
    refine then_n ?_
    refine wp_ret ?_
    refine then_r ?_
    obtain rfl := some_inj h
    exact leave1 hf rfl rfl ⟨rfl, hM.fin⟩
  · refine cond_f hf rfl hc5 ?_
    refine wp_skip ?_
    refine then_n ?_
    obtain ⟨x6, h7, h⟩ := bind_some h
    refine seq_join (fun a w => (.inl ()) = x6 ∧ Has 30 a [] ∧ Mem C w [] []) ?_ ?_
    · refine wp_seq ?_
      refine region_pl ?_
      refine q_ hf rfl rfl rfl (e_assign hf rfl) fun a hf => ?_
      refine pl_nil ?_
      refine then_n ?_
      refine wp_block ?_
      obtain ⟨x11, h12, h7⟩ := bind_some h7
      refine wp_loopM h12 (fun s a w => ∃ (n8 : Int), n8 = s ∧ Has 30 a [(0, vS (pattern1)), (1, vS (word3)), (5, vI (n8))] ∧ Mem C w [] [] ∧ R64 n8) ?_ ?_
      · exact ⟨0, rfl, hf.keep ⟨rfl, rfl, rfl, trivial⟩, hM.pick [] rfl, (R64_lit rfl)⟩
      · rintro s o13 a w10 ⟨n8, rfl, hf, hM, hv9⟩ h14 hd15
        replace h14 : m_spec_l25Fits_l1 word3 pattern1 n8 = some o13 := h14
        unfold m_spec_l25Fits_l1 at h14
        refine wp_seq ?_
        refine wp_seq ?_
        refine region_pl ?_
        refine q_ hf rfl rfl rfl (e_move hf rfl) fun a hf => ?_
        refine q_ hf rfl rfl rfl (e_move hf rfl) fun a hf => ?_
        refine q_ hf rfl rfl rfl (e_lenS hf (x := word3) rfl Tryz.underlying9) fun a hf => ?_
        refine q_ hf rfl rfl rfl (e_lt hf (x := n8) (y := (word3.length : Int)) rfl rfl) fun a hf => ?_
        refine pl_nil ?_
        refine then_n ?_
        rcases cond_some h14 with ⟨hc16, h14⟩ | ⟨hc16, h14⟩
        · refine cond_t hf rfl hc16 ?_
          refine wp_skip ?_
          refine then_n ?_
          refine wp_seq ?_
          refine wp_block ?_
          obtain ⟨x19, h20, h14⟩ := bind_some h14
          refine seq_join (fun a w => ∃ (t17 : Bool), t17 = x19 ∧ Has 30 a [(0, vS (pattern1)), (1, vS (word3)), (5, vI (n8)), (29, .bool (t17))] ∧ Mem C w [] []) ?_ ?_
          · obtain ⟨w21, hw⟩ : ∃ x, x = w10.drew := ⟨_, rfl⟩
            refine region_pi (.q 0 (.q 1 (.q 2 (.q 3 (.q 4 (.q 5 (.q 6 (.q 7 (.q 8 (.q 9 (.q 10 (.q 11 (.q 12 (.nil)))))))))))))) (Ext w21) rfl (by kernel_rfl) ?_
            have hM := hM.drew
            rw [← hw] at hM ⊢
            clear hw
            refine pi_q hf rfl rfl rfl rfl (Ext.refl _) (e_move hf rfl) fun a hf => ?_
            refine pi_q hf rfl rfl rfl rfl (Ext.refl _) (e_move hf rfl) fun a hf => ?_
            obtain ⟨c22, hz23, h20⟩ := bind_some h20
            refine pi_q hf rfl rfl rfl rfl (Ext.refl _) (e_indexS hf (x := pattern1) rfl rfl Tryz.underlying9 hz23) fun a hf => ?_
            refine pi_q hf rfl rfl rfl rfl (Ext.refl _) (e_neB hf (x := c22) (y := 46) rfl rfl) fun a hf => ?_
            refine pi_q hf rfl rfl rfl rfl (Ext.refl _) (e_move hf rfl) fun a hf => ?_
            rcases cond_some h20 with ⟨hc24, h20⟩ | ⟨hc24, h20⟩
            · refine pi_gq hf rfl (wanted_t hf rfl rfl rfl rfl hc24) rfl rfl (Ext.refl _) (e_move hf rfl) fun a hf => ?_
              refine pi_gq hf rfl (wanted_t hf rfl rfl rfl rfl hc24) rfl rfl (Ext.refl _) (e_move hf rfl) fun a hf => ?_
              obtain ⟨c25, hz26, h20⟩ := bind_some h20
              refine pi_gq hf rfl (wanted_t hf rfl rfl rfl rfl hc24) rfl rfl (Ext.refl _) (e_indexS hf (x := pattern1) rfl rfl Tryz.underlying9 hz26) fun a hf => ?_
              refine pi_gq hf rfl (wanted_t hf rfl rfl rfl rfl hc24) rfl rfl (Ext.refl _) (e_move hf rfl) fun a hf => ?_
              refine pi_gq hf rfl (wanted_t hf rfl rfl rfl rfl hc24) rfl rfl (Ext.refl _) (e_move hf rfl) fun a hf => ?_
              obtain ⟨c27, hz28, h20⟩ := bind_some h20
              refine pi_gq hf rfl (wanted_t hf rfl rfl rfl rfl hc24) rfl rfl (Ext.refl _) (e_indexS hf (x := word3) rfl rfl Tryz.underlying9 hz28) fun a hf => ?_
              refine pi_gq hf rfl (wanted_t hf rfl rfl rfl rfl hc24) rfl rfl (Ext.refl _) (e_neB hf (x := c25) (y := c27) rfl rfl) fun a hf => ?_
              refine pi_q hf rfl rfl rfl rfl (Ext.refl _) (e_pick_t hf rfl hc24 rfl) fun a hf => ?_
              refine pi_nil ?_
              obtain rfl := some_inj h20
              refine then_n ?_
              exact ⟨(c25 != c27), rfl, hf.keep ⟨rfl, rfl, rfl, rfl, trivial⟩, hM.pick [] rfl⟩
            · refine pi_gs hf rfl (wanted_f hf rfl rfl rfl rfl hc24) rfl rfl (Ext.refl _) fun a hf => ?_
              refine pi_gs hf rfl (wanted_f hf rfl rfl rfl rfl hc24) rfl rfl (Ext.refl _) fun a hf => ?_
              refine pi_gs hf rfl (wanted_f hf rfl rfl rfl rfl hc24) rfl rfl (Ext.refl _) fun a hf => ?_
              refine pi_gs hf rfl (wanted_f hf rfl rfl rfl rfl hc24) rfl rfl (Ext.refl _) fun a hf => ?_
              refine pi_gs hf rfl (wanted_f hf rfl rfl rfl rfl hc24) rfl rfl (Ext.refl _) fun a hf => ?_
              refine pi_gs hf rfl (wanted_f hf rfl rfl rfl rfl hc24) rfl rfl (Ext.refl _) fun a hf => ?_
              refine pi_gs hf rfl (wanted_f hf rfl rfl rfl rfl hc24) rfl rfl (Ext.refl _) fun a hf => ?_
              refine pi_q hf rfl rfl rfl rfl (Ext.refl _) (e_pick_f hf rfl hc24 rfl) fun a hf => ?_
              refine pi_nil ?_
              obtain rfl := some_inj h20
              refine then_n ?_
              exact ⟨false, rfl, hf.keep ⟨rfl, rfl, rfl, rfl, trivial⟩, hM.pick [] rfl⟩
          · rintro a w31 ⟨t17, rfl, hf, hM⟩
            try dsimp only at h14
            rcases cond_some h14 with ⟨hc32, h14⟩ | ⟨hc32, h14⟩
            · refine cond_t hf rfl hc32 ?_
              refine wp_seq ?_
              refine region_pl ?_
              refine q_ hf rfl rfl rfl (e_assign hf rfl) fun a hf => ?_
              refine pl_nil ?_
              refine then_n ?_
              refine wp_ret ?_
              refine blk_r ?_
              refine then_r ?_
              obtain rfl := some_inj h14
              obtain rfl := hd15 _ rfl
              try dsimp only at h7
              refine then_r ?_
              refine blk_r ?_
              obtain rfl := some_inj h7
              try dsimp only at h
              refine then_r ?_
              obtain rfl := some_inj h
              exact leave1 hf rfl rfl ⟨rfl, hM.fin⟩
            · refine cond_f hf rfl hc32 ?_
              refine wp_skip ?_
              refine blk_n ?_
              refine then_n ?_
              refine region_pl ?_
              refine q_ hf rfl rfl rfl (e_move hf rfl) fun a hf => ?_
              obtain ⟨z33, hz34, h14⟩ := bind_some h14
              refine q_ hf rfl rfl rfl (e_add hf rfl rfl hz34) fun a hf => ?_
              refine q_ hf rfl rfl rfl (e_assign hf rfl) fun a hf => ?_
              refine pl_nil ?_
              obtain rfl := some_inj h14
              refine then_n ⟨_, rfl, ?_⟩
              exact ⟨z33, rfl, hf.keep ⟨rfl, rfl, rfl, trivial⟩, hM.pick [] rfl, (chk_R hz34)⟩
        · refine cond_f hf rfl hc16 ?_
          refine wp_exit ?_
          refine then_x ?_
          obtain rfl := some_inj h14
          obtain rfl := hd15 _ rfl
          try dsimp only at h7
          refine then_x ?_
          refine exit_hit ?_
          obtain rfl := some_inj h7
          refine then_n ?_
          exact ⟨rfl, hf.keep trivial, hM.pick [] rfl⟩
    · rintro a w41 ⟨rfl, hf, hM⟩
      try dsimp only at h
      refine wp_seq ?_
      refine region_pl ?_
      refine q_ hf rfl rfl rfl (e_assign hf rfl) fun a hf => ?_
      refine pl_nil ?_
      refine then_n ?_
      refine wp_ret ?_
      obtain rfl := some_inj h
      exact leave1 hf rfl rfl ⟨rfl, hM.fin⟩

set_option maxRecDepth 100000 in
set_option maxHeartbeats 4000000 in
theorem r_spec_l25Put (C : Cx) (g1 : Grid) (b2 : Nat) (o3 : Nat) (hp4 : (ptrRep GridRep).R C.w0 C.S0 g1 [vP b2 o3]) (s5 : Slot) (b6 : Nat) (o7 : Nat) (hp8 : (ptrRep SlotRep).R C.w0 C.S0 s5 [vP b6 o7]) (word9 : Str) (hp10 : word9.length ≤ maxLen) (r : Grid) (h : m_spec_l25Put g1 s5 word9 = some r) :
    Calls Tryz.prog 38 #[vP b2 (o3), vP b6 (o7), vS (word9)] C.w0 fun e w => e = .returned (.agg #[vI (r.Rows), vI (r.Cols), vS (r.Cells)]) ∧ Mem C w [] [] ∧ R64 r.Rows ∧ R64 r.Cols ∧ r.Cells.length ≤ maxLen := by
  have hM := Mem.begin C [.dat (ptrRep SlotRep) s5 [vP b6 o7], .dat (ptrRep GridRep) g1 [vP b2 o3]] ⟨hp8, hp4, trivial⟩
  refine enter Tryz.func38 rfl Tryz.ntmps38 rfl fun a hf => ?_
  unfold m_spec_l25Put at h
  refine wp_seq ?_
  refine region_pl ?_
  refine pl_l hf rfl rfl rfl (w_alloc hM (cs := [vI (0), vI (0), vS (([] : Str))]) Tryz.zeroValue25 rfl fun b11 w12 hx13 hM a hf => ?_)
  refine pl_nil ?_
  refine then_n ?_
  refine wp_seq ?_
  refine region_pl ?_
  refine q_ hf rfl rfl rfl (e_move hf rfl) fun a hf => ?_
  refine q_ hf rfl rfl rfl (e_nil hf rfl) fun a hf => ?_
  obtain ⟨_, hr15, hM⟩ := hM.deref (hM.dat (k := 1) rfl)
  obtain ⟨rfl, hv16, hv17, hv18⟩ := GridRep_open hr15
  refine q_ hf rfl rfl rfl (e_field hf rfl Tryz.underlying25 rfl Tryz.sizeOf9 (o' := o3 + 2) rfl) fun a hf => ?_
  refine q_ hf rfl rfl rfl (e_load1 hf rfl Tryz.isAgg9 (hM.litCell (k := 0) (j := 2) rfl rfl rfl)) fun a hf => ?_
  refine pl_l hf rfl rfl rfl (w_bytes hf hM (x := g1.Cells) rfl Tryz.underlying9 Tryz.underlying22 Tryz.underlying5 hv18 fun A19 c20 w21 hx22 hM a hf => ?_)
  refine q_ hf rfl rfl rfl (e_assign hf rfl) fun a hf => ?_
  refine pl_nil ?_
  refine then_n ?_
  obtain ⟨x24, h25, h⟩ := bind_some h
  refine seq_join (fun a w => ∃ (xs23 : Str), xs23 = x24 ∧ Has 42 a [(0, vP b2 (o3)), (6, vP b11 (0)), (7, vL A19 (xs23) c20)] ∧ Mem C w [.row byteRep A19 c20 5 xs23 false, .box b11 [vI (0), vI (0), vS (([] : Str))] 25] [.lit b2 (o3) [vI (g1.Rows), vI (g1.Cols), vS (g1.Cells)], .dat (ptrRep SlotRep) s5 [vP b6 o7], .dat (ptrRep GridRep) g1 [vP b2 o3]]) ?_ ?_
  · refine wp_seq ?_
    refine region_pl ?_
    refine q_ hf rfl rfl rfl (e_assign hf rfl) fun a hf => ?_
    refine pl_nil ?_
    refine then_n ?_
    refine wp_block ?_
    obtain ⟨x31, h32, h25⟩ := bind_some h25
    refine wp_loopM h32 (fun s a w => ∃ (xs26 : Str) (n27 : Int), (xs26, n27) = s ∧ Has 42 a [(0, vP b2 (o3)), (1, vP b6 (o7)), (2, vS (word9)), (6, vP b11 (0)), (7, vL A19 (xs26) c20), (8, vI (n27))] ∧ Mem C w [.row byteRep A19 c20 5 xs26 false, .box b11 [vI (0), vI (0), vS (([] : Str))] 25] [.lit b2 (o3) [vI (g1.Rows), vI (g1.Cols), vS (g1.Cells)], .dat (ptrRep SlotRep) s5 [vP b6 o7], .dat (ptrRep GridRep) g1 [vP b2 o3]] ∧ R64 n27) ?_ ?_
    · exact ⟨g1.Cells, 0, rfl, hf.keep ⟨rfl, rfl, rfl, rfl, rfl, rfl, trivial⟩, hM.pick [0, 1, 2] rfl, (R64_lit rfl)⟩
    · rintro s o33 a w29 ⟨xs26, n27, rfl, hf, hM, hv28⟩ h34 hd35
      replace h34 : m_spec_l25Put_l1 s5 word9 g1 xs26 n27 = some o33 := h34
      unfold m_spec_l25Put_l1 at h34
      refine wp_seq ?_
      refine wp_seq ?_
      refine region_pl ?_
      refine q_ hf rfl rfl rfl (e_move hf rfl) fun a hf => ?_
      refine q_ hf rfl rfl rfl (e_move hf rfl) fun a hf => ?_
      refine q_ hf rfl rfl rfl (e_nil hf rfl) fun a hf => ?_
      obtain ⟨_, hr36, hM⟩ := hM.deref (hM.dat (k := 1) rfl)
      obtain ⟨rfl, hv37, hv38, hv39⟩ := SlotRep_open hr36
      refine q_ hf rfl rfl rfl (e_field hf rfl Tryz.underlying60 rfl Tryz.sizeOf2 (o' := o7 + 3) rfl) fun a hf => ?_
      refine q_ hf rfl rfl rfl (e_load1 hf rfl Tryz.isAgg2 (hM.litCell (k := 0) (j := 3) rfl rfl rfl)) fun a hf => ?_
      refine q_ hf rfl rfl rfl (e_lt hf (x := n27) (y := s5.Length) rfl rfl) fun a hf => ?_
      refine pl_nil ?_
      refine then_n ?_
      rcases cond_some h34 with ⟨hc40, h34⟩ | ⟨hc40, h34⟩
      · refine cond_t hf rfl hc40 ?_
        refine wp_skip ?_
        refine then_n ?_
        refine wp_seq ?_
        refine wp_block ?_
        obtain ⟨w41, hw⟩ : ∃ x, x = w29.drew := ⟨_, rfl⟩
        refine region_pi (.q 0 (.q 1 (.q 2 (.q 3 (.q 5 (.q 6 (.q 7 (.l 4 (.q 8 (.l 9 (.nil))))))))))) (Ext w41) rfl (by kernel_rfl) ?_
        have hM := hM.drew
        rw [← hw] at hM ⊢
        clear hw
        refine pi_q hf rfl rfl rfl rfl (Ext.refl _) (e_move hf rfl) fun a hf => ?_
        refine pi_q hf rfl rfl rfl rfl (Ext.refl _) (e_move hf rfl) fun a hf => ?_
        refine pi_q hf rfl rfl rfl rfl (Ext.refl _) (e_move hf rfl) fun a hf => ?_
        refine pi_q hf rfl rfl rfl rfl (Ext.refl _) (e_move hf rfl) fun a hf => ?_
        refine pi_q hf rfl rfl rfl rfl (Ext.refl _) (e_move hf rfl) fun a hf => ?_
        refine pi_q hf rfl rfl rfl rfl (Ext.refl _) (e_move hf rfl) fun a hf => ?_
        obtain ⟨c42, hz43, h34⟩ := bind_some h34
        refine pi_q hf rfl rfl rfl rfl (Ext.refl _) (e_indexS hf (x := word9) rfl rfl Tryz.underlying9 hz43) fun a hf => ?_
        refine pi_one ?_
        obtain ⟨y44, hz45, h34⟩ := bind_some h34
        refine pi_l hf rfl rfl rfl rfl (w_call hf Tryz.call58 rfl (r_spec_l25Square ⟨_, Sh C _ _, none_, hM.sh_lt, none_not, C.G, hM.g_lt, g_none, hM.tabs⟩ g1 _ _ (hM.dat (k := 3) rfl) s5 _ _ (hM.dat (k := 2) rfl) n27 hv28 _ hz45) ?_)
        rintro _ w47 ⟨rfl, hM2, hv46⟩
        obtain ⟨hM, hx48, hup49⟩ := hM.back hM2
        dsimp only [List.cons_append, List.nil_append] at hM hup49
        clear hM2
        refine ⟨_, rfl, Ext w47, fun _ h => Ext.trans hx48 h, Ext.refl _, fun a hf => ?_⟩
        obtain ⟨e50, hz51, h34⟩ := bind_some h34
        obtain ⟨b56, _, hA57, h52, h53, hr54, hcell55⟩ := hM.rowElemN (k := 0) rfl (n := 1) rfl hz51
        obtain rfl : _ = _ := hr54
        refine pi_q hf rfl rfl rfl rfl (Ext.refl _) (e_indexAddr (A := A19) (b := b56) (o := 0) (xs := xs26) (i := y44) hf hA57 rfl rfl Tryz.underlying22 Tryz.sizeOf5 h52 h53) fun a hf => ?_
        refine pi_one ?_
        obtain ⟨xs59, hz60, h34⟩ := bind_some h34
        refine pi_z0 hf rfl rfl rfl (by kernel_rfl) (w_storeElem hf hM (x := c42) (row := [vB (c42)]) (i := y44) rfl rfl rfl hA57 (k := 0) rfl rfl Tryz.sizeOf5 rfl hz60 fun w58 hM => ?_)
        dsimp only [List.set] at hM
        have hf := hf.alter (d := 7) (v := vL A19 (xs59) c20) rfl (vL_len (setL_len hz60))
        have hf := hf.alter (d := 22) (v := vL A19 (xs59) c20) rfl (vL_len (setL_len hz60))
        refine pi_nil ?_
        refine blk_n ?_
        refine then_n ?_
        refine region_pl ?_
        refine q_ hf rfl rfl rfl (e_move hf rfl) fun a hf => ?_
        obtain ⟨z61, hz62, h34⟩ := bind_some h34
        refine q_ hf rfl rfl rfl (e_add hf rfl rfl hz62) fun a hf => ?_
        refine q_ hf rfl rfl rfl (e_assign hf rfl) fun a hf => ?_
        refine pl_nil ?_
        obtain rfl := some_inj h34
        refine then_n ⟨_, rfl, ?_⟩
        exact ⟨xs59, z61, rfl, hf.keep ⟨rfl, rfl, rfl, rfl, rfl, rfl, trivial⟩, hM.pick [1, 2, 3] rfl, (chk_R hz62)⟩
      · refine cond_f hf rfl hc40 ?_
        refine wp_exit ?_
        refine then_x ?_
        obtain rfl := some_inj h34
        obtain rfl := hd35 _ rfl
        try dsimp only at h25
        refine then_x ?_
        refine exit_hit ?_
        obtain rfl := some_inj h25
        refine then_n ?_
        exact ⟨xs26, rfl, hf.keep ⟨rfl, rfl, rfl, trivial⟩, hM.pick [1, 2, 3] rfl⟩
  · rintro a w68 ⟨xs23, rfl, hf, hM⟩
    try dsimp only at h
    refine wp_seq ?_
    obtain ⟨w69, hw⟩ : ∃ x, x = w68.drew := ⟨_, rfl⟩
    refine region_pi (.q 0 (.q 1 (.q 2 (.q 3 (.q 4 (.q 5 (.q 6 (.q 7 (.q 8 (.q 9 (.q 10 (.l 11 (.nil))))))))))))) (Ext w69) rfl (by kernel_rfl) ?_
    have hM := hM.drew
    rw [← hw] at hM ⊢
    clear hw
    refine pi_q hf rfl rfl rfl rfl (Ext.refl _) (e_move hf rfl) fun a hf => ?_
    refine pi_q hf rfl rfl rfl rfl (Ext.refl _) (e_nil hf rfl) fun a hf => ?_
    refine pi_q hf rfl rfl rfl rfl (Ext.refl _) (e_field hf rfl Tryz.underlying25 rfl Tryz.sizeOf2 (o' := o3 + 0) rfl) fun a hf => ?_
    refine pi_q hf rfl rfl rfl rfl (Ext.refl _) (e_load1 hf rfl Tryz.isAgg2 (hM.litCell (k := 0) (j := 0) rfl rfl rfl)) fun a hf => ?_
    refine pi_q hf rfl rfl rfl rfl (Ext.refl _) (e_move hf rfl) fun a hf => ?_
    refine pi_q hf rfl rfl rfl rfl (Ext.refl _) (e_nil hf rfl) fun a hf => ?_
    refine pi_q hf rfl rfl rfl rfl (Ext.refl _) (e_field hf rfl Tryz.underlying25 rfl Tryz.sizeOf2 (o' := o3 + 1) rfl) fun a hf => ?_
    refine pi_q hf rfl rfl rfl rfl (Ext.refl _) (e_load1 hf rfl Tryz.isAgg2 (hM.litCell (k := 0) (j := 1) rfl rfl rfl)) fun a hf => ?_
    refine pi_q hf rfl rfl rfl rfl (Ext.refl _) (e_move hf rfl) fun a hf => ?_
    have hl70 := row_len (hM.ownAt (k := 0) rfl)
    refine pi_q hf rfl rfl rfl rfl (Ext.refl _) (e_bytesStr hf (xs := xs23) rfl Tryz.underlying22 Tryz.underlying5 Tryz.underlying9 (hM.lendRow (k := 0) rfl)) fun a hf => ?_
    refine pi_q hf rfl rfl rfl rfl (Ext.refl _) (e_build hf Tryz.zeroValue25 Tryz.underlying25 (bp_25 _ Tryz.underlying25.symm) rfl (cs := #[vI (g1.Rows), vI (g1.Cols), vS (xs23)]) (by kernel_rfl)) fun a hf => ?_
    refine pi_one ?_
    refine pi_z0 hf rfl rfl rfl (by kernel_rfl) (w_store hf hM (us := [vI (g1.Rows), vI (g1.Cols), vS (xs23)]) (cs' := [vI (g1.Rows), vI (g1.Cols), vS (xs23)]) rfl rfl (k := 1) rfl rfl Tryz.sizeOf25 rfl rfl rfl fun w71 hM => ?_)
    dsimp only [List.set] at hM
    refine pi_nil ?_
    refine then_n ?_
    refine wp_ret ?_
    obtain rfl := some_inj h
    have hres74 := leaveV1 (P := Tryz.prog) Tryz.results38 (res_agg hf rfl ⟨Tryz.isAgg25, Tryz.sizeOf25⟩ (us := [vI (g1.Rows), vI (g1.Cols), vS (xs23)]) rfl (hM.boxSub (k := 1) (o := 0) rfl rfl))
    have hM := hM.outs (own' := []) 0 rfl
    exact bodyPost_ret hres74 hf.defers ⟨rfl, hM.fin, hv16, hv17, hl70⟩

set_option maxRecDepth 100000 in
set_option maxHeartbeats 4000000 in
theorem r_spec_PutWord (C : Cx) (g1 : Grid) (hp2 : R64 g1.Rows) (hp3 : R64 g1.Cols) (hp4 : g1.Cells.length ≤ maxLen) (slot5 : Int) (hp6 : R64 slot5) (word7 : Str) (hp8 : word7.length ≤ maxLen) (r : (Grid × Int)) (h : m_spec_PutWord g1 slot5 word7 = some r) :
    Calls Tryz.prog 7 #[.agg #[vI (g1.Rows), vI (g1.Cols), vS (g1.Cells)], vI (slot5), vS (word7)] C.w0 fun e w => e = .returned (.tuple #[.agg #[vI (r.1.Rows), vI (r.1.Cols), vS (r.1.Cells)], vI (r.2)]) ∧ Mem C w [] [] ∧ R64 r.1.Rows ∧ R64 r.1.Cols ∧ r.1.Cells.length ≤ maxLen ∧ R64 r.2 := by
  have hM := Mem.begin C [] trivial
  refine enter Tryz.func7 rfl Tryz.ntmps7 rfl fun a hf => ?_
  unfold m_spec_PutWord at h
  refine wp_seq ?_
  refine region_pl ?_
  refine pl_l hf rfl rfl rfl (w_box hf hM (cs := [vI (g1.Rows), vI (g1.Cols), vS (g1.Cells)]) rfl rfl fun b9 w10 hx11 hM a hf => ?_)
  refine pl_l hf rfl rfl rfl (w_alloc hM (cs := [vI (0), vI (0), vS (([] : Str))]) Tryz.zeroValue25 rfl fun b13 w14 hx15 hM a hf => ?_)
  refine q_ hf rfl rfl rfl (e_assign hf rfl) fun a hf => ?_
  refine pl_nil ?_
  refine then_n ?_
  refine wp_seq ?_
  refine region_pl ?_
  refine q_ hf rfl rfl rfl (e_move hf rfl) fun a hf => ?_
  obtain ⟨y17, hz18, h⟩ := bind_some h
  refine pl_l hf rfl rfl rfl (w_call hf Tryz.call27 rfl (r_spec_l25Code ⟨_, All C _ _, none_, hM.all_lt, none_not, C.G, hM.g_lt, g_none, hM.tabs⟩ g1 _ _ (hM.lendBox (k := 1) rfl (GridRep_mk (x := g1) hp2 hp3 hp4)) slot5 hp6 _ hz18) ?_)
  rintro _ w20 ⟨rfl, hM2, hv19⟩
  obtain ⟨hM, hx21⟩ := hM.backA hM2
  clear hM2
  refine ⟨_, rfl, fun a hf => ?_⟩
  refine q_ hf rfl rfl rfl (e_assign hf rfl) fun a hf => ?_
  refine pl_nil ?_
  refine then_n ?_
  refine wp_seq ?_
  refine wp_seq ?_
  refine region_pl ?_
  refine q_ hf rfl rfl rfl (e_move hf rfl) fun a hf => ?_
  refine q_ hf rfl rfl rfl (e_ne hf (x := y17) (y := 0) rfl rfl) fun a hf => ?_
  refine pl_nil ?_
  refine then_n ?_
  rcases cond_some h with ⟨hc23, h⟩ | ⟨hc23, h⟩
  · refine cond_t hf rfl hc23 ?_
    refine wp_seq ?_
    refine region_pl ?_
    refine q_ hf rfl rfl rfl (e_build hf Tryz.zeroValue25 Tryz.underlying25 (bp_25 _ Tryz.underlying25.symm) rfl (cs := #[vI (0), vI (0), vS (([] : Str))]) (by kernel_rfl)) fun a hf => ?_
    refine q_ hf rfl rfl rfl (e_move hf rfl) fun a hf => ?_
    refine pl_0 hf rfl rfl (w_store hf hM (us := [vI (0), vI (0), vS (([] : Str))]) (cs' := [vI (0), vI (0), vS (([] : Str))]) rfl rfl (k := 0) rfl rfl Tryz.sizeOf25 rfl rfl rfl fun w24 hM => ?_)
    dsimp only [List.set] at hM
    refine q_ hf rfl rfl rfl (e_assign hf rfl) fun a hf => ?_
    refine pl_nil ?_
    refine then_n ?_
    refine wp_ret ?_
    refine then_r ?_
    obtain rfl := some_inj h
    have hres27 := leaveV2 (P := Tryz.prog) Tryz.results7 (res_agg hf rfl ⟨Tryz.isAgg25, Tryz.sizeOf25⟩ (us := [vI (0), vI (0), vS (([] : Str))]) rfl (hM.boxSub (k := 0) (o := 0) rfl rfl)) (res_tmp hf rfl)
    have hM := hM.outs (own' := []) 0 rfl
    exact bodyPost_ret hres27 hf.defers ⟨rfl, hM.fin, (R64_lit rfl), (R64_lit rfl), (lit_len rfl), hv19⟩
  · refine cond_f hf rfl hc23 ?_
    refine wp_skip ?_
    refine then_n ?_
    refine wp_seq ?_
    refine wp_seq ?_
    refine region_pl ?_
    refine q_ hf rfl rfl rfl (e_move hf rfl) fun a hf => ?_
    obtain ⟨y28, hz29, h⟩ := bind_some h
    refine pl_l hf rfl rfl rfl (w_call hf Tryz.call36 rfl (r_spec_IsWord ⟨_, Sh C _ _, none_, hM.sh_lt, none_not, C.G, hM.g_lt, g_none, hM.tabs⟩ word7 hp8 _ hz29) ?_)
    rintro _ w30 ⟨rfl, hM2⟩
    obtain ⟨hM, hx31, hup32⟩ := hM.back hM2
    dsimp only [List.cons_append, List.nil_append] at hM hup32
    clear hM2
    refine ⟨_, rfl, fun a hf => ?_⟩
    refine q_ hf rfl rfl rfl (e_not hf rfl) fun a hf => ?_
    refine pl_nil ?_
    refine then_n ?_
    rcases cond_some h with ⟨hc33, h⟩ | ⟨hc33, h⟩
    · refine cond_t hf rfl hc33 ?_
      refine wp_seq ?_
      refine region_pl ?_
      refine q_ hf rfl rfl rfl (e_build hf Tryz.zeroValue25 Tryz.underlying25 (bp_25 _ Tryz.underlying25.symm) rfl (cs := #[vI (0), vI (0), vS (([] : Str))]) (by kernel_rfl)) fun a hf => ?_
      refine pl_0 hf rfl rfl (w_store hf hM (us := [vI (0), vI (0), vS (([] : Str))]) (cs' := [vI (0), vI (0), vS (([] : Str))]) rfl rfl (k := 0) rfl rfl Tryz.sizeOf25 rfl rfl rfl fun w34 hM => ?_)
      dsimp only [List.set] at hM
      refine q_ hf rfl rfl rfl (e_assign hf rfl) fun a hf => ?_
      refine pl_nil ?_
      refine then_n ?_
      refine wp_ret ?_
      refine then_r ?_
      obtain rfl := some_inj h
      have hres37 := leaveV2 (P := Tryz.prog) Tryz.results7 (res_agg hf rfl ⟨Tryz.isAgg25, Tryz.sizeOf25⟩ (us := [vI (0), vI (0), vS (([] : Str))]) rfl (hM.boxSub (k := 0) (o := 0) rfl rfl)) (res_tmp hf rfl)
      have hM := hM.outs (own' := []) 0 rfl
      exact bodyPost_ret hres37 hf.defers ⟨rfl, hM.fin, (R64_lit rfl), (R64_lit rfl), (lit_len rfl), (R64_lit rfl)⟩
    · refine cond_f hf rfl hc33 ?_
      refine wp_skip ?_
      refine then_n ?_
      refine wp_seq ?_
      refine region_pl ?_
      obtain ⟨y38, hz39, h⟩ := bind_some h
      refine pl_l hf rfl rfl rfl (w_call hf Tryz.call28 rfl (r_spec_l25Slots ⟨_, All C _ _, none_, hM.all_lt, none_not, C.G, hM.g_lt, g_none, hM.tabs⟩ g1 _ _ (hM.lendBox (k := 1) rfl (GridRep_mk (x := g1) hp2 hp3 hp4)) _ hz39) ?_)
      rintro _ w42 ⟨A40, c41, rfl, hM2⟩
      obtain ⟨hM, hx43⟩ := hM.backAF SlotRep_flat hM2
      clear hM2
      refine ⟨_, rfl, fun a hf => ?_⟩
      refine q_ hf rfl rfl rfl (e_assign hf rfl) fun a hf => ?_
      refine pl_nil ?_
      refine then_n ?_
      refine wp_seq ?_
      refine wp_seq ?_
      refine region_pl ?_
      refine q_ hf rfl rfl rfl (e_move hf rfl) fun a hf => ?_
      refine q_ hf rfl rfl rfl (e_move hf rfl) fun a hf => ?_
      obtain ⟨e45, hz46, h⟩ := bind_some h
      obtain ⟨b51, _, hA52, h47, h48, hr49, hcell50⟩ := hM.rowElemN (k := 0) rfl (n := 4) rfl hz46
      obtain ⟨rfl, hv53, hv54, hv55⟩ := SlotRep_open hr49
      refine q_ hf rfl rfl rfl (e_indexAddr (A := A40) (b := b51) (o := 0) (xs := y38) (i := slot5) hf hA52 rfl rfl Tryz.underlying30 Tryz.sizeOf60 h47 h48) fun a hf => ?_
      obtain ⟨y56, hz57, h⟩ := bind_some h
      refine pl_l hf rfl rfl rfl (w_call hf Tryz.call29 rfl (r_spec_l25Pattern ⟨_, All C _ _, none_, hM.all_lt, none_not, C.G, hM.g_lt, g_none, hM.tabs⟩ g1 _ _ (hM.lendBox (k := 2) rfl (GridRep_mk (x := g1) hp2 hp3 hp4)) e45 _ _ (hM.lendElem hA52 (k := 0) rfl (n := 4) rfl hz46) _ hz57) ?_)
      rintro _ w59 ⟨rfl, hM2, hv58⟩
      obtain ⟨hM, hx60⟩ := hM.backA hM2
      clear hM2
      refine ⟨_, rfl, fun a hf => ?_⟩
      refine q_ hf rfl rfl rfl (e_move hf rfl) fun a hf => ?_
      obtain ⟨y62, hz63, h⟩ := bind_some h
      refine pl_l hf rfl rfl rfl (w_call hf Tryz.call37 rfl (r_spec_l25Fits ⟨_, Sh C _ _, none_, hM.sh_lt, none_not, C.G, hM.g_lt, g_none, hM.tabs⟩ y56 hv58 word7 hp8 _ hz63) ?_)
      rintro _ w64 ⟨rfl, hM2⟩
      obtain ⟨hM, hx65, hup66⟩ := hM.back hM2
      dsimp only [List.cons_append, List.nil_append] at hM hup66
      clear hM2
      refine ⟨_, rfl, fun a hf => ?_⟩
      refine q_ hf rfl rfl rfl (e_not hf rfl) fun a hf => ?_
      refine pl_nil ?_
      refine then_n ?_
      rcases cond_some h with ⟨hc67, h⟩ | ⟨hc67, h⟩
      · refine cond_t hf rfl hc67 ?_
        refine wp_seq ?_
        refine region_pl ?_
        refine q_ hf rfl rfl rfl (e_build hf Tryz.zeroValue25 Tryz.underlying25 (bp_25 _ Tryz.underlying25.symm) rfl (cs := #[vI (0), vI (0), vS (([] : Str))]) (by kernel_rfl)) fun a hf => ?_
        refine pl_0 hf rfl rfl (w_store hf hM (us := [vI (0), vI (0), vS (([] : Str))]) (cs' := [vI (0), vI (0), vS (([] : Str))]) rfl rfl (k := 1) rfl rfl Tryz.sizeOf25 rfl rfl rfl fun w68 hM => ?_)
        dsimp only [List.set] at hM
        refine q_ hf rfl rfl rfl (e_assign hf rfl) fun a hf => ?_
        refine pl_nil ?_
        refine then_n ?_
        refine wp_ret ?_
        refine then_r ?_
        obtain rfl := some_inj h
        have hres71 := leaveV2 (P := Tryz.prog) Tryz.results7 (res_agg hf rfl ⟨Tryz.isAgg25, Tryz.sizeOf25⟩ (us := [vI (0), vI (0), vS (([] : Str))]) rfl (hM.boxSub (k := 1) (o := 0) rfl rfl)) (res_tmp hf rfl)
        have hM := hM.outs (own' := []) 0 rfl
        exact bodyPost_ret hres71 hf.defers ⟨rfl, hM.fin, (R64_lit rfl), (R64_lit rfl), (lit_len rfl), (R64_lit rfl)⟩
      · refine cond_f hf rfl hc67 ?_
        refine wp_skip ?_
        refine then_n ?_
        refine wp_seq ?_
        refine region_pl ?_
        refine q_ hf rfl rfl rfl (e_move hf rfl) fun a hf => ?_
        refine q_ hf rfl rfl rfl (e_move hf rfl) fun a hf => ?_
        obtain ⟨e72, hz73, h⟩ := bind_some h
        obtain ⟨b78, _, hA79, h74, h75, hr76, hcell77⟩ := hM.rowElemN (k := 0) rfl (n := 4) rfl hz73
        obtain ⟨rfl, hv80, hv81, hv82⟩ := SlotRep_open hr76
        refine q_ hf rfl rfl rfl (e_indexAddr (A := A40) (b := b78) (o := 0) (xs := y38) (i := slot5) hf hA79 rfl rfl Tryz.underlying30 Tryz.sizeOf60 h74 h75) fun a hf => ?_
        refine q_ hf rfl rfl rfl (e_move hf rfl) fun a hf => ?_
        obtain ⟨y83, hz84, h⟩ := bind_some h
        refine pl_l hf rfl rfl rfl (w_call hf Tryz.call38 rfl (r_spec_l25Put ⟨_, All C _ _, none_, hM.all_lt, none_not, C.G, hM.g_lt, g_none, hM.tabs⟩ g1 _ _ (hM.lendBox (k := 2) rfl (GridRep_mk (x := g1) hp2 hp3 hp4)) e72 _ _ (hM.lendElem hA79 (k := 0) rfl (n := 4) rfl hz73) word7 hp8 _ hz84) ?_)
        rintro _ w88 ⟨rfl, hM2, hv85, hv86, hv87⟩
        obtain ⟨hM, hx89⟩ := hM.backA hM2
        clear hM2
        refine ⟨_, rfl, fun a hf => ?_⟩
        refine pl_0 hf rfl rfl (w_store hf hM (us := [vI (y83.Rows), vI (y83.Cols), vS (y83.Cells)]) (cs' := [vI (y83.Rows), vI (y83.Cols), vS (y83.Cells)]) rfl rfl (k := 1) rfl rfl Tryz.sizeOf25 rfl rfl rfl fun w91 hM => ?_)
        dsimp only [List.set] at hM
        refine q_ hf rfl rfl rfl (e_assign hf rfl) fun a hf => ?_
        refine pl_nil ?_
        refine then_n ?_
        refine wp_ret ?_
        obtain rfl := some_inj h
        have hres94 := leaveV2 (P := Tryz.prog) Tryz.results7 (res_agg hf rfl ⟨Tryz.isAgg25, Tryz.sizeOf25⟩ (us := [vI (y83.Rows), vI (y83.Cols), vS (y83.Cells)]) rfl (hM.boxSub (k := 1) (o := 0) rfl rfl)) (res_tmp hf rfl)
        have hM := hM.outs (own' := []) 0 rfl
        exact bodyPost_ret hres94 hf.defers ⟨rfl, hM.fin, hv85, hv86, hv87, (R64_lit rfl)⟩

set_option maxRecDepth 100000 in
set_option maxHeartbeats 4000000 in
theorem r_impl_SlotsOf (C : Cx) (g1 : Grid) (hp2 : R64 g1.Rows) (hp3 : R64 g1.Cols) (hp4 : g1.Cells.length ≤ maxLen) (r : ((List Slot) × Int)) (h : m_impl_SlotsOf g1 = some r) :
    Calls Tryz.prog 8 #[.agg #[vI (g1.Rows), vI (g1.Cols), vS (g1.Cells)]] C.w0 fun e w => ∃ (A_1 : Option Addr), ∃ (c_1 : Nat), e = .returned (.tuple #[vL A_1 (r.1) c_1, vI (r.2)]) ∧ Mem C w [.row SlotRep A_1 c_1 60 r.1 true] [] ∧ R64 r.2 := by
  have hM := Mem.begin C [] trivial
  refine enter Tryz.func8 rfl Tryz.ntmps8 rfl fun a hf => ?_
  unfold m_impl_SlotsOf at h
  refine wp_seq ?_
  refine region_pl ?_
  refine pl_l hf rfl rfl rfl (w_box hf hM (cs := [vI (g1.Rows), vI (g1.Cols), vS (g1.Cells)]) rfl rfl fun b5 w6 hx7 hM a hf => ?_)
  refine q_ hf rfl rfl rfl (e_assign hf rfl) fun a hf => ?_
  refine q_ hf rfl rfl rfl (e_assign hf rfl) fun a hf => ?_
  refine pl_nil ?_
  refine then_n ?_
  refine wp_seq ?_
  refine wp_seq ?_
  refine region_pl ?_
  refine q_ hf rfl rfl rfl (e_loadA hf (us := [vI (g1.Rows), vI (g1.Cols), vS (g1.Cells)]) rfl ⟨Tryz.isAgg25, Tryz.sizeOf25⟩ rfl (hM.boxSub (k := 0) (us := [vI (g1.Rows), vI (g1.Cols), vS (g1.Cells)]) (o := 0) rfl rfl)) fun a hf => ?_
  obtain ⟨y9, hz10, h⟩ := bind_some h
  refine pl_l hf rfl rfl rfl (w_call hf Tryz.call30 rfl (r_impl_ValidGrid ⟨_, Sh C _ _, none_, hM.sh_lt, none_not, C.G, hM.g_lt, g_none, hM.tabs⟩ g1 hp2 hp3 hp4 _ hz10) ?_)
  rintro _ w11 ⟨rfl, hM2⟩
  obtain ⟨hM, hx12, hup13⟩ := hM.back hM2
  dsimp only [List.cons_append, List.nil_append] at hM hup13
  clear hM2
  refine ⟨_, rfl, fun a hf => ?_⟩
  refine q_ hf rfl rfl rfl (e_not hf rfl) fun a hf => ?_
  refine pl_nil ?_
  refine then_n ?_
  rcases cond_some h with ⟨hc14, h⟩ | ⟨hc14, h⟩
  · refine cond_t hf rfl hc14 ?_
    refine wp_seq ?_
    refine region_pl ?_
    refine q_ hf rfl rfl rfl (e_assign hf rfl) fun a hf => ?_
    refine q_ hf rfl rfl rfl (e_assign hf rfl) fun a hf => ?_
    refine pl_nil ?_
    refine then_n ?_
    refine wp_ret ?_
    refine then_r ?_
    obtain rfl := some_inj h
    have hM := hM.nilRow SlotRep 60
    have hM := hM.outs (own' := [.row SlotRep none 0 60 ([] : (List Slot)) true]) 1 rfl
    exact leave2 hf rfl rfl rfl ⟨none, 0, rfl, hM.fin, (R64_lit rfl)⟩
  · refine cond_f hf rfl hc14 ?_
    refine wp_skip ?_
    refine then_n ?_
    refine wp_seq ?_
    refine region_pl ?_
    refine q_ hf rfl rfl rfl (e_loadA hf (us := [vI (g1.Rows), vI (g1.Cols), vS (g1.Cells)]) rfl ⟨Tryz.isAgg25, Tryz.sizeOf25⟩ rfl (hM.boxSub (k := 0) (us := [vI (g1.Rows), vI (g1.Cols), vS (g1.Cells)]) (o := 0) rfl rfl)) fun a hf => ?_
    obtain ⟨y15, hz16, h⟩ := bind_some h
    refine pl_l hf rfl rfl rfl (w_call hf Tryz.call39 rfl (r_impl_Grid_slots ⟨_, Sh C _ _, none_, hM.sh_lt, none_not, C.G, hM.g_lt, g_none, hM.tabs⟩ g1 hp2 hp3 hp4 _ hz16) ?_)
    rintro _ w19 ⟨A17, c18, rfl, hM2⟩
    obtain ⟨hM, hx20, hup21⟩ := hM.back hM2
    dsimp only [List.cons_append, List.nil_append] at hM hup21
    clear hM2
    refine ⟨_, rfl, fun a hf => ?_⟩
    refine q_ hf rfl rfl rfl (e_assign hf rfl) fun a hf => ?_
    refine q_ hf rfl rfl rfl (e_assign hf rfl) fun a hf => ?_
    refine pl_nil ?_
    refine then_n ?_
    refine wp_ret ?_
    obtain rfl := some_inj h
    have hM := hM.outs (own' := [.row SlotRep A17 c18 60 y15 true]) 1 rfl
    exact leave2 hf rfl rfl rfl ⟨A17, c18, rfl, hM.fin, (R64_lit rfl)⟩

set_option maxRecDepth 100000 in
set_option maxHeartbeats 4000000 in
theorem r_spec_SlotsOf (C : Cx) (g1 : Grid) (hp2 : R64 g1.Rows) (hp3 : R64 g1.Cols) (hp4 : g1.Cells.length ≤ maxLen) (r : ((List Slot) × Int)) (h : m_spec_SlotsOf g1 = some r) :
    Calls Tryz.prog 9 #[.agg #[vI (g1.Rows), vI (g1.Cols), vS (g1.Cells)]] C.w0 fun e w => ∃ (A_1 : Option Addr), ∃ (c_1 : Nat), e = .returned (.tuple #[vL A_1 (r.1) c_1, vI (r.2)]) ∧ Mem C w [.row SlotRep A_1 c_1 60 r.1 true] [] ∧ R64 r.2 := by
  have hM := Mem.begin C [] trivial
  refine enter Tryz.func9 rfl Tryz.ntmps9 rfl fun a hf => ?_
  unfold m_spec_SlotsOf at h
  refine wp_seq ?_
  refine region_pl ?_
  refine pl_l hf rfl rfl rfl (w_box hf hM (cs := [vI (g1.Rows), vI (g1.Cols), vS (g1.Cells)]) rfl rfl fun b5 w6 hx7 hM a hf => ?_)
  refine q_ hf rfl rfl rfl (e_assign hf rfl) fun a hf => ?_
  refine q_ hf rfl rfl rfl (e_assign hf rfl) fun a hf => ?_
  refine pl_nil ?_
  refine then_n ?_
  refine wp_seq ?_
  refine wp_seq ?_
  refine region_pl ?_
  obtain ⟨y9, hz10, h⟩ := bind_some h
  refine pl_l hf rfl rfl rfl (w_call hf Tryz.call40 rfl (r_spec_l25Ok ⟨_, All C _ _, none_, hM.all_lt, none_not, C.G, hM.g_lt, g_none, hM.tabs⟩ g1 _ _ (hM.lendBox (k := 0) rfl (GridRep_mk (x := g1) hp2 hp3 hp4)) _ hz10) ?_)
  rintro _ w11 ⟨rfl, hM2⟩
  obtain ⟨hM, hx12⟩ := hM.backA hM2
  clear hM2
  refine ⟨_, rfl, fun a hf => ?_⟩
  refine q_ hf rfl rfl rfl (e_not hf rfl) fun a hf => ?_
  refine pl_nil ?_
  refine then_n ?_
  rcases cond_some h with ⟨hc14, h⟩ | ⟨hc14, h⟩
  · refine cond_t hf rfl hc14 ?_
    refine wp_seq ?_
    refine region_pl ?_
    refine q_ hf rfl rfl rfl (e_assign hf rfl) fun a hf => ?_
    refine q_ hf rfl rfl rfl (e_assign hf rfl) fun a hf => ?_
    refine pl_nil ?_
    refine then_n ?_
    refine wp_ret ?_
    refine then_r ?_
    obtain rfl := some_inj h
    have hM := hM.nilRow SlotRep 60
    have hM := hM.outs (own' := [.row SlotRep none 0 60 ([] : (List Slot)) true]) 1 rfl
    exact leave2 hf rfl rfl rfl ⟨none, 0, rfl, hM.fin, (R64_lit rfl)⟩
  · refine cond_f hf rfl hc14 ?_
    refine wp_skip ?_
    refine then_n ?_
    refine wp_seq ?_
    refine region_pl ?_
    obtain ⟨y15, hz16, h⟩ := bind_some h
    refine pl_l hf rfl rfl rfl (w_call hf Tryz.call28 rfl (r_spec_l25Slots ⟨_, All C _ _, none_, hM.all_lt, none_not, C.G, hM.g_lt, g_none, hM.tabs⟩ g1 _ _ (hM.lendBox (k := 0) rfl (GridRep_mk (x := g1) hp2 hp3 hp4)) _ hz16) ?_)
    rintro _ w19 ⟨A17, c18, rfl, hM2⟩
    obtain ⟨hM, hx20⟩ := hM.backAF SlotRep_flat hM2
    clear hM2
    refine ⟨_, rfl, fun a hf => ?_⟩
    refine q_ hf rfl rfl rfl (e_assign hf rfl) fun a hf => ?_
    refine q_ hf rfl rfl rfl (e_assign hf rfl) fun a hf => ?_
    refine pl_nil ?_
    refine then_n ?_
    refine wp_ret ?_
    obtain rfl := some_inj h
    have hM := hM.outs (own' := [.row SlotRep A17 c18 60 y15 true]) 1 rfl
    exact leave2 hf rfl rfl rfl ⟨A17, c18, rfl, hM.fin, (R64_lit rfl)⟩

set_option maxRecDepth 100000 in
set_option maxHeartbeats 4000000 in
theorem r_impl_PatternOf (C : Cx) (g1 : Grid) (hp2 : R64 g1.Rows) (hp3 : R64 g1.Cols) (hp4 : g1.Cells.length ≤ maxLen) (slot5 : Int) (hp6 : R64 slot5) (r : (Str × Int)) (h : m_impl_PatternOf g1 slot5 = some r) :
    Calls Tryz.prog 10 #[.agg #[vI (g1.Rows), vI (g1.Cols), vS (g1.Cells)], vI (slot5)] C.w0 fun e w => e = .returned (.tuple #[vS (r.1), vI (r.2)]) ∧ Mem C w [] [] ∧ r.1.length ≤ maxLen ∧ R64 r.2 := by
  have hM := Mem.begin C [] trivial
  refine enter Tryz.func10 rfl Tryz.ntmps10 rfl fun a hf => ?_
  unfold m_impl_PatternOf at h
  refine wp_seq ?_
  refine region_pl ?_
  refine pl_l hf rfl rfl rfl (w_box hf hM (cs := [vI (g1.Rows), vI (g1.Cols), vS (g1.Cells)]) rfl rfl fun b7 w8 hx9 hM a hf => ?_)
  refine q_ hf rfl rfl rfl (e_assign hf rfl) fun a hf => ?_
  refine q_ hf rfl rfl rfl (e_assign hf rfl) fun a hf => ?_
  refine pl_nil ?_
  refine then_n ?_
  refine wp_seq ?_
  refine wp_seq ?_
  refine region_pl ?_
  refine q_ hf rfl rfl rfl (e_loadA hf (us := [vI (g1.Rows), vI (g1.Cols), vS (g1.Cells)]) rfl ⟨Tryz.isAgg25, Tryz.sizeOf25⟩ rfl (hM.boxSub (k := 0) (us := [vI (g1.Rows), vI (g1.Cols), vS (g1.Cells)]) (o := 0) rfl rfl)) fun a hf => ?_
  obtain ⟨y11, hz12, h⟩ := bind_some h
  refine pl_l hf rfl rfl rfl (w_call hf Tryz.call30 rfl (r_impl_ValidGrid ⟨_, Sh C _ _, none_, hM.sh_lt, none_not, C.G, hM.g_lt, g_none, hM.tabs⟩ g1 hp2 hp3 hp4 _ hz12) ?_)
  rintro _ w13 ⟨rfl, hM2⟩
  obtain ⟨hM, hx14, hup15⟩ := hM.back hM2
  dsimp only [List.cons_append, List.nil_append] at hM hup15
  clear hM2
  refine ⟨_, rfl, fun a hf => ?_⟩
  refine q_ hf rfl rfl rfl (e_not hf rfl) fun a hf => ?_
  refine pl_nil ?_
  refine then_n ?_
  rcases cond_some h with ⟨hc16, h⟩ | ⟨hc16, h⟩
  · refine cond_t hf rfl hc16 ?_
    refine wp_seq ?_
    refine region_pl ?_
    refine q_ hf rfl rfl rfl (e_assign hf rfl) fun a hf => ?_
    refine q_ hf rfl rfl rfl (e_assign hf rfl) fun a hf => ?_
    refine pl_nil ?_
    refine then_n ?_
    refine wp_ret ?_
    refine then_r ?_
    obtain rfl := some_inj h
    have hM := hM.outs (own' := []) 0 rfl
    exact leave2 hf rfl rfl rfl ⟨rfl, hM.fin, (lit_len rfl), (R64_lit rfl)⟩
  · refine cond_f hf rfl hc16 ?_
    refine wp_skip ?_
    refine then_n ?_
    refine wp_seq ?_
    refine region_pl ?_
    refine q_ hf rfl rfl rfl (e_loadA hf (us := [vI (g1.Rows), vI (g1.Cols), vS (g1.Cells)]) rfl ⟨Tryz.isAgg25, Tryz.sizeOf25⟩ rfl (hM.boxSub (k := 0) (us := [vI (g1.Rows), vI (g1.Cols), vS (g1.Cells)]) (o := 0) rfl rfl)) fun a hf => ?_
    refine q_ hf rfl rfl rfl (e_move hf rfl) fun a hf => ?_
    obtain ⟨y17, hz18, h⟩ := bind_some h
    refine pl_l hf rfl rfl rfl (w_call hf Tryz.call31 rfl (r_impl_Grid_slotAt ⟨_, Sh C _ _, none_, hM.sh_lt, none_not, C.G, hM.g_lt, g_none, hM.tabs⟩ g1 hp2 hp3 hp4 slot5 hp6 _ hz18) ?_)
    rintro _ w22 ⟨rfl, hM2, hv19, hv20, hv21⟩
    obtain ⟨hM, hx23, hup24⟩ := hM.back hM2
    dsimp only [List.cons_append, List.nil_append] at hM hup24
    clear hM2
    refine ⟨_, rfl, fun a hf => ?_⟩
    refine q_ hf rfl rfl rfl (e_move hf rfl) fun a hf => ?_
    refine q_ hf rfl rfl rfl (e_extract hf rfl rfl) fun a hf => ?_
    refine q_ hf rfl rfl rfl (e_extract hf rfl rfl) fun a hf => ?_
    refine pl_l hf rfl rfl rfl (w_alloc hM (cs := [vI (0), vI (0), .bool (false), vI (0)]) Tryz.zeroValue60 rfl fun b25 w26 hx27 hM a hf => ?_)
    refine pl_0 hf rfl rfl (w_store hf hM (us := [vI (y17.1.Row), vI (y17.1.Col), .bool (y17.1.Down), vI (y17.1.Length)]) (cs' := [vI (y17.1.Row), vI (y17.1.Col), .bool (y17.1.Down), vI (y17.1.Length)]) rfl rfl (k := 0) rfl rfl Tryz.sizeOf60 rfl rfl rfl fun w29 hM => ?_)
    dsimp only [List.set] at hM
    refine q_ hf rfl rfl rfl (e_assign hf rfl) fun a hf => ?_
    refine pl_nil ?_
    refine then_n ?_
    refine wp_seq ?_
    refine wp_seq ?_
    refine region_pl ?_
    refine q_ hf rfl rfl rfl (e_move hf rfl) fun a hf => ?_
    refine q_ hf rfl rfl rfl (e_not hf rfl) fun a hf => ?_
    refine pl_nil ?_
    refine then_n ?_
    rcases cond_some h with ⟨hc32, h⟩ | ⟨hc32, h⟩
    · refine cond_t hf rfl hc32 ?_
      refine wp_seq ?_
      refine region_pl ?_
      refine q_ hf rfl rfl rfl (e_assign hf rfl) fun a hf => ?_
      refine q_ hf rfl rfl rfl (e_assign hf rfl) fun a hf => ?_
      refine pl_nil ?_
      refine then_n ?_
      refine wp_ret ?_
      refine then_r ?_
      obtain rfl := some_inj h
      have hM := hM.outs (own' := []) 0 rfl
      exact leave2 hf rfl rfl rfl ⟨rfl, hM.fin, (lit_len rfl), (R64_lit rfl)⟩
    · refine cond_f hf rfl hc32 ?_
      refine wp_skip ?_
      refine then_n ?_
      refine wp_seq ?_
      refine region_pl ?_
      refine q_ hf rfl rfl rfl (e_loadA hf (us := [vI (g1.Rows), vI (g1.Cols), vS (g1.Cells)]) rfl ⟨Tryz.isAgg25, Tryz.sizeOf25⟩ rfl (hM.boxSub (k := 1) (us := [vI (g1.Rows), vI (g1.Cols), vS (g1.Cells)]) (o := 0) rfl rfl)) fun a hf => ?_
      refine q_ hf rfl rfl rfl (e_loadA hf (us := [vI (y17.1.Row), vI (y17.1.Col), .bool (y17.1.Down), vI (y17.1.Length)]) rfl ⟨Tryz.isAgg60, Tryz.sizeOf60⟩ rfl (hM.boxSub (k := 0) (us := [vI (y17.1.Row), vI (y17.1.Col), .bool (y17.1.Down), vI (y17.1.Length)]) (o := 0) rfl rfl)) fun a hf => ?_
      obtain ⟨y33, hz34, h⟩ := bind_some h
      refine pl_l hf rfl rfl rfl (w_call hf Tryz.call34 rfl (r_impl_Grid_pattern ⟨_, Sh C _ _, none_, hM.sh_lt, none_not, C.G, hM.g_lt, g_none, hM.tabs⟩ g1 hp2 hp3 hp4 y17.1 hv19 hv20 hv21 _ hz34) ?_)
      rintro _ w36 ⟨rfl, hM2, hv35⟩
      obtain ⟨hM, hx37, hup38⟩ := hM.back hM2
      dsimp only [List.cons_append, List.nil_append] at hM hup38
      clear hM2
      refine ⟨_, rfl, fun a hf => ?_⟩
      refine q_ hf rfl rfl rfl (e_assign hf rfl) fun a hf => ?_
      refine q_ hf rfl rfl rfl (e_assign hf rfl) fun a hf => ?_
      refine pl_nil ?_
      refine then_n ?_
      refine wp_ret ?_
      obtain rfl := some_inj h
      have hM := hM.outs (own' := []) 0 rfl
      exact leave2 hf rfl rfl rfl ⟨rfl, hM.fin, hv35, (R64_lit rfl)⟩

set_option maxRecDepth 100000 in
set_option maxHeartbeats 4000000 in
theorem r_spec_PatternOf (C : Cx) (g1 : Grid) (hp2 : R64 g1.Rows) (hp3 : R64 g1.Cols) (hp4 : g1.Cells.length ≤ maxLen) (slot5 : Int) (hp6 : R64 slot5) (r : (Str × Int)) (h : m_spec_PatternOf g1 slot5 = some r) :
    Calls Tryz.prog 11 #[.agg #[vI (g1.Rows), vI (g1.Cols), vS (g1.Cells)], vI (slot5)] C.w0 fun e w => e = .returned (.tuple #[vS (r.1), vI (r.2)]) ∧ Mem C w [] [] ∧ r.1.length ≤ maxLen ∧ R64 r.2 := by
  have hM := Mem.begin C [] trivial
  refine enter Tryz.func11 rfl Tryz.ntmps11 rfl fun a hf => ?_
  unfold m_spec_PatternOf at h
  refine wp_seq ?_
  refine region_pl ?_
  refine pl_l hf rfl rfl rfl (w_box hf hM (cs := [vI (g1.Rows), vI (g1.Cols), vS (g1.Cells)]) rfl rfl fun b7 w8 hx9 hM a hf => ?_)
  refine q_ hf rfl rfl rfl (e_assign hf rfl) fun a hf => ?_
  refine q_ hf rfl rfl rfl (e_assign hf rfl) fun a hf => ?_
  refine pl_nil ?_
  refine then_n ?_
  refine wp_seq ?_
  refine region_pl ?_
  refine q_ hf rfl rfl rfl (e_move hf rfl) fun a hf => ?_
  obtain ⟨y11, hz12, h⟩ := bind_some h
  refine pl_l hf rfl rfl rfl (w_call hf Tryz.call27 rfl (r_spec_l25Code ⟨_, All C _ _, none_, hM.all_lt, none_not, C.G, hM.g_lt, g_none, hM.tabs⟩ g1 _ _ (hM.lendBox (k := 0) rfl (GridRep_mk (x := g1) hp2 hp3 hp4)) slot5 hp6 _ hz12) ?_)
  rintro _ w14 ⟨rfl, hM2, hv13⟩
  obtain ⟨hM, hx15⟩ := hM.backA hM2
  clear hM2
  refine ⟨_, rfl, fun a hf => ?_⟩
  refine q_ hf rfl rfl rfl (e_assign hf rfl) fun a hf => ?_
  refine pl_nil ?_
  refine then_n ?_
  refine wp_seq ?_
  refine wp_seq ?_
  refine region_pl ?_
  refine q_ hf rfl rfl rfl (e_move hf rfl) fun a hf => ?_
  refine q_ hf rfl rfl rfl (e_ne hf (x := y11) (y := 0) rfl rfl) fun a hf => ?_
  refine pl_nil ?_
  refine then_n ?_
  rcases cond_some h with ⟨hc17, h⟩ | ⟨hc17, h⟩
  · refine cond_t hf rfl hc17 ?_
    refine wp_seq ?_
    refine region_pl ?_
    refine q_ hf rfl rfl rfl (e_move hf rfl) fun a hf => ?_
    refine q_ hf rfl rfl rfl (e_assign hf rfl) fun a hf => ?_
    refine q_ hf rfl rfl rfl (e_assign hf rfl) fun a hf => ?_
    refine pl_nil ?_
    refine then_n ?_
    refine wp_ret ?_
    refine then_r ?_
    obtain rfl := some_inj h
    have hM := hM.outs (own' := []) 0 rfl
    exact leave2 hf rfl rfl rfl ⟨rfl, hM.fin, (lit_len rfl), hv13⟩
  · refine cond_f hf rfl hc17 ?_
    refine wp_skip ?_
    refine then_n ?_
    refine wp_seq ?_
    refine region_pl ?_
    obtain ⟨y18, hz19, h⟩ := bind_some h
    refine pl_l hf rfl rfl rfl (w_call hf Tryz.call28 rfl (r_spec_l25Slots ⟨_, All C _ _, none_, hM.all_lt, none_not, C.G, hM.g_lt, g_none, hM.tabs⟩ g1 _ _ (hM.lendBox (k := 0) rfl (GridRep_mk (x := g1) hp2 hp3 hp4)) _ hz19) ?_)
    rintro _ w22 ⟨A20, c21, rfl, hM2⟩
    obtain ⟨hM, hx23⟩ := hM.backAF SlotRep_flat hM2
    clear hM2
    refine ⟨_, rfl, fun a hf => ?_⟩
    refine q_ hf rfl rfl rfl (e_assign hf rfl) fun a hf => ?_
    refine pl_nil ?_
    refine then_n ?_
    refine wp_seq ?_
    refine region_pl ?_
    refine q_ hf rfl rfl rfl (e_move hf rfl) fun a hf => ?_
    refine q_ hf rfl rfl rfl (e_move hf rfl) fun a hf => ?_
    obtain ⟨e25, hz26, h⟩ := bind_some h
    obtain ⟨b31, _, hA32, h27, h28, hr29, hcell30⟩ := hM.rowElemN (k := 0) rfl (n := 4) rfl hz26
    obtain ⟨rfl, hv33, hv34, hv35⟩ := SlotRep_open hr29
    refine q_ hf rfl rfl rfl (e_indexAddr (A := A20) (b := b31) (o := 0) (xs := y18) (i := slot5) hf hA32 rfl rfl Tryz.underlying30 Tryz.sizeOf60 h27 h28) fun a hf => ?_
    obtain ⟨y36, hz37, h⟩ := bind_some h
    refine pl_l hf rfl rfl rfl (w_call hf Tryz.call29 rfl (r_spec_l25Pattern ⟨_, All C _ _, none_, hM.all_lt, none_not, C.G, hM.g_lt, g_none, hM.tabs⟩ g1 _ _ (hM.lendBox (k := 1) rfl (GridRep_mk (x := g1) hp2 hp3 hp4)) e25 _ _ (hM.lendElem hA32 (k := 0) rfl (n := 4) rfl hz26) _ hz37) ?_)
    rintro _ w39 ⟨rfl, hM2, hv38⟩
    obtain ⟨hM, hx40⟩ := hM.backA hM2
    clear hM2
    refine ⟨_, rfl, fun a hf => ?_⟩
    refine q_ hf rfl rfl rfl (e_assign hf rfl) fun a hf => ?_
    refine q_ hf rfl rfl rfl (e_assign hf rfl) fun a hf => ?_
    refine pl_nil ?_
    refine then_n ?_
    refine wp_ret ?_
    obtain rfl := some_inj h
    have hM := hM.outs (own' := []) 0 rfl
    exact leave2 hf rfl rfl rfl ⟨rfl, hM.fin, hv38, (R64_lit rfl)⟩

set_option maxRecDepth 100000 in
set_option maxHeartbeats 4000000 in
theorem r_impl_GridText (C : Cx) (g1 : Grid) (hp2 : R64 g1.Rows) (hp3 : R64 g1.Cols) (hp4 : g1.Cells.length ≤ maxLen) (r : Str) (h : m_impl_GridText g1 = some r) :
    Calls Tryz.prog 12 #[.agg #[vI (g1.Rows), vI (g1.Cols), vS (g1.Cells)]] C.w0 fun e w => e = .returned (vS (r)) ∧ Mem C w [] [] ∧ r.length ≤ maxLen := by
  have hM := Mem.begin C [] trivial
  refine enter Tryz.func12 rfl Tryz.ntmps12 rfl fun a hf => ?_
  unfold m_impl_GridText at h
  refine wp_seq ?_
  refine region_pl ?_
  refine pl_l hf rfl rfl rfl (w_box hf hM (cs := [vI (g1.Rows), vI (g1.Cols), vS (g1.Cells)]) rfl rfl fun b5 w6 hx7 hM a hf => ?_)
  refine q_ hf rfl rfl rfl (e_assign hf rfl) fun a hf => ?_
  refine pl_nil ?_
  refine then_n ?_
  refine wp_seq ?_
  refine wp_seq ?_
  refine region_pl ?_
  refine q_ hf rfl rfl rfl (e_loadA hf (us := [vI (g1.Rows), vI (g1.Cols), vS (g1.Cells)]) rfl ⟨Tryz.isAgg25, Tryz.sizeOf25⟩ rfl (hM.boxSub (k := 0) (us := [vI (g1.Rows), vI (g1.Cols), vS (g1.Cells)]) (o := 0) rfl rfl)) fun a hf => ?_
  obtain ⟨y9, hz10, h⟩ := bind_some h
  refine pl_l hf rfl rfl rfl (w_call hf Tryz.call30 rfl (r_impl_ValidGrid ⟨_, Sh C _ _, none_, hM.sh_lt, none_not, C.G, hM.g_lt, g_none, hM.tabs⟩ g1 hp2 hp3 hp4 _ hz10) ?_)
  rintro _ w11 ⟨rfl, hM2⟩
  obtain ⟨hM, hx12, hup13⟩ := hM.back hM2
  dsimp only [List.cons_append, List.nil_append] at hM hup13
  clear hM2
  refine ⟨_, rfl, fun a hf => ?_⟩
  refine q_ hf rfl rfl rfl (e_not hf rfl) fun a hf => ?_
  refine pl_nil ?_
  refine then_n ?_
  rcases cond_some h with ⟨hc14, h⟩ | ⟨hc14, h⟩
  · refine cond_t hf rfl hc14 ?_
    refine wp_seq ?_
    refine region_pl ?_
    refine q_ hf rfl rfl rfl (e_assign hf rfl) fun a hf => ?_
    refine pl_nil ?_
    refine then_n ?_
    refine wp_ret ?_
    refine then_r ?_
    obtain rfl := some_inj h
    have hM := hM.outs (own' := []) 0 rfl
    exact leave1 hf rfl rfl ⟨rfl, hM.fin, (lit_len rfl)⟩
  · refine cond_f hf rfl hc14 ?_
    refine wp_skip ?_
    refine then_n ?_
    refine wp_seq ?_
    refine region_pl ?_
    refine pl_l hf rfl rfl rfl (w_slice0 (K := strRep) hM Tryz.underlying39 ei_9 fun b15 w16 hx17 hM a hf => ?_)
    refine q_ hf rfl rfl rfl (e_assign hf rfl) fun a hf => ?_
    refine pl_nil ?_
    refine then_n ?_
    obtain ⟨x21, h22, h⟩ := bind_some h
    refine seq_join (fun a w => ∃ (xs18 : (List Str)) (A19 : Option Addr) (c20 : Nat), xs18 = x21 ∧ Has 32 a [(3, vL A19 (xs18) c20)] ∧ Mem C w [.row strRep A19 c20 9 xs18 true, .box b5 [vI (g1.Rows), vI (g1.Cols), vS (g1.Cells)] 25] []) ?_ ?_
    · refine wp_seq ?_
      refine region_pl ?_
      refine q_ hf rfl rfl rfl (e_assign hf rfl) fun a hf => ?_
      refine pl_nil ?_
      refine then_n ?_
      refine wp_block ?_
      obtain ⟨x32, h33, h22⟩ := bind_some h22
      refine wp_loopM h33 (fun s a w => ∃ (xs23 : (List Str)) (n26 : Int) (A24 : Option Addr) (c25 : Nat), (xs23, n26) = s ∧ Has 32 a [(1, vP b5 (0)), (3, vL A24 (xs23) c25), (4, vI (n26))] ∧ Mem C w [.row strRep A24 c25 9 xs23 true, .box b5 [vI (g1.Rows), vI (g1.Cols), vS (g1.Cells)] 25] [] ∧ R64 n26) ?_ ?_
      · exact ⟨([] : (List Str)), 0, (some ⟨b15, 0, none⟩), 0, rfl, hf.keep ⟨rfl, rfl, rfl, trivial⟩, hM.pick [] rfl, (R64_lit rfl)⟩
      · rintro s o34 a w28 ⟨xs23, n26, A24, c25, rfl, hf, hM, hv27⟩ h35 hd36
        replace h35 : m_impl_GridText_l1 g1 xs23 n26 = some o34 := h35
        unfold m_impl_GridText_l1 at h35
        refine wp_seq ?_
        refine wp_seq ?_
        refine region_pl ?_
        refine q_ hf rfl rfl rfl (e_move hf rfl) fun a hf => ?_
        refine q_ hf rfl rfl rfl (e_field hf rfl Tryz.underlying25 rfl Tryz.sizeOf2 (o' := 0) rfl) fun a hf => ?_
        refine q_ hf rfl rfl rfl (e_load1 hf rfl Tryz.isAgg2 (hM.boxCell (k := 1) rfl rfl)) fun a hf => ?_
        refine q_ hf rfl rfl rfl (e_lt hf (x := n26) (y := g1.Rows) rfl rfl) fun a hf => ?_
        refine pl_nil ?_
        refine then_n ?_
        rcases cond_some h35 with ⟨hc37, h35⟩ | ⟨hc37, h35⟩
        · refine cond_t hf rfl hc37 ?_
          refine wp_skip ?_
          refine then_n ?_
          refine wp_seq ?_
          refine wp_block ?_
          refine region_pl ?_
          refine q_ hf rfl rfl rfl (e_move hf rfl) fun a hf => ?_
          refine q_ hf rfl rfl rfl (e_field hf rfl Tryz.underlying25 rfl Tryz.sizeOf9 (o' := 2) rfl) fun a hf => ?_
          refine q_ hf rfl rfl rfl (e_load1 hf rfl Tryz.isAgg9 (hM.boxCell (k := 1) rfl rfl)) fun a hf => ?_
          refine q_ hf rfl rfl rfl (e_move hf rfl) fun a hf => ?_
          refine q_ hf rfl rfl rfl (e_field hf rfl Tryz.underlying25 rfl Tryz.sizeOf2 (o' := 1) rfl) fun a hf => ?_
          refine q_ hf rfl rfl rfl (e_load1 hf rfl Tryz.isAgg2 (hM.boxCell (k := 1) rfl rfl)) fun a hf => ?_
          obtain ⟨z38, hz39, h35⟩ := bind_some h35
          refine q_ hf rfl rfl rfl (e_mul hf rfl rfl hz39) fun a hf => ?_
          refine q_ hf rfl rfl rfl (e_move hf rfl) fun a hf => ?_
          obtain ⟨z40, hz41, h35⟩ := bind_some h35
          refine q_ hf rfl rfl rfl (e_add hf rfl rfl hz41) fun a hf => ?_
          refine q_ hf rfl rfl rfl (e_field hf rfl Tryz.underlying25 rfl Tryz.sizeOf2 (o' := 1) rfl) fun a hf => ?_
          refine q_ hf rfl rfl rfl (e_load1 hf rfl Tryz.isAgg2 (hM.boxCell (k := 1) rfl rfl)) fun a hf => ?_
          obtain ⟨z42, hz43, h35⟩ := bind_some h35
          refine q_ hf rfl rfl rfl (e_mul hf rfl rfl hz43) fun a hf => ?_
          obtain ⟨s44, hz45, h35⟩ := bind_some h35
          refine q_ hf rfl rfl rfl (e_subS hf (x := g1.Cells) rfl rfl rfl Tryz.underlying9 hz45) fun a hf => ?_
          refine pl_l hf rfl rfl rfl (w_slice hf hM (K := strRep) (xs := ([s44] : (List Str))) (os := [.tmp 27]) Tryz.underlying39 ei_9 rfl rfl rfl rfl rfl ⟨⟨[vS (s44)], rfl, ⟨rfl, (sub_len hz45 hp4)⟩⟩, trivial⟩ rfl fun b46 w47 hx48 hM a hf => ?_)
          obtain ⟨xs49, hz50, h35⟩ := bind_some h35
          refine pl_l hf rfl rfl rfl (w_append hf hM Tryz.underlying39 ei_9 rfl rfl rfl (k := 1) rfl (hM.srcRow (k := 0) rfl) hz50 fun A51 c52 w53 hM a hf => ?_)
          dsimp only [List.set] at hM
          refine q_ hf rfl rfl rfl (e_assign hf rfl) fun a hf => ?_
          refine pl_nil ?_
          refine blk_n ?_
          refine then_n ?_
          refine region_pl ?_
          refine q_ hf rfl rfl rfl (e_move hf rfl) fun a hf => ?_
          obtain ⟨z56, hz57, h35⟩ := bind_some h35
          refine q_ hf rfl rfl rfl (e_add hf rfl rfl hz57) fun a hf => ?_
          refine q_ hf rfl rfl rfl (e_assign hf rfl) fun a hf => ?_
          refine pl_nil ?_
          obtain rfl := some_inj h35
          refine then_n ⟨_, rfl, ?_⟩
          exact ⟨xs49, z56, A51, c52, rfl, hf.keep ⟨rfl, rfl, rfl, trivial⟩, (hM.drop (.cons _ (.cons_cons _ (.cons_cons _ .slnil)))).pick [] rfl, (chk_R hz57)⟩
        · refine cond_f hf rfl hc37 ?_
          refine wp_exit ?_
          refine then_x ?_
          obtain rfl := some_inj h35
          obtain rfl := hd36 _ rfl
          try dsimp only at h22
          refine then_x ?_
          refine exit_hit ?_
          obtain rfl := some_inj h22
          refine then_n ?_
          exact ⟨xs23, A24, c25, rfl, hf.keep ⟨rfl, trivial⟩, hM.pick [] rfl⟩
    · rintro a w63 ⟨xs18, A19, c20, rfl, hf, hM⟩
      try dsimp only at h
      refine wp_seq ?_
      refine region_pl ?_
      refine q_ hf rfl rfl rfl (e_move hf rfl) fun a hf => ?_
      obtain ⟨y64, hz65, h⟩ := bind_some h
      refine pl_l hf rfl rfl rfl (w_call hf Tryz.call41 rfl (r_strings_Join ⟨_, All C _ _, none_, hM.all_lt, none_not, C.G, hM.g_lt, g_none, hM.tabs⟩ xs18 _ _ (hM.lendRow (k := 0) rfl) ([47] : Str) (lit_len rfl) _ hz65) ?_)
      rintro _ w67 ⟨rfl, hM2, hv66⟩
      obtain ⟨hM, hx68⟩ := hM.backA hM2
      clear hM2
      refine ⟨_, rfl, fun a hf => ?_⟩
      refine q_ hf rfl rfl rfl (e_assign hf rfl) fun a hf => ?_
      refine pl_nil ?_
      refine then_n ?_
      refine wp_ret ?_
      obtain rfl := some_inj h
      have hM := hM.outs (own' := []) 0 rfl
      exact leave1 hf rfl rfl ⟨rfl, hM.fin, hv66⟩

set_option maxRecDepth 100000 in
set_option maxHeartbeats 4000000 in
theorem r_impl_ReadGrid (C : Cx) (s1 : Str) (hp2 : s1.length ≤ maxLen) (r : (Grid × Bool)) (h : m_impl_ReadGrid s1 = some r) :
    Calls Tryz.prog 13 #[vS (s1)] C.w0 fun e w => e = .returned (.tuple #[.agg #[vI (r.1.Rows), vI (r.1.Cols), vS (r.1.Cells)], .bool (r.2)]) ∧ Mem C w [] [] ∧ R64 r.1.Rows ∧ R64 r.1.Cols ∧ r.1.Cells.length ≤ maxLen := by
  have hM := Mem.begin C [] trivial
  refine enter Tryz.func13 rfl Tryz.ntmps13 rfl fun a hf => ?_
  unfold m_impl_ReadGrid at h
  refine wp_seq ?_
  refine region_pl ?_
  refine pl_l hf rfl rfl rfl (w_alloc hM (cs := [vI (0), vI (0), vS (([] : Str))]) Tryz.zeroValue25 rfl fun b3 w4 hx5 hM a hf => ?_)
  refine q_ hf rfl rfl rfl (e_assign hf rfl) fun a hf => ?_
  refine pl_nil ?_
  refine then_n ?_
  refine wp_seq ?_
  refine region_pl ?_
  refine q_ hf rfl rfl rfl (e_move hf rfl) fun a hf => ?_
  obtain ⟨y7, hz8, h⟩ := bind_some h
  refine pl_l hf rfl rfl rfl (w_call hf Tryz.call42 rfl (r_strings_Split ⟨_, Sh C _ _, none_, hM.sh_lt, none_not, C.G, hM.g_lt, g_none, hM.tabs⟩ s1 hp2 ([47] : Str) (lit_len rfl) _ hz8) ?_)
  rintro _ w12 ⟨A9, c10, rfl, hM2, hv11⟩
  obtain ⟨hM, hx13, hup14⟩ := hM.back hM2
  dsimp only [List.cons_append, List.nil_append] at hM hup14
  clear hM2
  have hM := hM.add (y := .dat (sliceRep strRep) y7 [vL A9 y7 c10]) (hup14 hv11)
  refine ⟨_, rfl, fun a hf => ?_⟩
  refine q_ hf rfl rfl rfl (e_assign hf rfl) fun a hf => ?_
  refine pl_nil ?_
  refine then_n ?_
  refine wp_seq ?_
  obtain ⟨w15, hw⟩ : ∃ x, x = w12.drew := ⟨_, rfl⟩
  refine region_pi (.q 0 (.q 1 (.q 2 (.q 3 (.q 4 (.q 5 (.q 6 (.b 7 9 (.q 8 (.l 9 (.l 10 (.nil)))) (.l 7 (.q 8 (.l 10 (.nil)))))))))))) (Ext w15) rfl (by kernel_rfl) ?_
  have hM := hM.drew
  rw [← hw] at hM ⊢
  clear hw
  refine pi_q hf rfl rfl rfl rfl (Ext.refl _) (e_move hf rfl) fun a hf => ?_
  have hl16 := slice_len (hM.dat (k := 0) rfl)
  refine pi_q hf rfl rfl rfl rfl (Ext.refl _) (e_lenL hf (x := y7) rfl Tryz.underlying39) fun a hf => ?_
  refine pi_q hf rfl rfl rfl rfl (Ext.refl _) (e_move hf rfl) fun a hf => ?_
  obtain ⟨e17, hz18, h⟩ := bind_some h
  obtain ⟨b22, o23, _, hA24, h19, h20, hr21, hM⟩ := hM.elem (hM.dat (k := 0) rfl) (n := 1) rfl hz18
  obtain ⟨rfl, hv25⟩ := hr21
  refine pi_q hf rfl rfl rfl rfl (Ext.refl _) (e_indexAddr (A := A9) (b := b22) (o := o23) (xs := y7) (i := 0) hf hA24 rfl rfl Tryz.underlying39 Tryz.sizeOf9 h19 h20) fun a hf => ?_
  refine pi_q hf rfl rfl rfl rfl (Ext.refl _) (e_load1 hf rfl Tryz.isAgg9 (hM.litCell (k := 0) (j := 0) rfl rfl rfl)) fun a hf => ?_
  refine pi_q hf rfl rfl rfl rfl (Ext.refl _) (e_lenS hf (x := e17) rfl Tryz.underlying9) fun a hf => ?_
  refine pi_q hf rfl rfl rfl rfl (Ext.refl _) (e_move hf rfl) fun a hf => ?_
  obtain ⟨y26, hz27, h⟩ := bind_some h
  refine pi_two ?_ ?_
  · refine pi_l hf rfl rfl rfl rfl (w_call hf Tryz.call41 rfl (r_strings_Join ⟨_, Sh C _ _, none_, hM.sh_lt, none_not, C.G, hM.g_lt, g_none, hM.tabs⟩ y7 _ _ (hM.dat (k := 1) rfl) ([] : Str) (lit_len rfl) _ hz27) ?_)
    rintro _ w37 ⟨rfl, hM2, hv36⟩
    obtain ⟨hM, hx38, hup39⟩ := hM.back hM2
    dsimp only [List.cons_append, List.nil_append] at hM hup39
    clear hM2
    refine ⟨_, rfl, Ext w37, fun _ h => Ext.trans hx38 h, Ext.refl _, fun a hf => ?_⟩
    refine pi_q hf rfl rfl rfl rfl (Ext.refl _) (e_build hf Tryz.zeroValue25 Tryz.underlying25 (bp_25 _ Tryz.underlying25.symm) rfl (cs := #[vI ((y7.length : Int)), vI ((e17.length : Int)), vS (y26)]) (by kernel_rfl)) fun a hf => ?_
    refine pi_one ?_
    refine pi_l hf rfl rfl rfl rfl (w_alloc hM (cs := [vI (0), vI (0), vS (([] : Str))]) Tryz.zeroValue25 rfl fun b40 w41 hx42 hM => ⟨Ext w41, fun _ h => Ext.trans hx42 h, Ext.refl _, fun a hf => ?_⟩)
    refine pi_one ?_
    refine pi_z0 hf rfl rfl rfl (by kernel_rfl) (w_store hf hM (us := [vI ((y7.length : Int)), vI ((e17.length : Int)), vS (y26)]) (cs' := [vI ((y7.length : Int)), vI ((e17.length : Int)), vS (y26)]) rfl rfl (k := 0) rfl rfl Tryz.sizeOf25 rfl rfl rfl fun w44 hM => ?_)
    dsimp only [List.set] at hM
    refine pi_nil ?_
    refine then_n ?_
    refine wp_seq ?_
    obtain ⟨x49, h50, h⟩ := bind_some h
    refine seq_join (fun a w => ∃ (t47 : Bool), t47 = x49 ∧ Has 28 a [(2, vP b3 (0)), (5, vP b40 (0)), (25, .bool (t47))] ∧ Mem C w [.box b40 [vI ((y7.length : Int)), vI ((e17.length : Int)), vS (y26)] 25, .box b3 [vI (0), vI (0), vS (([] : Str))] 25] [.lit b22 (o23 + (0 : Int).toNat * 1) [vS (e17)], .dat (sliceRep strRep) y7 [vL A9 y7 c10]]) ?_ ?_
    · refine region_pl ?_
      refine q_ hf rfl rfl rfl (e_loadA hf (us := [vI ((y7.length : Int)), vI ((e17.length : Int)), vS (y26)]) rfl ⟨Tryz.isAgg25, Tryz.sizeOf25⟩ rfl (hM.boxSub (k := 0) (us := [vI ((y7.length : Int)), vI ((e17.length : Int)), vS (y26)]) (o := 0) rfl rfl)) fun a hf => ?_
      obtain ⟨y51, hz52, h50⟩ := bind_some h50
      refine pl_l hf rfl rfl rfl (w_call hf Tryz.call30 rfl (r_impl_ValidGrid ⟨_, Sh C _ _, none_, hM.sh_lt, none_not, C.G, hM.g_lt, g_none, hM.tabs⟩ (⟨(y7.length : Int), (e17.length : Int), y26⟩ : Grid) (R64_len hl16) (R64_len hv25) hv36 _ hz52) ?_)
      rintro _ w53 ⟨rfl, hM2⟩
      obtain ⟨hM, hx54, hup55⟩ := hM.back hM2
      dsimp only [List.cons_append, List.nil_append] at hM hup55
      clear hM2
      refine ⟨_, rfl, fun a hf => ?_⟩
      refine q_ hf rfl rfl rfl (e_not hf rfl) fun a hf => ?_
      refine q_ hf rfl rfl rfl (e_move hf rfl) fun a hf => ?_
      rcases cond_some h50 with ⟨hc56, h50⟩ | ⟨hc56, h50⟩
      · refine pl_gs (wanted_f hf rfl rfl rfl rfl hc56) hf rfl rfl fun a hf => ?_
        refine pl_gs (wanted_f hf rfl rfl rfl rfl hc56) hf rfl rfl fun a hf => ?_
        refine pl_gs (wanted_f hf rfl rfl rfl rfl hc56) hf rfl rfl fun a hf => ?_
        refine pl_gs (wanted_f hf rfl rfl rfl rfl hc56) hf rfl rfl fun a hf => ?_
        refine q_ hf rfl rfl rfl (e_pick_t hf rfl hc56 rfl) fun a hf => ?_
        refine pl_nil ?_
        obtain rfl := some_inj h50
        refine then_n ?_
        exact ⟨true, rfl, hf.keep ⟨rfl, rfl, rfl, trivial⟩, hM.pick [0, 1] rfl⟩
      · refine gq (wanted_t hf rfl rfl rfl rfl hc56) hf rfl rfl (e_loadA hf (us := [vI ((y7.length : Int)), vI ((e17.length : Int)), vS (y26)]) rfl ⟨Tryz.isAgg25, Tryz.sizeOf25⟩ rfl (hM.boxSub (k := 0) (us := [vI ((y7.length : Int)), vI ((e17.length : Int)), vS (y26)]) (o := 0) rfl rfl)) fun a hf => ?_
        obtain ⟨y58, hz59, h50⟩ := bind_some h50
        refine pl_gl (wanted_t hf rfl rfl rfl rfl hc56) hf rfl rfl (w_call hf Tryz.call12 rfl (r_impl_GridText ⟨_, Sh C _ _, none_, hM.sh_lt, none_not, C.G, hM.g_lt, g_none, hM.tabs⟩ (⟨(y7.length : Int), (e17.length : Int), y26⟩ : Grid) (R64_len hl16) (R64_len hv25) hv36 _ hz59) ?_)
        rintro _ w61 ⟨rfl, hM2, hv60⟩
        obtain ⟨hM, hx62, hup63⟩ := hM.back hM2
        dsimp only [List.cons_append, List.nil_append] at hM hup63
        clear hM2
        refine ⟨_, rfl, fun a hf => ?_⟩
        refine gq (wanted_t hf rfl rfl rfl rfl hc56) hf rfl rfl (e_move hf rfl) fun a hf => ?_
        refine gq (wanted_t hf rfl rfl rfl rfl hc56) hf rfl rfl (e_neS hf (x := y58) (y := s1) rfl rfl) fun a hf => ?_
        refine q_ hf rfl rfl rfl (e_pick_f hf rfl hc56 rfl) fun a hf => ?_
        refine pl_nil ?_
        obtain rfl := some_inj h50
        refine then_n ?_
        exact ⟨(y58 != s1), rfl, hf.keep ⟨rfl, rfl, rfl, trivial⟩, hM.pick [0, 1] rfl⟩
    · rintro a w65 ⟨t47, rfl, hf, hM⟩
      try dsimp only at h
      rcases cond_some h with ⟨hc66, h⟩ | ⟨hc66, h⟩
      · refine cond_t hf rfl hc66 ?_
        refine wp_seq ?_
        refine region_pl ?_
        refine q_ hf rfl rfl rfl (e_build hf Tryz.zeroValue25 Tryz.underlying25 (bp_25 _ Tryz.underlying25.symm) rfl (cs := #[vI (0), vI (0), vS (([] : Str))]) (by kernel_rfl)) fun a hf => ?_
        refine pl_0 hf rfl rfl (w_store hf hM (us := [vI (0), vI (0), vS (([] : Str))]) (cs' := [vI (0), vI (0), vS (([] : Str))]) rfl rfl (k := 1) rfl rfl Tryz.sizeOf25 rfl rfl rfl fun w67 hM => ?_)
        dsimp only [List.set] at hM
        refine q_ hf rfl rfl rfl (e_assign hf rfl) fun a hf => ?_
        refine pl_nil ?_
        refine then_n ?_
        refine wp_ret ?_
        refine then_r ?_
        obtain rfl := some_inj h
        have hres70 := leaveV2 (P := Tryz.prog) Tryz.results13 (res_agg hf rfl ⟨Tryz.isAgg25, Tryz.sizeOf25⟩ (us := [vI (0), vI (0), vS (([] : Str))]) rfl (hM.boxSub (k := 1) (o := 0) rfl rfl)) (res_tmp hf rfl)
        have hM := hM.outs (own' := []) 0 rfl
        exact bodyPost_ret hres70 hf.defers ⟨rfl, hM.fin, (R64_lit rfl), (R64_lit rfl), (lit_len rfl)⟩
      · refine cond_f hf rfl hc66 ?_
        refine wp_skip ?_
        refine then_n ?_
        refine wp_seq ?_
        refine region_pl ?_
        refine q_ hf rfl rfl rfl (e_loadA hf (us := [vI ((y7.length : Int)), vI ((e17.length : Int)), vS (y26)]) rfl ⟨Tryz.isAgg25, Tryz.sizeOf25⟩ rfl (hM.boxSub (k := 0) (us := [vI ((y7.length : Int)), vI ((e17.length : Int)), vS (y26)]) (o := 0) rfl rfl)) fun a hf => ?_
        refine pl_0 hf rfl rfl (w_store hf hM (us := [vI ((y7.length : Int)), vI ((e17.length : Int)), vS (y26)]) (cs' := [vI ((y7.length : Int)), vI ((e17.length : Int)), vS (y26)]) rfl rfl (k := 1) rfl rfl Tryz.sizeOf25 rfl rfl rfl fun w71 hM => ?_)
        dsimp only [List.set] at hM
        refine q_ hf rfl rfl rfl (e_assign hf rfl) fun a hf => ?_
        refine pl_nil ?_
        refine then_n ?_
        refine wp_ret ?_
        obtain rfl := some_inj h
        have hres74 := leaveV2 (P := Tryz.prog) Tryz.results13 (res_agg hf rfl ⟨Tryz.isAgg25, Tryz.sizeOf25⟩ (us := [vI ((y7.length : Int)), vI ((e17.length : Int)), vS (y26)]) rfl (hM.boxSub (k := 1) (o := 0) rfl rfl)) (res_tmp hf rfl)
        have hM := hM.outs (own' := []) 0 rfl
        exact bodyPost_ret hres74 hf.defers ⟨rfl, hM.fin, (R64_len hl16), (R64_len hv25), hv36⟩
  · refine pi_l hf rfl rfl rfl rfl (w_alloc hM (cs := [vI (0), vI (0), vS (([] : Str))]) Tryz.zeroValue25 rfl fun b75 w76 hx77 hM => ⟨Ext w76, fun _ h => Ext.trans hx77 h, Ext.refl _, fun a hf => ?_⟩)
    refine pi_one ?_
    refine pi_l hf rfl rfl rfl rfl (w_call hf Tryz.call41 rfl (r_strings_Join ⟨_, Sh C _ _, none_, hM.sh_lt, none_not, C.G, hM.g_lt, g_none, hM.tabs⟩ y7 _ _ (hM.dat (k := 1) rfl) ([] : Str) (lit_len rfl) _ hz27) ?_)
    rintro _ w80 ⟨rfl, hM2, hv79⟩
    obtain ⟨hM, hx81, hup82⟩ := hM.back hM2
    dsimp only [List.cons_append, List.nil_append] at hM hup82
    clear hM2
    refine ⟨_, rfl, Ext w80, fun _ h => Ext.trans hx81 h, Ext.refl _, fun a hf => ?_⟩
    refine pi_q hf rfl rfl rfl rfl (Ext.refl _) (e_build hf Tryz.zeroValue25 Tryz.underlying25 (bp_25 _ Tryz.underlying25.symm) rfl (cs := #[vI ((y7.length : Int)), vI ((e17.length : Int)), vS (y26)]) (by kernel_rfl)) fun a hf => ?_
    refine pi_one ?_
    refine pi_z0 hf rfl rfl rfl (by kernel_rfl) (w_store hf hM (us := [vI ((y7.length : Int)), vI ((e17.length : Int)), vS (y26)]) (cs' := [vI ((y7.length : Int)), vI ((e17.length : Int)), vS (y26)]) rfl rfl (k := 0) rfl rfl Tryz.sizeOf25 rfl rfl rfl fun w83 hM => ?_)
    dsimp only [List.set] at hM
    refine pi_nil ?_
    refine then_n ?_
    refine wp_seq ?_
    obtain ⟨x88, h89, h⟩ := bind_some h
    refine seq_join (fun a w => ∃ (t86 : Bool), t86 = x88 ∧ Has 28 a [(2, vP b3 (0)), (5, vP b75 (0)), (25, .bool (t86))] ∧ Mem C w [.box b75 [vI ((y7.length : Int)), vI ((e17.length : Int)), vS (y26)] 25, .box b3 [vI (0), vI (0), vS (([] : Str))] 25] [.lit b22 (o23 + (0 : Int).toNat * 1) [vS (e17)], .dat (sliceRep strRep) y7 [vL A9 y7 c10]]) ?_ ?_
    · refine region_pl ?_
      refine q_ hf rfl rfl rfl (e_loadA hf (us := [vI ((y7.length : Int)), vI ((e17.length : Int)), vS (y26)]) rfl ⟨Tryz.isAgg25, Tryz.sizeOf25⟩ rfl (hM.boxSub (k := 0) (us := [vI ((y7.length : Int)), vI ((e17.length : Int)), vS (y26)]) (o := 0) rfl rfl)) fun a hf => ?_
      obtain ⟨y90, hz91, h89⟩ := bind_some h89
      refine pl_l hf rfl rfl rfl (w_call hf Tryz.call30 rfl (r_impl_ValidGrid ⟨_, Sh C _ _, none_, hM.sh_lt, none_not, C.G, hM.g_lt, g_none, hM.tabs⟩ (⟨(y7.length : Int), (e17.length : Int), y26⟩ : Grid) (R64_len hl16) (R64_len hv25) hv79 _ hz91) ?_)
      rintro _ w92 ⟨rfl, hM2⟩
      obtain ⟨hM, hx93, hup94⟩ := hM.back hM2
      dsimp only [List.cons_append, List.nil_append] at hM hup94
      clear hM2
      refine ⟨_, rfl, fun a hf => ?_⟩
      refine q_ hf rfl rfl rfl (e_not hf rfl) fun a hf => ?_
      refine q_ hf rfl rfl rfl (e_move hf rfl) fun a hf => ?_
      rcases cond_some h89 with ⟨hc95, h89⟩ | ⟨hc95, h89⟩
      · refine pl_gs (wanted_f hf rfl rfl rfl rfl hc95) hf rfl rfl fun a hf => ?_
        refine pl_gs (wanted_f hf rfl rfl rfl rfl hc95) hf rfl rfl fun a hf => ?_
        refine pl_gs (wanted_f hf rfl rfl rfl rfl hc95) hf rfl rfl fun a hf => ?_
        refine pl_gs (wanted_f hf rfl rfl rfl rfl hc95) hf rfl rfl fun a hf => ?_
        refine q_ hf rfl rfl rfl (e_pick_t hf rfl hc95 rfl) fun a hf => ?_
        refine pl_nil ?_
        obtain rfl := some_inj h89
        refine then_n ?_
        exact ⟨true, rfl, hf.keep ⟨rfl, rfl, rfl, trivial⟩, hM.pick [0, 1] rfl⟩
      · refine gq (wanted_t hf rfl rfl rfl rfl hc95) hf rfl rfl (e_loadA hf (us := [vI ((y7.length : Int)), vI ((e17.length : Int)), vS (y26)]) rfl ⟨Tryz.isAgg25, Tryz.sizeOf25⟩ rfl (hM.boxSub (k := 0) (us := [vI ((y7.length : Int)), vI ((e17.length : Int)), vS (y26)]) (o := 0) rfl rfl)) fun a hf => ?_
        obtain ⟨y97, hz98, h89⟩ := bind_some h89
        refine pl_gl (wanted_t hf rfl rfl rfl rfl hc95) hf rfl rfl (w_call hf Tryz.call12 rfl (r_impl_GridText ⟨_, Sh C _ _, none_, hM.sh_lt, none_not, C.G, hM.g_lt, g_none, hM.tabs⟩ (⟨(y7.length : Int), (e17.length : Int), y26⟩ : Grid) (R64_len hl16) (R64_len hv25) hv79 _ hz98) ?_)
        rintro _ w100 ⟨rfl, hM2, hv99⟩
        obtain ⟨hM, hx101, hup102⟩ := hM.back hM2
        dsimp only [List.cons_append, List.nil_append] at hM hup102
        clear hM2
        refine ⟨_, rfl, fun a hf => ?_⟩
        refine gq (wanted_t hf rfl rfl rfl rfl hc95) hf rfl rfl (e_move hf rfl) fun a hf => ?_
        refine gq (wanted_t hf rfl rfl rfl rfl hc95) hf rfl rfl (e_neS hf (x := y97) (y := s1) rfl rfl) fun a hf => ?_
        refine q_ hf rfl rfl rfl (e_pick_f hf rfl hc95 rfl) fun a hf => ?_
        refine pl_nil ?_
        obtain rfl := some_inj h89
        refine then_n ?_
        exact ⟨(y97 != s1), rfl, hf.keep ⟨rfl, rfl, rfl, trivial⟩, hM.pick [0, 1] rfl⟩
    · rintro a w104 ⟨t86, rfl, hf, hM⟩
      try dsimp only at h
      rcases cond_some h with ⟨hc105, h⟩ | ⟨hc105, h⟩
      · refine cond_t hf rfl hc105 ?_
        refine wp_seq ?_
        refine region_pl ?_
        refine q_ hf rfl rfl rfl (e_build hf Tryz.zeroValue25 Tryz.underlying25 (bp_25 _ Tryz.underlying25.symm) rfl (cs := #[vI (0), vI (0), vS (([] : Str))]) (by kernel_rfl)) fun a hf => ?_
        refine pl_0 hf rfl rfl (w_store hf hM (us := [vI (0), vI (0), vS (([] : Str))]) (cs' := [vI (0), vI (0), vS (([] : Str))]) rfl rfl (k := 1) rfl rfl Tryz.sizeOf25 rfl rfl rfl fun w106 hM => ?_)
        dsimp only [List.set] at hM
        refine q_ hf rfl rfl rfl (e_assign hf rfl) fun a hf => ?_
        refine pl_nil ?_
        refine then_n ?_
        refine wp_ret ?_
        refine then_r ?_
        obtain rfl := some_inj h
        have hres109 := leaveV2 (P := Tryz.prog) Tryz.results13 (res_agg hf rfl ⟨Tryz.isAgg25, Tryz.sizeOf25⟩ (us := [vI (0), vI (0), vS (([] : Str))]) rfl (hM.boxSub (k := 1) (o := 0) rfl rfl)) (res_tmp hf rfl)
        have hM := hM.outs (own' := []) 0 rfl
        exact bodyPost_ret hres109 hf.defers ⟨rfl, hM.fin, (R64_lit rfl), (R64_lit rfl), (lit_len rfl)⟩
      · refine cond_f hf rfl hc105 ?_
        refine wp_skip ?_
        refine then_n ?_
        refine wp_seq ?_
        refine region_pl ?_
        refine q_ hf rfl rfl rfl (e_loadA hf (us := [vI ((y7.length : Int)), vI ((e17.length : Int)), vS (y26)]) rfl ⟨Tryz.isAgg25, Tryz.sizeOf25⟩ rfl (hM.boxSub (k := 0) (us := [vI ((y7.length : Int)), vI ((e17.length : Int)), vS (y26)]) (o := 0) rfl rfl)) fun a hf => ?_
        refine pl_0 hf rfl rfl (w_store hf hM (us := [vI ((y7.length : Int)), vI ((e17.length : Int)), vS (y26)]) (cs' := [vI ((y7.length : Int)), vI ((e17.length : Int)), vS (y26)]) rfl rfl (k := 1) rfl rfl Tryz.sizeOf25 rfl rfl rfl fun w110 hM => ?_)
        dsimp only [List.set] at hM
        refine q_ hf rfl rfl rfl (e_assign hf rfl) fun a hf => ?_
        refine pl_nil ?_
        refine then_n ?_
        refine wp_ret ?_
        obtain rfl := some_inj h
        have hres113 := leaveV2 (P := Tryz.prog) Tryz.results13 (res_agg hf rfl ⟨Tryz.isAgg25, Tryz.sizeOf25⟩ (us := [vI ((y7.length : Int)), vI ((e17.length : Int)), vS (y26)]) rfl (hM.boxSub (k := 1) (o := 0) rfl rfl)) (res_tmp hf rfl)
        have hM := hM.outs (own' := []) 0 rfl
        exact bodyPost_ret hres113 hf.defers ⟨rfl, hM.fin, (R64_len hl16), (R64_len hv25), hv79⟩

set_option maxRecDepth 100000 in
set_option maxHeartbeats 4000000 in
theorem r_spec_l25Text (C : Cx) (g1 : Grid) (b2 : Nat) (o3 : Nat) (hp4 : (ptrRep GridRep).R C.w0 C.S0 g1 [vP b2 o3]) (r : Str) (h : m_spec_l25Text g1 = some r) :
    Calls Tryz.prog 44 #[vP b2 (o3)] C.w0 fun e w => e = .returned (vS (r)) ∧ Mem C w [] [] ∧ r.length ≤ maxLen := by
  have hM := Mem.begin C [.dat (ptrRep GridRep) g1 [vP b2 o3]] ⟨hp4, trivial⟩
  refine enter Tryz.func44 rfl Tryz.ntmps44 rfl fun a hf => ?_
  unfold m_spec_l25Text at h
  refine wp_seq ?_
  refine region_pl ?_
  refine q_ hf rfl rfl rfl (e_assign hf rfl) fun a hf => ?_
  refine pl_nil ?_
  refine then_n ?_
  refine wp_seq ?_
  refine region_pl ?_
  refine q_ hf rfl rfl rfl (e_assign hf rfl) fun a hf => ?_
  refine pl_nil ?_
  refine then_n ?_
  obtain ⟨x7, h8, h⟩ := bind_some h
  refine seq_join (fun a w => ∃ (r5 : Str), r5 = x7 ∧ Has 38 a [(3, vS (r5))] ∧ Mem C w [] [.dat (ptrRep GridRep) g1 [vP b2 o3]] ∧ r5.length ≤ maxLen) ?_ ?_
  · refine wp_seq ?_
    refine region_pl ?_
    refine q_ hf rfl rfl rfl (e_assign hf rfl) fun a hf => ?_
    refine pl_nil ?_
    refine then_n ?_
    refine wp_block ?_
    obtain ⟨x16, h17, h8⟩ := bind_some h8
    refine wp_loopM h17 (fun s a w => ∃ (r9 : Str) (n11 : Int), (r9, n11) = s ∧ Has 38 a [(0, vP b2 (o3)), (3, vS (r9)), (4, vI (n11))] ∧ Mem C w [] [.dat (ptrRep GridRep) g1 [vP b2 o3]] ∧ r9.length ≤ maxLen ∧ R64 n11) ?_ ?_
    · exact ⟨([] : Str), 0, rfl, hf.keep ⟨rfl, rfl, rfl, trivial⟩, hM.pick [0] rfl, (lit_len rfl), (R64_lit rfl)⟩
    · rintro s o18 a w13 ⟨r9, n11, rfl, hf, hM, hv10, hv12⟩ h19 hd20
      replace h19 : m_spec_l25Text_l1 g1 r9 n11 = some o18 := h19
      unfold m_spec_l25Text_l1 at h19
      refine wp_seq ?_
      refine wp_seq ?_
      refine region_pl ?_
      refine q_ hf rfl rfl rfl (e_move hf rfl) fun a hf => ?_
      refine q_ hf rfl rfl rfl (e_move hf rfl) fun a hf => ?_
      refine q_ hf rfl rfl rfl (e_nil hf rfl) fun a hf => ?_
      obtain ⟨_, hr21, hM⟩ := hM.deref (hM.dat (k := 0) rfl)
      obtain ⟨rfl, hv22, hv23, hv24⟩ := GridRep_open hr21
      refine q_ hf rfl rfl rfl (e_field hf rfl Tryz.underlying25 rfl Tryz.sizeOf2 (o' := o3 + 0) rfl) fun a hf => ?_
      refine q_ hf rfl rfl rfl (e_load1 hf rfl Tryz.isAgg2 (hM.litCell (k := 0) (j := 0) rfl rfl rfl)) fun a hf => ?_
      refine q_ hf rfl rfl rfl (e_lt hf (x := n11) (y := g1.Rows) rfl rfl) fun a hf => ?_
      refine pl_nil ?_
      refine then_n ?_
      rcases cond_some h19 with ⟨hc25, h19⟩ | ⟨hc25, h19⟩
      · refine cond_t hf rfl hc25 ?_
        refine wp_skip ?_
        refine then_n ?_
        refine wp_seq ?_
        refine wp_block ?_
        obtain ⟨x28, h29, h19⟩ := bind_some h19
        refine seq_join (fun a w => ∃ (r26 : Str), r26 = x28 ∧ Has 38 a [(0, vP b2 (o3)), (3, vS (r26)), (4, vI (n11))] ∧ Mem C w [] [.lit b2 (o3) [vI (g1.Rows), vI (g1.Cols), vS (g1.Cells)], .dat (ptrRep GridRep) g1 [vP b2 o3]] ∧ r26.length ≤ maxLen) ?_ ?_
        · refine wp_seq ?_
          refine region_pl ?_
          refine q_ hf rfl rfl rfl (e_move hf rfl) fun a hf => ?_
          refine q_ hf rfl rfl rfl (e_gt hf (x := n11) (y := 0) rfl rfl) fun a hf => ?_
          refine pl_nil ?_
          refine then_n ?_
          rcases cond_some h29 with ⟨hc30, h29⟩ | ⟨hc30, h29⟩
          · refine cond_t hf rfl hc30 ?_
            refine region_pl ?_
            refine q_ hf rfl rfl rfl (e_move hf rfl) fun a hf => ?_
            obtain ⟨s31, hz32, h29⟩ := bind_some h29
            refine q_ hf rfl rfl rfl (e_cat hf (x := r9) (y := ([47] : Str)) rfl rfl hz32) fun a hf => ?_
            refine q_ hf rfl rfl rfl (e_assign hf rfl) fun a hf => ?_
            refine pl_nil ?_
            obtain rfl := some_inj h29
            refine then_n ?_
            exact ⟨s31, rfl, hf.keep ⟨rfl, rfl, rfl, trivial⟩, hM.pick [0, 1] rfl, (cat_len hz32)⟩
          · refine cond_f hf rfl hc30 ?_
            refine wp_skip ?_
            obtain rfl := some_inj h29
            refine then_n ?_
            exact ⟨r9, rfl, hf.keep ⟨rfl, rfl, rfl, trivial⟩, hM.pick [0, 1] rfl, hv10⟩
        · rintro a w35 ⟨r26, rfl, hf, hM, hv27⟩
          try dsimp only at h19
          obtain ⟨w36, hw⟩ : ∃ x, x = w35.drew := ⟨_, rfl⟩
          refine region_pi (.q 0 (.q 1 (.q 2 (.q 3 (.q 4 (.q 5 (.q 6 (.q 7 (.q 8 (.q 9 (.q 10 (.q 11 (.q 12 (.q 13 (.q 14 (.q 15 (.q 16 (.q 17 (.q 18 (.q 19 (.q 20 (.nil)))))))))))))))))))))) (Ext w36) rfl (by kernel_rfl) ?_
          have hM := hM.drew
          rw [← hw] at hM ⊢
          clear hw
          refine pi_q hf rfl rfl rfl rfl (Ext.refl _) (e_move hf rfl) fun a hf => ?_
          refine pi_q hf rfl rfl rfl rfl (Ext.refl _) (e_move hf rfl) fun a hf => ?_
          refine pi_q hf rfl rfl rfl rfl (Ext.refl _) (e_nil hf rfl) fun a hf => ?_
          refine pi_q hf rfl rfl rfl rfl (Ext.refl _) (e_field hf rfl Tryz.underlying25 rfl Tryz.sizeOf9 (o' := o3 + 2) rfl) fun a hf => ?_
          refine pi_q hf rfl rfl rfl rfl (Ext.refl _) (e_load1 hf rfl Tryz.isAgg9 (hM.litCell (k := 0) (j := 2) rfl rfl rfl)) fun a hf => ?_
          refine pi_q hf rfl rfl rfl rfl (Ext.refl _) (e_move hf rfl) fun a hf => ?_
          refine pi_q hf rfl rfl rfl rfl (Ext.refl _) (e_move hf rfl) fun a hf => ?_
          refine pi_q hf rfl rfl rfl rfl (Ext.refl _) (e_nil hf rfl) fun a hf => ?_
          refine pi_q hf rfl rfl rfl rfl (Ext.refl _) (e_field hf rfl Tryz.underlying25 rfl Tryz.sizeOf2 (o' := o3 + 1) rfl) fun a hf => ?_
          refine pi_q hf rfl rfl rfl rfl (Ext.refl _) (e_load1 hf rfl Tryz.isAgg2 (hM.litCell (k := 0) (j := 1) rfl rfl rfl)) fun a hf => ?_
          obtain ⟨z37, hz38, h19⟩ := bind_some h19
          refine pi_q hf rfl rfl rfl rfl (Ext.refl _) (e_mul hf rfl rfl hz38) fun a hf => ?_
          refine pi_q hf rfl rfl rfl rfl (Ext.refl _) (e_move hf rfl) fun a hf => ?_
          obtain ⟨z39, hz40, h19⟩ := bind_some h19
          refine pi_q hf rfl rfl rfl rfl (Ext.refl _) (e_add hf rfl rfl hz40) fun a hf => ?_
          refine pi_q hf rfl rfl rfl rfl (Ext.refl _) (e_move hf rfl) fun a hf => ?_
          refine pi_q hf rfl rfl rfl rfl (Ext.refl _) (e_nil hf rfl) fun a hf => ?_
          refine pi_q hf rfl rfl rfl rfl (Ext.refl _) (e_field hf rfl Tryz.underlying25 rfl Tryz.sizeOf2 (o' := o3 + 1) rfl) fun a hf => ?_
          refine pi_q hf rfl rfl rfl rfl (Ext.refl _) (e_load1 hf rfl Tryz.isAgg2 (hM.litCell (k := 0) (j := 1) rfl rfl rfl)) fun a hf => ?_
          obtain ⟨z41, hz42, h19⟩ := bind_some h19
          refine pi_q hf rfl rfl rfl rfl (Ext.refl _) (e_mul hf rfl rfl hz42) fun a hf => ?_
          obtain ⟨s43, hz44, h19⟩ := bind_some h19
          refine pi_q hf rfl rfl rfl rfl (Ext.refl _) (e_subS hf (x := g1.Cells) rfl rfl rfl Tryz.underlying9 hz44) fun a hf => ?_
          obtain ⟨s45, hz46, h19⟩ := bind_some h19
          refine pi_q hf rfl rfl rfl rfl (Ext.refl _) (e_cat hf (x := r26) (y := s43) rfl rfl hz46) fun a hf => ?_
          refine pi_q hf rfl rfl rfl rfl (Ext.refl _) (e_assign hf rfl) fun a hf => ?_
          refine pi_nil ?_
          refine blk_n ?_
          refine then_n ?_
          refine region_pl ?_
          refine q_ hf rfl rfl rfl (e_move hf rfl) fun a hf => ?_
          obtain ⟨z47, hz48, h19⟩ := bind_some h19
          refine q_ hf rfl rfl rfl (e_add hf rfl rfl hz48) fun a hf => ?_
          refine q_ hf rfl rfl rfl (e_assign hf rfl) fun a hf => ?_
          refine pl_nil ?_
          obtain rfl := some_inj h19
          refine then_n ⟨_, rfl, ?_⟩
          exact ⟨s45, z47, rfl, hf.keep ⟨rfl, rfl, rfl, trivial⟩, hM.pick [1] rfl, (cat_len hz46), (chk_R hz48)⟩
      · refine cond_f hf rfl hc25 ?_
        refine wp_exit ?_
        refine then_x ?_
        obtain rfl := some_inj h19
        obtain rfl := hd20 _ rfl
        try dsimp only at h8
        refine then_x ?_
        refine exit_hit ?_
        obtain rfl := some_inj h8
        refine then_n ?_
        exact ⟨r9, rfl, hf.keep ⟨rfl, trivial⟩, hM.pick [1] rfl, hv10⟩
  · rintro a w54 ⟨r5, rfl, hf, hM, hv6⟩
    try dsimp only at h
    refine wp_seq ?_
    refine region_pl ?_
    refine q_ hf rfl rfl rfl (e_move hf rfl) fun a hf => ?_
    refine q_ hf rfl rfl rfl (e_assign hf rfl) fun a hf => ?_
    refine pl_nil ?_
    refine then_n ?_
    refine wp_ret ?_
    obtain rfl := some_inj h
    exact leave1 hf rfl rfl ⟨rfl, hM.fin, hv6⟩

set_option maxRecDepth 100000 in
set_option maxHeartbeats 4000000 in
theorem r_spec_l01Spoil (C : Cx) (s1 : l00Src) (b2 : Nat) (A3 : Option Addr) (c4 : Nat) (hp5 : (sliceRep byteRep).R C.w0 C.S0 s1.code [vL A3 s1.code c4]) (hp6 : R64 s1.at_) (hp7 : U64 s1.seed) (t8 : Str) (hp9 : t8.length ≤ maxLen) (hO : Mem C C.w0 [.box b2 [vL A3 (s1.code) c4, vI (s1.at_), vW (s1.seed)] 84] []) (hd : ∀ b, C.S0 b → ¬ ownB [.box b2 [vL A3 (s1.code) c4, vI (s1.at_), vW (s1.seed)] 84] b) (r : (Str × l00Src)) (h : m_spec_l01Spoil s1 t8 = some r) :
    Calls Tryz.prog 45 #[vP b2 (0), vS (t8)] C.w0 fun e w => ∃ (A_1 : Option Addr), ∃ (c_1 : Nat), e = .returned (vS (r.1)) ∧ Mem C w [.box b2 [vL A_1 (r.2.code) c_1, vI (r.2.at_), vW (r.2.seed)] 84] [] ∧ (sliceRep byteRep).R w (Sh C [.box b2 [vL A_1 (r.2.code) c_1, vI (r.2.at_), vW (r.2.seed)] 84] w) r.2.code [vL A_1 r.2.code c_1] ∧ R64 r.2.at_ ∧ U64 r.2.seed ∧ r.1.length ≤ maxLen := by
  have hM := hO
  have hM := hM.addIn hd (y := .dat (sliceRep byteRep) s1.code [vL A3 s1.code c4]) hp5
  refine enter Tryz.func45 rfl Tryz.ntmps45 rfl fun a hf => ?_
  unfold m_spec_l01Spoil at h
  refine wp_seq ?_
  refine region_pl ?_
  refine q_ hf rfl rfl rfl (e_assign hf rfl) fun a hf => ?_
  refine pl_nil ?_
  refine then_n ?_
  obtain ⟨x19, h20, h⟩ := bind_some h
  refine seq_join (fun a w => ∃ (l10 : Str) (n13 : Int) (n15 : Int) (t17 : Str) (A11 : Option Addr) (c12 : Nat), (l10, n13, n15, t17) = x19 ∧ Has 44 a [(1, vS (t17))] ∧ Mem C w [.box b2 [vL A11 (l10) c12, vI (n13), vW (n15)] 84] [.dat (sliceRep byteRep) l10 [vL A11 l10 c12], .dat (sliceRep byteRep) s1.code [vL A3 s1.code c4]] ∧ R64 n13 ∧ U64 n15 ∧ t17.length ≤ maxLen) ?_ ?_
  · refine wp_seq ?_
    refine region_pl ?_
    refine q_ hf rfl rfl rfl (e_move hf rfl) fun a hf => ?_
    have hM : Mem C _ ([.box b2 [vL A3 (s1.code) c4, vI (s1.at_), vW (s1.seed)] 84] ++ []) _ := hM
    obtain ⟨y21, hz22, h20⟩ := bind_some h20
    refine pl_l hf rfl rfl rfl (w_call hf Tryz.call52 rfl (r_spec_l00Src_pick ⟨_, Sh C _ _, ownB _, hM.sh_lt, sub_dis, C.G, hM.g_lt, hM.g_own, hM.tabs⟩ s1 _ _ _ (hM.dat (k := 0) rfl) hp6 hp7 5 (R64_lit rfl) hM.sub sub_dis _ hz22) ?_)
    rintro _ w29 ⟨A23, c24, rfl, hM2, hv25, hv26, hv27, hv28⟩
    obtain ⟨hM, hup31⟩ := hM.backG hM2
    dsimp only [List.cons_append, List.nil_append] at hM hup31
    clear hM2
    have hM := hM.add (y := .dat (sliceRep byteRep) y21.2.code [vL A23 y21.2.code c24]) (hup31 hv25)
    refine ⟨_, rfl, fun a hf => ?_⟩
    refine pl_nil ?_
    refine then_n ?_
    refine wp_block ?_
    refine wp_seq ?_
    refine region_pl ?_
    refine q_ hf rfl rfl rfl (e_eq hf (x := y21.1) (y := 0) rfl rfl) fun a hf => ?_
    refine q_ hf rfl rfl rfl (e_assign hf rfl) fun a hf => ?_
    refine pl_nil ?_
    refine then_n ?_
    rcases cond_some h20 with ⟨hc32, h20⟩ | ⟨hc32, h20⟩
    · refine cond_t hf rfl hc32 ?_
      refine wp_seq ?_
      refine region_pl ?_
      refine q_ hf rfl rfl rfl (e_move hf rfl) fun a hf => ?_
      refine q_ hf rfl rfl rfl (e_move hf rfl) fun a hf => ?_
      refine q_ hf rfl rfl rfl (e_lenS hf (x := t8) rfl Tryz.underlying9) fun a hf => ?_
      obtain ⟨z33, hz34, h20⟩ := bind_some h20
      refine q_ hf rfl rfl rfl (e_add hf rfl rfl hz34) fun a hf => ?_
      have hM : Mem C _ ([.box b2 [vL A23 (y21.2.code) c24, vI (y21.2.at_), vW (y21.2.seed)] 84] ++ []) _ := hM
      obtain ⟨y35, hz36, h20⟩ := bind_some h20
      refine pl_l hf rfl rfl rfl (w_call hf Tryz.call52 rfl (r_spec_l00Src_pick ⟨_, Sh C _ _, ownB _, hM.sh_lt, sub_dis, C.G, hM.g_lt, hM.g_own, hM.tabs⟩ y21.2 _ _ _ (hM.dat (k := 0) rfl) hv26 hv27 z33 (chk_R hz34) hM.sub sub_dis _ hz36) ?_)
      rintro _ w43 ⟨A37, c38, rfl, hM2, hv39, hv40, hv41, hv42⟩
      obtain ⟨hM, hup45⟩ := hM.backG hM2
      dsimp only [List.cons_append, List.nil_append] at hM hup45
      clear hM2
      have hM := hM.add (y := .dat (sliceRep byteRep) y35.2.code [vL A37 y35.2.code c38]) (hup45 hv39)
      refine ⟨_, rfl, fun a hf => ?_⟩
      refine q_ hf rfl rfl rfl (e_assign hf rfl) fun a hf => ?_
      refine pl_nil ?_
      refine then_n ?_
      obtain ⟨w46, hw⟩ : ∃ x, x = w43.drew := ⟨_, rfl⟩
      refine region_pi (.q 0 (.q 1 (.q 2 (.q 3 (.q 7 (.q 8 (.q 9 (.l 4 (.l 5 (.q 6 (.q 10 (.q 11 (.nil))))))))))))) (ExtM [some b2] w46) rfl (by kernel_rfl) ?_
      have hM := hM.drew
      rw [← hw] at hM ⊢
      clear hw
      refine pi_q hf rfl rfl rfl rfl (ExtM.refl _ _) (e_move hf rfl) fun a hf => ?_
      refine pi_q hf rfl rfl rfl rfl (ExtM.refl _ _) (e_move hf rfl) fun a hf => ?_
      obtain ⟨s47, hz48, h20⟩ := bind_some h20
      refine pi_q hf rfl rfl rfl rfl (ExtM.refl _ _) (e_subSh hf (x := t8) rfl rfl Tryz.underlying9 hz48) fun a hf => ?_
      refine pi_q hf rfl rfl rfl rfl (ExtM.refl _ _) (e_move hf rfl) fun a hf => ?_
      refine pi_q hf rfl rfl rfl rfl (ExtM.refl _ _) (e_move hf rfl) fun a hf => ?_
      refine pi_q hf rfl rfl rfl rfl (ExtM.refl _ _) (e_move hf rfl) fun a hf => ?_
      obtain ⟨s49, hz50, h20⟩ := bind_some h20
      refine pi_q hf rfl rfl rfl rfl (ExtM.refl _ _) (e_subSl hf (x := t8) rfl rfl Tryz.underlying9 hz50) fun a hf => ?_
      refine pi_one ?_
      refine pi_l hf rfl rfl rfl rfl (w_slice hf hM (K := strRep) (xs := ([([32] : Str), ([48] : Str), ([45] : Str), ([120] : Str), ([49] : Str), ([57] : Str), ([46] : Str)] : (List Str))) (os := [.const (.string ⟨#[32]⟩), .const (.string ⟨#[48]⟩), .const (.string ⟨#[45]⟩), .const (.string ⟨#[120]⟩), .const (.string ⟨#[49]⟩), .const (.string ⟨#[57]⟩), .const (.string ⟨#[46]⟩)]) Tryz.underlying39 ei_9 rfl rfl rfl rfl rfl ⟨⟨[vS (([32] : Str))], rfl, ⟨rfl, (lit_len rfl)⟩⟩, ⟨[vS (([48] : Str))], rfl, ⟨rfl, (lit_len rfl)⟩⟩, ⟨[vS (([45] : Str))], rfl, ⟨rfl, (lit_len rfl)⟩⟩, ⟨[vS (([120] : Str))], rfl, ⟨rfl, (lit_len rfl)⟩⟩, ⟨[vS (([49] : Str))], rfl, ⟨rfl, (lit_len rfl)⟩⟩, ⟨[vS (([57] : Str))], rfl, ⟨rfl, (lit_len rfl)⟩⟩, ⟨[vS (([46] : Str))], rfl, ⟨rfl, (lit_len rfl)⟩⟩, trivial⟩ rfl fun b51 w52 hx53 hM => ⟨ExtM [some b2] w52, fun _ h => ExtM.trans hx53 h, ExtM.refl _ _, fun a hf => ?_⟩)
      refine pi_one ?_
      have hM := hM.freezeRow (k := 0) rfl rfl
      dsimp only [List.eraseIdx] at hM
      have hM : Mem C _ ([.box b2 [vL A37 (y35.2.code) c38, vI (y35.2.at_), vW (y35.2.seed)] 84] ++ []) _ := hM
      obtain ⟨y54, hz55, h20⟩ := bind_some h20
      refine pi_l hf rfl rfl rfl rfl (w_call hf Tryz.call25 rfl (r_spec_l00Src_text ⟨_, Sh C _ _, ownB _, hM.sh_lt, sub_dis, C.G, hM.g_lt, hM.g_own, hM.tabs⟩ y35.2 _ _ _ (hM.dat (k := 1) rfl) hv40 hv41 ([([32] : Str), ([48] : Str), ([45] : Str), ([120] : Str), ([49] : Str), ([57] : Str), ([46] : Str)] : (List Str)) _ _ (hM.dat (k := 0) rfl) hM.sub sub_dis _ hz55) ?_)
      rintro _ w62 ⟨A56, c57, rfl, hM2, hv58, hv59, hv60, hv61⟩
      have hxm65 := ExtM.ofChg (bs := [some b2]) hM2.chg ⟨List.mem_of_getElem? (i := 0) rfl, trivial⟩
      have hsz66 := hM2.chg.size
      obtain ⟨hM, hup64⟩ := hM.backG hM2
      dsimp only [List.cons_append, List.nil_append] at hM hup64
      clear hM2
      have hM := hM.add (y := .dat (sliceRep byteRep) y54.2.code [vL A56 y54.2.code c57]) (hup64 hv58)
      refine ⟨_, rfl, Ext w62, fun _ h => ExtM.last hxm65 hsz66 h, Ext.refl _, fun a hf => ?_⟩
      obtain ⟨s67, hz68, h20⟩ := bind_some h20
      refine pi_q hf rfl rfl rfl rfl (Ext.refl _) (e_cat hf (x := s47) (y := y54.1) rfl rfl hz68) fun a hf => ?_
      obtain ⟨s69, hz70, h20⟩ := bind_some h20
      refine pi_q hf rfl rfl rfl rfl (Ext.refl _) (e_cat hf (x := s67) (y := s49) rfl rfl hz70) fun a hf => ?_
      refine pi_q hf rfl rfl rfl rfl (Ext.refl _) (e_assign hf rfl) fun a hf => ?_
      refine pi_nil ?_
      refine blk_n ?_
      obtain rfl := some_inj h20
      refine then_n ?_
      exact ⟨y54.2.code, y54.2.at_, y54.2.seed, s69, A56, c57, rfl, hf.keep ⟨rfl, trivial⟩, hM.pick [0, 4] rfl, hv59, hv60, (cat_len hz70)⟩
    · refine cond_f hf rfl hc32 ?_
      refine wp_seq ?_
      refine region_pl ?_
      refine q_ hf rfl rfl rfl (e_eq hf (x := y21.1) (y := 1) rfl rfl) fun a hf => ?_
      refine q_ hf rfl rfl rfl (e_assign hf rfl) fun a hf => ?_
      refine pl_nil ?_
      refine then_n ?_
      rcases cond_some h20 with ⟨hc72, h20⟩ | ⟨hc72, h20⟩
      · refine cond_t hf rfl hc72 ?_
        refine wp_seq ?_
        refine region_pl ?_
        refine q_ hf rfl rfl rfl (e_move hf rfl) fun a hf => ?_
        refine q_ hf rfl rfl rfl (e_neS hf (x := t8) (y := ([] : Str)) rfl rfl) fun a hf => ?_
        refine pl_nil ?_
        refine then_n ?_
        rcases cond_some h20 with ⟨hc73, h20⟩ | ⟨hc73, h20⟩
        · refine cond_t hf rfl hc73 ?_
          refine wp_seq ?_
          refine region_pl ?_
          refine q_ hf rfl rfl rfl (e_move hf rfl) fun a hf => ?_
          refine q_ hf rfl rfl rfl (e_move hf rfl) fun a hf => ?_
          refine q_ hf rfl rfl rfl (e_lenS hf (x := t8) rfl Tryz.underlying9) fun a hf => ?_
          have hM : Mem C _ ([.box b2 [vL A23 (y21.2.code) c24, vI (y21.2.at_), vW (y21.2.seed)] 84] ++ []) _ := hM
          obtain ⟨y74, hz75, h20⟩ := bind_some h20
          refine pl_l hf rfl rfl rfl (w_call hf Tryz.call52 rfl (r_spec_l00Src_pick ⟨_, Sh C _ _, ownB _, hM.sh_lt, sub_dis, C.G, hM.g_lt, hM.g_own, hM.tabs⟩ y21.2 _ _ _ (hM.dat (k := 0) rfl) hv26 hv27 (t8.length : Int) (R64_len hp9) hM.sub sub_dis _ hz75) ?_)
          rintro _ w82 ⟨A76, c77, rfl, hM2, hv78, hv79, hv80, hv81⟩
          obtain ⟨hM, hup84⟩ := hM.backG hM2
          dsimp only [List.cons_append, List.nil_append] at hM hup84
          clear hM2
          have hM := hM.add (y := .dat (sliceRep byteRep) y74.2.code [vL A76 y74.2.code c77]) (hup84 hv78)
          refine ⟨_, rfl, fun a hf => ?_⟩
          refine q_ hf rfl rfl rfl (e_assign hf rfl) fun a hf => ?_
          refine pl_nil ?_
          refine then_n ?_
          obtain ⟨w85, hw⟩ : ∃ x, x = w82.drew := ⟨_, rfl⟩
          refine region_pi (.q 0 (.q 1 (.q 2 (.q 3 (.q 4 (.q 5 (.q 6 (.q 7 (.q 8 (.nil)))))))))) (Ext w85) rfl (by kernel_rfl) ?_
          have hM := hM.drew
          rw [← hw] at hM ⊢
          clear hw
          refine pi_q hf rfl rfl rfl rfl (Ext.refl _) (e_move hf rfl) fun a hf => ?_
          refine pi_q hf rfl rfl rfl rfl (Ext.refl _) (e_move hf rfl) fun a hf => ?_
          obtain ⟨s86, hz87, h20⟩ := bind_some h20
          refine pi_q hf rfl rfl rfl rfl (Ext.refl _) (e_subSh hf (x := t8) rfl rfl Tryz.underlying9 hz87) fun a hf => ?_
          refine pi_q hf rfl rfl rfl rfl (Ext.refl _) (e_move hf rfl) fun a hf => ?_
          refine pi_q hf rfl rfl rfl rfl (Ext.refl _) (e_move hf rfl) fun a hf => ?_
          obtain ⟨z88, hz89, h20⟩ := bind_some h20
          refine pi_q hf rfl rfl rfl rfl (Ext.refl _) (e_add hf rfl rfl hz89) fun a hf => ?_
          obtain ⟨s90, hz91, h20⟩ := bind_some h20
          refine pi_q hf rfl rfl rfl rfl (Ext.refl _) (e_subSl hf (x := t8) rfl rfl Tryz.underlying9 hz91) fun a hf => ?_
          obtain ⟨s92, hz93, h20⟩ := bind_some h20
          refine pi_q hf rfl rfl rfl rfl (Ext.refl _) (e_cat hf (x := s86) (y := s90) rfl rfl hz93) fun a hf => ?_
          refine pi_q hf rfl rfl rfl rfl (Ext.refl _) (e_assign hf rfl) fun a hf => ?_
          refine pi_nil ?_
          refine blk_n ?_
          obtain rfl := some_inj h20
          refine then_n ?_
          exact ⟨y74.2.code, y74.2.at_, y74.2.seed, s92, A76, c77, rfl, hf.keep ⟨rfl, trivial⟩, hM.pick [0, 2] rfl, hv79, hv80, (cat_len hz93)⟩
        · refine cond_f hf rfl hc73 ?_
          refine wp_skip ?_
          refine blk_n ?_
          obtain rfl := some_inj h20
          refine then_n ?_
          exact ⟨y21.2.code, y21.2.at_, y21.2.seed, t8, A23, c24, rfl, hf.keep ⟨rfl, trivial⟩, hM.pick [0, 1] rfl, hv26, hv27, hp9⟩
      · refine cond_f hf rfl hc72 ?_
        refine wp_skip ?_
        refine blk_n ?_
        obtain rfl := some_inj h20
        refine then_n ?_
        exact ⟨y21.2.code, y21.2.at_, y21.2.seed, t8, A23, c24, rfl, hf.keep ⟨rfl, trivial⟩, hM.pick [0, 1] rfl, hv26, hv27, hp9⟩
  · rintro a w97 ⟨l10, n13, n15, t17, A11, c12, rfl, hf, hM, hv14, hv16, hv18⟩
    try dsimp only at h
    refine wp_seq ?_
    refine region_pl ?_
    refine q_ hf rfl rfl rfl (e_move hf rfl) fun a hf => ?_
    refine q_ hf rfl rfl rfl (e_assign hf rfl) fun a hf => ?_
    refine pl_nil ?_
    refine then_n ?_
    refine wp_ret ?_
    obtain rfl := some_inj h
    exact leave1 hf rfl rfl ⟨A11, c12, rfl, hM.fin, (hM.dat (k := 0) rfl), hv14, hv16, hv18⟩

set_option maxRecDepth 100000 in
set_option maxHeartbeats 4000000 in
theorem r_spec_DrawReadGrid (C : Cx) (code1 : Str) (A2 : Option Addr) (c3 : Nat) (hp4 : (sliceRep byteRep).R C.w0 C.S0 code1 [vL A2 code1 c3]) (r : Str) (h : m_spec_DrawReadGrid code1 = some r) :
    Calls Tryz.prog 14 #[vL A2 (code1) c3] C.w0 fun e w => e = .returned (vS (r)) ∧ Mem C w [] [] ∧ r.length ≤ maxLen := by
  have hM := Mem.begin C [.dat (sliceRep byteRep) code1 [vL A2 code1 c3]] ⟨hp4, trivial⟩
  refine enter Tryz.func14 rfl Tryz.ntmps14 rfl fun a hf => ?_
  unfold m_spec_DrawReadGrid at h
  refine wp_seq ?_
  refine region_pl ?_
  refine q_ hf rfl rfl rfl (e_assign hf rfl) fun a hf => ?_
  refine pl_nil ?_
  refine then_n ?_
  refine wp_seq ?_
  refine region_pl ?_
  refine q_ hf rfl rfl rfl (e_move hf rfl) fun a hf => ?_
  obtain ⟨y5, hz6, h⟩ := bind_some h
  refine pl_l hf rfl rfl rfl (w_call hf Tryz.call22 rfl (r_spec_l00From ⟨_, Sh C _ _, none_, hM.sh_lt, none_not, C.G, hM.g_lt, g_none, hM.tabs⟩ code1 _ _ (hM.dat (k := 0) rfl) _ hz6) ?_)
  rintro _ w13 ⟨b7, A8, c9, rfl, hM2, hv10, hv11, hv12⟩
  obtain ⟨hM, hx14, hup15⟩ := hM.back hM2
  dsimp only [List.cons_append, List.nil_append] at hM hup15
  clear hM2
  have hM := hM.add (y := .dat (sliceRep byteRep) y5.code [vL A8 y5.code c9]) (hup15 hv10)
  refine ⟨_, rfl, fun a hf => ?_⟩
  refine q_ hf rfl rfl rfl (e_assign hf rfl) fun a hf => ?_
  refine pl_nil ?_
  refine then_n ?_
  refine wp_seq ?_
  refine region_pl ?_
  refine q_ hf rfl rfl rfl (e_move hf rfl) fun a hf => ?_
  have hM : Mem C _ ([.box b7 [vL A8 (y5.code) c9, vI (y5.at_), vW (y5.seed)] 84] ++ []) _ := hM
  obtain ⟨y16, hz17, h⟩ := bind_some h
  refine pl_l hf rfl rfl rfl (w_call hf Tryz.call43 rfl (r_spec_l25Draw ⟨_, Sh C _ _, ownB _, hM.sh_lt, sub_dis, C.G, hM.g_lt, hM.g_own, hM.tabs⟩ y5 _ _ _ (hM.dat (k := 0) rfl) hv11 hv12 hM.sub sub_dis _ hz17) ?_)
  rintro _ w26 ⟨A18, c19, rfl, hM2, hv20, hv21, hv22, hv23, hv24, hv25⟩
  obtain ⟨hM, hup28⟩ := hM.backG hM2
  dsimp only [List.cons_append, List.nil_append] at hM hup28
  clear hM2
  have hM := hM.add (y := .dat (sliceRep byteRep) y16.2.code [vL A18 y16.2.code c19]) (hup28 hv20)
  refine ⟨_, rfl, fun a hf => ?_⟩
  refine pl_l hf rfl rfl rfl (w_alloc hM (cs := [vI (0), vI (0), vS (([] : Str))]) Tryz.zeroValue25 rfl fun b29 w30 hx31 hM a hf => ?_)
  refine pl_0 hf rfl rfl (w_store hf hM (us := [vI (y16.1.Rows), vI (y16.1.Cols), vS (y16.1.Cells)]) (cs' := [vI (y16.1.Rows), vI (y16.1.Cols), vS (y16.1.Cells)]) rfl rfl (k := 0) rfl rfl Tryz.sizeOf25 rfl rfl rfl fun w33 hM => ?_)
  dsimp only [List.set] at hM
  refine pl_nil ?_
  refine then_n ?_
  refine wp_seq ?_
  refine region_pl ?_
  obtain ⟨y36, hz37, h⟩ := bind_some h
  refine pl_l hf rfl rfl rfl (w_call hf Tryz.call44 rfl (r_spec_l25Text ⟨_, All C _ _, none_, hM.all_lt, none_not, C.G, hM.g_lt, g_none, hM.tabs⟩ y16.1 _ _ (hM.lendBox (k := 0) rfl (GridRep_mk (x := y16.1) hv23 hv24 hv25)) _ hz37) ?_)
  rintro _ w39 ⟨rfl, hM2, hv38⟩
  obtain ⟨hM, hx40⟩ := hM.backA hM2
  clear hM2
  refine ⟨_, rfl, fun a hf => ?_⟩
  refine q_ hf rfl rfl rfl (e_assign hf rfl) fun a hf => ?_
  refine pl_nil ?_
  refine then_n ?_
  refine wp_seq ?_
  refine wp_seq ?_
  refine region_pl ?_
  refine q_ hf rfl rfl rfl (e_move hf rfl) fun a hf => ?_
  have hM := hM.front (k := 1) rfl
  dsimp only [List.eraseIdx] at hM
  have hM : Mem C _ ([.box b7 [vL A18 (y16.2.code) c19, vI (y16.2.at_), vW (y16.2.seed)] 84] ++ [.box b29 [vI (y16.1.Rows), vI (y16.1.Cols), vS (y16.1.Cells)] 25]) _ := hM
  obtain ⟨y42, hz43, h⟩ := bind_some h
  refine pl_l hf rfl rfl rfl (w_call hf Tryz.call26 rfl (r_spec_l00Src_one ⟨_, Sh C _ _, ownB _, hM.sh_lt, sub_dis, C.G, hM.g_lt, hM.g_own, hM.tabs⟩ y16.2 _ _ _ (hM.dat (k := 0) rfl) hv21 hv22 3 (R64_lit rfl) hM.sub sub_dis _ hz43) ?_)
  rintro _ w49 ⟨A44, c45, rfl, hM2, hv46, hv47, hv48⟩
  obtain ⟨hM, hup51⟩ := hM.backG hM2
  dsimp only [List.cons_append, List.nil_append] at hM hup51
  clear hM2
  have hM := hM.add (y := .dat (sliceRep byteRep) y42.2.code [vL A44 y42.2.code c45]) (hup51 hv46)
  refine ⟨_, rfl, fun a hf => ?_⟩
  refine pl_nil ?_
  refine then_n ?_
  rcases cond_some h with ⟨hc52, h⟩ | ⟨hc52, h⟩
  · refine cond_t hf rfl hc52 ?_
    refine wp_seq ?_
    refine region_pl ?_
    refine q_ hf rfl rfl rfl (e_move hf rfl) fun a hf => ?_
    refine q_ hf rfl rfl rfl (e_move hf rfl) fun a hf => ?_
    have hM : Mem C _ ([.box b7 [vL A44 (y42.2.code) c45, vI (y42.2.at_), vW (y42.2.seed)] 84] ++ [.box b29 [vI (y16.1.Rows), vI (y16.1.Cols), vS (y16.1.Cells)] 25]) _ := hM
    obtain ⟨y53, hz54, h⟩ := bind_some h
    refine pl_l hf rfl rfl rfl (w_call hf Tryz.call45 rfl (r_spec_l01Spoil ⟨_, Sh C _ _, ownB _, hM.sh_lt, sub_dis, C.G, hM.g_lt, hM.g_own, hM.tabs⟩ y42.2 _ _ _ (hM.dat (k := 0) rfl) hv47 hv48 y36 hv38 hM.sub sub_dis _ hz54) ?_)
    rintro _ w61 ⟨A55, c56, rfl, hM2, hv57, hv58, hv59, hv60⟩
    obtain ⟨hM, hup63⟩ := hM.backG hM2
    dsimp only [List.cons_append, List.nil_append] at hM hup63
    clear hM2
    have hM := hM.add (y := .dat (sliceRep byteRep) y53.2.code [vL A55 y53.2.code c56]) (hup63 hv57)
    refine ⟨_, rfl, fun a hf => ?_⟩
    refine q_ hf rfl rfl rfl (e_assign hf rfl) fun a hf => ?_
    refine pl_nil ?_
    refine then_n ?_
    refine wp_ret ?_
    refine then_r ?_
    obtain rfl := some_inj h
    have hM := hM.outs (own' := []) 0 rfl
    exact leave1 hf rfl rfl ⟨rfl, hM.fin, hv60⟩
  · refine cond_f hf rfl hc52 ?_
    refine wp_skip ?_
    refine then_n ?_
    refine wp_seq ?_
    refine region_pl ?_
    refine q_ hf rfl rfl rfl (e_move hf rfl) fun a hf => ?_
    refine q_ hf rfl rfl rfl (e_assign hf rfl) fun a hf => ?_
    refine pl_nil ?_
    refine then_n ?_
    refine wp_ret ?_
    obtain rfl := some_inj h
    have hM := hM.outs (own' := []) 0 rfl
    exact leave1 hf rfl rfl ⟨rfl, hM.fin, hv38⟩

set_option maxRecDepth 100000 in
set_option maxHeartbeats 4000000 in
theorem r_spec_l01Split (C : Cx) (s1 : Str) (hp2 : s1.length ≤ maxLen) (by_3 : UInt8) (r : (List Str)) (h : m_spec_l01Split s1 by_3 = some r) :
    Calls Tryz.prog 46 #[vS (s1), vB (by_3)] C.w0 fun e w => ∃ (A_1 : Option Addr), ∃ (c_1 : Nat), e = .returned (vL A_1 (r) c_1) ∧ Mem C w [.row strRep A_1 c_1 9 r true] [] := by
  have hM := Mem.begin C [] trivial
  refine enter Tryz.func46 rfl Tryz.ntmps46 rfl fun a hf => ?_
  unfold m_spec_l01Split at h
  refine wp_seq ?_
  refine region_pl ?_
  refine q_ hf rfl rfl rfl (e_assign hf rfl) fun a hf => ?_
  refine pl_nil ?_
  refine then_n ?_
  refine wp_seq ?_
  refine region_pl ?_
  refine pl_l hf rfl rfl rfl (w_slice0 (K := strRep) hM Tryz.underlying39 ei_9 fun b4 w5 hx6 hM a hf => ?_)
  refine q_ hf rfl rfl rfl (e_assign hf rfl) fun a hf => ?_
  refine pl_nil ?_
  refine then_n ?_
  refine wp_seq ?_
  refine region_pl ?_
  refine q_ hf rfl rfl rfl (e_assign hf rfl) fun a hf => ?_
  refine pl_nil ?_
  refine then_n ?_
  obtain ⟨x12, h13, h⟩ := bind_some h
  refine seq_join (fun a w => ∃ (xs7 : (List Str)) (n10 : Int) (A8 : Option Addr) (c9 : Nat), (xs7, n10) = x12 ∧ Has 35 a [(0, vS (s1)), (5, vL A8 (xs7) c9), (6, vI (n10))] ∧ Mem C w [.row strRep A8 c9 9 xs7 true] [] ∧ R64 n10) ?_ ?_
  · refine wp_seq ?_
    refine region_pl ?_
    refine q_ hf rfl rfl rfl (e_assign hf rfl) fun a hf => ?_
    refine pl_nil ?_
    refine then_n ?_
    refine wp_block ?_
    obtain ⟨x27, h28, h13⟩ := bind_some h13
    refine wp_loopM h28 (fun s a w => ∃ (xs14 : (List Str)) (n17 : Int) (n19 : Int) (A15 : Option Addr) (c16 : Nat), (xs14, n17, n19) = s ∧ Has 35 a [(0, vS (s1)), (1, vB (by_3)), (5, vL A15 (xs14) c16), (6, vI (n17)), (7, vI (n19))] ∧ Mem C w [.row strRep A15 c16 9 xs14 true] [] ∧ R64 n17 ∧ R64 n19) ?_ ?_
    · exact ⟨([] : (List Str)), 0, 0, (some ⟨b4, 0, none⟩), 0, rfl, hf.keep ⟨rfl, rfl, rfl, rfl, rfl, trivial⟩, hM.pick [] rfl, (R64_lit rfl), (R64_lit rfl)⟩
    · rintro s o29 a w21 ⟨xs14, n17, n19, A15, c16, rfl, hf, hM, hv18, hv20⟩ h30 hd31
      replace h30 : m_spec_l01Split_l1 s1 by_3 xs14 n17 n19 = some o29 := h30
      unfold m_spec_l01Split_l1 at h30
      refine wp_seq ?_
      refine wp_seq ?_
      refine region_pl ?_
      refine q_ hf rfl rfl rfl (e_move hf rfl) fun a hf => ?_
      refine q_ hf rfl rfl rfl (e_move hf rfl) fun a hf => ?_
      refine q_ hf rfl rfl rfl (e_lenS hf (x := s1) rfl Tryz.underlying9) fun a hf => ?_
      refine q_ hf rfl rfl rfl (e_lt hf (x := n19) (y := (s1.length : Int)) rfl rfl) fun a hf => ?_
      refine pl_nil ?_
      refine then_n ?_
      rcases cond_some h30 with ⟨hc32, h30⟩ | ⟨hc32, h30⟩
      · refine cond_t hf rfl hc32 ?_
        refine wp_skip ?_
        refine then_n ?_
        obtain ⟨x38, h39, h30⟩ := bind_some h30
        refine seq_join (fun a w => ∃ (xs33 : (List Str)) (n36 : Int) (A34 : Option Addr) (c35 : Nat), (xs33, n36) = x38 ∧ Has 35 a [(0, vS (s1)), (1, vB (by_3)), (5, vL A34 (xs33) c35), (6, vI (n36)), (7, vI (n19))] ∧ Mem C w [.row strRep A34 c35 9 xs33 true] [] ∧ R64 n36) ?_ ?_
        · refine wp_block ?_
          refine wp_seq ?_
          refine region_pl ?_
          refine q_ hf rfl rfl rfl (e_move hf rfl) fun a hf => ?_
          refine q_ hf rfl rfl rfl (e_move hf rfl) fun a hf => ?_
          obtain ⟨c40, hz41, h39⟩ := bind_some h39
          refine q_ hf rfl rfl rfl (e_indexS hf (x := s1) rfl rfl Tryz.underlying9 hz41) fun a hf => ?_
          refine q_ hf rfl rfl rfl (e_move hf rfl) fun a hf => ?_
          refine q_ hf rfl rfl rfl (e_eqB hf (x := c40) (y := by_3) rfl rfl) fun a hf => ?_
          refine pl_nil ?_
          refine then_n ?_
          rcases cond_some h39 with ⟨hc42, h39⟩ | ⟨hc42, h39⟩
          · refine cond_t hf rfl hc42 ?_
            refine wp_seq ?_
            refine region_pl ?_
            refine q_ hf rfl rfl rfl (e_move hf rfl) fun a hf => ?_
            refine q_ hf rfl rfl rfl (e_move hf rfl) fun a hf => ?_
            refine q_ hf rfl rfl rfl (e_move hf rfl) fun a hf => ?_
            refine q_ hf rfl rfl rfl (e_move hf rfl) fun a hf => ?_
            obtain ⟨s43, hz44, h39⟩ := bind_some h39
            refine q_ hf rfl rfl rfl (e_subS hf (x := s1) rfl rfl rfl Tryz.underlying9 hz44) fun a hf => ?_
            refine pl_l hf rfl rfl rfl (w_slice hf hM (K := strRep) (xs := ([s43] : (List Str))) (os := [.tmp 24]) Tryz.underlying39 ei_9 rfl rfl rfl rfl rfl ⟨⟨[vS (s43)], rfl, ⟨rfl, (sub_len hz44 hp2)⟩⟩, trivial⟩ rfl fun b45 w46 hx47 hM a hf => ?_)
            obtain ⟨xs48, hz49, h39⟩ := bind_some h39
            refine pl_l hf rfl rfl rfl (w_append hf hM Tryz.underlying39 ei_9 rfl rfl rfl (k := 1) rfl (hM.srcRow (k := 0) rfl) hz49 fun A50 c51 w52 hM a hf => ?_)
            dsimp only [List.set] at hM
            refine q_ hf rfl rfl rfl (e_assign hf rfl) fun a hf => ?_
            refine pl_nil ?_
            refine then_n ?_
            refine region_pl ?_
            refine q_ hf rfl rfl rfl (e_move hf rfl) fun a hf => ?_
            obtain ⟨z55, hz56, h39⟩ := bind_some h39
            refine q_ hf rfl rfl rfl (e_add hf rfl rfl hz56) fun a hf => ?_
            refine q_ hf rfl rfl rfl (e_assign hf rfl) fun a hf => ?_
            refine pl_nil ?_
            refine blk_n ?_
            obtain rfl := some_inj h39
            refine then_n ?_
            exact ⟨xs48, z55, A50, c51, rfl, hf.keep ⟨rfl, rfl, rfl, rfl, rfl, trivial⟩, (hM.drop (.cons _ (.cons_cons _ .slnil))).pick [] rfl, (chk_R hz56)⟩
          · refine cond_f hf rfl hc42 ?_
            refine wp_skip ?_
            refine blk_n ?_
            obtain rfl := some_inj h39
            refine then_n ?_
            exact ⟨xs14, n17, A15, c16, rfl, hf.keep ⟨rfl, rfl, rfl, rfl, rfl, trivial⟩, hM.pick [] rfl, hv18⟩
        · rintro a w59 ⟨xs33, n36, A34, c35, rfl, hf, hM, hv37⟩
          try dsimp only at h30
          refine region_pl ?_
          refine q_ hf rfl rfl rfl (e_move hf rfl) fun a hf => ?_
          obtain ⟨z60, hz61, h30⟩ := bind_some h30
          refine q_ hf rfl rfl rfl (e_add hf rfl rfl hz61) fun a hf => ?_
          refine q_ hf rfl rfl rfl (e_assign hf rfl) fun a hf => ?_
          refine pl_nil ?_
          obtain rfl := some_inj h30
          refine then_n ⟨_, rfl, ?_⟩
          exact ⟨xs33, n36, z60, A34, c35, rfl, hf.keep ⟨rfl, rfl, rfl, rfl, rfl, trivial⟩, hM.pick [] rfl, hv37, (chk_R hz61)⟩
      · refine cond_f hf rfl hc32 ?_
        refine wp_exit ?_
        refine then_x ?_
        obtain rfl := some_inj h30
        obtain rfl := hd31 _ rfl
        try dsimp only at h13
        refine then_x ?_
        refine exit_hit ?_
        obtain rfl := some_inj h13
        refine then_n ?_
        exact ⟨xs14, n17, A15, c16, rfl, hf.keep ⟨rfl, rfl, rfl, trivial⟩, hM.pick [] rfl, hv18⟩
  · rintro a w67 ⟨xs7, n10, A8, c9, rfl, hf, hM, hv11⟩
    try dsimp only at h
    refine wp_seq ?_
    refine region_pl ?_
    refine q_ hf rfl rfl rfl (e_move hf rfl) fun a hf => ?_
    refine q_ hf rfl rfl rfl (e_move hf rfl) fun a hf => ?_
    refine q_ hf rfl rfl rfl (e_move hf rfl) fun a hf => ?_
    obtain ⟨s68, hz69, h⟩ := bind_some h
    refine q_ hf rfl rfl rfl (e_subSl hf (x := s1) rfl rfl Tryz.underlying9 hz69) fun a hf => ?_
    refine pl_l hf rfl rfl rfl (w_slice hf hM (K := strRep) (xs := ([s68] : (List Str))) (os := [.tmp 32]) Tryz.underlying39 ei_9 rfl rfl rfl rfl rfl ⟨⟨[vS (s68)], rfl, ⟨rfl, (sub_len hz69 hp2)⟩⟩, trivial⟩ rfl fun b70 w71 hx72 hM a hf => ?_)
    obtain ⟨xs73, hz74, h⟩ := bind_some h
    refine pl_l hf rfl rfl rfl (w_append hf hM Tryz.underlying39 ei_9 rfl rfl rfl (k := 1) rfl (hM.srcRow (k := 0) rfl) hz74 fun A75 c76 w77 hM a hf => ?_)
    dsimp only [List.set] at hM
    refine q_ hf rfl rfl rfl (e_assign hf rfl) fun a hf => ?_
    refine pl_nil ?_
    refine then_n ?_
    refine wp_ret ?_
    obtain rfl := some_inj h
    have hM := hM.front (k := 1) rfl
    dsimp only [List.eraseIdx] at hM
    have hM := hM.outs (own' := [.row strRep A75 c76 9 xs73 true]) 1 rfl
    exact leave1 hf rfl rfl ⟨A75, c76, rfl, hM.fin⟩

set_option maxRecDepth 100000 in
set_option maxHeartbeats 4000000 in
theorem r_spec_ReadGrid (C : Cx) (s1 : Str) (hp2 : s1.length ≤ maxLen) (r : (Grid × Bool)) (h : m_spec_ReadGrid s1 = some r) :
    Calls Tryz.prog 15 #[vS (s1)] C.w0 fun e w => e = .returned (.tuple #[.agg #[vI (r.1.Rows), vI (r.1.Cols), vS (r.1.Cells)], .bool (r.2)]) ∧ Mem C w [] [] ∧ R64 r.1.Rows ∧ R64 r.1.Cols ∧ r.1.Cells.length ≤ maxLen := by
  have hM := Mem.begin C [] trivial
  refine enter Tryz.func15 rfl Tryz.ntmps15 rfl fun a hf => ?_
  unfold m_spec_ReadGrid at h
  refine wp_seq ?_
  refine region_pl ?_
  refine pl_l hf rfl rfl rfl (w_alloc hM (cs := [vI (0), vI (0), vS (([] : Str))]) Tryz.zeroValue25 rfl fun b3 w4 hx5 hM a hf => ?_)
  refine q_ hf rfl rfl rfl (e_assign hf rfl) fun a hf => ?_
  refine pl_nil ?_
  refine then_n ?_
  refine wp_seq ?_
  refine region_pl ?_
  refine q_ hf rfl rfl rfl (e_move hf rfl) fun a hf => ?_
  obtain ⟨y7, hz8, h⟩ := bind_some h
  refine pl_l hf rfl rfl rfl (w_call hf Tryz.call46 rfl (r_spec_l01Split ⟨_, Sh C _ _, none_, hM.sh_lt, none_not, C.G, hM.g_lt, g_none, hM.tabs⟩ s1 hp2 47 _ hz8) ?_)
  rintro _ w11 ⟨A9, c10, rfl, hM2⟩
  obtain ⟨hM, hx12, hup13⟩ := hM.back hM2
  dsimp only [List.cons_append, List.nil_append] at hM hup13
  clear hM2
  refine ⟨_, rfl, fun a hf => ?_⟩
  refine q_ hf rfl rfl rfl (e_assign hf rfl) fun a hf => ?_
  refine pl_nil ?_
  refine then_n ?_
  refine wp_seq ?_
  refine region_pl ?_
  refine q_ hf rfl rfl rfl (e_move hf rfl) fun a hf => ?_
  have hl14 := row_len (hM.ownAt (k := 0) rfl)
  refine q_ hf rfl rfl rfl (e_lenL hf (x := y7) rfl Tryz.underlying39) fun a hf => ?_
  refine q_ hf rfl rfl rfl (e_move hf rfl) fun a hf => ?_
  obtain ⟨e15, hz16, h⟩ := bind_some h
  obtain ⟨b21, _, hA22, h17, h18, hr19, hcell20⟩ := hM.rowElemN (k := 0) rfl (n := 1) rfl hz16
  obtain ⟨rfl, hv23⟩ := hr19
  refine q_ hf rfl rfl rfl (e_indexAddr (A := A9) (b := b21) (o := 0) (xs := y7) (i := 0) hf hA22 rfl rfl Tryz.underlying39 Tryz.sizeOf9 h17 h18) fun a hf => ?_
  refine q_ hf rfl rfl rfl (e_load1 hf rfl Tryz.isAgg9 (hcell20 0 _ rfl)) fun a hf => ?_
  refine q_ hf rfl rfl rfl (e_lenS hf (x := e15) rfl Tryz.underlying9) fun a hf => ?_
  refine q_ hf rfl rfl rfl (e_build hf Tryz.zeroValue25 Tryz.underlying25 (bp_25 _ Tryz.underlying25.symm) rfl (cs := #[vI ((y7.length : Int)), vI ((e15.length : Int)), vS (([] : Str))]) (by kernel_rfl)) fun a hf => ?_
  refine pl_l hf rfl rfl rfl (w_alloc hM (cs := [vI (0), vI (0), vS (([] : Str))]) Tryz.zeroValue25 rfl fun b24 w25 hx26 hM a hf => ?_)
  refine pl_0 hf rfl rfl (w_store hf hM (us := [vI ((y7.length : Int)), vI ((e15.length : Int)), vS (([] : Str))]) (cs' := [vI ((y7.length : Int)), vI ((e15.length : Int)), vS (([] : Str))]) rfl rfl (k := 0) rfl rfl Tryz.sizeOf25 rfl rfl rfl fun w28 hM => ?_)
  dsimp only [List.set] at hM
  refine pl_nil ?_
  refine then_n ?_
  obtain ⟨x33, h34, h⟩ := bind_some h
  refine seq_join (fun a w => ∃ (s31 : Str), (.inl s31) = x33 ∧ Has 45 a [(2, vP b3 (0)), (5, vP b24 (0))] ∧ Mem C w [.box b24 [vI ((y7.length : Int)), vI ((e15.length : Int)), vS (s31)] 25, .row strRep A9 c10 9 y7 true, .box b3 [vI (0), vI (0), vS (([] : Str))] 25] [] ∧ s31.length ≤ maxLen) ?_ ?_
  · refine wp_seq ?_
    refine region_pl ?_
    refine q_ hf rfl rfl rfl (e_assign hf rfl) fun a hf => ?_
    refine pl_nil ?_
    refine then_n ?_
    refine wp_block ?_
    obtain ⟨x42, h43, h34⟩ := bind_some h34
    refine wp_loopM h43 (fun s a w => ∃ (s35 : Str) (n37 : Int), (s35, n37) = s ∧ Has 45 a [(2, vP b3 (0)), (4, vL A9 (y7) c10), (5, vP b24 (0)), (6, vI (n37))] ∧ Mem C w [.box b24 [vI ((y7.length : Int)), vI ((e15.length : Int)), vS (s35)] 25, .row strRep A9 c10 9 y7 true, .box b3 [vI (0), vI (0), vS (([] : Str))] 25] [] ∧ s35.length ≤ maxLen ∧ R64 n37) ?_ ?_
    · exact ⟨([] : Str), 0, rfl, hf.keep ⟨rfl, rfl, rfl, rfl, trivial⟩, hM.pick [] rfl, (lit_len rfl), (R64_lit rfl)⟩
    · rintro s o44 a w39 ⟨s35, n37, rfl, hf, hM, hv36, hv38⟩ h45 hd46
      replace h45 : m_spec_ReadGrid_l1 y7 s35 n37 = some o44 := h45
      unfold m_spec_ReadGrid_l1 at h45
      refine wp_seq ?_
      refine wp_seq ?_
      refine region_pl ?_
      refine q_ hf rfl rfl rfl (e_move hf rfl) fun a hf => ?_
      refine q_ hf rfl rfl rfl (e_move hf rfl) fun a hf => ?_
      have hl47 := row_len (hM.ownAt (k := 1) rfl)
      refine q_ hf rfl rfl rfl (e_lenL hf (x := y7) rfl Tryz.underlying39) fun a hf => ?_
      refine q_ hf rfl rfl rfl (e_lt hf (x := n37) (y := (y7.length : Int)) rfl rfl) fun a hf => ?_
      refine pl_nil ?_
      refine then_n ?_
      rcases cond_some h45 with ⟨hc48, h45⟩ | ⟨hc48, h45⟩
      · refine cond_t hf rfl hc48 ?_
        refine wp_skip ?_
        refine then_n ?_
        refine wp_seq ?_
        refine wp_block ?_
        refine wp_seq ?_
        refine wp_seq ?_
        obtain ⟨w49, hw⟩ : ∃ x, x = w39.drew := ⟨_, rfl⟩
        refine region_pi (.q 0 (.q 1 (.q 2 (.q 3 (.q 4 (.q 5 (.q 6 (.q 7 (.q 8 (.q 9 (.nil))))))))))) (Ext w49) rfl (by kernel_rfl) ?_
        have hM := hM.drew
        rw [← hw] at hM ⊢
        clear hw
        refine pi_q hf rfl rfl rfl rfl (Ext.refl _) (e_move hf rfl) fun a hf => ?_
        refine pi_q hf rfl rfl rfl rfl (Ext.refl _) (e_move hf rfl) fun a hf => ?_
        obtain ⟨e50, hz51, h45⟩ := bind_some h45
        obtain ⟨b56, _, hA57, h52, h53, hr54, hcell55⟩ := hM.rowElemN (k := 1) rfl (n := 1) rfl hz51
        obtain ⟨rfl, hv58⟩ := hr54
        refine pi_q hf rfl rfl rfl rfl (Ext.refl _) (e_indexAddr (A := A9) (b := b56) (o := 0) (xs := y7) (i := n37) hf hA57 rfl rfl Tryz.underlying39 Tryz.sizeOf9 h52 h53) fun a hf => ?_
        refine pi_q hf rfl rfl rfl rfl (Ext.refl _) (e_load1 hf rfl Tryz.isAgg9 (hcell55 0 _ rfl)) fun a hf => ?_
        refine pi_q hf rfl rfl rfl rfl (Ext.refl _) (e_lenS hf (x := e50) rfl Tryz.underlying9) fun a hf => ?_
        refine pi_q hf rfl rfl rfl rfl (Ext.refl _) (e_move hf rfl) fun a hf => ?_
        obtain ⟨e59, hz60, h45⟩ := bind_some h45
        obtain ⟨b65, _, hA66, h61, h62, hr63, hcell64⟩ := hM.rowElemN (k := 1) rfl (n := 1) rfl hz60
        obtain ⟨rfl, hv67⟩ := hr63
        refine pi_q hf rfl rfl rfl rfl (Ext.refl _) (e_indexAddr (A := A9) (b := b65) (o := 0) (xs := y7) (i := 0) hf hA66 rfl rfl Tryz.underlying39 Tryz.sizeOf9 h61 h62) fun a hf => ?_
        refine pi_q hf rfl rfl rfl rfl (Ext.refl _) (e_load1 hf rfl Tryz.isAgg9 (hcell64 0 _ rfl)) fun a hf => ?_
        refine pi_q hf rfl rfl rfl rfl (Ext.refl _) (e_lenS hf (x := e59) rfl Tryz.underlying9) fun a hf => ?_
        refine pi_q hf rfl rfl rfl rfl (Ext.refl _) (e_ne hf (x := (e50.length : Int)) (y := (e59.length : Int)) rfl rfl) fun a hf => ?_
        refine pi_nil ?_
        refine then_n ?_
        rcases cond_some h45 with ⟨hc68, h45⟩ | ⟨hc68, h45⟩
        · refine cond_t hf rfl hc68 ?_
          refine wp_seq ?_
          refine region_pl ?_
          refine q_ hf rfl rfl rfl (e_build hf Tryz.zeroValue25 Tryz.underlying25 (bp_25 _ Tryz.underlying25.symm) rfl (cs := #[vI (0), vI (0), vS (([] : Str))]) (by kernel_rfl)) fun a hf => ?_
          refine pl_0 hf rfl rfl (w_store hf hM (us := [vI (0), vI (0), vS (([] : Str))]) (cs' := [vI (0), vI (0), vS (([] : Str))]) rfl rfl (k := 2) rfl rfl Tryz.sizeOf25 rfl rfl rfl fun w69 hM => ?_)
          dsimp only [List.set] at hM
          refine q_ hf rfl rfl rfl (e_assign hf rfl) fun a hf => ?_
          refine pl_nil ?_
          refine then_n ?_
          refine wp_ret ?_
          refine then_r ?_
          refine blk_r ?_
          refine then_r ?_
          obtain rfl := some_inj h45
          obtain rfl := hd46 _ rfl
          try dsimp only at h34
          refine then_r ?_
          refine blk_r ?_
          obtain rfl := some_inj h34
          try dsimp only at h
          refine then_r ?_
          obtain rfl := some_inj h
          have hres74 := leaveV2 (P := Tryz.prog) Tryz.results15 (res_agg hf rfl ⟨Tryz.isAgg25, Tryz.sizeOf25⟩ (us := [vI (0), vI (0), vS (([] : Str))]) rfl (hM.boxSub (k := 2) (o := 0) rfl rfl)) (res_tmp hf rfl)
          have hM := hM.outs (own' := []) 0 rfl
          exact bodyPost_ret hres74 hf.defers ⟨rfl, hM.fin, (R64_lit rfl), (R64_lit rfl), (lit_len rfl)⟩
        · refine cond_f hf rfl hc68 ?_
          refine wp_skip ?_
          refine then_n ?_
          obtain ⟨w75, hw⟩ : ∃ x, x = w49.drew := ⟨_, rfl⟩
          refine region_pi (.q 0 (.q 1 (.q 2 (.q 3 (.q 4 (.q 5 (.q 6 (.q 7 (.l 8 (.nil)))))))))) (Ext w75) rfl (by kernel_rfl) ?_
          have hM := hM.drew
          rw [← hw] at hM ⊢
          clear hw
          refine pi_q hf rfl rfl rfl rfl (Ext.refl _) (e_field hf rfl Tryz.underlying25 rfl Tryz.sizeOf9 (o' := 2) rfl) fun a hf => ?_
          refine pi_q hf rfl rfl rfl rfl (Ext.refl _) (e_load1 hf rfl Tryz.isAgg9 (hM.boxCell (k := 0) rfl rfl)) fun a hf => ?_
          refine pi_q hf rfl rfl rfl rfl (Ext.refl _) (e_move hf rfl) fun a hf => ?_
          refine pi_q hf rfl rfl rfl rfl (Ext.refl _) (e_move hf rfl) fun a hf => ?_
          obtain ⟨e76, hz77, h45⟩ := bind_some h45
          obtain ⟨b82, _, hA83, h78, h79, hr80, hcell81⟩ := hM.rowElemN (k := 1) rfl (n := 1) rfl hz77
          obtain ⟨rfl, hv84⟩ := hr80
          refine pi_q hf rfl rfl rfl rfl (Ext.refl _) (e_indexAddr (A := A9) (b := b82) (o := 0) (xs := y7) (i := n37) hf hA83 rfl rfl Tryz.underlying39 Tryz.sizeOf9 h78 h79) fun a hf => ?_
          refine pi_q hf rfl rfl rfl rfl (Ext.refl _) (e_load1 hf rfl Tryz.isAgg9 (hcell81 0 _ rfl)) fun a hf => ?_
          obtain ⟨s85, hz86, h45⟩ := bind_some h45
          refine pi_q hf rfl rfl rfl rfl (Ext.refl _) (e_cat hf (x := s35) (y := e76) rfl rfl hz86) fun a hf => ?_
          refine pi_q hf rfl rfl rfl rfl (Ext.refl _) (e_field hf rfl Tryz.underlying25 rfl Tryz.sizeOf9 (o' := 2) rfl) fun a hf => ?_
          refine pi_one ?_
          refine pi_z0 hf rfl rfl rfl (by kernel_rfl) (w_store hf hM (us := [vS (s85)]) (cs' := [vI ((y7.length : Int)), vI ((e15.length : Int)), vS (s85)]) rfl rfl (k := 0) rfl rfl Tryz.sizeOf9 rfl rfl rfl fun w87 hM => ?_)
          dsimp only [List.set] at hM
          refine pi_nil ?_
          refine blk_n ?_
          refine then_n ?_
          refine region_pl ?_
          refine q_ hf rfl rfl rfl (e_move hf rfl) fun a hf => ?_
          obtain ⟨z90, hz91, h45⟩ := bind_some h45
          refine q_ hf rfl rfl rfl (e_add hf rfl rfl hz91) fun a hf => ?_
          refine q_ hf rfl rfl rfl (e_assign hf rfl) fun a hf => ?_
          refine pl_nil ?_
          obtain rfl := some_inj h45
          refine then_n ⟨_, rfl, ?_⟩
          exact ⟨s85, z90, rfl, hf.keep ⟨rfl, rfl, rfl, rfl, trivial⟩, hM.pick [] rfl, (cat_len hz86), (chk_R hz91)⟩
      · refine cond_f hf rfl hc48 ?_
        refine wp_exit ?_
        refine then_x ?_
        obtain rfl := some_inj h45
        obtain rfl := hd46 _ rfl
        try dsimp only at h34
        refine then_x ?_
        refine exit_hit ?_
        obtain rfl := some_inj h34
        refine then_n ?_
        exact ⟨s35, rfl, hf.keep ⟨rfl, rfl, trivial⟩, hM.pick [] rfl, hv36⟩
  · rintro a w98 ⟨s31, rfl, hf, hM, hv32⟩
    try dsimp only at h
    refine wp_seq ?_
    refine wp_seq ?_
    refine region_pl ?_
    obtain ⟨y99, hz100, h⟩ := bind_some h
    refine pl_l hf rfl rfl rfl (w_call hf Tryz.call40 rfl (r_spec_l25Ok ⟨_, All C _ _, none_, hM.all_lt, none_not, C.G, hM.g_lt, g_none, hM.tabs⟩ (⟨(y7.length : Int), (e15.length : Int), s31⟩ : Grid) _ _ (hM.lendBox (k := 0) rfl (GridRep_mk (x := (⟨(y7.length : Int), (e15.length : Int), s31⟩ : Grid)) (R64_len hl14) (R64_len hv23) hv32)) _ hz100) ?_)
    rintro _ w101 ⟨rfl, hM2⟩
    obtain ⟨hM, hx102⟩ := hM.backA hM2
    clear hM2
    refine ⟨_, rfl, fun a hf => ?_⟩
    refine q_ hf rfl rfl rfl (e_not hf rfl) fun a hf => ?_
    refine pl_nil ?_
    refine then_n ?_
    rcases cond_some h with ⟨hc104, h⟩ | ⟨hc104, h⟩
    · refine cond_t hf rfl hc104 ?_
      refine wp_seq ?_
      refine region_pl ?_
      refine q_ hf rfl rfl rfl (e_build hf Tryz.zeroValue25 Tryz.underlying25 (bp_25 _ Tryz.underlying25.symm) rfl (cs := #[vI (0), vI (0), vS (([] : Str))]) (by kernel_rfl)) fun a hf => ?_
      refine pl_0 hf rfl rfl (w_store hf hM (us := [vI (0), vI (0), vS (([] : Str))]) (cs' := [vI (0), vI (0), vS (([] : Str))]) rfl rfl (k := 2) rfl rfl Tryz.sizeOf25 rfl rfl rfl fun w105 hM => ?_)
      dsimp only [List.set] at hM
      refine q_ hf rfl rfl rfl (e_assign hf rfl) fun a hf => ?_
      refine pl_nil ?_
      refine then_n ?_
      refine wp_ret ?_
      refine then_r ?_
      obtain rfl := some_inj h
      have hres108 := leaveV2 (P := Tryz.prog) Tryz.results15 (res_agg hf rfl ⟨Tryz.isAgg25, Tryz.sizeOf25⟩ (us := [vI (0), vI (0), vS (([] : Str))]) rfl (hM.boxSub (k := 2) (o := 0) rfl rfl)) (res_tmp hf rfl)
      have hM := hM.outs (own' := []) 0 rfl
      exact bodyPost_ret hres108 hf.defers ⟨rfl, hM.fin, (R64_lit rfl), (R64_lit rfl), (lit_len rfl)⟩
    · refine cond_f hf rfl hc104 ?_
      refine wp_skip ?_
      refine then_n ?_
      refine wp_seq ?_
      refine region_pl ?_
      refine q_ hf rfl rfl rfl (e_loadA hf (us := [vI ((y7.length : Int)), vI ((e15.length : Int)), vS (s31)]) rfl ⟨Tryz.isAgg25, Tryz.sizeOf25⟩ rfl (hM.boxSub (k := 0) (us := [vI ((y7.length : Int)), vI ((e15.length : Int)), vS (s31)]) (o := 0) rfl rfl)) fun a hf => ?_
      refine pl_0 hf rfl rfl (w_store hf hM (us := [vI ((y7.length : Int)), vI ((e15.length : Int)), vS (s31)]) (cs' := [vI ((y7.length : Int)), vI ((e15.length : Int)), vS (s31)]) rfl rfl (k := 2) rfl rfl Tryz.sizeOf25 rfl rfl rfl fun w109 hM => ?_)
      dsimp only [List.set] at hM
      refine q_ hf rfl rfl rfl (e_assign hf rfl) fun a hf => ?_
      refine pl_nil ?_
      refine then_n ?_
      refine wp_ret ?_
      obtain rfl := some_inj h
      have hres112 := leaveV2 (P := Tryz.prog) Tryz.results15 (res_agg hf rfl ⟨Tryz.isAgg25, Tryz.sizeOf25⟩ (us := [vI ((y7.length : Int)), vI ((e15.length : Int)), vS (s31)]) rfl (hM.boxSub (k := 2) (o := 0) rfl rfl)) (res_tmp hf rfl)
      have hM := hM.outs (own' := []) 0 rfl
      exact bodyPost_ret hres112 hf.defers ⟨rfl, hM.fin, (R64_len hl14), (R64_len hv23), hv32⟩

set_option maxRecDepth 100000 in
set_option maxHeartbeats 4000000 in
theorem r_spec_l05Some (C : Cx)  (r : (List Str)) (h : m_spec_l05Some = some r) :
    Calls Tryz.prog 90 #[] C.w0 fun e w => ∃ (A_1 : Option Addr), ∃ (c_1 : Nat), e = .returned (vL A_1 (r) c_1) ∧ Mem C w [.row strRep A_1 c_1 9 r true] [] := by
  have hM := Mem.begin C [] trivial
  refine enter Tryz.func90 rfl Tryz.ntmps90 rfl fun a hf => ?_
  unfold m_spec_l05Some at h
  refine wp_seq ?_
  refine region_pl ?_
  refine q_ hf rfl rfl rfl (e_assign hf rfl) fun a hf => ?_
  refine pl_nil ?_
  refine then_n ?_
  refine wp_seq ?_
  refine region_pl ?_
  refine pl_l hf rfl rfl rfl (w_slice hf hM (K := strRep) (xs := ((([97, 110] : Str) :: ([97, 116] : Str) :: ([97, 116, 101] : Str) :: ([101, 97, 114] : Str) :: ([101, 97, 114, 110] : Str) :: ([101, 97, 114, 115] : Str) :: ([101, 97, 115, 116] : Str) :: ([101, 97, 116] : Str) :: ([101, 97, 116, 101, 110] : Str) :: ([101, 97, 116, 115] : Str) :: ([101, 110] : Str) :: ([97, 110, 116] : Str) :: ([97, 110, 116, 115] : Str) :: ([97, 114, 101] : Str) :: ([97, 114, 101, 110, 97] : Str) :: ([97, 114, 116] : Str) :: ([97, 114, 116, 115] : Str) :: ([97, 115] : Str) :: ([101, 114] : Str) :: ([101, 115] : Str) :: ([105, 110] : Str) :: ([105, 115] : Str) :: ([110, 97] : Str) :: ([110, 101] : Str) :: ([110, 101, 97, 114] : Str) :: ([110, 101, 97, 116] : Str) :: ([110, 101, 115, 116] : Str) :: ([110, 101, 115, 116, 115] : Str) :: ([110, 101, 116] : Str) :: ([114, 97, 116] : Str) :: ([114, 97, 116, 101] : Str) :: ([114, 97, 116, 101, 115] : Str) :: ([114, 101] : Str) :: ([114, 101, 115, 116] : Str) :: ([115, 97, 116] : Str) :: ([115, 101, 97] : Str) :: ([115, 101, 97, 116] : Str) :: ([115, 101, 116] : Str) :: ([116, 97] : Str) :: ([116, 97, 114] : Str) :: ([116, 97, 114, 115] : Str) :: ([116, 97, 114, 116] : Str) :: ([116, 101, 97] : Str) :: ([116, 101, 97, 114] : Str) :: ([116, 101, 97, 115] : Str) :: ([116, 101, 110] : Str) :: ([116, 101, 114, 110] : Str) :: ([116, 101, 115, 116] : Str) :: ([116, 101, 115, 116, 115] : Str) :: ([116, 114, 101, 101, 115] : Str) :: ([98, 97, 110, 97, 110, 97] : Str) :: ([98, 101, 101] : Str) :: ([98, 101, 101, 110] : Str) :: ([98, 101, 101, 115] : Str) :: ([115, 116, 97, 114] : Str) :: ([115, 116, 97, 114, 101] : Str) :: ([115, 116, 97, 114, 116] : Str) :: ([116, 114, 101, 101] : Str) :: ([115, 116, 97, 114, 115] : Str) :: ([116, 114, 101, 97, 116, 115] : Str) :: []) : (List Str))) (os := ((.const (.string ⟨#[97, 110]⟩)) :: (.const (.string ⟨#[97, 116]⟩)) :: (.const (.string ⟨#[97, 116, 101]⟩)) :: (.const (.string ⟨#[101, 97, 114]⟩)) :: (.const (.string ⟨#[101, 97, 114, 110]⟩)) :: (.const (.string ⟨#[101, 97, 114, 115]⟩)) :: (.const (.string ⟨#[101, 97, 115, 116]⟩)) :: (.const (.string ⟨#[101, 97, 116]⟩)) :: (.const (.string ⟨#[101, 97, 116, 101, 110]⟩)) :: (.const (.string ⟨#[101, 97, 116, 115]⟩)) :: (.const (.string ⟨#[101, 110]⟩)) :: (.const (.string ⟨#[97, 110, 116]⟩)) :: (.const (.string ⟨#[97, 110, 116, 115]⟩)) :: (.const (.string ⟨#[97, 114, 101]⟩)) :: (.const (.string ⟨#[97, 114, 101, 110, 97]⟩)) :: (.const (.string ⟨#[97, 114, 116]⟩)) :: (.const (.string ⟨#[97, 114, 116, 115]⟩)) :: (.const (.string ⟨#[97, 115]⟩)) :: (.const (.string ⟨#[101, 114]⟩)) :: (.const (.string ⟨#[101, 115]⟩)) :: (.const (.string ⟨#[105, 110]⟩)) :: (.const (.string ⟨#[105, 115]⟩)) :: (.const (.string ⟨#[110, 97]⟩)) :: (.const (.string ⟨#[110, 101]⟩)) :: (.const (.string ⟨#[110, 101, 97, 114]⟩)) :: (.const (.string ⟨#[110, 101, 97, 116]⟩)) :: (.const (.string ⟨#[110, 101, 115, 116]⟩)) :: (.const (.string ⟨#[110, 101, 115, 116, 115]⟩)) :: (.const (.string ⟨#[110, 101, 116]⟩)) :: (.const (.string ⟨#[114, 97, 116]⟩)) :: (.const (.string ⟨#[114, 97, 116, 101]⟩)) :: (.const (.string ⟨#[114, 97, 116, 101, 115]⟩)) :: (.const (.string ⟨#[114, 101]⟩)) :: (.const (.string ⟨#[114, 101, 115, 116]⟩)) :: (.const (.string ⟨#[115, 97, 116]⟩)) :: (.const (.string ⟨#[115, 101, 97]⟩)) :: (.const (.string ⟨#[115, 101, 97, 116]⟩)) :: (.const (.string ⟨#[115, 101, 116]⟩)) :: (.const (.string ⟨#[116, 97]⟩)) :: (.const (.string ⟨#[116, 97, 114]⟩)) :: (.const (.string ⟨#[116, 97, 114, 115]⟩)) :: (.const (.string ⟨#[116, 97, 114, 116]⟩)) :: (.const (.string ⟨#[116, 101, 97]⟩)) :: (.const (.string ⟨#[116, 101, 97, 114]⟩)) :: (.const (.string ⟨#[116, 101, 97, 115]⟩)) :: (.const (.string ⟨#[116, 101, 110]⟩)) :: (.const (.string ⟨#[116, 101, 114, 110]⟩)) :: (.const (.string ⟨#[116, 101, 115, 116]⟩)) :: (.const (.string ⟨#[116, 101, 115, 116, 115]⟩)) :: (.const (.string ⟨#[116, 114, 101, 101, 115]⟩)) :: (.const (.string ⟨#[98, 97, 110, 97, 110, 97]⟩)) :: (.const (.string ⟨#[98, 101, 101]⟩)) :: (.const (.string ⟨#[98, 101, 101, 110]⟩)) :: (.const (.string ⟨#[98, 101, 101, 115]⟩)) :: (.const (.string ⟨#[115, 116, 97, 114]⟩)) :: (.const (.string ⟨#[115, 116, 97, 114, 101]⟩)) :: (.const (.string ⟨#[115, 116, 97, 114, 116]⟩)) :: (.const (.string ⟨#[116, 114, 101, 101]⟩)) :: (.const (.string ⟨#[115, 116, 97, 114, 115]⟩)) :: (.const (.string ⟨#[116, 114, 101, 97, 116, 115]⟩)) :: [])) Tryz.underlying39 ei_9 rfl rfl rfl rfl rfl (VRows.cons ⟨[vS (([97, 110] : Str))], rfl, ⟨rfl, (lit_len rfl)⟩⟩ (VRows.cons ⟨[vS (([97, 116] : Str))], rfl, ⟨rfl, (lit_len rfl)⟩⟩ (VRows.cons ⟨[vS (([97, 116, 101] : Str))], rfl, ⟨rfl, (lit_len rfl)⟩⟩ (VRows.cons ⟨[vS (([101, 97, 114] : Str))], rfl, ⟨rfl, (lit_len rfl)⟩⟩ (VRows.cons ⟨[vS (([101, 97, 114, 110] : Str))], rfl, ⟨rfl, (lit_len rfl)⟩⟩ (VRows.cons ⟨[vS (([101, 97, 114, 115] : Str))], rfl, ⟨rfl, (lit_len rfl)⟩⟩ (VRows.cons ⟨[vS (([101, 97, 115, 116] : Str))], rfl, ⟨rfl, (lit_len rfl)⟩⟩ (VRows.cons ⟨[vS (([101, 97, 116] : Str))], rfl, ⟨rfl, (lit_len rfl)⟩⟩ (VRows.cons ⟨[vS (([101, 97, 116, 101, 110] : Str))], rfl, ⟨rfl, (lit_len rfl)⟩⟩ (VRows.cons ⟨[vS (([101, 97, 116, 115] : Str))], rfl, ⟨rfl, (lit_len rfl)⟩⟩ (VRows.cons ⟨[vS (([101, 110] : Str))], rfl, ⟨rfl, (lit_len rfl)⟩⟩ (VRows.cons ⟨[vS (([97, 110, 116] : Str))], rfl, ⟨rfl, (lit_len rfl)⟩⟩ (VRows.cons ⟨[vS (([97, 110, 116, 115] : Str))], rfl, ⟨rfl, (lit_len rfl)⟩⟩ (VRows.cons ⟨[vS (([97, 114, 101] : Str))], rfl, ⟨rfl, (lit_len rfl)⟩⟩ (VRows.cons ⟨[vS (([97, 114, 101, 110, 97] : Str))], rfl, ⟨rfl, (lit_len rfl)⟩⟩ (VRows.cons ⟨[vS (([97, 114, 116] : Str))], rfl, ⟨rfl, (lit_len rfl)⟩⟩ (VRows.cons ⟨[vS (([97, 114, 116, 115] : Str))], rfl, ⟨rfl, (lit_len rfl)⟩⟩ (VRows.cons ⟨[vS (([97, 115] : Str))], rfl, ⟨rfl, (lit_len rfl)⟩⟩ (VRows.cons ⟨[vS (([101, 114] : Str))], rfl, ⟨rfl, (lit_len rfl)⟩⟩ (VRows.cons ⟨[vS (([101, 115] : Str))], rfl, ⟨rfl, (lit_len rfl)⟩⟩ (VRows.cons ⟨[vS (([105, 110] : Str))], rfl, ⟨rfl, (lit_len rfl)⟩⟩ (VRows.cons ⟨[vS (([105, 115] : Str))], rfl, ⟨rfl, (lit_len rfl)⟩⟩ (VRows.cons ⟨[vS (([110, 97] : Str))], rfl, ⟨rfl, (lit_len rfl)⟩⟩ (VRows.cons ⟨[vS (([110, 101] : Str))], rfl, ⟨rfl, (lit_len rfl)⟩⟩ (VRows.cons ⟨[vS (([110, 101, 97, 114] : Str))], rfl, ⟨rfl, (lit_len rfl)⟩⟩ (VRows.cons ⟨[vS (([110, 101, 97, 116] : Str))], rfl, ⟨rfl, (lit_len rfl)⟩⟩ (VRows.cons ⟨[vS (([110, 101, 115, 116] : Str))], rfl, ⟨rfl, (lit_len rfl)⟩⟩ (VRows.cons ⟨[vS (([110, 101, 115, 116, 115] : Str))], rfl, ⟨rfl, (lit_len rfl)⟩⟩ (VRows.cons ⟨[vS (([110, 101, 116] : Str))], rfl, ⟨rfl, (lit_len rfl)⟩⟩ (VRows.cons ⟨[vS (([114, 97, 116] : Str))], rfl, ⟨rfl, (lit_len rfl)⟩⟩ (VRows.cons ⟨[vS (([114, 97, 116, 101] : Str))], rfl, ⟨rfl, (lit_len rfl)⟩⟩ (VRows.cons ⟨[vS (([114, 97, 116, 101, 115] : Str))], rfl, ⟨rfl, (lit_len rfl)⟩⟩ (VRows.cons ⟨[vS (([114, 101] : Str))], rfl, ⟨rfl, (lit_len rfl)⟩⟩ (VRows.cons ⟨[vS (([114, 101, 115, 116] : Str))], rfl, ⟨rfl, (lit_len rfl)⟩⟩ (VRows.cons ⟨[vS (([115, 97, 116] : Str))], rfl, ⟨rfl, (lit_len rfl)⟩⟩ (VRows.cons ⟨[vS (([115, 101, 97] : Str))], rfl, ⟨rfl, (lit_len rfl)⟩⟩ (VRows.cons ⟨[vS (([115, 101, 97, 116] : Str))], rfl, ⟨rfl, (lit_len rfl)⟩⟩ (VRows.cons ⟨[vS (([115, 101, 116] : Str))], rfl, ⟨rfl, (lit_len rfl)⟩⟩ (VRows.cons ⟨[vS (([116, 97] : Str))], rfl, ⟨rfl, (lit_len rfl)⟩⟩ (VRows.cons ⟨[vS (([116, 97, 114] : Str))], rfl, ⟨rfl, (lit_len rfl)⟩⟩ (VRows.cons ⟨[vS (([116, 97, 114, 115] : Str))], rfl, ⟨rfl, (lit_len rfl)⟩⟩ (VRows.cons ⟨[vS (([116, 97, 114, 116] : Str))], rfl, ⟨rfl, (lit_len rfl)⟩⟩ (VRows.cons ⟨[vS (([116, 101, 97] : Str))], rfl, ⟨rfl, (lit_len rfl)⟩⟩ (VRows.cons ⟨[vS (([116, 101, 97, 114] : Str))], rfl, ⟨rfl, (lit_len rfl)⟩⟩ (VRows.cons ⟨[vS (([116, 101, 97, 115] : Str))], rfl, ⟨rfl, (lit_len rfl)⟩⟩ (VRows.cons ⟨[vS (([116, 101, 110] : Str))], rfl, ⟨rfl, (lit_len rfl)⟩⟩ (VRows.cons ⟨[vS (([116, 101, 114, 110] : Str))], rfl, ⟨rfl, (lit_len rfl)⟩⟩ (VRows.cons ⟨[vS (([116, 101, 115, 116] : Str))], rfl, ⟨rfl, (lit_len rfl)⟩⟩ (VRows.cons ⟨[vS (([116, 101, 115, 116, 115] : Str))], rfl, ⟨rfl, (lit_len rfl)⟩⟩ (VRows.cons ⟨[vS (([116, 114, 101, 101, 115] : Str))], rfl, ⟨rfl, (lit_len rfl)⟩⟩ (VRows.cons ⟨[vS (([98, 97, 110, 97, 110, 97] : Str))], rfl, ⟨rfl, (lit_len rfl)⟩⟩ (VRows.cons ⟨[vS (([98, 101, 101] : Str))], rfl, ⟨rfl, (lit_len rfl)⟩⟩ (VRows.cons ⟨[vS (([98, 101, 101, 110] : Str))], rfl, ⟨rfl, (lit_len rfl)⟩⟩ (VRows.cons ⟨[vS (([98, 101, 101, 115] : Str))], rfl, ⟨rfl, (lit_len rfl)⟩⟩ (VRows.cons ⟨[vS (([115, 116, 97, 114] : Str))], rfl, ⟨rfl, (lit_len rfl)⟩⟩ (VRows.cons ⟨[vS (([115, 116, 97, 114, 101] : Str))], rfl, ⟨rfl, (lit_len rfl)⟩⟩ (VRows.cons ⟨[vS (([115, 116, 97, 114, 116] : Str))], rfl, ⟨rfl, (lit_len rfl)⟩⟩ (VRows.cons ⟨[vS (([116, 114, 101, 101] : Str))], rfl, ⟨rfl, (lit_len rfl)⟩⟩ (VRows.cons ⟨[vS (([115, 116, 97, 114, 115] : Str))], rfl, ⟨rfl, (lit_len rfl)⟩⟩ (VRows.cons ⟨[vS (([116, 114, 101, 97, 116, 115] : Str))], rfl, ⟨rfl, (lit_len rfl)⟩⟩ trivial)))))))))))))))))))))))))))))))))))))))))))))))))))))))))))) rfl fun b1 w2 hx3 hM a hf => ?_)
  refine q_ hf rfl rfl rfl (e_assign hf rfl) fun a hf => ?_
  refine pl_nil ?_
  refine then_n ?_
  refine wp_ret ?_
  obtain rfl := some_inj h
  exact leave1 hf rfl rfl ⟨(some ⟨b1, 0, none⟩), 60, rfl, hM.fin⟩

set_option maxRecDepth 100000 in
set_option maxHeartbeats 4000000 in
theorem r_spec_l03Insert (C : Cx) (list1 : (List Str)) (A2 : Option Addr) (c3 : Nat) (t4 : Str) (hp5 : t4.length ≤ maxLen) (hO : Mem C C.w0 [.row strRep A2 c3 9 list1 true] []) (hd : ∀ b, C.S0 b → ¬ ownB [.row strRep A2 c3 9 list1 true] b) (r : (List Str)) (h : m_spec_l03Insert list1 t4 = some r) :
    Calls Tryz.prog 73 #[vL A2 (list1) c3, vS (t4)] C.w0 fun e w => ∃ (A_1 : Option Addr), ∃ (c_1 : Nat), e = .returned (vL A_1 (r) c_1) ∧ Mem C w [.row strRep A_1 c_1 9 r true] [] := by
  have hM := hO
  refine enter Tryz.func73 rfl Tryz.ntmps73 rfl fun a hf => ?_
  unfold m_spec_l03Insert at h
  refine wp_seq ?_
  refine region_pl ?_
  refine q_ hf rfl rfl rfl (e_assign hf rfl) fun a hf => ?_
  refine pl_nil ?_
  refine then_n ?_
  refine wp_seq ?_
  refine region_pl ?_
  refine q_ hf rfl rfl rfl (e_move hf rfl) fun a hf => ?_
  have hl6 := row_len (hM.ownAt (k := 0) rfl)
  refine q_ hf rfl rfl rfl (e_lenL hf (x := list1) rfl Tryz.underlying39) fun a hf => ?_
  refine q_ hf rfl rfl rfl (e_assign hf rfl) fun a hf => ?_
  refine pl_nil ?_
  refine then_n ?_
  obtain ⟨x9, h10, h⟩ := bind_some h
  refine seq_join (fun a w => ∃ (n7 : Int), n7 = x9 ∧ Has 48 a [(0, vL A2 (list1) c3), (1, vS (t4)), (5, vI (n7))] ∧ Mem C w [.row strRep A2 c3 9 list1 true] [] ∧ R64 n7) ?_ ?_
  · refine wp_block ?_
    obtain ⟨x16, h17, h10⟩ := bind_some h10
    refine wp_loopM h17 (fun s a w => ∃ (n11 : Int), n11 = s ∧ Has 48 a [(0, vL A2 (list1) c3), (1, vS (t4)), (5, vI (n11))] ∧ Mem C w [.row strRep A2 c3 9 list1 true] [] ∧ R64 n11) ?_ ?_
    · exact ⟨(list1.length : Int), rfl, hf.keep ⟨rfl, rfl, rfl, trivial⟩, hM.pick [] rfl, (R64_len hl6)⟩
    · rintro s o18 a w13 ⟨n11, rfl, hf, hM, hv12⟩ h19 hd20
      replace h19 : m_spec_l03Insert_l1 list1 t4 n11 = some o18 := h19
      unfold m_spec_l03Insert_l1 at h19
      refine wp_seq ?_
      obtain ⟨x23, h24, h19⟩ := bind_some h19
      refine seq_join (fun a w => ∃ (t21 : Bool), t21 = x23 ∧ Has 48 a [(0, vL A2 (list1) c3), (1, vS (t4)), (5, vI (n11)), (19, .bool (t21))] ∧ Mem C w [.row strRep A2 c3 9 list1 true] []) ?_ ?_
      · refine region_pl ?_
        refine q_ hf rfl rfl rfl (e_move hf rfl) fun a hf => ?_
        refine q_ hf rfl rfl rfl (e_gt hf (x := n11) (y := 0) rfl rfl) fun a hf => ?_
        refine q_ hf rfl rfl rfl (e_move hf rfl) fun a hf => ?_
        rcases cond_some h24 with ⟨hc25, h24⟩ | ⟨hc25, h24⟩
        · refine gq (wanted_t hf rfl rfl rfl rfl hc25) hf rfl rfl (e_move hf rfl) fun a hf => ?_
          refine gq (wanted_t hf rfl rfl rfl rfl hc25) hf rfl rfl (e_move hf rfl) fun a hf => ?_
          obtain ⟨z26, hz27, h24⟩ := bind_some h24
          refine gq (wanted_t hf rfl rfl rfl rfl hc25) hf rfl rfl (e_sub hf rfl rfl hz27) fun a hf => ?_
          obtain ⟨e28, hz29, h24⟩ := bind_some h24
          obtain ⟨b34, _, hA35, h30, h31, hr32, hcell33⟩ := hM.rowElemN (k := 0) rfl (n := 1) rfl hz29
          obtain ⟨rfl, hv36⟩ := hr32
          refine gq (wanted_t hf rfl rfl rfl rfl hc25) hf rfl rfl (e_indexAddr (A := A2) (b := b34) (o := 0) (xs := list1) (i := z26) hf hA35 rfl rfl Tryz.underlying39 Tryz.sizeOf9 h30 h31) fun a hf => ?_
          refine gq (wanted_t hf rfl rfl rfl rfl hc25) hf rfl rfl (e_load1 hf rfl Tryz.isAgg9 (hcell33 0 _ rfl)) fun a hf => ?_
          refine gq (wanted_t hf rfl rfl rfl rfl hc25) hf rfl rfl (e_move hf rfl) fun a hf => ?_
          refine gq (wanted_t hf rfl rfl rfl rfl hc25) hf rfl rfl (e_gtS hf (x := e28) (y := t4) rfl rfl) fun a hf => ?_
          refine q_ hf rfl rfl rfl (e_pick_t hf rfl hc25 rfl) fun a hf => ?_
          refine pl_nil ?_
          obtain rfl := some_inj h24
          refine then_n ?_
          exact ⟨(!(ltS e28 t4 || e28 == t4)), rfl, hf.keep ⟨rfl, rfl, rfl, rfl, trivial⟩, hM.pick [] rfl⟩
        · refine pl_gs (wanted_f hf rfl rfl rfl rfl hc25) hf rfl rfl fun a hf => ?_
          refine pl_gs (wanted_f hf rfl rfl rfl rfl hc25) hf rfl rfl fun a hf => ?_
          refine pl_gs (wanted_f hf rfl rfl rfl rfl hc25) hf rfl rfl fun a hf => ?_
          refine pl_gs (wanted_f hf rfl rfl rfl rfl hc25) hf rfl rfl fun a hf => ?_
          refine pl_gs (wanted_f hf rfl rfl rfl rfl hc25) hf rfl rfl fun a hf => ?_
          refine pl_gs (wanted_f hf rfl rfl rfl rfl hc25) hf rfl rfl fun a hf => ?_
          refine pl_gs (wanted_f hf rfl rfl rfl rfl hc25) hf rfl rfl fun a hf => ?_
          refine q_ hf rfl rfl rfl (e_pick_f hf rfl hc25 rfl) fun a hf => ?_
          refine pl_nil ?_
          obtain rfl := some_inj h24
          refine then_n ?_
          exact ⟨false, rfl, hf.keep ⟨rfl, rfl, rfl, rfl, trivial⟩, hM.pick [] rfl⟩
      · rintro a w39 ⟨t21, rfl, hf, hM⟩
        try dsimp only at h19
        rcases cond_some h19 with ⟨hc40, h19⟩ | ⟨hc40, h19⟩
        · refine cond_t hf rfl hc40 ?_
          refine wp_skip ?_
          refine then_n ?_
          refine wp_block ?_
          refine region_pl ?_
          refine q_ hf rfl rfl rfl (e_move hf rfl) fun a hf => ?_
          obtain ⟨z41, hz42, h19⟩ := bind_some h19
          refine q_ hf rfl rfl rfl (e_sub hf rfl rfl hz42) fun a hf => ?_
          refine q_ hf rfl rfl rfl (e_assign hf rfl) fun a hf => ?_
          refine pl_nil ?_
          refine blk_n ?_
          obtain rfl := some_inj h19
          refine then_n ⟨_, rfl, ?_⟩
          exact ⟨z41, rfl, hf.keep ⟨rfl, rfl, rfl, trivial⟩, hM.pick [] rfl, (chk_R hz42)⟩
        · refine cond_f hf rfl hc40 ?_
          refine wp_exit ?_
          refine then_x ?_
          obtain rfl := some_inj h19
          obtain rfl := hd20 _ rfl
          try dsimp only at h10
          refine then_x ?_
          refine exit_hit ?_
          obtain rfl := some_inj h10
          refine then_n ?_
          exact ⟨n11, rfl, hf.keep ⟨rfl, rfl, rfl, trivial⟩, hM.pick [] rfl, hv12⟩
  · rintro a w48 ⟨n7, rfl, hf, hM, hv8⟩
    try dsimp only at h
    refine wp_seq ?_
    obtain ⟨x51, h52, h⟩ := bind_some h
    refine seq_join (fun a w => ∃ (t49 : Bool), t49 = x51 ∧ Has 48 a [(0, vL A2 (list1) c3), (1, vS (t4)), (5, vI (n7)), (32, .bool (t49))] ∧ Mem C w [.row strRep A2 c3 9 list1 true] []) ?_ ?_
    · refine region_pl ?_
      refine q_ hf rfl rfl rfl (e_move hf rfl) fun a hf => ?_
      refine q_ hf rfl rfl rfl (e_gt hf (x := n7) (y := 0) rfl rfl) fun a hf => ?_
      refine q_ hf rfl rfl rfl (e_move hf rfl) fun a hf => ?_
      rcases cond_some h52 with ⟨hc53, h52⟩ | ⟨hc53, h52⟩
      · refine gq (wanted_t hf rfl rfl rfl rfl hc53) hf rfl rfl (e_move hf rfl) fun a hf => ?_
        refine gq (wanted_t hf rfl rfl rfl rfl hc53) hf rfl rfl (e_move hf rfl) fun a hf => ?_
        obtain ⟨z54, hz55, h52⟩ := bind_some h52
        refine gq (wanted_t hf rfl rfl rfl rfl hc53) hf rfl rfl (e_sub hf rfl rfl hz55) fun a hf => ?_
        obtain ⟨e56, hz57, h52⟩ := bind_some h52
        obtain ⟨b62, _, hA63, h58, h59, hr60, hcell61⟩ := hM.rowElemN (k := 0) rfl (n := 1) rfl hz57
        obtain ⟨rfl, hv64⟩ := hr60
        refine gq (wanted_t hf rfl rfl rfl rfl hc53) hf rfl rfl (e_indexAddr (A := A2) (b := b62) (o := 0) (xs := list1) (i := z54) hf hA63 rfl rfl Tryz.underlying39 Tryz.sizeOf9 h58 h59) fun a hf => ?_
        refine gq (wanted_t hf rfl rfl rfl rfl hc53) hf rfl rfl (e_load1 hf rfl Tryz.isAgg9 (hcell61 0 _ rfl)) fun a hf => ?_
        refine gq (wanted_t hf rfl rfl rfl rfl hc53) hf rfl rfl (e_move hf rfl) fun a hf => ?_
        refine gq (wanted_t hf rfl rfl rfl rfl hc53) hf rfl rfl (e_eqS hf (x := e56) (y := t4) rfl rfl) fun a hf => ?_
        refine q_ hf rfl rfl rfl (e_pick_t hf rfl hc53 rfl) fun a hf => ?_
        refine pl_nil ?_
        obtain rfl := some_inj h52
        refine then_n ?_
        exact ⟨(e56 == t4), rfl, hf.keep ⟨rfl, rfl, rfl, rfl, trivial⟩, hM.pick [] rfl⟩
      · refine pl_gs (wanted_f hf rfl rfl rfl rfl hc53) hf rfl rfl fun a hf => ?_
        refine pl_gs (wanted_f hf rfl rfl rfl rfl hc53) hf rfl rfl fun a hf => ?_
        refine pl_gs (wanted_f hf rfl rfl rfl rfl hc53) hf rfl rfl fun a hf => ?_
        refine pl_gs (wanted_f hf rfl rfl rfl rfl hc53) hf rfl rfl fun a hf => ?_
        refine pl_gs (wanted_f hf rfl rfl rfl rfl hc53) hf rfl rfl fun a hf => ?_
        refine pl_gs (wanted_f hf rfl rfl rfl rfl hc53) hf rfl rfl fun a hf => ?_
        refine pl_gs (wanted_f hf rfl rfl rfl rfl hc53) hf rfl rfl fun a hf => ?_
        refine q_ hf rfl rfl rfl (e_pick_f hf rfl hc53 rfl) fun a hf => ?_
        refine pl_nil ?_
        obtain rfl := some_inj h52
        refine then_n ?_
        exact ⟨false, rfl, hf.keep ⟨rfl, rfl, rfl, rfl, trivial⟩, hM.pick [] rfl⟩
    · rintro a w67 ⟨t49, rfl, hf, hM⟩
      try dsimp only at h
      rcases cond_some h with ⟨hc68, h⟩ | ⟨hc68, h⟩
      · refine cond_t hf rfl hc68 ?_
        refine wp_seq ?_
        refine region_pl ?_
        refine q_ hf rfl rfl rfl (e_move hf rfl) fun a hf => ?_
        refine q_ hf rfl rfl rfl (e_assign hf rfl) fun a hf => ?_
        refine pl_nil ?_
        refine then_n ?_
        refine wp_ret ?_
        refine then_r ?_
        obtain rfl := some_inj h
        exact leave1 hf rfl rfl ⟨A2, c3, rfl, hM.fin⟩
      · refine cond_f hf rfl hc68 ?_
        refine wp_skip ?_
        refine then_n ?_
        refine wp_seq ?_
        refine region_pl ?_
        refine pl_l hf rfl rfl rfl (w_slice0 (K := strRep) hM Tryz.underlying39 ei_9 fun b69 w70 hx71 hM a hf => ?_)
        refine q_ hf rfl rfl rfl (e_move hf rfl) fun a hf => ?_
        refine q_ hf rfl rfl rfl (e_move hf rfl) fun a hf => ?_
        have hM := hM.freezeRow (k := 1) rfl rfl
        dsimp only [List.eraseIdx] at hM
        obtain ⟨l72, hz73, h⟩ := bind_some h
        obtain ⟨A74, hd75, hA76⟩ := sub_rep (hM.dat (k := 0) rfl) hz73
        have hM := hM.add (y := .dat (sliceRep strRep) l72 [vL A74 l72 (c3 - (0 : Int).toNat)]) hd75
        refine q_ hf rfl rfl rfl (e_subLh hf (xs := list1) rfl rfl Tryz.underlying39 Tryz.sizeOf9 (slice_cap (hM.dat (k := 1) rfl)) hz73 hA76) fun a hf => ?_
        obtain ⟨xs77, hz78, h⟩ := bind_some h
        refine pl_l hf rfl rfl rfl (w_appendD hf hM Tryz.underlying39 ei_9 rfl rfl rfl (k := 0) rfl (hM.dat (k := 0) rfl) hz78 fun A79 c80 w81 hM a hf => ?_)
        dsimp only [List.set] at hM
        refine q_ hf rfl rfl rfl (e_assign hf rfl) fun a hf => ?_
        refine pl_nil ?_
        refine then_n ?_
        refine wp_seq ?_
        refine region_pl ?_
        refine q_ hf rfl rfl rfl (e_move hf rfl) fun a hf => ?_
        refine q_ hf rfl rfl rfl (e_move hf rfl) fun a hf => ?_
        refine pl_l hf rfl rfl rfl (w_slice hf hM (K := strRep) (xs := ([t4] : (List Str))) (os := [.tmp 40]) Tryz.underlying39 ei_9 rfl rfl rfl rfl rfl ⟨⟨[vS (t4)], rfl, ⟨rfl, hp5⟩⟩, trivial⟩ rfl fun b84 w85 hx86 hM a hf => ?_)
        obtain ⟨xs87, hz88, h⟩ := bind_some h
        refine pl_l hf rfl rfl rfl (w_append hf hM Tryz.underlying39 ei_9 rfl rfl rfl (k := 1) rfl (hM.srcRow (k := 0) rfl) hz88 fun A89 c90 w91 hM a hf => ?_)
        dsimp only [List.set] at hM
        refine q_ hf rfl rfl rfl (e_assign hf rfl) fun a hf => ?_
        refine pl_nil ?_
        refine then_n ?_
        refine wp_seq ?_
        refine region_pl ?_
        refine q_ hf rfl rfl rfl (e_move hf rfl) fun a hf => ?_
        refine q_ hf rfl rfl rfl (e_move hf rfl) fun a hf => ?_
        refine q_ hf rfl rfl rfl (e_move hf rfl) fun a hf => ?_
        obtain ⟨l94, hz95, h⟩ := bind_some h
        obtain ⟨A96, hd97, hA98⟩ := sub_rep (hM.dat (k := 1) rfl) hz95
        have hM := hM.add (y := .dat (sliceRep strRep) l94 [vL A96 l94 (c3 - (n7 : Int).toNat)]) hd97
        refine q_ hf rfl rfl rfl (e_subLl hf (xs := list1) rfl rfl Tryz.underlying39 Tryz.sizeOf9 (slice_cap (hM.dat (k := 2) rfl)) hz95 hA98) fun a hf => ?_
        obtain ⟨xs99, hz100, h⟩ := bind_some h
        refine pl_l hf rfl rfl rfl (w_appendD hf hM Tryz.underlying39 ei_9 rfl rfl rfl (k := 1) rfl (hM.dat (k := 0) rfl) hz100 fun A101 c102 w103 hM a hf => ?_)
        dsimp only [List.set] at hM
        refine q_ hf rfl rfl rfl (e_assign hf rfl) fun a hf => ?_
        refine pl_nil ?_
        refine then_n ?_
        refine wp_ret ?_
        obtain rfl := some_inj h
        have hM := hM.front (k := 1) rfl
        dsimp only [List.eraseIdx] at hM
        have hM := hM.outs (own' := [.row strRep A101 c102 9 xs99 true]) 1 rfl
        exact leave1 hf rfl rfl ⟨A101, c102, rfl, hM.fin⟩

end Go.Proofs.YtgmikhdealhlfaaGreatDoor
