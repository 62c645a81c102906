/- The functions that this law reaches do what their models say. Printed by gen.py. -/
import Derived.Test.YtgmikhdealhlfaaMod
import Derived.Test.YtgmikhdealhlfaaCandidatesOfRef
namespace Go.Proofs.Ytgmikhdealhlfaa
open Go Go.RowKit
set_option linter.unusedSimpArgs false
set_option linter.unusedVariables false

set_option maxRecDepth 100000 in
set_option maxHeartbeats 4000000 in
theorem r_impl_Grid_turned (C : Cx) (g1 : Grid) (hp2 : R64 g1.Rows) (hp3 : R64 g1.Cols) (hp4 : g1.Cells.length ≤ maxLen) (r : Grid) (h : m_impl_Grid_turned g1 = some r) :
    Calls Try.prog 81 #[.agg #[vI (g1.Rows), vI (g1.Cols), vS (g1.Cells)]] C.w0 fun e w => e = .returned (.agg #[vI (r.Rows), vI (r.Cols), vS (r.Cells)]) ∧ Mem C w [] [] ∧ R64 r.Rows ∧ R64 r.Cols ∧ r.Cells.length ≤ maxLen := by
  have hM := Mem.begin C [] trivial
  refine enter Try.func81 rfl Try.ntmps81 rfl fun a hf => ?_
  unfold m_impl_Grid_turned at h
  refine wp_seq ?_
  refine region_pl ?_
  refine pl_l hf rfl rfl rfl (w_box hf hM (cs := [vI (g1.Rows), vI (g1.Cols), vS (g1.Cells)]) rfl rfl fun b5 w6 hx7 hM a hf => ?_)
  refine pl_l hf rfl rfl rfl (w_alloc hM (cs := [vI (0), vI (0), vS (([] : Str))]) Try.zeroValue27 rfl fun b9 w10 hx11 hM a hf => ?_)
  refine pl_nil ?_
  refine then_n ?_
  refine wp_seq ?_
  refine region_pl ?_
  refine pl_l hf rfl rfl rfl (w_slice0 (K := byteRep) hM Try.underlying63 ei_5 fun b13 w14 hx15 hM a hf => ?_)
  refine q_ hf rfl rfl rfl (e_assign hf rfl) fun a hf => ?_
  refine pl_nil ?_
  refine then_n ?_
  obtain ⟨x19, h20, h⟩ := bind_some h
  refine seq_join (fun a w => ∃ (xs16 : Str) (A17 : Option Addr) (c18 : Nat), xs16 = x19 ∧ Has 38 a [(1, vP b5 (0)), (2, vP b9 (0)), (3, vL A17 (xs16) c18)] ∧ Mem C w [.row byteRep A17 c18 5 xs16 true, .box b9 [vI (0), vI (0), vS (([] : Str))] 27, .box b5 [vI (g1.Rows), vI (g1.Cols), vS (g1.Cells)] 27] []) ?_ ?_
  · refine wp_seq ?_
    refine region_pl ?_
    refine q_ hf rfl rfl rfl (e_assign hf rfl) fun a hf => ?_
    refine pl_nil ?_
    refine then_n ?_
    refine wp_block ?_
    obtain ⟨x30, h31, h20⟩ := bind_some h20
    refine wp_loopM h31 (fun s a w => ∃ (xs21 : Str) (row24 : Int) (A22 : Option Addr) (c23 : Nat), (xs21, row24) = s ∧ Has 38 a [(1, vP b5 (0)), (2, vP b9 (0)), (3, vL A22 (xs21) c23), (4, vI (row24))] ∧ Mem C w [.row byteRep A22 c23 5 xs21 true, .box b9 [vI (0), vI (0), vS (([] : Str))] 27, .box b5 [vI (g1.Rows), vI (g1.Cols), vS (g1.Cells)] 27] [] ∧ R64 row24) ?_ ?_
    · exact ⟨([] : Str), 0, (some ⟨b13, 0, none⟩), 0, rfl, hf.keep ⟨rfl, rfl, rfl, rfl, trivial⟩, hM.pick [] rfl, (R64_lit rfl)⟩
    · rintro s o32 a w26 ⟨xs21, row24, A22, c23, rfl, hf, hM, hv25⟩ h33 hd34
      replace h33 : m_impl_Grid_turned_l1 g1 xs21 row24 = some o32 := h33
      unfold m_impl_Grid_turned_l1 at h33
      refine wp_seq ?_
      refine wp_seq ?_
      refine region_pl ?_
      refine q_ hf rfl rfl rfl (e_move hf rfl) fun a hf => ?_
      refine q_ hf rfl rfl rfl (e_field hf rfl Try.underlying27 rfl Try.sizeOf2 (o' := 1) rfl) fun a hf => ?_
      refine q_ hf rfl rfl rfl (e_load1 hf rfl Try.isAgg2 (hM.boxCell (k := 2) rfl rfl)) fun a hf => ?_
      refine q_ hf rfl rfl rfl (e_lt hf (x := row24) (y := g1.Cols) rfl rfl) fun a hf => ?_
      refine pl_nil ?_
      refine then_n ?_
      rcases cond_some h33 with ⟨hc35, h33⟩ | ⟨hc35, h33⟩
      · refine cond_t hf rfl hc35 ?_
        refine wp_skip ?_
        refine then_n ?_
        obtain ⟨x39, h40, h33⟩ := bind_some h33
        refine seq_join (fun a w => ∃ (xs36 : Str) (A37 : Option Addr) (c38 : Nat), xs36 = x39 ∧ Has 38 a [(1, vP b5 (0)), (2, vP b9 (0)), (3, vL A37 (xs36) c38), (4, vI (row24))] ∧ Mem C w [.row byteRep A37 c38 5 xs36 true, .box b9 [vI (0), vI (0), vS (([] : Str))] 27, .box b5 [vI (g1.Rows), vI (g1.Cols), vS (g1.Cells)] 27] []) ?_ ?_
        · refine wp_block ?_
          refine wp_seq ?_
          refine region_pl ?_
          refine q_ hf rfl rfl rfl (e_assign hf rfl) fun a hf => ?_
          refine pl_nil ?_
          refine then_n ?_
          refine wp_block ?_
          obtain ⟨x50, h51, h40⟩ := bind_some h40
          refine wp_loopM h51 (fun s a w => ∃ (xs41 : Str) (n44 : Int) (A42 : Option Addr) (c43 : Nat), (xs41, n44) = s ∧ Has 38 a [(1, vP b5 (0)), (2, vP b9 (0)), (3, vL A42 (xs41) c43), (4, vI (row24)), (5, vI (n44))] ∧ Mem C w [.row byteRep A42 c43 5 xs41 true, .box b9 [vI (0), vI (0), vS (([] : Str))] 27, .box b5 [vI (g1.Rows), vI (g1.Cols), vS (g1.Cells)] 27] [] ∧ R64 n44) ?_ ?_
          · exact ⟨xs21, 0, A22, c23, rfl, hf.keep ⟨rfl, rfl, rfl, rfl, rfl, trivial⟩, hM.pick [] rfl, (R64_lit rfl)⟩
          · rintro s o52 a w46 ⟨xs41, n44, A42, c43, rfl, hf, hM, hv45⟩ h53 hd54
            replace h53 : m_impl_Grid_turned_l2 g1 row24 xs41 n44 = some o52 := h53
            unfold m_impl_Grid_turned_l2 at h53
            refine wp_seq ?_
            refine wp_seq ?_
            refine region_pl ?_
            refine q_ hf rfl rfl rfl (e_move hf rfl) fun a hf => ?_
            refine q_ hf rfl rfl rfl (e_field hf rfl Try.underlying27 rfl Try.sizeOf2 (o' := 0) rfl) fun a hf => ?_
            refine q_ hf rfl rfl rfl (e_load1 hf rfl Try.isAgg2 (hM.boxCell (k := 2) rfl rfl)) fun a hf => ?_
            refine q_ hf rfl rfl rfl (e_lt hf (x := n44) (y := g1.Rows) rfl rfl) fun a hf => ?_
            refine pl_nil ?_
            refine then_n ?_
            rcases cond_some h53 with ⟨hc55, h53⟩ | ⟨hc55, h53⟩
            · refine cond_t hf rfl hc55 ?_
              refine wp_skip ?_
              refine then_n ?_
              refine wp_seq ?_
              refine wp_block ?_
              refine region_pl ?_
              refine q_ hf rfl rfl rfl (e_move hf rfl) fun a hf => ?_
              refine q_ hf rfl rfl rfl (e_field hf rfl Try.underlying27 rfl Try.sizeOf9 (o' := 2) rfl) fun a hf => ?_
              refine q_ hf rfl rfl rfl (e_load1 hf rfl Try.isAgg9 (hM.boxCell (k := 2) rfl rfl)) fun a hf => ?_
              refine q_ hf rfl rfl rfl (e_move hf rfl) fun a hf => ?_
              refine q_ hf rfl rfl rfl (e_field hf rfl Try.underlying27 rfl Try.sizeOf2 (o' := 1) rfl) fun a hf => ?_
              refine q_ hf rfl rfl rfl (e_load1 hf rfl Try.isAgg2 (hM.boxCell (k := 2) rfl rfl)) fun a hf => ?_
              obtain ⟨z56, hz57, h53⟩ := bind_some h53
              refine q_ hf rfl rfl rfl (e_mul hf rfl rfl hz57) fun a hf => ?_
              refine q_ hf rfl rfl rfl (e_move hf rfl) fun a hf => ?_
              obtain ⟨z58, hz59, h53⟩ := bind_some h53
              refine q_ hf rfl rfl rfl (e_add hf rfl rfl hz59) fun a hf => ?_
              obtain ⟨c60, hz61, h53⟩ := bind_some h53
              refine q_ hf rfl rfl rfl (e_indexS hf (x := g1.Cells) rfl rfl Try.underlying9 hz61) fun a hf => ?_
              refine pl_l hf rfl rfl rfl (w_slice hf hM (K := byteRep) (xs := ([c60] : Str)) (os := [.tmp 28]) Try.underlying63 ei_5 rfl rfl rfl rfl rfl ⟨⟨[vB (c60)], rfl, rfl⟩, trivial⟩ rfl fun b62 w63 hx64 hM a hf => ?_)
              obtain ⟨xs65, hz66, h53⟩ := bind_some h53
              refine pl_l hf rfl rfl rfl (w_append hf hM Try.underlying63 ei_5 rfl rfl rfl (k := 1) rfl (hM.srcRow (k := 0) rfl) hz66 fun A67 c68 w69 hM a hf => ?_)
              dsimp only [List.set] at hM
              refine q_ hf rfl rfl rfl (e_assign hf rfl) fun a hf => ?_
              refine pl_nil ?_
              refine blk_n ?_
              refine then_n ?_
              refine region_pl ?_
              refine q_ hf rfl rfl rfl (e_move hf rfl) fun a hf => ?_
              obtain ⟨z72, hz73, h53⟩ := bind_some h53
              refine q_ hf rfl rfl rfl (e_add hf rfl rfl hz73) fun a hf => ?_
              refine q_ hf rfl rfl rfl (e_assign hf rfl) fun a hf => ?_
              refine pl_nil ?_
              obtain rfl := some_inj h53
              refine then_n ⟨_, rfl, ?_⟩
              exact ⟨xs65, z72, A67, c68, rfl, hf.keep ⟨rfl, rfl, rfl, rfl, rfl, trivial⟩, (hM.drop (.cons _ (.cons_cons _ (.cons_cons _ (.cons_cons _ .slnil))))).pick [] rfl, (chk_R hz73)⟩
            · refine cond_f hf rfl hc55 ?_
              refine wp_exit ?_
              refine then_x ?_
              obtain rfl := some_inj h53
              obtain rfl := hd54 _ rfl
              try dsimp only at h40
              refine then_x ?_
              refine exit_hit ?_
              refine blk_n ?_
              obtain rfl := some_inj h40
              refine then_n ?_
              exact ⟨xs41, A42, c43, rfl, hf.keep ⟨rfl, rfl, rfl, rfl, trivial⟩, hM.pick [] rfl⟩
        · rintro a w79 ⟨xs36, A37, c38, rfl, hf, hM⟩
          try dsimp only at h33
          refine region_pl ?_
          refine q_ hf rfl rfl rfl (e_move hf rfl) fun a hf => ?_
          obtain ⟨z80, hz81, h33⟩ := bind_some h33
          refine q_ hf rfl rfl rfl (e_add hf rfl rfl hz81) fun a hf => ?_
          refine q_ hf rfl rfl rfl (e_assign hf rfl) fun a hf => ?_
          refine pl_nil ?_
          obtain rfl := some_inj h33
          refine then_n ⟨_, rfl, ?_⟩
          exact ⟨xs36, z80, A37, c38, rfl, hf.keep ⟨rfl, rfl, rfl, rfl, trivial⟩, hM.pick [] rfl, (chk_R hz81)⟩
      · refine cond_f hf rfl hc35 ?_
        refine wp_exit ?_
        refine then_x ?_
        obtain rfl := some_inj h33
        obtain rfl := hd34 _ rfl
        try dsimp only at h20
        refine then_x ?_
        refine exit_hit ?_
        obtain rfl := some_inj h20
        refine then_n ?_
        exact ⟨xs21, A22, c23, rfl, hf.keep ⟨rfl, rfl, rfl, trivial⟩, hM.pick [] rfl⟩
  · rintro a w87 ⟨xs16, A17, c18, rfl, hf, hM⟩
    try dsimp only at h
    refine wp_seq ?_
    refine region_pl ?_
    refine q_ hf rfl rfl rfl (e_field hf rfl Try.underlying27 rfl Try.sizeOf2 (o' := 1) rfl) fun a hf => ?_
    refine q_ hf rfl rfl rfl (e_load1 hf rfl Try.isAgg2 (hM.boxCell (k := 2) rfl rfl)) fun a hf => ?_
    refine q_ hf rfl rfl rfl (e_field hf rfl Try.underlying27 rfl Try.sizeOf2 (o' := 0) rfl) fun a hf => ?_
    refine q_ hf rfl rfl rfl (e_load1 hf rfl Try.isAgg2 (hM.boxCell (k := 2) rfl rfl)) fun a hf => ?_
    refine q_ hf rfl rfl rfl (e_move hf rfl) fun a hf => ?_
    have hl88 := row_len (hM.ownAt (k := 0) rfl)
    refine q_ hf rfl rfl rfl (e_bytesStr hf (xs := xs16) rfl Try.underlying63 Try.underlying5 Try.underlying9 (hM.lendRow (k := 0) rfl)) fun a hf => ?_
    refine q_ hf rfl rfl rfl (e_build hf Try.zeroValue27 Try.underlying27 (bp_27 _ Try.underlying27.symm) rfl (cs := #[vI (g1.Cols), vI (g1.Rows), vS (xs16)]) (by kernel_rfl)) fun a hf => ?_
    refine pl_0 hf rfl rfl (w_store hf hM (us := [vI (g1.Cols), vI (g1.Rows), vS (xs16)]) (cs' := [vI (g1.Cols), vI (g1.Rows), vS (xs16)]) rfl rfl (k := 1) rfl rfl Try.sizeOf27 rfl rfl rfl fun w89 hM => ?_)
    dsimp only [List.set] at hM
    refine pl_nil ?_
    refine then_n ?_
    refine wp_ret ?_
    obtain rfl := some_inj h
    have hres92 := leaveV1 (P := Try.prog) Try.results81 (res_agg hf rfl ⟨Try.isAgg27, Try.sizeOf27⟩ (us := [vI (g1.Cols), vI (g1.Rows), vS (xs16)]) rfl (hM.boxSub (k := 1) (o := 0) rfl rfl))
    have hM := hM.outs (own' := []) 0 rfl
    exact bodyPost_ret hres92 hf.defers ⟨rfl, hM.fin, hp3, hp2, hl88⟩

set_option maxRecDepth 100000 in
set_option maxHeartbeats 4000000 in
theorem r_impl_Grid_slots (C : Cx) (g1 : Grid) (hp2 : R64 g1.Rows) (hp3 : R64 g1.Cols) (hp4 : g1.Cells.length ≤ maxLen) (r : (List Slot)) (h : m_impl_Grid_slots g1 = some r) :
    Calls Try.prog 55 #[.agg #[vI (g1.Rows), vI (g1.Cols), vS (g1.Cells)]] C.w0 fun e w => ∃ (A_1 : Option Addr), ∃ (c_1 : Nat), e = .returned (vL A_1 (r) c_1) ∧ Mem C w [.row SlotRep A_1 c_1 75 r true] [] := by
  have hM := Mem.begin C [] trivial
  refine enter Try.func55 rfl Try.ntmps55 rfl fun a hf => ?_
  unfold m_impl_Grid_slots at h
  refine wp_seq ?_
  refine region_pl ?_
  refine pl_l hf rfl rfl rfl (w_box hf hM (cs := [vI (g1.Rows), vI (g1.Cols), vS (g1.Cells)]) rfl rfl fun b5 w6 hx7 hM a hf => ?_)
  refine q_ hf rfl rfl rfl (e_assign hf rfl) fun a hf => ?_
  refine pl_nil ?_
  refine then_n ?_
  refine wp_seq ?_
  refine region_pl ?_
  refine q_ hf rfl rfl rfl (e_loadA hf (us := [vI (g1.Rows), vI (g1.Cols), vS (g1.Cells)]) rfl ⟨Try.isAgg27, Try.sizeOf27⟩ rfl (hM.boxSub (k := 0) (us := [vI (g1.Rows), vI (g1.Cols), vS (g1.Cells)]) (o := 0) rfl rfl)) fun a hf => ?_
  obtain ⟨y9, hz10, h⟩ := bind_some h
  refine pl_l hf rfl rfl rfl (w_call hf Try.call88 rfl (r_impl_Grid_across ⟨_, Sh C _ _, none_, hM.sh_lt, none_not, C.G, hM.g_lt, g_none, hM.tabs⟩ g1 hp2 hp3 hp4 _ hz10) ?_)
  rintro _ w13 ⟨A11, c12, rfl, hM2⟩
  obtain ⟨hM, hx14, hup15⟩ := hM.back hM2
  dsimp only [List.cons_append, List.nil_append] at hM hup15
  clear hM2
  refine ⟨_, rfl, fun a hf => ?_⟩
  refine q_ hf rfl rfl rfl (e_assign hf rfl) fun a hf => ?_
  refine pl_nil ?_
  refine then_n ?_
  obtain ⟨x19, h20, h⟩ := bind_some h
  refine seq_join (fun a w => ∃ (xs16 : (List Slot)) (A17 : Option Addr) (c18 : Nat), xs16 = x19 ∧ Has 28 a [(3, vL A17 (xs16) c18)] ∧ Mem C w [.row SlotRep A17 c18 75 xs16 true, .box b5 [vI (g1.Rows), vI (g1.Cols), vS (g1.Cells)] 27] []) ?_ ?_
  · refine wp_seq ?_
    refine region_pl ?_
    refine q_ hf rfl rfl rfl (e_loadA hf (us := [vI (g1.Rows), vI (g1.Cols), vS (g1.Cells)]) rfl ⟨Try.isAgg27, Try.sizeOf27⟩ rfl (hM.boxSub (k := 1) (us := [vI (g1.Rows), vI (g1.Cols), vS (g1.Cells)]) (o := 0) rfl rfl)) fun a hf => ?_
    obtain ⟨y21, hz22, h20⟩ := bind_some h20
    refine pl_l hf rfl rfl rfl (w_call hf Try.call81 rfl (r_impl_Grid_turned ⟨_, Sh C _ _, none_, hM.sh_lt, none_not, C.G, hM.g_lt, g_none, hM.tabs⟩ g1 hp2 hp3 hp4 _ hz22) ?_)
    rintro _ w26 ⟨rfl, hM2, hv23, hv24, hv25⟩
    obtain ⟨hM, hx27, hup28⟩ := hM.back hM2
    dsimp only [List.cons_append, List.nil_append] at hM hup28
    clear hM2
    refine ⟨_, rfl, fun a hf => ?_⟩
    obtain ⟨y29, hz30, h20⟩ := bind_some h20
    refine pl_l hf rfl rfl rfl (w_call hf Try.call88 rfl (r_impl_Grid_across ⟨_, Sh C _ _, none_, hM.sh_lt, none_not, C.G, hM.g_lt, g_none, hM.tabs⟩ y21 hv23 hv24 hv25 _ hz30) ?_)
    rintro _ w33 ⟨A31, c32, rfl, hM2⟩
    obtain ⟨hM, hx34, hup35⟩ := hM.back hM2
    dsimp only [List.cons_append, List.nil_append] at hM hup35
    clear hM2
    refine ⟨_, rfl, fun a hf => ?_⟩
    have hl36 := row_len (hM.ownAt (k := 0) rfl)
    refine q_ hf rfl rfl rfl (e_lenL hf (x := y29) rfl Try.underlying30) fun a hf => ?_
    refine q_ hf rfl rfl rfl (e_move hf rfl) fun a hf => ?_
    refine pl_nil ?_
    refine then_n ?_
    refine wp_block ?_
    obtain ⟨x46, h47, h20⟩ := bind_some h20
    refine wp_loopM h47 (fun s a w => ∃ (xs37 : (List Slot)) (n40 : Int) (A38 : Option Addr) (c39 : Nat), (xs37, n40) = s ∧ Has 28 a [(3, vL A38 (xs37) c39), (10, vL A31 (y29) c32), (11, vI ((y29.length : Int))), (12, vI (n40))] ∧ Mem C w [.row SlotRep A31 c32 75 y29 true, .row SlotRep A38 c39 75 xs37 true, .box b5 [vI (g1.Rows), vI (g1.Cols), vS (g1.Cells)] 27] [] ∧ R64 n40) ?_ ?_
    · exact ⟨y9, 0, A11, c12, rfl, hf.keep ⟨rfl, rfl, rfl, rfl, trivial⟩, hM.pick [] rfl, (R64_lit rfl)⟩
    · rintro s o48 a w42 ⟨xs37, n40, A38, c39, rfl, hf, hM, hv41⟩ h49 hd50
      replace h49 : m_impl_Grid_slots_l1 y29 xs37 n40 = some o48 := h49
      unfold m_impl_Grid_slots_l1 at h49
      refine wp_seq ?_
      refine region_pl ?_
      refine q_ hf rfl rfl rfl (e_lt hf (x := n40) (y := (y29.length : Int)) rfl rfl) fun a hf => ?_
      refine pl_nil ?_
      refine then_n ?_
      refine wp_seq ?_
      rcases cond_some h49 with ⟨hc51, h49⟩ | ⟨hc51, h49⟩
      · refine cond_t hf rfl hc51 ?_
        refine wp_skip ?_
        refine then_n ?_
        refine wp_seq ?_
        refine wp_block ?_
        refine wp_seq ?_
        refine region_pl ?_
        obtain ⟨e52, hz53, h49⟩ := bind_some h49
        obtain ⟨b58, _, hA59, h54, h55, hr56, hcell57⟩ := hM.rowElemN (k := 0) rfl (n := 4) rfl hz53
        obtain ⟨rfl, hv60, hv61, hv62⟩ := SlotRep_open hr56
        refine q_ hf rfl rfl rfl (e_indexAddr (A := A31) (b := b58) (o := 0) (xs := y29) (i := n40) hf hA59 rfl rfl Try.underlying30 Try.sizeOf75 h54 h55) fun a hf => ?_
        refine q_ hf rfl rfl rfl (e_loadA hf (us := [vI (e52.Row), vI (e52.Col), .bool (e52.Down), vI (e52.Length)]) rfl ⟨Try.isAgg75, Try.sizeOf75⟩ rfl hcell57) fun a hf => ?_
        refine pl_l hf rfl rfl rfl (w_alloc hM (cs := [vI (0), vI (0), .bool (false), vI (0)]) Try.zeroValue75 rfl fun b63 w64 hx65 hM a hf => ?_)
        refine pl_0 hf rfl rfl (w_store hf hM (us := [vI (e52.Row), vI (e52.Col), .bool (e52.Down), vI (e52.Length)]) (cs' := [vI (e52.Row), vI (e52.Col), .bool (e52.Down), vI (e52.Length)]) rfl rfl (k := 0) rfl rfl Try.sizeOf75 rfl rfl rfl fun w67 hM => ?_)
        dsimp only [List.set] at hM
        refine pl_nil ?_
        refine then_n ?_
        refine region_pl ?_
        refine q_ hf rfl rfl rfl (e_move hf rfl) fun a hf => ?_
        refine q_ hf rfl rfl rfl (e_field hf rfl Try.underlying75 rfl Try.sizeOf2 (o' := 1) rfl) fun a hf => ?_
        refine q_ hf rfl rfl rfl (e_load1 hf rfl Try.isAgg2 (hM.boxCell (k := 0) rfl rfl)) fun a hf => ?_
        refine q_ hf rfl rfl rfl (e_field hf rfl Try.underlying75 rfl Try.sizeOf2 (o' := 0) rfl) fun a hf => ?_
        refine q_ hf rfl rfl rfl (e_load1 hf rfl Try.isAgg2 (hM.boxCell (k := 0) rfl rfl)) fun a hf => ?_
        refine q_ hf rfl rfl rfl (e_field hf rfl Try.underlying75 rfl Try.sizeOf2 (o' := 3) rfl) fun a hf => ?_
        refine q_ hf rfl rfl rfl (e_load1 hf rfl Try.isAgg2 (hM.boxCell (k := 0) rfl rfl)) fun a hf => ?_
        refine q_ hf rfl rfl rfl (e_build hf Try.zeroValue75 Try.underlying75 (bp_75 _ Try.underlying75.symm) rfl (cs := #[vI (e52.Col), vI (e52.Row), .bool (true), vI (e52.Length)]) (by kernel_rfl)) fun a hf => ?_
        refine pl_l hf rfl rfl rfl (w_slice hf hM (K := SlotRep) (xs := ([(⟨e52.Col, e52.Row, true, e52.Length⟩ : Slot)] : (List Slot))) (os := [.tmp 23]) Try.underlying30 ei_75 rfl rfl rfl rfl rfl ⟨⟨[vI (e52.Col), vI (e52.Row), .bool (true), vI (e52.Length)], rfl, (SlotRep_mk (x := (⟨e52.Col, e52.Row, true, e52.Length⟩ : Slot)) hv61 hv60 hv62)⟩, trivial⟩ rfl fun b70 w71 hx72 hM a hf => ?_)
        obtain ⟨xs73, hz74, h49⟩ := bind_some h49
        refine pl_l hf rfl rfl rfl (w_append hf hM Try.underlying30 ei_75 rfl rfl rfl (k := 3) rfl (hM.srcRow (k := 0) rfl) hz74 fun A75 c76 w77 hM a hf => ?_)
        dsimp only [List.set] at hM
        refine q_ hf rfl rfl rfl (e_assign hf rfl) fun a hf => ?_
        refine pl_nil ?_
        refine blk_n ?_
        refine then_n ?_
        refine region_pl ?_
        obtain ⟨z80, hz81, h49⟩ := bind_some h49
        refine q_ hf rfl rfl rfl (e_add hf rfl rfl hz81) fun a hf => ?_
        refine q_ hf rfl rfl rfl (e_move hf rfl) fun a hf => ?_
        refine pl_nil ?_
        obtain rfl := some_inj h49
        refine then_n ⟨_, rfl, ?_⟩
        exact ⟨xs73, z80, A75, c76, rfl, hf.keep ⟨rfl, rfl, rfl, rfl, trivial⟩, (hM.drop (.cons _ (.cons _ (.cons_cons _ (.cons_cons _ (.cons_cons _ .slnil)))))).pick [] rfl, (chk_R hz81)⟩
      · refine cond_f hf rfl hc51 ?_
        refine wp_exit ?_
        refine then_x ?_
        obtain rfl := some_inj h49
        obtain rfl := hd50 _ rfl
        try dsimp only at h20
        refine then_x ?_
        refine exit_hit ?_
        obtain rfl := some_inj h20
        refine then_n ?_
        exact ⟨xs37, A38, c39, rfl, hf.keep ⟨rfl, trivial⟩, (hM.drop (.cons _ (.cons_cons _ (.cons_cons _ .slnil)))).pick [] rfl⟩
  · rintro a w87 ⟨xs16, A17, c18, rfl, hf, hM⟩
    try dsimp only at h
    refine wp_seq ?_
    refine region_pl ?_
    refine q_ hf rfl rfl rfl (e_move hf rfl) fun a hf => ?_
    refine q_ hf rfl rfl rfl (e_assign hf rfl) fun a hf => ?_
    refine pl_nil ?_
    refine then_n ?_
    refine wp_ret ?_
    obtain rfl := some_inj h
    have hM := hM.outs (own' := [.row SlotRep A17 c18 75 xs16 true]) 1 rfl
    exact leave1 hf rfl rfl ⟨A17, c18, rfl, hM.fin⟩

set_option maxRecDepth 100000 in
set_option maxHeartbeats 4000000 in
theorem r_impl_Grid_slotAt (C : Cx) (g1 : Grid) (hp2 : R64 g1.Rows) (hp3 : R64 g1.Cols) (hp4 : g1.Cells.length ≤ maxLen) (slot5 : Int) (hp6 : R64 slot5) (r : (Slot × Bool)) (h : m_impl_Grid_slotAt g1 slot5 = some r) :
    Calls Try.prog 52 #[.agg #[vI (g1.Rows), vI (g1.Cols), vS (g1.Cells)], vI (slot5)] C.w0 fun e w => e = .returned (.tuple #[.agg #[vI (r.1.Row), vI (r.1.Col), .bool (r.1.Down), vI (r.1.Length)], .bool (r.2)]) ∧ Mem C w [] [] ∧ R64 r.1.Row ∧ R64 r.1.Col ∧ R64 r.1.Length := by
  have hM := Mem.begin C [] trivial
  refine enter Try.func52 rfl Try.ntmps52 rfl fun a hf => ?_
  unfold m_impl_Grid_slotAt at h
  refine wp_seq ?_
  refine region_pl ?_
  refine pl_l hf rfl rfl rfl (w_box hf hM (cs := [vI (g1.Rows), vI (g1.Cols), vS (g1.Cells)]) rfl rfl fun b7 w8 hx9 hM a hf => ?_)
  refine pl_l hf rfl rfl rfl (w_alloc hM (cs := [vI (0), vI (0), .bool (false), vI (0)]) Try.zeroValue75 rfl fun b11 w12 hx13 hM a hf => ?_)
  refine q_ hf rfl rfl rfl (e_assign hf rfl) fun a hf => ?_
  refine pl_nil ?_
  refine then_n ?_
  refine wp_seq ?_
  refine region_pl ?_
  refine q_ hf rfl rfl rfl (e_loadA hf (us := [vI (g1.Rows), vI (g1.Cols), vS (g1.Cells)]) rfl ⟨Try.isAgg27, Try.sizeOf27⟩ rfl (hM.boxSub (k := 1) (us := [vI (g1.Rows), vI (g1.Cols), vS (g1.Cells)]) (o := 0) rfl rfl)) fun a hf => ?_
  obtain ⟨y15, hz16, h⟩ := bind_some h
  refine pl_l hf rfl rfl rfl (w_call hf Try.call55 rfl (r_impl_Grid_slots ⟨_, Sh C _ _, none_, hM.sh_lt, none_not, C.G, hM.g_lt, g_none, hM.tabs⟩ g1 hp2 hp3 hp4 _ hz16) ?_)
  rintro _ w19 ⟨A17, c18, rfl, hM2⟩
  obtain ⟨hM, hx20, hup21⟩ := hM.back hM2
  dsimp only [List.cons_append, List.nil_append] at hM hup21
  clear hM2
  refine ⟨_, rfl, fun a hf => ?_⟩
  refine q_ hf rfl rfl rfl (e_assign hf rfl) fun a hf => ?_
  refine pl_nil ?_
  refine then_n ?_
  refine wp_seq ?_
  refine wp_seq ?_
  refine region_pl ?_
  refine q_ hf rfl rfl rfl (e_move hf rfl) fun a hf => ?_
  refine q_ hf rfl rfl rfl (e_move hf rfl) fun a hf => ?_
  have hl22 := row_len (hM.ownAt (k := 0) rfl)
  refine q_ hf rfl rfl rfl (e_lenL hf (x := y15) rfl Try.underlying30) fun a hf => ?_
  obtain ⟨z23, hz24, h⟩ := bind_some h
  refine q_ hf rfl rfl rfl (e_sub hf rfl rfl hz24) fun a hf => ?_
  obtain ⟨y25, hz26, h⟩ := bind_some h
  refine pl_l hf rfl rfl rfl (w_call hf Try.call78 rfl (r_impl_within ⟨_, Sh C _ _, none_, hM.sh_lt, none_not, C.G, hM.g_lt, g_none, hM.tabs⟩ slot5 hp6 0 (R64_lit rfl) z23 (chk_R hz24) _ hz26) ?_)
  rintro _ w27 ⟨rfl, hM2⟩
  obtain ⟨hM, hx28, hup29⟩ := hM.back hM2
  dsimp only [List.cons_append, List.nil_append] at hM hup29
  clear hM2
  refine ⟨_, rfl, fun a hf => ?_⟩
  refine q_ hf rfl rfl rfl (e_not hf rfl) fun a hf => ?_
  refine pl_nil ?_
  refine then_n ?_
  rcases cond_some h with ⟨hc30, h⟩ | ⟨hc30, h⟩
  · refine cond_t hf rfl hc30 ?_
    refine wp_seq ?_
    refine region_pl ?_
    refine q_ hf rfl rfl rfl (e_build hf Try.zeroValue75 Try.underlying75 (bp_75 _ Try.underlying75.symm) rfl (cs := #[vI (0), vI (0), .bool (false), vI (0)]) (by kernel_rfl)) fun a hf => ?_
    refine pl_0 hf rfl rfl (w_store hf hM (us := [vI (0), vI (0), .bool (false), vI (0)]) (cs' := [vI (0), vI (0), .bool (false), vI (0)]) rfl rfl (k := 1) rfl rfl Try.sizeOf75 rfl rfl rfl fun w31 hM => ?_)
    dsimp only [List.set] at hM
    refine q_ hf rfl rfl rfl (e_assign hf rfl) fun a hf => ?_
    refine pl_nil ?_
    refine then_n ?_
    refine wp_ret ?_
    refine then_r ?_
    obtain rfl := some_inj h
    have hres34 := leaveV2 (P := Try.prog) Try.results52 (res_agg hf rfl ⟨Try.isAgg75, Try.sizeOf75⟩ (us := [vI (0), vI (0), .bool (false), vI (0)]) rfl (hM.boxSub (k := 1) (o := 0) rfl rfl)) (res_tmp hf rfl)
    have hM := hM.outs (own' := []) 0 rfl
    exact bodyPost_ret hres34 hf.defers ⟨rfl, hM.fin, (R64_lit rfl), (R64_lit rfl), (R64_lit rfl)⟩
  · refine cond_f hf rfl hc30 ?_
    refine wp_skip ?_
    refine then_n ?_
    refine wp_seq ?_
    refine region_pl ?_
    refine q_ hf rfl rfl rfl (e_move hf rfl) fun a hf => ?_
    refine q_ hf rfl rfl rfl (e_move hf rfl) fun a hf => ?_
    obtain ⟨e35, hz36, h⟩ := bind_some h
    obtain ⟨b41, _, hA42, h37, h38, hr39, hcell40⟩ := hM.rowElemN (k := 0) rfl (n := 4) rfl hz36
    obtain ⟨rfl, hv43, hv44, hv45⟩ := SlotRep_open hr39
    refine q_ hf rfl rfl rfl (e_indexAddr (A := A17) (b := b41) (o := 0) (xs := y15) (i := slot5) hf hA42 rfl rfl Try.underlying30 Try.sizeOf75 h37 h38) fun a hf => ?_
    refine q_ hf rfl rfl rfl (e_loadA hf (us := [vI (e35.Row), vI (e35.Col), .bool (e35.Down), vI (e35.Length)]) rfl ⟨Try.isAgg75, Try.sizeOf75⟩ rfl hcell40) fun a hf => ?_
    refine pl_0 hf rfl rfl (w_store hf hM (us := [vI (e35.Row), vI (e35.Col), .bool (e35.Down), vI (e35.Length)]) (cs' := [vI (e35.Row), vI (e35.Col), .bool (e35.Down), vI (e35.Length)]) rfl rfl (k := 1) rfl rfl Try.sizeOf75 rfl rfl rfl fun w46 hM => ?_)
    dsimp only [List.set] at hM
    refine q_ hf rfl rfl rfl (e_assign hf rfl) fun a hf => ?_
    refine pl_nil ?_
    refine then_n ?_
    refine wp_ret ?_
    obtain rfl := some_inj h
    have hres49 := leaveV2 (P := Try.prog) Try.results52 (res_agg hf rfl ⟨Try.isAgg75, Try.sizeOf75⟩ (us := [vI (e35.Row), vI (e35.Col), .bool (e35.Down), vI (e35.Length)]) rfl (hM.boxSub (k := 1) (o := 0) rfl rfl)) (res_tmp hf rfl)
    have hM := hM.outs (own' := []) 0 rfl
    exact bodyPost_ret hres49 hf.defers ⟨rfl, hM.fin, hv43, hv44, hv45⟩

set_option maxRecDepth 100000 in
set_option maxHeartbeats 4000000 in
theorem r_impl_Grid_index (C : Cx) (g1 : Grid) (hp2 : R64 g1.Rows) (hp3 : R64 g1.Cols) (hp4 : g1.Cells.length ≤ maxLen) (s5 : Slot) (hp6 : R64 s5.Row) (hp7 : R64 s5.Col) (hp8 : R64 s5.Length) (n9 : Int) (hp10 : R64 n9) (r : Int) (h : m_impl_Grid_index g1 s5 n9 = some r) :
    Calls Try.prog 86 #[.agg #[vI (g1.Rows), vI (g1.Cols), vS (g1.Cells)], .agg #[vI (s5.Row), vI (s5.Col), .bool (s5.Down), vI (s5.Length)], vI (n9)] C.w0 fun e w => e = .returned (vI (r)) ∧ Mem C w [] [] ∧ R64 r := by
  have hM := Mem.begin C [] trivial
  refine enter Try.func86 rfl Try.ntmps86 rfl fun a hf => ?_
  unfold m_impl_Grid_index at h
  refine wp_seq ?_
  refine region_pl ?_
  refine pl_l hf rfl rfl rfl (w_box hf hM (cs := [vI (g1.Rows), vI (g1.Cols), vS (g1.Cells)]) rfl rfl fun b11 w12 hx13 hM a hf => ?_)
  refine pl_l hf rfl rfl rfl (w_box hf hM (cs := [vI (s5.Row), vI (s5.Col), .bool (s5.Down), vI (s5.Length)]) rfl rfl fun b15 w16 hx17 hM a hf => ?_)
  refine q_ hf rfl rfl rfl (e_assign hf rfl) fun a hf => ?_
  refine pl_nil ?_
  refine then_n ?_
  refine wp_seq ?_
  refine wp_seq ?_
  refine region_pl ?_
  refine q_ hf rfl rfl rfl (e_field hf rfl Try.underlying75 rfl Try.sizeOf4 (o' := 2) rfl) fun a hf => ?_
  refine q_ hf rfl rfl rfl (e_load1 hf rfl Try.isAgg4 (hM.boxCell (k := 0) rfl rfl)) fun a hf => ?_
  refine pl_nil ?_
  refine then_n ?_
  rcases cond_some h with ⟨hc19, h⟩ | ⟨hc19, h⟩
  · refine cond_t hf rfl hc19 ?_
    refine wp_seq ?_
    refine region_pl ?_
    refine q_ hf rfl rfl rfl (e_field hf rfl Try.underlying75 rfl Try.sizeOf2 (o' := 0) rfl) fun a hf => ?_
    refine q_ hf rfl rfl rfl (e_load1 hf rfl Try.isAgg2 (hM.boxCell (k := 0) rfl rfl)) fun a hf => ?_
    refine q_ hf rfl rfl rfl (e_move hf rfl) fun a hf => ?_
    obtain ⟨z20, hz21, h⟩ := bind_some h
    refine q_ hf rfl rfl rfl (e_add hf rfl rfl hz21) fun a hf => ?_
    refine q_ hf rfl rfl rfl (e_field hf rfl Try.underlying27 rfl Try.sizeOf2 (o' := 1) rfl) fun a hf => ?_
    refine q_ hf rfl rfl rfl (e_load1 hf rfl Try.isAgg2 (hM.boxCell (k := 1) rfl rfl)) fun a hf => ?_
    obtain ⟨z22, hz23, h⟩ := bind_some h
    refine q_ hf rfl rfl rfl (e_mul hf rfl rfl hz23) fun a hf => ?_
    refine q_ hf rfl rfl rfl (e_field hf rfl Try.underlying75 rfl Try.sizeOf2 (o' := 1) rfl) fun a hf => ?_
    refine q_ hf rfl rfl rfl (e_load1 hf rfl Try.isAgg2 (hM.boxCell (k := 0) rfl rfl)) fun a hf => ?_
    obtain ⟨z24, hz25, h⟩ := bind_some h
    refine q_ hf rfl rfl rfl (e_add hf rfl rfl hz25) fun a hf => ?_
    refine q_ hf rfl rfl rfl (e_assign hf rfl) fun a hf => ?_
    refine pl_nil ?_
    refine then_n ?_
    refine wp_ret ?_
    refine then_r ?_
    obtain rfl := some_inj h
    have hM := hM.outs (own' := []) 0 rfl
    exact leave1 hf rfl rfl ⟨rfl, hM.fin, (chk_R hz25)⟩
  · refine cond_f hf rfl hc19 ?_
    refine wp_skip ?_
    refine then_n ?_
    refine wp_seq ?_
    refine region_pl ?_
    refine q_ hf rfl rfl rfl (e_field hf rfl Try.underlying75 rfl Try.sizeOf2 (o' := 0) rfl) fun a hf => ?_
    refine q_ hf rfl rfl rfl (e_load1 hf rfl Try.isAgg2 (hM.boxCell (k := 0) rfl rfl)) fun a hf => ?_
    refine q_ hf rfl rfl rfl (e_field hf rfl Try.underlying27 rfl Try.sizeOf2 (o' := 1) rfl) fun a hf => ?_
    refine q_ hf rfl rfl rfl (e_load1 hf rfl Try.isAgg2 (hM.boxCell (k := 1) rfl rfl)) fun a hf => ?_
    obtain ⟨z26, hz27, h⟩ := bind_some h
    refine q_ hf rfl rfl rfl (e_mul hf rfl rfl hz27) fun a hf => ?_
    refine q_ hf rfl rfl rfl (e_field hf rfl Try.underlying75 rfl Try.sizeOf2 (o' := 1) rfl) fun a hf => ?_
    refine q_ hf rfl rfl rfl (e_load1 hf rfl Try.isAgg2 (hM.boxCell (k := 0) rfl rfl)) fun a hf => ?_
    obtain ⟨z28, hz29, h⟩ := bind_some h
    refine q_ hf rfl rfl rfl (e_add hf rfl rfl hz29) fun a hf => ?_
    refine q_ hf rfl rfl rfl (e_move hf rfl) fun a hf => ?_
    obtain ⟨z30, hz31, h⟩ := bind_some h
    refine q_ hf rfl rfl rfl (e_add hf rfl rfl hz31) fun a hf => ?_
    refine q_ hf rfl rfl rfl (e_assign hf rfl) fun a hf => ?_
    refine pl_nil ?_
    refine then_n ?_
    refine wp_ret ?_
    obtain rfl := some_inj h
    have hM := hM.outs (own' := []) 0 rfl
    exact leave1 hf rfl rfl ⟨rfl, hM.fin, (chk_R hz31)⟩

set_option maxRecDepth 100000 in
set_option maxHeartbeats 4000000 in
theorem r_impl_Grid_pattern (C : Cx) (g1 : Grid) (hp2 : R64 g1.Rows) (hp3 : R64 g1.Cols) (hp4 : g1.Cells.length ≤ maxLen) (s5 : Slot) (hp6 : R64 s5.Row) (hp7 : R64 s5.Col) (hp8 : R64 s5.Length) (r : Str) (h : m_impl_Grid_pattern g1 s5 = some r) :
    Calls Try.prog 53 #[.agg #[vI (g1.Rows), vI (g1.Cols), vS (g1.Cells)], .agg #[vI (s5.Row), vI (s5.Col), .bool (s5.Down), vI (s5.Length)]] C.w0 fun e w => e = .returned (vS (r)) ∧ Mem C w [] [] ∧ r.length ≤ maxLen := by
  have hM := Mem.begin C [] trivial
  refine enter Try.func53 rfl Try.ntmps53 rfl fun a hf => ?_
  unfold m_impl_Grid_pattern at h
  refine wp_seq ?_
  refine region_pl ?_
  refine pl_l hf rfl rfl rfl (w_box hf hM (cs := [vI (g1.Rows), vI (g1.Cols), vS (g1.Cells)]) rfl rfl fun b9 w10 hx11 hM a hf => ?_)
  refine pl_l hf rfl rfl rfl (w_box hf hM (cs := [vI (s5.Row), vI (s5.Col), .bool (s5.Down), vI (s5.Length)]) rfl rfl fun b13 w14 hx15 hM a hf => ?_)
  refine q_ hf rfl rfl rfl (e_assign hf rfl) fun a hf => ?_
  refine pl_nil ?_
  refine then_n ?_
  refine wp_seq ?_
  refine region_pl ?_
  refine pl_l hf rfl rfl rfl (w_slice0 (K := byteRep) hM Try.underlying63 ei_5 fun b17 w18 hx19 hM a hf => ?_)
  refine q_ hf rfl rfl rfl (e_assign hf rfl) fun a hf => ?_
  refine pl_nil ?_
  refine then_n ?_
  obtain ⟨x23, h24, h⟩ := bind_some h
  refine seq_join (fun a w => ∃ (xs20 : Str) (A21 : Option Addr) (c22 : Nat), xs20 = x23 ∧ Has 26 a [(5, vL A21 (xs20) c22)] ∧ Mem C w [.row byteRep A21 c22 5 xs20 true, .box b13 [vI (s5.Row), vI (s5.Col), .bool (s5.Down), vI (s5.Length)] 75, .box b9 [vI (g1.Rows), vI (g1.Cols), vS (g1.Cells)] 27] []) ?_ ?_
  · refine wp_seq ?_
    refine region_pl ?_
    refine q_ hf rfl rfl rfl (e_assign hf rfl) fun a hf => ?_
    refine pl_nil ?_
    refine then_n ?_
    refine wp_block ?_
    obtain ⟨x34, h35, h24⟩ := bind_some h24
    refine wp_loopM h35 (fun s a w => ∃ (xs25 : Str) (n28 : Int) (A26 : Option Addr) (c27 : Nat), (xs25, n28) = s ∧ Has 26 a [(2, vP b9 (0)), (3, vP b13 (0)), (5, vL A26 (xs25) c27), (6, vI (n28))] ∧ Mem C w [.row byteRep A26 c27 5 xs25 true, .box b13 [vI (s5.Row), vI (s5.Col), .bool (s5.Down), vI (s5.Length)] 75, .box b9 [vI (g1.Rows), vI (g1.Cols), vS (g1.Cells)] 27] [] ∧ R64 n28) ?_ ?_
    · exact ⟨([] : Str), 0, (some ⟨b17, 0, none⟩), 0, rfl, hf.keep ⟨rfl, rfl, rfl, rfl, trivial⟩, hM.pick [] rfl, (R64_lit rfl)⟩
    · rintro s o36 a w30 ⟨xs25, n28, A26, c27, rfl, hf, hM, hv29⟩ h37 hd38
      replace h37 : m_impl_Grid_pattern_l1 s5 g1 xs25 n28 = some o36 := h37
      unfold m_impl_Grid_pattern_l1 at h37
      refine wp_seq ?_
      refine wp_seq ?_
      refine region_pl ?_
      refine q_ hf rfl rfl rfl (e_move hf rfl) fun a hf => ?_
      refine q_ hf rfl rfl rfl (e_field hf rfl Try.underlying75 rfl Try.sizeOf2 (o' := 3) rfl) fun a hf => ?_
      refine q_ hf rfl rfl rfl (e_load1 hf rfl Try.isAgg2 (hM.boxCell (k := 1) rfl rfl)) fun a hf => ?_
      refine q_ hf rfl rfl rfl (e_lt hf (x := n28) (y := s5.Length) rfl rfl) fun a hf => ?_
      refine pl_nil ?_
      refine then_n ?_
      rcases cond_some h37 with ⟨hc39, h37⟩ | ⟨hc39, h37⟩
      · refine cond_t hf rfl hc39 ?_
        refine wp_skip ?_
        refine then_n ?_
        refine wp_seq ?_
        refine wp_block ?_
        obtain ⟨w40, hw⟩ : ∃ x, x = w30.drew := ⟨_, rfl⟩
        refine region_pi (.q 0 (.q 1 (.q 2 (.q 3 (.q 4 (.q 5 (.l 6 (.q 7 (.l 8 (.l 9 (.q 10 (.nil)))))))))))) (Ext w40) rfl (by kernel_rfl) ?_
        have hM := hM.drew
        rw [← hw] at hM ⊢
        clear hw
        refine pi_q hf rfl rfl rfl rfl (Ext.refl _) (e_move hf rfl) fun a hf => ?_
        refine pi_q hf rfl rfl rfl rfl (Ext.refl _) (e_field hf rfl Try.underlying27 rfl Try.sizeOf9 (o' := 2) rfl) fun a hf => ?_
        refine pi_q hf rfl rfl rfl rfl (Ext.refl _) (e_load1 hf rfl Try.isAgg9 (hM.boxCell (k := 2) rfl rfl)) fun a hf => ?_
        refine pi_q hf rfl rfl rfl rfl (Ext.refl _) (e_loadA hf (us := [vI (g1.Rows), vI (g1.Cols), vS (g1.Cells)]) rfl ⟨Try.isAgg27, Try.sizeOf27⟩ rfl (hM.boxSub (k := 2) (us := [vI (g1.Rows), vI (g1.Cols), vS (g1.Cells)]) (o := 0) rfl rfl)) fun a hf => ?_
        refine pi_q hf rfl rfl rfl rfl (Ext.refl _) (e_loadA hf (us := [vI (s5.Row), vI (s5.Col), .bool (s5.Down), vI (s5.Length)]) rfl ⟨Try.isAgg75, Try.sizeOf75⟩ rfl (hM.boxSub (k := 1) (us := [vI (s5.Row), vI (s5.Col), .bool (s5.Down), vI (s5.Length)]) (o := 0) rfl rfl)) fun a hf => ?_
        refine pi_q hf rfl rfl rfl rfl (Ext.refl _) (e_move hf rfl) fun a hf => ?_
        refine pi_one ?_
        obtain ⟨y41, hz42, h37⟩ := bind_some h37
        refine pi_l hf rfl rfl rfl rfl (w_call hf Try.call86 rfl (r_impl_Grid_index ⟨_, Sh C _ _, none_, hM.sh_lt, none_not, C.G, hM.g_lt, g_none, hM.tabs⟩ g1 hp2 hp3 hp4 s5 hp6 hp7 hp8 n28 hv29 _ hz42) ?_)
        rintro _ w44 ⟨rfl, hM2, hv43⟩
        obtain ⟨hM, hx45, hup46⟩ := hM.back hM2
        dsimp only [List.cons_append, List.nil_append] at hM hup46
        clear hM2
        refine ⟨_, rfl, Ext w44, fun _ h => Ext.trans hx45 h, Ext.refl _, fun a hf => ?_⟩
        obtain ⟨c47, hz48, h37⟩ := bind_some h37
        refine pi_q hf rfl rfl rfl rfl (Ext.refl _) (e_indexS hf (x := g1.Cells) rfl rfl Try.underlying9 hz48) fun a hf => ?_
        refine pi_one ?_
        refine pi_l hf rfl rfl rfl rfl (w_slice hf hM (K := byteRep) (xs := ([c47] : Str)) (os := [.tmp 21]) Try.underlying63 ei_5 rfl rfl rfl rfl rfl ⟨⟨[vB (c47)], rfl, rfl⟩, trivial⟩ rfl fun b49 w50 hx51 hM => ⟨Ext w50, fun _ h => Ext.trans hx51 h, Ext.refl _, fun a hf => ?_⟩)
        refine pi_one ?_
        obtain ⟨xs52, hz53, h37⟩ := bind_some h37
        refine pi_z hf rfl rfl rfl rfl (by kernel_rfl) (w_append hf hM Try.underlying63 ei_5 rfl rfl rfl (k := 1) rfl (hM.srcRow (k := 0) rfl) hz53 fun A54 c55 w56 hM a hf => ?_)
        dsimp only [List.set] at hM
        refine pi_q hf rfl rfl rfl rfl (Ext.refl _) (e_assign hf rfl) fun a hf => ?_
        refine pi_nil ?_
        refine blk_n ?_
        refine then_n ?_
        refine region_pl ?_
        refine q_ hf rfl rfl rfl (e_move hf rfl) fun a hf => ?_
        obtain ⟨z59, hz60, h37⟩ := bind_some h37
        refine q_ hf rfl rfl rfl (e_add hf rfl rfl hz60) fun a hf => ?_
        refine q_ hf rfl rfl rfl (e_assign hf rfl) fun a hf => ?_
        refine pl_nil ?_
        obtain rfl := some_inj h37
        refine then_n ⟨_, rfl, ?_⟩
        exact ⟨xs52, z59, A54, c55, rfl, hf.keep ⟨rfl, rfl, rfl, rfl, trivial⟩, (hM.drop (.cons _ (.cons_cons _ (.cons_cons _ (.cons_cons _ .slnil))))).pick [] rfl, (chk_R hz60)⟩
      · refine cond_f hf rfl hc39 ?_
        refine wp_exit ?_
        refine then_x ?_
        obtain rfl := some_inj h37
        obtain rfl := hd38 _ rfl
        try dsimp only at h24
        refine then_x ?_
        refine exit_hit ?_
        obtain rfl := some_inj h24
        refine then_n ?_
        exact ⟨xs25, A26, c27, rfl, hf.keep ⟨rfl, trivial⟩, hM.pick [] rfl⟩
  · rintro a w66 ⟨xs20, A21, c22, rfl, hf, hM⟩
    try dsimp only at h
    refine wp_seq ?_
    refine region_pl ?_
    refine q_ hf rfl rfl rfl (e_move hf rfl) fun a hf => ?_
    have hl67 := row_len (hM.ownAt (k := 0) rfl)
    refine q_ hf rfl rfl rfl (e_bytesStr hf (xs := xs20) rfl Try.underlying63 Try.underlying5 Try.underlying9 (hM.lendRow (k := 0) rfl)) fun a hf => ?_
    refine q_ hf rfl rfl rfl (e_assign hf rfl) fun a hf => ?_
    refine pl_nil ?_
    refine then_n ?_
    refine wp_ret ?_
    obtain rfl := some_inj h
    have hM := hM.outs (own' := []) 0 rfl
    exact leave1 hf rfl rfl ⟨rfl, hM.fin, hl67⟩

set_option maxRecDepth 100000 in
set_option maxHeartbeats 4000000 in
theorem r_impl_fitsPattern (C : Cx) (pattern1 : Str) (hp2 : pattern1.length ≤ maxLen) (word3 : Str) (hp4 : word3.length ≤ maxLen) (r : Bool) (h : m_impl_fitsPattern pattern1 word3 = some r) :
    Calls Try.prog 61 #[vS (pattern1), vS (word3)] C.w0 fun e w => e = .returned (.bool (r)) ∧ Mem C w [] [] := by
  have hM := Mem.begin C [] trivial
  refine enter Try.func61 rfl Try.ntmps61 rfl fun a hf => ?_
  unfold m_impl_fitsPattern at h
  refine wp_seq ?_
  refine region_pl ?_
  refine q_ hf rfl rfl rfl (e_assign hf rfl) fun a hf => ?_
  refine pl_nil ?_
  refine then_n ?_
  refine wp_seq ?_
  refine wp_seq ?_
  refine region_pl ?_
  refine q_ hf rfl rfl rfl (e_move hf rfl) fun a hf => ?_
  refine q_ hf rfl rfl rfl (e_lenS hf (x := pattern1) rfl Try.underlying9) fun a hf => ?_
  refine q_ hf rfl rfl rfl (e_move hf rfl) fun a hf => ?_
  refine q_ hf rfl rfl rfl (e_lenS hf (x := word3) rfl Try.underlying9) fun a hf => ?_
  refine q_ hf rfl rfl rfl (e_ne hf (x := (pattern1.length : Int)) (y := (word3.length : Int)) rfl rfl) fun a hf => ?_
  refine pl_nil ?_
  refine then_n ?_
  rcases cond_some h with ⟨hc5, h⟩ | ⟨hc5, h⟩
  · refine cond_t hf rfl hc5 ?_
    refine wp_seq ?_
    refine region_pl ?_
    refine q_ hf rfl rfl rfl (e_assign hf rfl) fun a hf => ?_
    refine pl_nil ?_
    refine then_n ?_
    refine wp_ret ?_
    refine then_r ?_
    obtain rfl := some_inj h
    exact leave1 hf rfl rfl ⟨rfl, hM.fin⟩
  · refine cond_f hf rfl hc5 ?_
    refine wp_skip ?_
    refine then_n ?_
    obtain ⟨x6, h7, h⟩ := bind_some h
    refine seq_join (fun a w => (.inl ()) = x6 ∧ Has 29 a [] ∧ Mem C w [] []) ?_ ?_
    · refine wp_seq ?_
      refine region_pl ?_
      refine q_ hf rfl rfl rfl (e_move hf rfl) fun a hf => ?_
      refine pl_l hf rfl rfl rfl (w_range hf hM (x := word3) rfl Try.underlying9 fun b8 w9 hx10 hM a hf => ?_)
      refine pl_nil ?_
      refine then_n ?_
      refine wp_block ?_
      obtain ⟨x14, h15, h7⟩ := bind_some h7
      refine wp_loopM h15 (fun s a w => ∃ (pos11 : Nat), pos11 = s ∧ Has 29 a [(0, vS (pattern1)), (1, vS (word3)), (12, vP b8 0)] ∧ Mem C w [.obj b8 (.stringIter ⟨List.toArray word3⟩ pos11)] []) ?_ ?_
      · exact ⟨0, rfl, hf.keep ⟨rfl, rfl, rfl, trivial⟩, hM.pick [] rfl⟩
      · rintro s o16 a w12 ⟨pos11, rfl, hf, hM⟩ h17 hd18
        replace h17 : m_impl_fitsPattern_l1 word3 pattern1 pos11 = some o16 := h17
        unfold m_impl_fitsPattern_l1 at h17
        refine wp_seq ?_
        refine region_pl ?_
        rcases cond_some h17 with ⟨hc19, h17⟩ | ⟨hc19, h17⟩
        · refine pl_l hf rfl rfl rfl (w_next hf hM rfl (k := 0) rfl hc19 fun w20 hM a hf => ?_)
          dsimp only [List.set] at hM
          refine q_ hf rfl rfl rfl (e_extract hf rfl rfl) fun a hf => ?_
          refine pl_nil ?_
          refine then_n ?_
          refine wp_seq ?_
          refine cond_t hf rfl rfl ?_
          refine wp_skip ?_
          refine then_n ?_
          refine wp_block ?_
          refine wp_seq ?_
          refine region_pl ?_
          refine q_ hf rfl rfl rfl (e_extract hf rfl rfl) fun a hf => ?_
          refine q_ hf rfl rfl rfl (e_assign hf rfl) fun a hf => ?_
          refine pl_nil ?_
          refine then_n ?_
          obtain ⟨x24, h25, h17⟩ := bind_some h17
          refine seq_join (fun a w => ∃ (t22 : Bool), t22 = x24 ∧ Has 29 a [(0, vS (pattern1)), (1, vS (word3)), (12, vP b8 0), (28, .bool (t22))] ∧ Mem C w [.obj b8 (.stringIter ⟨List.toArray word3⟩ (pos11 + runeW word3 pos11))] []) ?_ ?_
          · obtain ⟨w26, hw⟩ : ∃ x, x = w20.drew := ⟨_, rfl⟩
            refine region_pi (.q 0 (.q 1 (.q 2 (.q 3 (.q 4 (.q 5 (.q 6 (.q 7 (.q 8 (.q 9 (.q 10 (.q 11 (.q 12 (.nil)))))))))))))) (Ext w26) rfl (by kernel_rfl) ?_
            have hM := hM.drew
            rw [← hw] at hM ⊢
            clear hw
            refine pi_q hf rfl rfl rfl rfl (Ext.refl _) (e_move hf rfl) fun a hf => ?_
            refine pi_q hf rfl rfl rfl rfl (Ext.refl _) (e_move hf rfl) fun a hf => ?_
            obtain ⟨c27, hz28, h25⟩ := bind_some h25
            refine pi_q hf rfl rfl rfl rfl (Ext.refl _) (e_indexS hf (x := pattern1) rfl rfl Try.underlying9 hz28) fun a hf => ?_
            refine pi_q hf rfl rfl rfl rfl (Ext.refl _) (e_neB hf (x := c27) (y := 46) rfl rfl) fun a hf => ?_
            refine pi_q hf rfl rfl rfl rfl (Ext.refl _) (e_move hf rfl) fun a hf => ?_
            rcases cond_some h25 with ⟨hc29, h25⟩ | ⟨hc29, h25⟩
            · refine pi_gq hf rfl (wanted_t hf rfl rfl rfl rfl hc29) rfl rfl (Ext.refl _) (e_move hf rfl) fun a hf => ?_
              refine pi_gq hf rfl (wanted_t hf rfl rfl rfl rfl hc29) rfl rfl (Ext.refl _) (e_move hf rfl) fun a hf => ?_
              obtain ⟨c30, hz31, h25⟩ := bind_some h25
              refine pi_gq hf rfl (wanted_t hf rfl rfl rfl rfl hc29) rfl rfl (Ext.refl _) (e_indexS hf (x := pattern1) rfl rfl Try.underlying9 hz31) fun a hf => ?_
              refine pi_gq hf rfl (wanted_t hf rfl rfl rfl rfl hc29) rfl rfl (Ext.refl _) (e_move hf rfl) fun a hf => ?_
              refine pi_gq hf rfl (wanted_t hf rfl rfl rfl rfl hc29) rfl rfl (Ext.refl _) (e_move hf rfl) fun a hf => ?_
              obtain ⟨c32, hz33, h25⟩ := bind_some h25
              refine pi_gq hf rfl (wanted_t hf rfl rfl rfl rfl hc29) rfl rfl (Ext.refl _) (e_indexS hf (x := word3) rfl rfl Try.underlying9 hz33) fun a hf => ?_
              refine pi_gq hf rfl (wanted_t hf rfl rfl rfl rfl hc29) rfl rfl (Ext.refl _) (e_neB hf (x := c30) (y := c32) rfl rfl) fun a hf => ?_
              refine pi_q hf rfl rfl rfl rfl (Ext.refl _) (e_pick_t hf rfl hc29 rfl) fun a hf => ?_
              refine pi_nil ?_
              obtain rfl := some_inj h25
              refine then_n ?_
              exact ⟨(c30 != c32), rfl, hf.keep ⟨rfl, rfl, rfl, rfl, trivial⟩, hM.pick [] rfl⟩
            · refine pi_gs hf rfl (wanted_f hf rfl rfl rfl rfl hc29) rfl rfl (Ext.refl _) fun a hf => ?_
              refine pi_gs hf rfl (wanted_f hf rfl rfl rfl rfl hc29) rfl rfl (Ext.refl _) fun a hf => ?_
              refine pi_gs hf rfl (wanted_f hf rfl rfl rfl rfl hc29) rfl rfl (Ext.refl _) fun a hf => ?_
              refine pi_gs hf rfl (wanted_f hf rfl rfl rfl rfl hc29) rfl rfl (Ext.refl _) fun a hf => ?_
              refine pi_gs hf rfl (wanted_f hf rfl rfl rfl rfl hc29) rfl rfl (Ext.refl _) fun a hf => ?_
              refine pi_gs hf rfl (wanted_f hf rfl rfl rfl rfl hc29) rfl rfl (Ext.refl _) fun a hf => ?_
              refine pi_gs hf rfl (wanted_f hf rfl rfl rfl rfl hc29) rfl rfl (Ext.refl _) fun a hf => ?_
              refine pi_q hf rfl rfl rfl rfl (Ext.refl _) (e_pick_f hf rfl hc29 rfl) fun a hf => ?_
              refine pi_nil ?_
              obtain rfl := some_inj h25
              refine then_n ?_
              exact ⟨false, rfl, hf.keep ⟨rfl, rfl, rfl, rfl, trivial⟩, hM.pick [] rfl⟩
          · rintro a w36 ⟨t22, rfl, hf, hM⟩
            try dsimp only at h17
            rcases cond_some h17 with ⟨hc37, h17⟩ | ⟨hc37, h17⟩
            · refine cond_t hf rfl hc37 ?_
              refine wp_seq ?_
              refine region_pl ?_
              refine q_ hf rfl rfl rfl (e_assign hf rfl) fun a hf => ?_
              refine pl_nil ?_
              refine then_n ?_
              refine wp_ret ?_
              refine blk_r ?_
              obtain rfl := some_inj h17
              obtain rfl := hd18 _ rfl
              try dsimp only at h7
              refine then_r ?_
              refine blk_r ?_
              obtain rfl := some_inj h7
              try dsimp only at h
              refine then_r ?_
              obtain rfl := some_inj h
              have hM := hM.outs (own' := []) 0 rfl
              exact leave1 hf rfl rfl ⟨rfl, hM.fin⟩
            · refine cond_f hf rfl hc37 ?_
              refine wp_skip ?_
              refine blk_n ?_
              obtain rfl := some_inj h17
              refine then_n ⟨_, rfl, ?_⟩
              exact ⟨(pos11 + runeW word3 pos11), rfl, hf.keep ⟨rfl, rfl, rfl, trivial⟩, hM.pick [] rfl⟩
        · refine pl_l hf rfl rfl rfl (w_nextEnd hf hM rfl (k := 0) rfl hc19 fun w39 hx40 hM a hf => ?_)
          refine q_ hf rfl rfl rfl (e_extract hf rfl rfl) fun a hf => ?_
          refine pl_nil ?_
          refine then_n ?_
          refine wp_seq ?_
          refine cond_f hf rfl rfl ?_
          refine wp_exit ?_
          refine then_x ?_
          obtain rfl := some_inj h17
          obtain rfl := hd18 _ rfl
          try dsimp only at h7
          refine then_x ?_
          refine exit_hit ?_
          obtain rfl := some_inj h7
          refine then_n ?_
          exact ⟨rfl, hf.keep trivial, (hM.drop (.cons _ .slnil)).pick [] rfl⟩
    · rintro a w46 ⟨rfl, hf, hM⟩
      try dsimp only at h
      refine wp_seq ?_
      refine region_pl ?_
      refine q_ hf rfl rfl rfl (e_assign hf rfl) fun a hf => ?_
      refine pl_nil ?_
      refine then_n ?_
      refine wp_ret ?_
      obtain rfl := some_inj h
      exact leave1 hf rfl rfl ⟨rfl, hM.fin⟩

set_option maxRecDepth 100000 in
set_option maxHeartbeats 4000000 in
theorem r_impl_Grid_candidates_1 (C : Cx) (word1 : Str) (hp2 : word1.length ≤ maxLen) (p3 : Str) (b4 : Nat) (o5 : Nat) (hp6 : (ptrRep strRep).R C.w0 C.S0 p3 [vP b4 o5]) (r : Bool) (h : m_impl_Grid_candidates_1 word1 p3 = some r) :
    Calls Try.prog 96 #[vS (word1), vP b4 (o5)] C.w0 fun e w => e = .returned (.bool (r)) ∧ Mem C w [] [] := by
  have hM := Mem.begin C [.dat (ptrRep strRep) p3 [vP b4 o5]] ⟨hp6, trivial⟩
  refine enter Try.func96 rfl Try.ntmps96 rfl fun a hf => ?_
  unfold m_impl_Grid_candidates_1 at h
  refine wp_seq ?_
  refine region_pl ?_
  refine q_ hf rfl rfl rfl (e_assign hf rfl) fun a hf => ?_
  refine pl_nil ?_
  refine then_n ?_
  refine wp_seq ?_
  refine region_pl ?_
  obtain ⟨_, hr7, hM⟩ := hM.deref (hM.dat (k := 0) rfl)
  obtain ⟨rfl, hv8⟩ := hr7
  refine q_ hf rfl rfl rfl (e_load1 hf rfl Try.isAgg9 (hM.litCell (k := 0) (j := 0) rfl rfl rfl)) fun a hf => ?_
  refine q_ hf rfl rfl rfl (e_move hf rfl) fun a hf => ?_
  obtain ⟨y9, hz10, h⟩ := bind_some h
  refine pl_l hf rfl rfl rfl (w_call hf Try.call61 rfl (r_impl_fitsPattern ⟨_, Sh C _ _, none_, hM.sh_lt, none_not, C.G, hM.g_lt, g_none, hM.tabs⟩ p3 hv8 word1 hp2 _ hz10) ?_)
  rintro _ w11 ⟨rfl, hM2⟩
  obtain ⟨hM, hx12, hup13⟩ := hM.back hM2
  dsimp only [List.cons_append, List.nil_append] at hM hup13
  clear hM2
  refine ⟨_, rfl, fun a hf => ?_⟩
  refine q_ hf rfl rfl rfl (e_assign hf rfl) fun a hf => ?_
  refine pl_nil ?_
  refine then_n ?_
  refine wp_ret ?_
  obtain rfl := some_inj h
  exact leave1 hf rfl rfl ⟨rfl, hM.fin⟩

set_option maxRecDepth 100000 in
set_option maxHeartbeats 4000000 in
theorem r_impl_selected_string (C : Cx) (list1 : (List Str)) (A2 : Option Addr) (c3 : Nat) (hp4 : (sliceRep strRep).R C.w0 C.S0 list1 [vL A2 list1 c3]) (is5 : (Str → Option Bool)) (fk6 : FuncId) (fc7 : List Value) (hfn8 : FnOk Try.prog C fk6 (FnC_Str_to_Bool fk6 fc7 is5)) (r : (List Str)) (h : m_impl_selected_string list1 is5 = some r) :
    Calls Try.prog 95 #[vL A2 (list1) c3, .func (.func fk6) #[] fc7.toArray] C.w0 fun e w => ∃ (A_1 : Option Addr), ∃ (c_1 : Nat), e = .returned (vL A_1 (r) c_1) ∧ Mem C w [.row strRep A_1 c_1 9 r true] [] := by
  have hM := Mem.begin C [.dat (sliceRep strRep) list1 [vL A2 list1 c3]] ⟨hp4, trivial⟩
  refine enter Try.func95 rfl Try.ntmps95 rfl fun a hf => ?_
  unfold m_impl_selected_string at h
  refine wp_seq ?_
  refine region_pl ?_
  refine q_ hf rfl rfl rfl (e_assign hf rfl) fun a hf => ?_
  refine pl_nil ?_
  refine then_n ?_
  refine wp_seq ?_
  refine region_pl ?_
  refine pl_l hf rfl rfl rfl (w_slice0 (K := strRep) hM Try.underlying40 ei_9 fun b9 w10 hx11 hM a hf => ?_)
  refine q_ hf rfl rfl rfl (e_assign hf rfl) fun a hf => ?_
  refine pl_nil ?_
  refine then_n ?_
  obtain ⟨x15, h16, h⟩ := bind_some h
  refine seq_join (fun a w => ∃ (xs12 : (List Str)) (A13 : Option Addr) (c14 : Nat), xs12 = x15 ∧ Has 24 a [(5, vL A13 (xs12) c14)] ∧ Mem C w [.row strRep A13 c14 9 xs12 true] [.dat (sliceRep strRep) list1 [vL A2 list1 c3]]) ?_ ?_
  · refine wp_seq ?_
    refine region_pl ?_
    refine q_ hf rfl rfl rfl (e_move hf rfl) fun a hf => ?_
    have hl17 := slice_len (hM.dat (k := 0) rfl)
    refine q_ hf rfl rfl rfl (e_lenL hf (x := list1) rfl Try.underlying40) fun a hf => ?_
    refine q_ hf rfl rfl rfl (e_move hf rfl) fun a hf => ?_
    refine pl_nil ?_
    refine then_n ?_
    refine wp_block ?_
    obtain ⟨x27, h28, h16⟩ := bind_some h16
    refine wp_loopM h28 (fun s a w => ∃ (xs18 : (List Str)) (n21 : Int) (A19 : Option Addr) (c20 : Nat), (xs18, n21) = s ∧ Has 24 a [(1, .func (.func fk6) #[] fc7.toArray), (5, vL A19 (xs18) c20), (9, vL A2 (list1) c3), (10, vI ((list1.length : Int))), (11, vI (n21))] ∧ Mem C w [.row strRep A19 c20 9 xs18 true] [.dat (sliceRep strRep) list1 [vL A2 list1 c3]] ∧ R64 n21) ?_ ?_
    · exact ⟨([] : (List Str)), 0, (some ⟨b9, 0, none⟩), 0, rfl, hf.keep ⟨rfl, rfl, rfl, rfl, rfl, trivial⟩, hM.pick [0] rfl, (R64_lit rfl)⟩
    · rintro s o29 a w23 ⟨xs18, n21, A19, c20, rfl, hf, hM, hv22⟩ h30 hd31
      replace h30 : m_impl_selected_string_l1 list1 is5 xs18 n21 = some o29 := h30
      unfold m_impl_selected_string_l1 at h30
      refine wp_seq ?_
      refine region_pl ?_
      refine q_ hf rfl rfl rfl (e_lt hf (x := n21) (y := (list1.length : Int)) rfl rfl) fun a hf => ?_
      refine pl_nil ?_
      refine then_n ?_
      refine wp_seq ?_
      rcases cond_some h30 with ⟨hc32, h30⟩ | ⟨hc32, h30⟩
      · refine cond_t hf rfl hc32 ?_
        refine wp_skip ?_
        refine then_n ?_
        obtain ⟨x36, h37, h30⟩ := bind_some h30
        refine seq_join (fun a w => ∃ (xs33 : (List Str)) (A34 : Option Addr) (c35 : Nat), xs33 = x36 ∧ Has 24 a [(1, .func (.func fk6) #[] fc7.toArray), (5, vL A34 (xs33) c35), (9, vL A2 (list1) c3), (10, vI ((list1.length : Int))), (11, vI (n21))] ∧ Mem C w [.row strRep A34 c35 9 xs33 true] [.dat (sliceRep strRep) list1 [vL A2 list1 c3]]) ?_ ?_
        · refine wp_block ?_
          refine wp_seq ?_
          refine region_pl ?_
          obtain ⟨e38, hz39, h37⟩ := bind_some h37
          obtain ⟨b43, o44, _, hA45, h40, h41, hr42, hM⟩ := hM.elem (hM.dat (k := 0) rfl) (n := 1) rfl hz39
          obtain ⟨rfl, hv46⟩ := hr42
          refine q_ hf rfl rfl rfl (e_indexAddr (A := A2) (b := b43) (o := o44) (xs := list1) (i := n21) hf hA45 rfl rfl Try.underlying40 Try.sizeOf9 h40 h41) fun a hf => ?_
          refine q_ hf rfl rfl rfl (e_load1 hf rfl Try.isAgg9 (hM.litCell (k := 0) (j := 0) rfl rfl rfl)) fun a hf => ?_
          refine q_ hf rfl rfl rfl (e_assign hf rfl) fun a hf => ?_
          refine pl_nil ?_
          refine then_n ?_
          refine wp_seq ?_
          refine region_pl ?_
          refine q_ hf rfl rfl rfl (e_move hf rfl) fun a hf => ?_
          refine q_ hf rfl rfl rfl (e_move hf rfl) fun a hf => ?_
          obtain ⟨y47, hz48, h37⟩ := bind_some h37
          refine pl_l hf rfl rfl rfl (w_callV hf rfl hfn8.1 rfl (hfn8.2 ⟨_, Sh C _ _, none_, hM.sh_lt, none_not, C.G, hM.g_lt, g_none, hM.tabs⟩ hM.sameS hM.s0sh e38 hv46 _ hz48) ?_)
          rintro _ w49 ⟨rfl, hM2⟩
          obtain ⟨hM, hx50, hup51⟩ := hM.back hM2
          dsimp only [List.cons_append, List.nil_append] at hM hup51
          clear hM2
          refine ⟨_, rfl, fun a hf => ?_⟩
          refine pl_nil ?_
          refine then_n ?_
          rcases cond_some h37 with ⟨hc52, h37⟩ | ⟨hc52, h37⟩
          · refine cond_t hf rfl hc52 ?_
            refine region_pl ?_
            refine q_ hf rfl rfl rfl (e_move hf rfl) fun a hf => ?_
            refine q_ hf rfl rfl rfl (e_move hf rfl) fun a hf => ?_
            refine pl_l hf rfl rfl rfl (w_slice hf hM (K := strRep) (xs := ([e38] : (List Str))) (os := [.tmp 19]) Try.underlying40 ei_9 rfl rfl rfl rfl rfl ⟨⟨[vS (e38)], rfl, ⟨rfl, hv46⟩⟩, trivial⟩ rfl fun b53 w54 hx55 hM a hf => ?_)
            obtain ⟨xs56, hz57, h37⟩ := bind_some h37
            refine pl_l hf rfl rfl rfl (w_append hf hM Try.underlying40 ei_9 rfl rfl rfl (k := 1) rfl (hM.srcRow (k := 0) rfl) hz57 fun A58 c59 w60 hM a hf => ?_)
            dsimp only [List.set] at hM
            refine q_ hf rfl rfl rfl (e_assign hf rfl) fun a hf => ?_
            refine pl_nil ?_
            refine blk_n ?_
            obtain rfl := some_inj h37
            refine then_n ?_
            exact ⟨xs56, A58, c59, rfl, hf.keep ⟨rfl, rfl, rfl, rfl, rfl, trivial⟩, (hM.drop (.cons _ (.cons_cons _ .slnil))).pick [1] rfl⟩
          · refine cond_f hf rfl hc52 ?_
            refine wp_skip ?_
            refine blk_n ?_
            obtain rfl := some_inj h37
            refine then_n ?_
            exact ⟨xs18, A19, c20, rfl, hf.keep ⟨rfl, rfl, rfl, rfl, rfl, trivial⟩, hM.pick [1] rfl⟩
        · rintro a w65 ⟨xs33, A34, c35, rfl, hf, hM⟩
          try dsimp only at h30
          refine region_pl ?_
          obtain ⟨z66, hz67, h30⟩ := bind_some h30
          refine q_ hf rfl rfl rfl (e_add hf rfl rfl hz67) fun a hf => ?_
          refine q_ hf rfl rfl rfl (e_move hf rfl) fun a hf => ?_
          refine pl_nil ?_
          obtain rfl := some_inj h30
          refine then_n ⟨_, rfl, ?_⟩
          exact ⟨xs33, z66, A34, c35, rfl, hf.keep ⟨rfl, rfl, rfl, rfl, rfl, trivial⟩, hM.pick [0] rfl, (chk_R hz67)⟩
      · refine cond_f hf rfl hc32 ?_
        refine wp_exit ?_
        refine then_x ?_
        obtain rfl := some_inj h30
        obtain rfl := hd31 _ rfl
        try dsimp only at h16
        refine then_x ?_
        refine exit_hit ?_
        obtain rfl := some_inj h16
        refine then_n ?_
        exact ⟨xs18, A19, c20, rfl, hf.keep ⟨rfl, trivial⟩, hM.pick [0] rfl⟩
  · rintro a w73 ⟨xs12, A13, c14, rfl, hf, hM⟩
    try dsimp only at h
    refine wp_seq ?_
    refine region_pl ?_
    refine q_ hf rfl rfl rfl (e_move hf rfl) fun a hf => ?_
    refine q_ hf rfl rfl rfl (e_assign hf rfl) fun a hf => ?_
    refine pl_nil ?_
    refine then_n ?_
    refine wp_ret ?_
    obtain rfl := some_inj h
    exact leave1 hf rfl rfl ⟨A13, c14, rfl, hM.fin⟩

set_option maxRecDepth 100000 in
set_option maxHeartbeats 4000000 in
theorem r_impl_Grid_candidates (C : Cx) (g1 : Grid) (hp2 : R64 g1.Rows) (hp3 : R64 g1.Cols) (hp4 : g1.Cells.length ≤ maxLen) (l5 : Lexicon) (A6 : Option Addr) (c7 : Nat) (hp8 : (sliceRep strRep).R C.w0 C.S0 l5.Words [vL A6 l5.Words c7]) (s9 : Slot) (hp10 : R64 s9.Row) (hp11 : R64 s9.Col) (hp12 : R64 s9.Length) (r : (List Str)) (h : m_impl_Grid_candidates g1 l5 s9 = some r) :
    Calls Try.prog 70 #[.agg #[vI (g1.Rows), vI (g1.Cols), vS (g1.Cells)], .agg #[vL A6 (l5.Words) c7], .agg #[vI (s9.Row), vI (s9.Col), .bool (s9.Down), vI (s9.Length)]] C.w0 fun e w => ∃ (A_1 : Option Addr), ∃ (c_1 : Nat), e = .returned (vL A_1 (r) c_1) ∧ Mem C w [.row strRep A_1 c_1 9 r true] [] := by
  have hM := Mem.begin C [.dat (sliceRep strRep) l5.Words [vL A6 l5.Words c7]] ⟨hp8, trivial⟩
  refine enter Try.func70 rfl Try.ntmps70 rfl fun a hf => ?_
  unfold m_impl_Grid_candidates at h
  refine wp_seq ?_
  refine region_pl ?_
  refine pl_l hf rfl rfl rfl (w_box hf hM (cs := [vI (g1.Rows), vI (g1.Cols), vS (g1.Cells)]) rfl rfl fun b13 w14 hx15 hM a hf => ?_)
  refine pl_l hf rfl rfl rfl (w_box hf hM (cs := [vL A6 (l5.Words) c7]) rfl rfl fun b17 w18 hx19 hM a hf => ?_)
  refine pl_l hf rfl rfl rfl (w_box hf hM (cs := [vI (s9.Row), vI (s9.Col), .bool (s9.Down), vI (s9.Length)]) rfl rfl fun b21 w22 hx23 hM a hf => ?_)
  refine q_ hf rfl rfl rfl (e_assign hf rfl) fun a hf => ?_
  refine pl_nil ?_
  refine then_n ?_
  refine wp_seq ?_
  refine region_pl ?_
  refine q_ hf rfl rfl rfl (e_loadA hf (us := [vI (g1.Rows), vI (g1.Cols), vS (g1.Cells)]) rfl ⟨Try.isAgg27, Try.sizeOf27⟩ rfl (hM.boxSub (k := 2) (us := [vI (g1.Rows), vI (g1.Cols), vS (g1.Cells)]) (o := 0) rfl rfl)) fun a hf => ?_
  refine q_ hf rfl rfl rfl (e_loadA hf (us := [vI (s9.Row), vI (s9.Col), .bool (s9.Down), vI (s9.Length)]) rfl ⟨Try.isAgg75, Try.sizeOf75⟩ rfl (hM.boxSub (k := 0) (us := [vI (s9.Row), vI (s9.Col), .bool (s9.Down), vI (s9.Length)]) (o := 0) rfl rfl)) fun a hf => ?_
  obtain ⟨y25, hz26, h⟩ := bind_some h
  refine pl_l hf rfl rfl rfl (w_call hf Try.call53 rfl (r_impl_Grid_pattern ⟨_, Sh C _ _, none_, hM.sh_lt, none_not, C.G, hM.g_lt, g_none, hM.tabs⟩ g1 hp2 hp3 hp4 s9 hp10 hp11 hp12 _ hz26) ?_)
  rintro _ w28 ⟨rfl, hM2, hv27⟩
  obtain ⟨hM, hx29, hup30⟩ := hM.back hM2
  dsimp only [List.cons_append, List.nil_append] at hM hup30
  clear hM2
  refine ⟨_, rfl, fun a hf => ?_⟩
  refine pl_l hf rfl rfl rfl (w_alloc hM (cs := [vS (([] : Str))]) Try.zeroValue9 rfl fun b31 w32 hx33 hM a hf => ?_)
  refine pl_0 hf rfl rfl (w_store hf hM (us := [vS (y25)]) (cs' := [vS (y25)]) rfl rfl (k := 0) rfl rfl Try.sizeOf9 rfl rfl rfl fun w35 hM => ?_)
  dsimp only [List.set] at hM
  refine pl_nil ?_
  refine then_n ?_
  refine wp_seq ?_
  refine region_pl ?_
  refine q_ hf rfl rfl rfl (e_field hf rfl Try.underlying45 rfl Try.sizeOf40 (o' := 0) rfl) fun a hf => ?_
  refine q_ hf rfl rfl rfl (e_load1 hf rfl Try.isAgg40 (hM.boxCell (k := 2) rfl rfl)) fun a hf => ?_
  refine q_ hf rfl rfl rfl (w_makeFunc hf rfl) fun a hf => ?_
  obtain ⟨y40, hz41, h⟩ := bind_some h
  refine pl_l hf rfl rfl rfl (w_call hf Try.call95 rfl (r_impl_selected_string ⟨_, All C _ _, none_, hM.all_lt, none_not, C.G, hM.g_lt, g_none, hM.tabs⟩ l5.Words _ _ (hM.lendDat (k := 0) rfl) (fun u38 => m_impl_Grid_candidates_1 u38 y25) 96 [vP b31 (0)] ⟨Try.call96, fun C1 hs hsub u38 hp39 r h => r_impl_Grid_candidates_1 C1 u38 hp39 y25 _ _ (Rep.to (hM.lendBox (k := 0) rfl ⟨rfl, hv27⟩) hs hsub) r h⟩ _ hz41) ?_)
  rintro _ w44 ⟨A42, c43, rfl, hM2⟩
  obtain ⟨hM, hx45⟩ := hM.backAF strRep_flat hM2
  clear hM2
  refine ⟨_, rfl, fun a hf => ?_⟩
  refine q_ hf rfl rfl rfl (e_assign hf rfl) fun a hf => ?_
  refine pl_nil ?_
  refine then_n ?_
  refine wp_ret ?_
  obtain rfl := some_inj h
  have hM := hM.outs (own' := [.row strRep A42 c43 9 y40 true]) 1 rfl
  exact leave1 hf rfl rfl ⟨A42, c43, rfl, hM.fin⟩

set_option maxRecDepth 100000 in
set_option maxHeartbeats 4000000 in
theorem r_impl_CandidatesOf (C : Cx) (g1 : Grid) (hp2 : R64 g1.Rows) (hp3 : R64 g1.Cols) (hp4 : g1.Cells.length ≤ maxLen) (l5 : Lexicon) (A6 : Option Addr) (c7 : Nat) (hp8 : (sliceRep strRep).R C.w0 C.S0 l5.Words [vL A6 l5.Words c7]) (slot9 : Int) (hp10 : R64 slot9) (r : ((List Str) × Int)) (h : m_impl_CandidatesOf g1 l5 slot9 = some r) :
    Calls Try.prog 30 #[.agg #[vI (g1.Rows), vI (g1.Cols), vS (g1.Cells)], .agg #[vL A6 (l5.Words) c7], vI (slot9)] C.w0 fun e w => ∃ (A_1 : Option Addr), ∃ (c_1 : Nat), e = .returned (.tuple #[vL A_1 (r.1) c_1, vI (r.2)]) ∧ Mem C w [.row strRep A_1 c_1 9 r.1 true] [] ∧ R64 r.2 := by
  have hM := Mem.begin C [.dat (sliceRep strRep) l5.Words [vL A6 l5.Words c7]] ⟨hp8, trivial⟩
  refine enter Try.func30 rfl Try.ntmps30 rfl fun a hf => ?_
  unfold m_impl_CandidatesOf at h
  refine wp_seq ?_
  refine region_pl ?_
  refine pl_l hf rfl rfl rfl (w_box hf hM (cs := [vI (g1.Rows), vI (g1.Cols), vS (g1.Cells)]) rfl rfl fun b11 w12 hx13 hM a hf => ?_)
  refine pl_l hf rfl rfl rfl (w_box hf hM (cs := [vL A6 (l5.Words) c7]) rfl rfl fun b15 w16 hx17 hM a hf => ?_)
  refine q_ hf rfl rfl rfl (e_assign hf rfl) fun a hf => ?_
  refine q_ hf rfl rfl rfl (e_assign hf rfl) fun a hf => ?_
  refine pl_nil ?_
  refine then_n ?_
  refine wp_seq ?_
  obtain ⟨x21, h22, h⟩ := bind_some h
  refine seq_join (fun a w => ∃ (t19 : Bool), t19 = x21 ∧ Has 30 a [(2, vI (slot9)), (3, vP b11 (0)), (4, vP b15 (0)), (17, .bool (t19))] ∧ Mem C w [.box b15 [vL A6 (l5.Words) c7] 45, .box b11 [vI (g1.Rows), vI (g1.Cols), vS (g1.Cells)] 27] [.dat (sliceRep strRep) l5.Words [vL A6 l5.Words c7]]) ?_ ?_
  · refine region_pl ?_
    refine q_ hf rfl rfl rfl (e_loadA hf (us := [vI (g1.Rows), vI (g1.Cols), vS (g1.Cells)]) rfl ⟨Try.isAgg27, Try.sizeOf27⟩ rfl (hM.boxSub (k := 1) (us := [vI (g1.Rows), vI (g1.Cols), vS (g1.Cells)]) (o := 0) rfl rfl)) fun a hf => ?_
    obtain ⟨y23, hz24, h22⟩ := bind_some h22
    refine pl_l hf rfl rfl rfl (w_call hf Try.call46 rfl (r_impl_ValidGrid ⟨_, Sh C _ _, none_, hM.sh_lt, none_not, C.G, hM.g_lt, g_none, hM.tabs⟩ g1 hp2 hp3 hp4 _ hz24) ?_)
    rintro _ w25 ⟨rfl, hM2⟩
    obtain ⟨hM, hx26, hup27⟩ := hM.back hM2
    dsimp only [List.cons_append, List.nil_append] at hM hup27
    clear hM2
    refine ⟨_, rfl, fun a hf => ?_⟩
    refine q_ hf rfl rfl rfl (e_not hf rfl) fun a hf => ?_
    refine q_ hf rfl rfl rfl (e_move hf rfl) fun a hf => ?_
    rcases cond_some h22 with ⟨hc28, h22⟩ | ⟨hc28, h22⟩
    · refine pl_gs (wanted_f hf rfl rfl rfl rfl hc28) hf rfl rfl fun a hf => ?_
      refine pl_gs (wanted_f hf rfl rfl rfl rfl hc28) hf rfl rfl fun a hf => ?_
      refine pl_gs (wanted_f hf rfl rfl rfl rfl hc28) hf rfl rfl fun a hf => ?_
      refine q_ hf rfl rfl rfl (e_pick_t hf rfl hc28 rfl) fun a hf => ?_
      refine pl_nil ?_
      obtain rfl := some_inj h22
      refine then_n ?_
      exact ⟨true, rfl, hf.keep ⟨rfl, rfl, rfl, rfl, trivial⟩, hM.pick [0] rfl⟩
    · refine gq (wanted_t hf rfl rfl rfl rfl hc28) hf rfl rfl (e_loadA hf (us := [vL A6 (l5.Words) c7]) rfl ⟨Try.isAgg45, Try.sizeOf45⟩ rfl (hM.boxSub (k := 0) (us := [vL A6 (l5.Words) c7]) (o := 0) rfl rfl)) fun a hf => ?_
      obtain ⟨y30, hz31, h22⟩ := bind_some h22
      refine pl_gl (wanted_t hf rfl rfl rfl rfl hc28) hf rfl rfl (w_call hf Try.call67 rfl (r_impl_ValidLexicon ⟨_, Sh C _ _, none_, hM.sh_lt, none_not, C.G, hM.g_lt, g_none, hM.tabs⟩ l5 _ _ (hM.dat (k := 0) rfl) _ hz31) ?_)
      rintro _ w32 ⟨rfl, hM2⟩
      obtain ⟨hM, hx33, hup34⟩ := hM.back hM2
      dsimp only [List.cons_append, List.nil_append] at hM hup34
      clear hM2
      refine ⟨_, rfl, fun a hf => ?_⟩
      refine gq (wanted_t hf rfl rfl rfl rfl hc28) hf rfl rfl (e_not hf rfl) fun a hf => ?_
      refine q_ hf rfl rfl rfl (e_pick_f hf rfl hc28 rfl) fun a hf => ?_
      refine pl_nil ?_
      obtain rfl := some_inj h22
      refine then_n ?_
      exact ⟨(!y30), rfl, hf.keep ⟨rfl, rfl, rfl, rfl, trivial⟩, hM.pick [0] rfl⟩
  · rintro a w36 ⟨t19, rfl, hf, hM⟩
    try dsimp only at h
    rcases cond_some h with ⟨hc37, h⟩ | ⟨hc37, h⟩
    · refine cond_t hf rfl hc37 ?_
      refine wp_seq ?_
      refine region_pl ?_
      refine q_ hf rfl rfl rfl (e_assign hf rfl) fun a hf => ?_
      refine q_ hf rfl rfl rfl (e_assign hf rfl) fun a hf => ?_
      refine pl_nil ?_
      refine then_n ?_
      refine wp_ret ?_
      refine then_r ?_
      obtain rfl := some_inj h
      have hM := hM.nilRow strRep 9
      have hM := hM.outs (own' := [.row strRep none 0 9 ([] : (List Str)) true]) 1 rfl
      exact leave2 hf rfl rfl rfl ⟨none, 0, rfl, hM.fin, (R64_lit rfl)⟩
    · refine cond_f hf rfl hc37 ?_
      refine wp_skip ?_
      refine then_n ?_
      refine wp_seq ?_
      refine region_pl ?_
      refine q_ hf rfl rfl rfl (e_loadA hf (us := [vI (g1.Rows), vI (g1.Cols), vS (g1.Cells)]) rfl ⟨Try.isAgg27, Try.sizeOf27⟩ rfl (hM.boxSub (k := 1) (us := [vI (g1.Rows), vI (g1.Cols), vS (g1.Cells)]) (o := 0) rfl rfl)) fun a hf => ?_
      refine q_ hf rfl rfl rfl (e_move hf rfl) fun a hf => ?_
      obtain ⟨y38, hz39, h⟩ := bind_some h
      refine pl_l hf rfl rfl rfl (w_call hf Try.call52 rfl (r_impl_Grid_slotAt ⟨_, Sh C _ _, none_, hM.sh_lt, none_not, C.G, hM.g_lt, g_none, hM.tabs⟩ g1 hp2 hp3 hp4 slot9 hp10 _ hz39) ?_)
      rintro _ w43 ⟨rfl, hM2, hv40, hv41, hv42⟩
      obtain ⟨hM, hx44, hup45⟩ := hM.back hM2
      dsimp only [List.cons_append, List.nil_append] at hM hup45
      clear hM2
      refine ⟨_, rfl, fun a hf => ?_⟩
      refine q_ hf rfl rfl rfl (e_move hf rfl) fun a hf => ?_
      refine q_ hf rfl rfl rfl (e_extract hf rfl rfl) fun a hf => ?_
      refine q_ hf rfl rfl rfl (e_extract hf rfl rfl) fun a hf => ?_
      refine pl_l hf rfl rfl rfl (w_alloc hM (cs := [vI (0), vI (0), .bool (false), vI (0)]) Try.zeroValue75 rfl fun b46 w47 hx48 hM a hf => ?_)
      refine pl_0 hf rfl rfl (w_store hf hM (us := [vI (y38.1.Row), vI (y38.1.Col), .bool (y38.1.Down), vI (y38.1.Length)]) (cs' := [vI (y38.1.Row), vI (y38.1.Col), .bool (y38.1.Down), vI (y38.1.Length)]) rfl rfl (k := 0) rfl rfl Try.sizeOf75 rfl rfl rfl fun w50 hM => ?_)
      dsimp only [List.set] at hM
      refine q_ hf rfl rfl rfl (e_assign hf rfl) fun a hf => ?_
      refine pl_nil ?_
      refine then_n ?_
      refine wp_seq ?_
      refine wp_seq ?_
      refine region_pl ?_
      refine q_ hf rfl rfl rfl (e_move hf rfl) fun a hf => ?_
      refine q_ hf rfl rfl rfl (e_not hf rfl) fun a hf => ?_
      refine pl_nil ?_
      refine then_n ?_
      rcases cond_some h with ⟨hc53, h⟩ | ⟨hc53, h⟩
      · refine cond_t hf rfl hc53 ?_
        refine wp_seq ?_
        refine region_pl ?_
        refine q_ hf rfl rfl rfl (e_assign hf rfl) fun a hf => ?_
        refine q_ hf rfl rfl rfl (e_assign hf rfl) fun a hf => ?_
        refine pl_nil ?_
        refine then_n ?_
        refine wp_ret ?_
        refine then_r ?_
        obtain rfl := some_inj h
        have hM := hM.nilRow strRep 9
        have hM := hM.outs (own' := [.row strRep none 0 9 ([] : (List Str)) true]) 1 rfl
        exact leave2 hf rfl rfl rfl ⟨none, 0, rfl, hM.fin, (R64_lit rfl)⟩
      · refine cond_f hf rfl hc53 ?_
        refine wp_skip ?_
        refine then_n ?_
        refine wp_seq ?_
        refine region_pl ?_
        refine q_ hf rfl rfl rfl (e_loadA hf (us := [vI (g1.Rows), vI (g1.Cols), vS (g1.Cells)]) rfl ⟨Try.isAgg27, Try.sizeOf27⟩ rfl (hM.boxSub (k := 2) (us := [vI (g1.Rows), vI (g1.Cols), vS (g1.Cells)]) (o := 0) rfl rfl)) fun a hf => ?_
        refine q_ hf rfl rfl rfl (e_loadA hf (us := [vL A6 (l5.Words) c7]) rfl ⟨Try.isAgg45, Try.sizeOf45⟩ rfl (hM.boxSub (k := 1) (us := [vL A6 (l5.Words) c7]) (o := 0) rfl rfl)) fun a hf => ?_
        refine q_ hf rfl rfl rfl (e_loadA hf (us := [vI (y38.1.Row), vI (y38.1.Col), .bool (y38.1.Down), vI (y38.1.Length)]) rfl ⟨Try.isAgg75, Try.sizeOf75⟩ rfl (hM.boxSub (k := 0) (us := [vI (y38.1.Row), vI (y38.1.Col), .bool (y38.1.Down), vI (y38.1.Length)]) (o := 0) rfl rfl)) fun a hf => ?_
        obtain ⟨y54, hz55, h⟩ := bind_some h
        refine pl_l hf rfl rfl rfl (w_call hf Try.call70 rfl (r_impl_Grid_candidates ⟨_, Sh C _ _, none_, hM.sh_lt, none_not, C.G, hM.g_lt, g_none, hM.tabs⟩ g1 hp2 hp3 hp4 l5 _ _ (hM.dat (k := 0) rfl) y38.1 hv40 hv41 hv42 _ hz55) ?_)
        rintro _ w58 ⟨A56, c57, rfl, hM2⟩
        obtain ⟨hM, hx59, hup60⟩ := hM.back hM2
        dsimp only [List.cons_append, List.nil_append] at hM hup60
        clear hM2
        refine ⟨_, rfl, fun a hf => ?_⟩
        refine q_ hf rfl rfl rfl (e_assign hf rfl) fun a hf => ?_
        refine q_ hf rfl rfl rfl (e_assign hf rfl) fun a hf => ?_
        refine pl_nil ?_
        refine then_n ?_
        refine wp_ret ?_
        obtain rfl := some_inj h
        have hM := hM.outs (own' := [.row strRep A56 c57 9 y54 true]) 1 rfl
        exact leave2 hf rfl rfl rfl ⟨A56, c57, rfl, hM.fin, (R64_lit rfl)⟩

set_option maxRecDepth 100000 in
set_option maxHeartbeats 4000000 in
theorem r_laws_eqStringS (C : Cx) (a1 : (List Str)) (A2 : Option Addr) (c3 : Nat) (hp4 : (sliceRep strRep).R C.w0 C.S0 a1 [vL A2 a1 c3]) (b5 : (List Str)) (A6 : Option Addr) (c7 : Nat) (hp8 : (sliceRep strRep).R C.w0 C.S0 b5 [vL A6 b5 c7]) (r : Bool) (h : m_laws_eqStringS a1 b5 = some r) :
    Calls Try.prog 31 #[vL A2 (a1) c3, vL A6 (b5) c7] C.w0 fun e w => e = .returned (.bool (r)) ∧ Mem C w [] [] := by
  have hM := Mem.begin C [.dat (sliceRep strRep) b5 [vL A6 b5 c7], .dat (sliceRep strRep) a1 [vL A2 a1 c3]] ⟨hp8, hp4, trivial⟩
  refine enter Try.func31 rfl Try.ntmps31 rfl fun a hf => ?_
  unfold m_laws_eqStringS at h
  refine wp_seq ?_
  refine region_pl ?_
  refine q_ hf rfl rfl rfl (e_assign hf rfl) fun a hf => ?_
  refine pl_nil ?_
  refine then_n ?_
  refine wp_seq ?_
  refine wp_seq ?_
  refine region_pl ?_
  refine q_ hf rfl rfl rfl (e_move hf rfl) fun a hf => ?_
  have hl9 := slice_len (hM.dat (k := 1) rfl)
  refine q_ hf rfl rfl rfl (e_lenL hf (x := a1) rfl Try.underlying40) fun a hf => ?_
  refine q_ hf rfl rfl rfl (e_move hf rfl) fun a hf => ?_
  have hl10 := slice_len (hM.dat (k := 0) rfl)
  refine q_ hf rfl rfl rfl (e_lenL hf (x := b5) rfl Try.underlying40) fun a hf => ?_
  refine q_ hf rfl rfl rfl (e_ne hf (x := (a1.length : Int)) (y := (b5.length : Int)) rfl rfl) fun a hf => ?_
  refine pl_nil ?_
  refine then_n ?_
  rcases cond_some h with ⟨hc11, h⟩ | ⟨hc11, h⟩
  · refine cond_t hf rfl hc11 ?_
    refine wp_seq ?_
    refine region_pl ?_
    refine q_ hf rfl rfl rfl (e_assign hf rfl) fun a hf => ?_
    refine pl_nil ?_
    refine then_n ?_
    refine wp_ret ?_
    refine then_r ?_
    obtain rfl := some_inj h
    exact leave1 hf rfl rfl ⟨rfl, hM.fin⟩
  · refine cond_f hf rfl hc11 ?_
    refine wp_skip ?_
    refine then_n ?_
    obtain ⟨x12, h13, h⟩ := bind_some h
    refine seq_join (fun a w => (.inl ()) = x12 ∧ Has 26 a [] ∧ Mem C w [] [.dat (sliceRep strRep) b5 [vL A6 b5 c7], .dat (sliceRep strRep) a1 [vL A2 a1 c3]]) ?_ ?_
    · refine wp_seq ?_
      refine region_pl ?_
      refine q_ hf rfl rfl rfl (e_assign hf rfl) fun a hf => ?_
      refine pl_nil ?_
      refine then_n ?_
      refine wp_block ?_
      obtain ⟨x17, h18, h13⟩ := bind_some h13
      refine wp_loopM h18 (fun s a w => ∃ (n14 : Int), n14 = s ∧ Has 26 a [(0, vL A2 (a1) c3), (1, vL A6 (b5) c7), (5, vI (n14))] ∧ Mem C w [] [.dat (sliceRep strRep) b5 [vL A6 b5 c7], .dat (sliceRep strRep) a1 [vL A2 a1 c3]] ∧ R64 n14) ?_ ?_
      · exact ⟨0, rfl, hf.keep ⟨rfl, rfl, rfl, trivial⟩, hM.pick [0, 1] rfl, (R64_lit rfl)⟩
      · rintro s o19 a w16 ⟨n14, rfl, hf, hM, hv15⟩ h20 hd21
        replace h20 : m_laws_eqStringS_l1 a1 b5 n14 = some o19 := h20
        unfold m_laws_eqStringS_l1 at h20
        refine wp_seq ?_
        refine wp_seq ?_
        refine region_pl ?_
        refine q_ hf rfl rfl rfl (e_move hf rfl) fun a hf => ?_
        refine q_ hf rfl rfl rfl (e_move hf rfl) fun a hf => ?_
        have hl22 := slice_len (hM.dat (k := 1) rfl)
        refine q_ hf rfl rfl rfl (e_lenL hf (x := a1) rfl Try.underlying40) fun a hf => ?_
        refine q_ hf rfl rfl rfl (e_lt hf (x := n14) (y := (a1.length : Int)) rfl rfl) fun a hf => ?_
        refine pl_nil ?_
        refine then_n ?_
        rcases cond_some h20 with ⟨hc23, h20⟩ | ⟨hc23, h20⟩
        · refine cond_t hf rfl hc23 ?_
          refine wp_skip ?_
          refine then_n ?_
          refine wp_seq ?_
          refine wp_block ?_
          refine wp_seq ?_
          obtain ⟨w24, hw⟩ : ∃ x, x = w16.drew := ⟨_, rfl⟩
          refine region_pi (.q 0 (.q 1 (.q 2 (.q 3 (.q 4 (.q 5 (.q 6 (.q 7 (.q 8 (.nil)))))))))) (Ext w24) rfl (by kernel_rfl) ?_
          have hM := hM.drew
          rw [← hw] at hM ⊢
          clear hw
          refine pi_q hf rfl rfl rfl rfl (Ext.refl _) (e_move hf rfl) fun a hf => ?_
          refine pi_q hf rfl rfl rfl rfl (Ext.refl _) (e_move hf rfl) fun a hf => ?_
          obtain ⟨e25, hz26, h20⟩ := bind_some h20
          obtain ⟨b30, o31, _, hA32, h27, h28, hr29, hM⟩ := hM.elem (hM.dat (k := 1) rfl) (n := 1) rfl hz26
          obtain ⟨rfl, hv33⟩ := hr29
          refine pi_q hf rfl rfl rfl rfl (Ext.refl _) (e_indexAddr (A := A2) (b := b30) (o := o31) (xs := a1) (i := n14) hf hA32 rfl rfl Try.underlying40 Try.sizeOf9 h27 h28) fun a hf => ?_
          refine pi_q hf rfl rfl rfl rfl (Ext.refl _) (e_load1 hf rfl Try.isAgg9 (hM.litCell (k := 0) (j := 0) rfl rfl rfl)) fun a hf => ?_
          refine pi_q hf rfl rfl rfl rfl (Ext.refl _) (e_move hf rfl) fun a hf => ?_
          refine pi_q hf rfl rfl rfl rfl (Ext.refl _) (e_move hf rfl) fun a hf => ?_
          obtain ⟨e34, hz35, h20⟩ := bind_some h20
          obtain ⟨b39, o40, _, hA41, h36, h37, hr38, hM⟩ := hM.elem (hM.dat (k := 1) rfl) (n := 1) rfl hz35
          obtain ⟨rfl, hv42⟩ := hr38
          refine pi_q hf rfl rfl rfl rfl (Ext.refl _) (e_indexAddr (A := A6) (b := b39) (o := o40) (xs := b5) (i := n14) hf hA41 rfl rfl Try.underlying40 Try.sizeOf9 h36 h37) fun a hf => ?_
          refine pi_q hf rfl rfl rfl rfl (Ext.refl _) (e_load1 hf rfl Try.isAgg9 (hM.litCell (k := 0) (j := 0) rfl rfl rfl)) fun a hf => ?_
          refine pi_q hf rfl rfl rfl rfl (Ext.refl _) (e_neS hf (x := e25) (y := e34) rfl rfl) fun a hf => ?_
          refine pi_nil ?_
          refine then_n ?_
          rcases cond_some h20 with ⟨hc43, h20⟩ | ⟨hc43, h20⟩
          · refine cond_t hf rfl hc43 ?_
            refine wp_seq ?_
            refine region_pl ?_
            refine q_ hf rfl rfl rfl (e_assign hf rfl) fun a hf => ?_
            refine pl_nil ?_
            refine then_n ?_
            refine wp_ret ?_
            refine blk_r ?_
            refine then_r ?_
            obtain rfl := some_inj h20
            obtain rfl := hd21 _ rfl
            try dsimp only at h13
            refine then_r ?_
            refine blk_r ?_
            obtain rfl := some_inj h13
            try dsimp only at h
            refine then_r ?_
            obtain rfl := some_inj h
            exact leave1 hf rfl rfl ⟨rfl, hM.fin⟩
          · refine cond_f hf rfl hc43 ?_
            refine wp_skip ?_
            refine blk_n ?_
            refine then_n ?_
            refine region_pl ?_
            refine q_ hf rfl rfl rfl (e_move hf rfl) fun a hf => ?_
            obtain ⟨z44, hz45, h20⟩ := bind_some h20
            refine q_ hf rfl rfl rfl (e_add hf rfl rfl hz45) fun a hf => ?_
            refine q_ hf rfl rfl rfl (e_assign hf rfl) fun a hf => ?_
            refine pl_nil ?_
            obtain rfl := some_inj h20
            refine then_n ⟨_, rfl, ?_⟩
            exact ⟨z44, rfl, hf.keep ⟨rfl, rfl, rfl, trivial⟩, hM.pick [2, 3] rfl, (chk_R hz45)⟩
        · refine cond_f hf rfl hc23 ?_
          refine wp_exit ?_
          refine then_x ?_
          obtain rfl := some_inj h20
          obtain rfl := hd21 _ rfl
          try dsimp only at h13
          refine then_x ?_
          refine exit_hit ?_
          obtain rfl := some_inj h13
          refine then_n ?_
          exact ⟨rfl, hf.keep trivial, hM.pick [0, 1] rfl⟩
    · rintro a w52 ⟨rfl, hf, hM⟩
      try dsimp only at h
      refine wp_seq ?_
      refine region_pl ?_
      refine q_ hf rfl rfl rfl (e_assign hf rfl) fun a hf => ?_
      refine pl_nil ?_
      refine then_n ?_
      refine wp_ret ?_
      obtain rfl := some_inj h
      exact leave1 hf rfl rfl ⟨rfl, hM.fin⟩

set_option maxRecDepth 100000 in
set_option maxHeartbeats 4000000 in
theorem r_laws_eqLexicon (C : Cx) (a1 : Lexicon) (A2 : Option Addr) (c3 : Nat) (hp4 : (sliceRep strRep).R C.w0 C.S0 a1.Words [vL A2 a1.Words c3]) (b5 : Lexicon) (A6 : Option Addr) (c7 : Nat) (hp8 : (sliceRep strRep).R C.w0 C.S0 b5.Words [vL A6 b5.Words c7]) (r : Bool) (h : m_laws_eqLexicon a1 b5 = some r) :
    Calls Try.prog 28 #[.agg #[vL A2 (a1.Words) c3], .agg #[vL A6 (b5.Words) c7]] C.w0 fun e w => e = .returned (.bool (r)) ∧ Mem C w [] [] := by
  have hM := Mem.begin C [.dat (sliceRep strRep) b5.Words [vL A6 b5.Words c7], .dat (sliceRep strRep) a1.Words [vL A2 a1.Words c3]] ⟨hp8, hp4, trivial⟩
  refine enter Try.func28 rfl Try.ntmps28 rfl fun a hf => ?_
  unfold m_laws_eqLexicon at h
  refine wp_seq ?_
  refine region_pl ?_
  refine pl_l hf rfl rfl rfl (w_box hf hM (cs := [vL A2 (a1.Words) c3]) rfl rfl fun b9 w10 hx11 hM a hf => ?_)
  refine pl_l hf rfl rfl rfl (w_box hf hM (cs := [vL A6 (b5.Words) c7]) rfl rfl fun b13 w14 hx15 hM a hf => ?_)
  refine q_ hf rfl rfl rfl (e_assign hf rfl) fun a hf => ?_
  refine pl_nil ?_
  refine then_n ?_
  refine wp_seq ?_
  refine wp_seq ?_
  refine region_pl ?_
  refine q_ hf rfl rfl rfl (e_field hf rfl Try.underlying45 rfl Try.sizeOf40 (o' := 0) rfl) fun a hf => ?_
  refine q_ hf rfl rfl rfl (e_load1 hf rfl Try.isAgg40 (hM.boxCell (k := 1) rfl rfl)) fun a hf => ?_
  refine q_ hf rfl rfl rfl (e_field hf rfl Try.underlying45 rfl Try.sizeOf40 (o' := 0) rfl) fun a hf => ?_
  refine q_ hf rfl rfl rfl (e_load1 hf rfl Try.isAgg40 (hM.boxCell (k := 0) rfl rfl)) fun a hf => ?_
  obtain ⟨y17, hz18, h⟩ := bind_some h
  refine pl_l hf rfl rfl rfl (w_call hf Try.call31 rfl (r_laws_eqStringS ⟨_, Sh C _ _, none_, hM.sh_lt, none_not, C.G, hM.g_lt, g_none, hM.tabs⟩ a1.Words _ _ (hM.dat (k := 1) rfl) b5.Words _ _ (hM.dat (k := 0) rfl) _ hz18) ?_)
  rintro _ w19 ⟨rfl, hM2⟩
  obtain ⟨hM, hx20, hup21⟩ := hM.back hM2
  dsimp only [List.cons_append, List.nil_append] at hM hup21
  clear hM2
  refine ⟨_, rfl, fun a hf => ?_⟩
  refine q_ hf rfl rfl rfl (e_not hf rfl) fun a hf => ?_
  refine pl_nil ?_
  refine then_n ?_
  rcases cond_some h with ⟨hc22, h⟩ | ⟨hc22, h⟩
  · refine cond_t hf rfl hc22 ?_
    refine wp_seq ?_
    refine region_pl ?_
    refine q_ hf rfl rfl rfl (e_assign hf rfl) fun a hf => ?_
    refine pl_nil ?_
    refine then_n ?_
    refine wp_ret ?_
    refine then_r ?_
    obtain rfl := some_inj h
    have hM := hM.outs (own' := []) 0 rfl
    exact leave1 hf rfl rfl ⟨rfl, hM.fin⟩
  · refine cond_f hf rfl hc22 ?_
    refine wp_skip ?_
    refine then_n ?_
    refine wp_seq ?_
    refine region_pl ?_
    refine q_ hf rfl rfl rfl (e_assign hf rfl) fun a hf => ?_
    refine pl_nil ?_
    refine then_n ?_
    refine wp_ret ?_
    obtain rfl := some_inj h
    have hM := hM.outs (own' := []) 0 rfl
    exact leave1 hf rfl rfl ⟨rfl, hM.fin⟩

set_option maxRecDepth 100000 in
set_option maxHeartbeats 4000000 in
theorem r_laws_markText (C : Cx) (k1 : Int) (hp2 : R64 k1) (r : Str) (h : m_laws_markText k1 = some r) :
    Calls Try.prog 71 #[vI (k1)] C.w0 fun e w => e = .returned (vS (r)) ∧ Mem C w [] [] ∧ r.length ≤ maxLen := by
  have hM := Mem.begin C [] trivial
  refine enter Try.func71 rfl Try.ntmps71 rfl fun a hf => ?_
  unfold m_laws_markText at h
  refine wp_seq ?_
  refine region_pl ?_
  refine q_ hf rfl rfl rfl (e_assign hf rfl) fun a hf => ?_
  refine pl_nil ?_
  refine then_n ?_
  refine wp_seq ?_
  refine wp_seq ?_
  refine region_pl ?_
  refine q_ hf rfl rfl rfl (e_move hf rfl) fun a hf => ?_
  refine q_ hf rfl rfl rfl (e_le hf (x := k1) (y := 0) rfl rfl) fun a hf => ?_
  refine pl_nil ?_
  refine then_n ?_
  rcases cond_some h with ⟨hc3, h⟩ | ⟨hc3, h⟩
  · refine cond_t hf rfl hc3 ?_
    refine wp_seq ?_
    refine region_pl ?_
    refine q_ hf rfl rfl rfl (e_assign hf rfl) fun a hf => ?_
    refine pl_nil ?_
    refine then_n ?_
    refine wp_ret ?_
    refine then_r ?_
    obtain rfl := some_inj h
    exact leave1 hf rfl rfl ⟨rfl, hM.fin, (lit_len rfl)⟩
  · refine cond_f hf rfl hc3 ?_
    refine wp_skip ?_
    refine then_n ?_
    refine wp_seq ?_
    refine region_pl ?_
    refine q_ hf rfl rfl rfl (e_assign hf rfl) fun a hf => ?_
    refine pl_nil ?_
    refine then_n ?_
    obtain ⟨x6, h7, h⟩ := bind_some h
    refine seq_join (fun a w => ∃ (s4 : Str), s4 = x6 ∧ Has 20 a [(3, vS (s4))] ∧ Mem C w [] [] ∧ s4.length ≤ maxLen) ?_ ?_
    · refine wp_block ?_
      obtain ⟨x15, h16, h7⟩ := bind_some h7
      refine wp_loopM h16 (fun s a w => ∃ (k8 : Int) (s10 : Str), (k8, s10) = s ∧ Has 20 a [(0, vI (k8)), (3, vS (s10))] ∧ Mem C w [] [] ∧ R64 k8 ∧ s10.length ≤ maxLen) ?_ ?_
      · exact ⟨k1, ([] : Str), rfl, hf.keep ⟨rfl, rfl, trivial⟩, hM.pick [] rfl, hp2, (lit_len rfl)⟩
      · rintro s o17 a w12 ⟨k8, s10, rfl, hf, hM, hv9, hv11⟩ h18 hd19
        replace h18 : m_laws_markText_l1 k8 s10 = some o17 := h18
        unfold m_laws_markText_l1 at h18
        refine wp_seq ?_
        refine wp_seq ?_
        refine region_pl ?_
        refine q_ hf rfl rfl rfl (e_move hf rfl) fun a hf => ?_
        refine q_ hf rfl rfl rfl (e_gt hf (x := k8) (y := 0) rfl rfl) fun a hf => ?_
        refine pl_nil ?_
        refine then_n ?_
        rcases cond_some h18 with ⟨hc20, h18⟩ | ⟨hc20, h18⟩
        · refine cond_t hf rfl hc20 ?_
          refine wp_skip ?_
          refine then_n ?_
          refine wp_block ?_
          refine wp_seq ?_
          refine region_pl ?_
          refine q_ hf rfl rfl rfl (e_move hf rfl) fun a hf => ?_
          obtain ⟨z21, hz22, h18⟩ := bind_some h18
          refine q_ hf rfl rfl rfl (e_rem hf rfl rfl hz22) fun a hf => ?_
          obtain ⟨z23, hz24, h18⟩ := bind_some h18
          refine q_ hf rfl rfl rfl (e_add hf rfl rfl hz24) fun a hf => ?_
          refine q_ hf rfl rfl rfl (e_convIB hf rfl Try.underlying3 Try.underlying5) fun a hf => ?_
          refine pl_l hf rfl rfl rfl (w_slice hf hM (K := byteRep) (xs := ([UInt8.ofNat (z23 % 256).toNat] : Str)) (os := [.tmp 11]) Try.underlying63 ei_5 rfl rfl rfl rfl rfl ⟨⟨[vB (UInt8.ofNat (z23 % 256).toNat)], rfl, rfl⟩, trivial⟩ rfl fun b25 w26 hx27 hM a hf => ?_)
          have hl28 := row_len (hM.ownAt (k := 0) rfl)
          refine q_ hf rfl rfl rfl (e_bytesStr hf (xs := ([UInt8.ofNat (z23 % 256).toNat] : Str)) rfl Try.underlying63 Try.underlying5 Try.underlying9 (hM.lendRow (k := 0) rfl)) fun a hf => ?_
          refine q_ hf rfl rfl rfl (e_move hf rfl) fun a hf => ?_
          obtain ⟨s29, hz30, h18⟩ := bind_some h18
          refine q_ hf rfl rfl rfl (e_cat hf (x := ([UInt8.ofNat (z23 % 256).toNat] : Str)) (y := s10) rfl rfl hz30) fun a hf => ?_
          refine q_ hf rfl rfl rfl (e_assign hf rfl) fun a hf => ?_
          refine pl_nil ?_
          refine then_n ?_
          refine region_pl ?_
          refine q_ hf rfl rfl rfl (e_move hf rfl) fun a hf => ?_
          obtain ⟨z31, hz32, h18⟩ := bind_some h18
          refine q_ hf rfl rfl rfl (e_quo hf rfl rfl hz32) fun a hf => ?_
          refine q_ hf rfl rfl rfl (e_assign hf rfl) fun a hf => ?_
          refine pl_nil ?_
          refine blk_n ?_
          obtain rfl := some_inj h18
          refine then_n ⟨_, rfl, ?_⟩
          exact ⟨z31, s29, rfl, hf.keep ⟨rfl, rfl, trivial⟩, (hM.drop (.cons _ .slnil)).pick [] rfl, (quoI_R hz32), (cat_len hz30)⟩
        · refine cond_f hf rfl hc20 ?_
          refine wp_exit ?_
          refine then_x ?_
          obtain rfl := some_inj h18
          obtain rfl := hd19 _ rfl
          try dsimp only at h7
          refine then_x ?_
          refine exit_hit ?_
          obtain rfl := some_inj h7
          refine then_n ?_
          exact ⟨s10, rfl, hf.keep ⟨rfl, trivial⟩, hM.pick [] rfl, hv11⟩
    · rintro a w38 ⟨s4, rfl, hf, hM, hv5⟩
      try dsimp only at h
      refine wp_seq ?_
      refine region_pl ?_
      refine q_ hf rfl rfl rfl (e_move hf rfl) fun a hf => ?_
      obtain ⟨s39, hz40, h⟩ := bind_some h
      refine q_ hf rfl rfl rfl (e_cat hf (x := ([109] : Str)) (y := s4) rfl rfl hz40) fun a hf => ?_
      refine q_ hf rfl rfl rfl (e_assign hf rfl) fun a hf => ?_
      refine pl_nil ?_
      refine then_n ?_
      refine wp_ret ?_
      obtain rfl := some_inj h
      exact leave1 hf rfl rfl ⟨rfl, hM.fin, (cat_len hz40)⟩

set_option maxRecDepth 100000 in
set_option maxHeartbeats 4000000 in
theorem r_laws_markStringS (C : Cx) (a1 : (List Str)) (A2 : Option Addr) (c3 : Nat) (k4 : Int) (hp5 : R64 k4) (hO : Mem C C.w0 [.row strRep A2 c3 9 a1 true] []) (hd : ∀ b, C.S0 b → ¬ ownB [.row strRep A2 c3 9 a1 true] b) (r : (Int × (List Str))) (h : m_laws_markStringS a1 k4 = some r) :
    Calls Try.prog 33 #[vL A2 (a1) c3, vI (k4)] C.w0 fun e w => e = .returned (vI (r.1)) ∧ Mem C w [.row strRep A2 c3 9 r.2 true] [] ∧ r.2.length = a1.length ∧ R64 r.1 := by
  have hM := hO
  refine enter Try.func33 rfl Try.ntmps33 rfl fun a hf => ?_
  unfold m_laws_markStringS at h
  refine wp_seq ?_
  refine region_pl ?_
  refine q_ hf rfl rfl rfl (e_assign hf rfl) fun a hf => ?_
  refine pl_nil ?_
  refine then_n ?_
  obtain ⟨x10, h11, h⟩ := bind_some h
  refine seq_join (fun a w => ∃ (xs6 : (List Str)) (k8 : Int), (xs6, k8) = x10 ∧ Has 20 a [(1, vI (k8))] ∧ Mem C w [.row strRep A2 c3 9 xs6 true] [] ∧ xs6.length = a1.length ∧ R64 k8) ?_ ?_
  · refine wp_seq ?_
    refine region_pl ?_
    refine q_ hf rfl rfl rfl (e_assign hf rfl) fun a hf => ?_
    refine pl_nil ?_
    refine then_n ?_
    refine wp_block ?_
    obtain ⟨x23, h24, h11⟩ := bind_some h11
    refine wp_loopM h24 (fun s a w => ∃ (xs12 : (List Str)) (k14 : Int) (n16 : Int), (xs12, k14, n16) = s ∧ Has 20 a [(0, vL A2 (xs12) c3), (1, vI (k14)), (5, vI (n16))] ∧ Mem C w [.row strRep A2 c3 9 xs12 true] [] ∧ xs12.length = a1.length ∧ R64 k14 ∧ R64 n16) ?_ ?_
    · exact ⟨a1, k4, 0, rfl, hf.keep ⟨rfl, rfl, rfl, trivial⟩, hM.pick [] rfl, rfl, hp5, (R64_lit rfl)⟩
    · rintro s o25 a w18 ⟨xs12, k14, n16, rfl, hf, hM, hl13, hv15, hv17⟩ h26 hd27
      replace h26 : m_laws_markStringS_l1 xs12 k14 n16 = some o25 := h26
      unfold m_laws_markStringS_l1 at h26
      refine wp_seq ?_
      refine wp_seq ?_
      refine region_pl ?_
      refine q_ hf rfl rfl rfl (e_move hf rfl) fun a hf => ?_
      refine q_ hf rfl rfl rfl (e_move hf rfl) fun a hf => ?_
      have hl28 := row_len (hM.ownAt (k := 0) rfl)
      refine q_ hf rfl rfl rfl (e_lenL hf (x := xs12) rfl Try.underlying40) fun a hf => ?_
      refine q_ hf rfl rfl rfl (e_lt hf (x := n16) (y := (xs12.length : Int)) rfl rfl) fun a hf => ?_
      refine pl_nil ?_
      refine then_n ?_
      rcases cond_some h26 with ⟨hc29, h26⟩ | ⟨hc29, h26⟩
      · refine cond_t hf rfl hc29 ?_
        refine wp_skip ?_
        refine then_n ?_
        refine wp_seq ?_
        refine wp_block ?_
        refine wp_seq ?_
        refine region_pl ?_
        refine q_ hf rfl rfl rfl (e_move hf rfl) fun a hf => ?_
        refine q_ hf rfl rfl rfl (e_move hf rfl) fun a hf => ?_
        refine q_ hf rfl rfl rfl (e_move hf rfl) fun a hf => ?_
        obtain ⟨y30, hz31, h26⟩ := bind_some h26
        refine pl_l hf rfl rfl rfl (w_call hf Try.call71 rfl (r_laws_markText ⟨_, Sh C _ _, none_, hM.sh_lt, none_not, C.G, hM.g_lt, g_none, hM.tabs⟩ k14 hv15 _ hz31) ?_)
        rintro _ w33 ⟨rfl, hM2, hv32⟩
        obtain ⟨hM, hx34, hup35⟩ := hM.back hM2
        dsimp only [List.cons_append, List.nil_append] at hM hup35
        clear hM2
        refine ⟨_, rfl, fun a hf => ?_⟩
        obtain ⟨e36, hz37, h26⟩ := bind_some h26
        obtain ⟨b42, _, hA43, h38, h39, hr40, hcell41⟩ := hM.rowElemN (k := 0) rfl (n := 1) rfl hz37
        obtain ⟨rfl, hv44⟩ := hr40
        refine q_ hf rfl rfl rfl (e_indexAddr (A := A2) (b := b42) (o := 0) (xs := xs12) (i := n16) hf hA43 rfl rfl Try.underlying40 Try.sizeOf9 h38 h39) fun a hf => ?_
        obtain ⟨xs46, hz47, h26⟩ := bind_some h26
        refine pl_0 hf rfl rfl (w_storeElem hf hM (x := y30) (row := [vS (y30)]) (i := n16) rfl rfl rfl hA43 (k := 0) rfl rfl Try.sizeOf9 ⟨rfl, hv32⟩ hz47 fun w45 hM => ?_)
        dsimp only [List.set] at hM
        have hf := hf.alter (d := 0) (v := vL A2 (xs46) c3) rfl (vL_len (setL_len hz47))
        have hf := hf.alter (d := 7) (v := vL A2 (xs46) c3) rfl (vL_len (setL_len hz47))
        have hf := hf.alter (d := 12) (v := vL A2 (xs46) c3) rfl (vL_len (setL_len hz47))
        refine pl_nil ?_
        refine then_n ?_
        refine region_pl ?_
        refine q_ hf rfl rfl rfl (e_move hf rfl) fun a hf => ?_
        obtain ⟨z48, hz49, h26⟩ := bind_some h26
        refine q_ hf rfl rfl rfl (e_add hf rfl rfl hz49) fun a hf => ?_
        refine q_ hf rfl rfl rfl (e_assign hf rfl) fun a hf => ?_
        refine pl_nil ?_
        refine blk_n ?_
        refine then_n ?_
        refine region_pl ?_
        refine q_ hf rfl rfl rfl (e_move hf rfl) fun a hf => ?_
        obtain ⟨z50, hz51, h26⟩ := bind_some h26
        refine q_ hf rfl rfl rfl (e_add hf rfl rfl hz51) fun a hf => ?_
        refine q_ hf rfl rfl rfl (e_assign hf rfl) fun a hf => ?_
        refine pl_nil ?_
        obtain rfl := some_inj h26
        refine then_n ⟨_, rfl, ?_⟩
        exact ⟨xs46, z48, z50, rfl, hf.keep ⟨rfl, rfl, rfl, trivial⟩, hM.pick [] rfl, ((setL_len hz47).trans hl13), (chk_R hz49), (chk_R hz51)⟩
      · refine cond_f hf rfl hc29 ?_
        refine wp_exit ?_
        refine then_x ?_
        obtain rfl := some_inj h26
        obtain rfl := hd27 _ rfl
        try dsimp only at h11
        refine then_x ?_
        refine exit_hit ?_
        obtain rfl := some_inj h11
        refine then_n ?_
        exact ⟨xs12, k14, rfl, hf.keep ⟨rfl, trivial⟩, hM.pick [] rfl, hl13, hv15⟩
  · rintro a w57 ⟨xs6, k8, rfl, hf, hM, hl7, hv9⟩
    try dsimp only at h
    refine wp_seq ?_
    refine region_pl ?_
    refine q_ hf rfl rfl rfl (e_move hf rfl) fun a hf => ?_
    refine q_ hf rfl rfl rfl (e_assign hf rfl) fun a hf => ?_
    refine pl_nil ?_
    refine then_n ?_
    refine wp_ret ?_
    obtain rfl := some_inj h
    exact leave1 hf rfl rfl ⟨rfl, hM.fin, hl7, hv9⟩

set_option maxRecDepth 100000 in
set_option maxHeartbeats 4000000 in
theorem r_laws_markLexicon (C : Cx) (a1 : Lexicon) (A2 : Option Addr) (c3 : Nat) (k4 : Int) (hp5 : R64 k4) (hO : Mem C C.w0 [.row strRep A2 c3 9 a1.Words true] []) (hd : ∀ b, C.S0 b → ¬ ownB [.row strRep A2 c3 9 a1.Words true] b) (r : (Int × (List Str))) (h : m_laws_markLexicon a1 k4 = some r) :
    Calls Try.prog 32 #[.agg #[vL A2 (a1.Words) c3], vI (k4)] C.w0 fun e w => e = .returned (vI (r.1)) ∧ Mem C w [.row strRep A2 c3 9 r.2 true] [] ∧ r.2.length = a1.Words.length ∧ R64 r.1 := by
  have hM := hO
  refine enter Try.func32 rfl Try.ntmps32 rfl fun a hf => ?_
  unfold m_laws_markLexicon at h
  refine wp_seq ?_
  refine region_pl ?_
  refine pl_l hf rfl rfl rfl (w_box hf hM (cs := [vL A2 (a1.Words) c3]) rfl rfl fun b6 w7 hx8 hM a hf => ?_)
  refine q_ hf rfl rfl rfl (e_assign hf rfl) fun a hf => ?_
  refine pl_nil ?_
  refine then_n ?_
  refine wp_seq ?_
  refine region_pl ?_
  refine q_ hf rfl rfl rfl (e_field hf rfl Try.underlying45 rfl Try.sizeOf40 (o' := 0) rfl) fun a hf => ?_
  refine q_ hf rfl rfl rfl (e_load1 hf rfl Try.isAgg40 (hM.boxCell (k := 0) rfl rfl)) fun a hf => ?_
  refine q_ hf rfl rfl rfl (e_move hf rfl) fun a hf => ?_
  have hM := hM.front (k := 1) rfl
  dsimp only [List.eraseIdx] at hM
  have hM : Mem C _ ([.row strRep A2 c3 9 a1.Words true] ++ [.box b6 [vL A2 (a1.Words) c3] 45]) _ := hM
  obtain ⟨y10, hz11, h⟩ := bind_some h
  refine pl_l hf rfl rfl rfl (w_call hf Try.call33 rfl (r_laws_markStringS ⟨_, Sh C _ _, ownB _, hM.sh_lt, sub_dis, C.G, hM.g_lt, hM.g_own, hM.tabs⟩ a1.Words _ _ k4 hp5 hM.sub sub_dis _ hz11) ?_)
  rintro _ w14 ⟨rfl, hM2, hl12, hv13⟩
  obtain ⟨hM, hup16⟩ := hM.backG hM2
  dsimp only [List.cons_append, List.nil_append] at hM hup16
  clear hM2
  refine ⟨_, rfl, fun a hf => ?_⟩
  have hf := hf.alter (d := 0) (v := .agg #[vL A2 (y10.2) c3]) rfl (by rw [vL_len (A := A2) (c := c3) hl12])
  have hf := hf.alter (d := 6) (v := vL A2 (y10.2) c3) rfl (vL_len hl12)
  rw [vL_len (A := A2) (c := c3) hl12] at hM
  refine q_ hf rfl rfl rfl (e_assign hf rfl) fun a hf => ?_
  refine pl_nil ?_
  refine then_n ?_
  refine wp_seq ?_
  refine region_pl ?_
  refine q_ hf rfl rfl rfl (e_move hf rfl) fun a hf => ?_
  refine q_ hf rfl rfl rfl (e_assign hf rfl) fun a hf => ?_
  refine pl_nil ?_
  refine then_n ?_
  refine wp_ret ?_
  obtain rfl := some_inj h
  have hM := hM.outs (own' := [.row strRep A2 c3 9 y10.2 true]) 1 rfl
  exact leave1 hf rfl rfl ⟨rfl, hM.fin, hl12, hv13⟩

set_option maxRecDepth 100000 in
set_option maxHeartbeats 4000000 in
theorem r_laws_heldStringS (C : Cx) (a1 : (List Str)) (A2 : Option Addr) (c3 : Nat) (hp4 : (sliceRep strRep).R C.w0 C.S0 a1 [vL A2 a1 c3]) (k5 : Int) (hp6 : R64 k5) (r : Int) (h : m_laws_heldStringS a1 k5 = some r) :
    Calls Try.prog 34 #[vL A2 (a1) c3, vI (k5)] C.w0 fun e w => e = .returned (vI (r)) ∧ Mem C w [] [] ∧ R64 r := by
  have hM := Mem.begin C [.dat (sliceRep strRep) a1 [vL A2 a1 c3]] ⟨hp4, trivial⟩
  refine enter Try.func34 rfl Try.ntmps34 rfl fun a hf => ?_
  unfold m_laws_heldStringS at h
  refine wp_seq ?_
  refine region_pl ?_
  refine q_ hf rfl rfl rfl (e_assign hf rfl) fun a hf => ?_
  refine pl_nil ?_
  refine then_n ?_
  obtain ⟨x9, h10, h⟩ := bind_some h
  refine seq_join (fun a w => ∃ (k7 : Int), (.inl k7) = x9 ∧ Has 22 a [(1, vI (k7))] ∧ Mem C w [] [.dat (sliceRep strRep) a1 [vL A2 a1 c3]] ∧ R64 k7) ?_ ?_
  · refine wp_seq ?_
    refine region_pl ?_
    refine q_ hf rfl rfl rfl (e_assign hf rfl) fun a hf => ?_
    refine pl_nil ?_
    refine then_n ?_
    refine wp_block ?_
    obtain ⟨x18, h19, h10⟩ := bind_some h10
    refine wp_loopM h19 (fun s a w => ∃ (k11 : Int) (n13 : Int), (k11, n13) = s ∧ Has 22 a [(0, vL A2 (a1) c3), (1, vI (k11)), (5, vI (n13))] ∧ Mem C w [] [.dat (sliceRep strRep) a1 [vL A2 a1 c3]] ∧ R64 k11 ∧ R64 n13) ?_ ?_
    · exact ⟨k5, 0, rfl, hf.keep ⟨rfl, rfl, rfl, trivial⟩, hM.pick [0] rfl, hp6, (R64_lit rfl)⟩
    · rintro s o20 a w15 ⟨k11, n13, rfl, hf, hM, hv12, hv14⟩ h21 hd22
      replace h21 : m_laws_heldStringS_l1 a1 k11 n13 = some o20 := h21
      unfold m_laws_heldStringS_l1 at h21
      refine wp_seq ?_
      refine wp_seq ?_
      refine region_pl ?_
      refine q_ hf rfl rfl rfl (e_move hf rfl) fun a hf => ?_
      refine q_ hf rfl rfl rfl (e_move hf rfl) fun a hf => ?_
      have hl23 := slice_len (hM.dat (k := 0) rfl)
      refine q_ hf rfl rfl rfl (e_lenL hf (x := a1) rfl Try.underlying40) fun a hf => ?_
      refine q_ hf rfl rfl rfl (e_lt hf (x := n13) (y := (a1.length : Int)) rfl rfl) fun a hf => ?_
      refine pl_nil ?_
      refine then_n ?_
      rcases cond_some h21 with ⟨hc24, h21⟩ | ⟨hc24, h21⟩
      · refine cond_t hf rfl hc24 ?_
        refine wp_skip ?_
        refine then_n ?_
        refine wp_seq ?_
        refine wp_block ?_
        refine wp_seq ?_
        refine wp_seq ?_
        obtain ⟨w25, hw⟩ : ∃ x, x = w15.drew := ⟨_, rfl⟩
        refine region_pi (.q 0 (.q 1 (.q 2 (.q 3 (.q 4 (.l 5 (.q 6 (.nil)))))))) (Ext w25) rfl (by kernel_rfl) ?_
        have hM := hM.drew
        rw [← hw] at hM ⊢
        clear hw
        refine pi_q hf rfl rfl rfl rfl (Ext.refl _) (e_move hf rfl) fun a hf => ?_
        refine pi_q hf rfl rfl rfl rfl (Ext.refl _) (e_move hf rfl) fun a hf => ?_
        obtain ⟨e26, hz27, h21⟩ := bind_some h21
        obtain ⟨b31, o32, _, hA33, h28, h29, hr30, hM⟩ := hM.elem (hM.dat (k := 0) rfl) (n := 1) rfl hz27
        obtain ⟨rfl, hv34⟩ := hr30
        refine pi_q hf rfl rfl rfl rfl (Ext.refl _) (e_indexAddr (A := A2) (b := b31) (o := o32) (xs := a1) (i := n13) hf hA33 rfl rfl Try.underlying40 Try.sizeOf9 h28 h29) fun a hf => ?_
        refine pi_q hf rfl rfl rfl rfl (Ext.refl _) (e_load1 hf rfl Try.isAgg9 (hM.litCell (k := 0) (j := 0) rfl rfl rfl)) fun a hf => ?_
        refine pi_q hf rfl rfl rfl rfl (Ext.refl _) (e_move hf rfl) fun a hf => ?_
        refine pi_one ?_
        obtain ⟨y35, hz36, h21⟩ := bind_some h21
        refine pi_l hf rfl rfl rfl rfl (w_call hf Try.call71 rfl (r_laws_markText ⟨_, Sh C _ _, none_, hM.sh_lt, none_not, C.G, hM.g_lt, g_none, hM.tabs⟩ k11 hv12 _ hz36) ?_)
        rintro _ w38 ⟨rfl, hM2, hv37⟩
        obtain ⟨hM, hx39, hup40⟩ := hM.back hM2
        dsimp only [List.cons_append, List.nil_append] at hM hup40
        clear hM2
        refine ⟨_, rfl, Ext w38, fun _ h => Ext.trans hx39 h, Ext.refl _, fun a hf => ?_⟩
        refine pi_q hf rfl rfl rfl rfl (Ext.refl _) (e_neS hf (x := e26) (y := y35) rfl rfl) fun a hf => ?_
        refine pi_nil ?_
        refine then_n ?_
        rcases cond_some h21 with ⟨hc41, h21⟩ | ⟨hc41, h21⟩
        · refine cond_t hf rfl hc41 ?_
          refine wp_seq ?_
          refine region_pl ?_
          refine q_ hf rfl rfl rfl (e_assign hf rfl) fun a hf => ?_
          refine pl_nil ?_
          refine then_n ?_
          refine wp_ret ?_
          refine then_r ?_
          refine blk_r ?_
          refine then_r ?_
          obtain rfl := some_inj h21
          obtain rfl := hd22 _ rfl
          try dsimp only at h10
          refine then_r ?_
          refine blk_r ?_
          obtain rfl := some_inj h10
          try dsimp only at h
          refine then_r ?_
          obtain rfl := some_inj h
          exact leave1 hf rfl rfl ⟨rfl, hM.fin, (R64_lit rfl)⟩
        · refine cond_f hf rfl hc41 ?_
          refine wp_skip ?_
          refine then_n ?_
          refine region_pl ?_
          refine q_ hf rfl rfl rfl (e_move hf rfl) fun a hf => ?_
          obtain ⟨z42, hz43, h21⟩ := bind_some h21
          refine q_ hf rfl rfl rfl (e_add hf rfl rfl hz43) fun a hf => ?_
          refine q_ hf rfl rfl rfl (e_assign hf rfl) fun a hf => ?_
          refine pl_nil ?_
          refine blk_n ?_
          refine then_n ?_
          refine region_pl ?_
          refine q_ hf rfl rfl rfl (e_move hf rfl) fun a hf => ?_
          obtain ⟨z44, hz45, h21⟩ := bind_some h21
          refine q_ hf rfl rfl rfl (e_add hf rfl rfl hz45) fun a hf => ?_
          refine q_ hf rfl rfl rfl (e_assign hf rfl) fun a hf => ?_
          refine pl_nil ?_
          obtain rfl := some_inj h21
          refine then_n ⟨_, rfl, ?_⟩
          exact ⟨z42, z44, rfl, hf.keep ⟨rfl, rfl, rfl, trivial⟩, hM.pick [1] rfl, (chk_R hz43), (chk_R hz45)⟩
      · refine cond_f hf rfl hc24 ?_
        refine wp_exit ?_
        refine then_x ?_
        obtain rfl := some_inj h21
        obtain rfl := hd22 _ rfl
        try dsimp only at h10
        refine then_x ?_
        refine exit_hit ?_
        obtain rfl := some_inj h10
        refine then_n ?_
        exact ⟨k11, rfl, hf.keep ⟨rfl, trivial⟩, hM.pick [0] rfl, hv12⟩
  · rintro a w52 ⟨k7, rfl, hf, hM, hv8⟩
    try dsimp only at h
    refine wp_seq ?_
    refine region_pl ?_
    refine q_ hf rfl rfl rfl (e_move hf rfl) fun a hf => ?_
    refine q_ hf rfl rfl rfl (e_assign hf rfl) fun a hf => ?_
    refine pl_nil ?_
    refine then_n ?_
    refine wp_ret ?_
    obtain rfl := some_inj h
    exact leave1 hf rfl rfl ⟨rfl, hM.fin, hv8⟩

set_option maxRecDepth 100000 in
set_option maxHeartbeats 4000000 in
theorem r_laws_FnExactCandidatesOf (C : Cx) (aG1 : Grid) (hp2 : R64 aG1.Rows) (hp3 : R64 aG1.Cols) (hp4 : aG1.Cells.length ≤ maxLen) (aL5 : Lexicon) (A6 : Option Addr) (c7 : Nat) (hp8 : (sliceRep strRep).R C.w0 C.S0 aL5.Words [vL A6 aL5.Words c7]) (aSlot9 : Int) (hp10 : R64 aSlot9) (r : Bool) (h : m_laws_FnExactCandidatesOf aG1 aL5 aSlot9 = some r) :
    Calls Try.prog 7 #[.agg #[vI (aG1.Rows), vI (aG1.Cols), vS (aG1.Cells)], .agg #[vL A6 (aL5.Words) c7], vI (aSlot9)] C.w0 fun e w => e = .returned (.bool (r)) ∧ Mem C w [] [] := by
  have hM := Mem.begin C [.dat (sliceRep strRep) aL5.Words [vL A6 aL5.Words c7]] ⟨hp8, trivial⟩
  refine enter Try.func7 rfl Try.ntmps7 rfl fun a hf => ?_
  unfold m_laws_FnExactCandidatesOf at h
  refine wp_seq ?_
  refine region_pl ?_
  refine pl_l hf rfl rfl rfl (w_box hf hM (cs := [vI (aG1.Rows), vI (aG1.Cols), vS (aG1.Cells)]) rfl rfl fun b11 w12 hx13 hM a hf => ?_)
  refine pl_l hf rfl rfl rfl (w_box hf hM (cs := [vL A6 (aL5.Words) c7]) rfl rfl fun b15 w16 hx17 hM a hf => ?_)
  refine q_ hf rfl rfl rfl (e_assign hf rfl) fun a hf => ?_
  refine pl_nil ?_
  refine then_n ?_
  refine wp_seq ?_
  refine region_pl ?_
  refine q_ hf rfl rfl rfl (e_assign hf rfl) fun a hf => ?_
  refine pl_nil ?_
  refine then_n ?_
  refine wp_seq ?_
  refine region_pl ?_
  refine q_ hf rfl rfl rfl (e_loadA hf (us := [vI (aG1.Rows), vI (aG1.Cols), vS (aG1.Cells)]) rfl ⟨Try.isAgg23, Try.sizeOf23⟩ rfl (hM.boxSub (k := 1) (us := [vI (aG1.Rows), vI (aG1.Cols), vS (aG1.Cells)]) (o := 0) rfl rfl)) fun a hf => ?_
  refine q_ hf rfl rfl rfl (e_move hf rfl) fun a hf => ?_
  obtain ⟨y19, hz20, h⟩ := bind_some h
  refine pl_l hf rfl rfl rfl (w_call hf Try.call12 rfl (r_laws_szGrid ⟨_, Sh C _ _, none_, hM.sh_lt, none_not, C.G, hM.g_lt, g_none, hM.tabs⟩ aG1 hp2 hp3 hp4 1048576 (R64_lit rfl) _ hz20) ?_)
  rintro _ w22 ⟨rfl, hM2, hv21⟩
  obtain ⟨hM, hx23, hup24⟩ := hM.back hM2
  dsimp only [List.cons_append, List.nil_append] at hM hup24
  clear hM2
  refine ⟨_, rfl, fun a hf => ?_⟩
  refine q_ hf rfl rfl rfl (e_assign hf rfl) fun a hf => ?_
  refine pl_nil ?_
  refine then_n ?_
  refine wp_seq ?_
  refine wp_seq ?_
  refine region_pl ?_
  refine q_ hf rfl rfl rfl (e_move hf rfl) fun a hf => ?_
  refine q_ hf rfl rfl rfl (e_lt hf (x := y19) (y := 0) rfl rfl) fun a hf => ?_
  refine pl_nil ?_
  refine then_n ?_
  rcases cond_some h with ⟨hc25, h⟩ | ⟨hc25, h⟩
  · refine cond_t hf rfl hc25 ?_
    refine wp_seq ?_
    refine region_pl ?_
    refine q_ hf rfl rfl rfl (e_assign hf rfl) fun a hf => ?_
    refine pl_nil ?_
    refine then_n ?_
    refine wp_ret ?_
    refine then_r ?_
    obtain rfl := some_inj h
    have hM := hM.outs (own' := []) 0 rfl
    exact leave1 hf rfl rfl ⟨rfl, hM.fin⟩
  · refine cond_f hf rfl hc25 ?_
    refine wp_skip ?_
    refine then_n ?_
    refine wp_seq ?_
    refine region_pl ?_
    refine q_ hf rfl rfl rfl (e_loadA hf (us := [vL A6 (aL5.Words) c7]) rfl ⟨Try.isAgg42, Try.sizeOf42⟩ rfl (hM.boxSub (k := 0) (us := [vL A6 (aL5.Words) c7]) (o := 0) rfl rfl)) fun a hf => ?_
    refine q_ hf rfl rfl rfl (e_move hf rfl) fun a hf => ?_
    obtain ⟨y26, hz27, h⟩ := bind_some h
    refine pl_l hf rfl rfl rfl (w_call hf Try.call24 rfl (r_laws_szLexicon ⟨_, Sh C _ _, none_, hM.sh_lt, none_not, C.G, hM.g_lt, g_none, hM.tabs⟩ aL5 _ _ (hM.dat (k := 0) rfl) y19 hv21 _ hz27) ?_)
    rintro _ w29 ⟨rfl, hM2, hv28⟩
    obtain ⟨hM, hx30, hup31⟩ := hM.back hM2
    dsimp only [List.cons_append, List.nil_append] at hM hup31
    clear hM2
    refine ⟨_, rfl, fun a hf => ?_⟩
    refine q_ hf rfl rfl rfl (e_assign hf rfl) fun a hf => ?_
    refine pl_nil ?_
    refine then_n ?_
    refine wp_seq ?_
    refine wp_seq ?_
    refine region_pl ?_
    refine q_ hf rfl rfl rfl (e_move hf rfl) fun a hf => ?_
    refine q_ hf rfl rfl rfl (e_lt hf (x := y26) (y := 0) rfl rfl) fun a hf => ?_
    refine pl_nil ?_
    refine then_n ?_
    rcases cond_some h with ⟨hc32, h⟩ | ⟨hc32, h⟩
    · refine cond_t hf rfl hc32 ?_
      refine wp_seq ?_
      refine region_pl ?_
      refine q_ hf rfl rfl rfl (e_assign hf rfl) fun a hf => ?_
      refine pl_nil ?_
      refine then_n ?_
      refine wp_ret ?_
      refine then_r ?_
      obtain rfl := some_inj h
      have hM := hM.outs (own' := []) 0 rfl
      exact leave1 hf rfl rfl ⟨rfl, hM.fin⟩
    · refine cond_f hf rfl hc32 ?_
      refine wp_skip ?_
      refine then_n ?_
      refine wp_seq ?_
      obtain ⟨w33, hw⟩ : ∃ x, x = w29.drew := ⟨_, rfl⟩
      refine region_pi (.q 0 (.q 2 (.q 4 (.l 1 (.l 3 (.l 5 (.q 6 (.q 7 (.q 8 (.q 9 (.q 10 (.nil)))))))))))) (Ext w33) rfl (by kernel_rfl) ?_
      have hM := hM.drew
      rw [← hw] at hM ⊢
      clear hw
      refine pi_q hf rfl rfl rfl rfl (Ext.refl _) (e_loadA hf (us := [vI (aG1.Rows), vI (aG1.Cols), vS (aG1.Cells)]) rfl ⟨Try.isAgg23, Try.sizeOf23⟩ rfl (hM.boxSub (k := 1) (us := [vI (aG1.Rows), vI (aG1.Cols), vS (aG1.Cells)]) (o := 0) rfl rfl)) fun a hf => ?_
      refine pi_q hf rfl rfl rfl rfl (Ext.refl _) (e_loadA hf (us := [vL A6 (aL5.Words) c7]) rfl ⟨Try.isAgg42, Try.sizeOf42⟩ rfl (hM.boxSub (k := 0) (us := [vL A6 (aL5.Words) c7]) (o := 0) rfl rfl)) fun a hf => ?_
      refine pi_q hf rfl rfl rfl rfl (Ext.refl _) (e_move hf rfl) fun a hf => ?_
      refine pi_one ?_
      obtain ⟨y34, hz35, h⟩ := bind_some h
      refine pi_l hf rfl rfl rfl rfl (w_call hf Try.call14 rfl (r_laws_toGrid ⟨_, Sh C _ _, none_, hM.sh_lt, none_not, C.G, hM.g_lt, g_none, hM.tabs⟩ aG1 hp2 hp3 hp4 _ hz35) ?_)
      rintro _ w39 ⟨rfl, hM2, hv36, hv37, hv38⟩
      obtain ⟨hM, hx40, hup41⟩ := hM.back hM2
      dsimp only [List.cons_append, List.nil_append] at hM hup41
      clear hM2
      refine ⟨_, rfl, Ext w39, fun _ h => Ext.trans hx40 h, Ext.refl _, fun a hf => ?_⟩
      refine pi_one ?_
      obtain ⟨y42, hz43, h⟩ := bind_some h
      refine pi_l hf rfl rfl rfl rfl (w_call hf Try.call26 rfl (r_laws_toLexicon ⟨_, Sh C _ _, none_, hM.sh_lt, none_not, C.G, hM.g_lt, g_none, hM.tabs⟩ aL5 _ _ (hM.dat (k := 0) rfl) _ hz43) ?_)
      rintro _ w46 ⟨A44, c45, rfl, hM2⟩
      obtain ⟨hM, hx47, hup48⟩ := hM.back hM2
      dsimp only [List.cons_append, List.nil_append] at hM hup48
      clear hM2
      refine ⟨_, rfl, Ext w46, fun _ h => Ext.trans hx47 h, Ext.refl _, fun a hf => ?_⟩
      refine pi_one ?_
      obtain ⟨y49, hz50, h⟩ := bind_some h
      refine pi_l hf rfl rfl rfl rfl (w_call hf Try.call29 rfl (r_spec_CandidatesOf ⟨_, All C _ _, none_, hM.all_lt, none_not, C.G, hM.g_lt, g_none, hM.tabs⟩ y34 hv36 hv37 hv38 y42 _ _ (hM.lendRow (k := 0) rfl) aSlot9 hp10 _ hz50) ?_)
      rintro _ w54 ⟨A51, c52, rfl, hM2, hv53⟩
      obtain ⟨hM, hx55⟩ := hM.backAF strRep_flat hM2
      clear hM2
      refine ⟨_, rfl, Ext w54, fun _ h => Ext.trans hx55 h, Ext.refl _, fun a hf => ?_⟩
      refine pi_q hf rfl rfl rfl rfl (Ext.refl _) (e_move hf rfl) fun a hf => ?_
      refine pi_q hf rfl rfl rfl rfl (Ext.refl _) (e_extract hf rfl rfl) fun a hf => ?_
      refine pi_q hf rfl rfl rfl rfl (Ext.refl _) (e_extract hf rfl rfl) fun a hf => ?_
      refine pi_q hf rfl rfl rfl rfl (Ext.refl _) (e_assign hf rfl) fun a hf => ?_
      refine pi_q hf rfl rfl rfl rfl (Ext.refl _) (e_assign hf rfl) fun a hf => ?_
      refine pi_nil ?_
      refine then_n ?_
      refine wp_seq ?_
      refine region_pl ?_
      refine q_ hf rfl rfl rfl (e_loadA hf (us := [vL A6 (aL5.Words) c7]) rfl ⟨Try.isAgg42, Try.sizeOf42⟩ rfl (hM.boxSub (k := 2) (us := [vL A6 (aL5.Words) c7]) (o := 0) rfl rfl)) fun a hf => ?_
      obtain ⟨y57, hz58, h⟩ := bind_some h
      refine pl_l hf rfl rfl rfl (w_call hf Try.call26 rfl (r_laws_toLexicon ⟨_, Sh C _ _, none_, hM.sh_lt, none_not, C.G, hM.g_lt, g_none, hM.tabs⟩ aL5 _ _ (hM.dat (k := 0) rfl) _ hz58) ?_)
      rintro _ w61 ⟨A59, c60, rfl, hM2⟩
      obtain ⟨hM, hx62, hup63⟩ := hM.back hM2
      dsimp only [List.cons_append, List.nil_append] at hM hup63
      clear hM2
      refine ⟨_, rfl, fun a hf => ?_⟩
      refine pl_l hf rfl rfl rfl (w_alloc hM (cs := [vL none (([] : (List Str))) 0]) Try.zeroValue45 rfl fun b64 w65 hx66 hM a hf => ?_)
      refine pl_0 hf rfl rfl (w_store hf hM (us := [vL A59 (y57.Words) c60]) (cs' := [vL A59 (y57.Words) c60]) rfl rfl (k := 0) rfl rfl Try.sizeOf45 rfl rfl rfl fun w68 hM => ?_)
      dsimp only [List.set] at hM
      refine pl_nil ?_
      refine then_n ?_
      refine wp_seq ?_
      obtain ⟨w71, hw⟩ : ∃ x, x = w68.drew := ⟨_, rfl⟩
      refine region_pi (.q 0 (.q 2 (.q 3 (.l 1 (.l 4 (.q 5 (.q 6 (.q 7 (.q 8 (.q 9 (.nil))))))))))) (Ext w71) rfl (by kernel_rfl) ?_
      have hM := hM.drew
      rw [← hw] at hM ⊢
      clear hw
      refine pi_q hf rfl rfl rfl rfl (Ext.refl _) (e_loadA hf (us := [vI (aG1.Rows), vI (aG1.Cols), vS (aG1.Cells)]) rfl ⟨Try.isAgg23, Try.sizeOf23⟩ rfl (hM.boxSub (k := 5) (us := [vI (aG1.Rows), vI (aG1.Cols), vS (aG1.Cells)]) (o := 0) rfl rfl)) fun a hf => ?_
      refine pi_q hf rfl rfl rfl rfl (Ext.refl _) (e_loadA hf (us := [vL A59 (y57.Words) c60]) rfl ⟨Try.isAgg45, Try.sizeOf45⟩ rfl (hM.boxSub (k := 0) (us := [vL A59 (y57.Words) c60]) (o := 0) rfl rfl)) fun a hf => ?_
      refine pi_q hf rfl rfl rfl rfl (Ext.refl _) (e_move hf rfl) fun a hf => ?_
      refine pi_one ?_
      obtain ⟨y72, hz73, h⟩ := bind_some h
      refine pi_l hf rfl rfl rfl rfl (w_call hf Try.call14 rfl (r_laws_toGrid ⟨_, Sh C _ _, none_, hM.sh_lt, none_not, C.G, hM.g_lt, g_none, hM.tabs⟩ aG1 hp2 hp3 hp4 _ hz73) ?_)
      rintro _ w77 ⟨rfl, hM2, hv74, hv75, hv76⟩
      obtain ⟨hM, hx78, hup79⟩ := hM.back hM2
      dsimp only [List.cons_append, List.nil_append] at hM hup79
      clear hM2
      refine ⟨_, rfl, Ext w77, fun _ h => Ext.trans hx78 h, Ext.refl _, fun a hf => ?_⟩
      refine pi_one ?_
      obtain ⟨y80, hz81, h⟩ := bind_some h
      refine pi_l hf rfl rfl rfl rfl (w_call hf Try.call30 rfl (r_impl_CandidatesOf ⟨_, All C _ _, none_, hM.all_lt, none_not, C.G, hM.g_lt, g_none, hM.tabs⟩ y72 hv74 hv75 hv76 y57 _ _ (hM.lendRow (k := 1) rfl) aSlot9 hp10 _ hz81) ?_)
      rintro _ w85 ⟨A82, c83, rfl, hM2, hv84⟩
      obtain ⟨hM, hx86⟩ := hM.backAF strRep_flat hM2
      clear hM2
      refine ⟨_, rfl, Ext w85, fun _ h => Ext.trans hx86 h, Ext.refl _, fun a hf => ?_⟩
      refine pi_q hf rfl rfl rfl rfl (Ext.refl _) (e_move hf rfl) fun a hf => ?_
      refine pi_q hf rfl rfl rfl rfl (Ext.refl _) (e_extract hf rfl rfl) fun a hf => ?_
      refine pi_q hf rfl rfl rfl rfl (Ext.refl _) (e_extract hf rfl rfl) fun a hf => ?_
      refine pi_q hf rfl rfl rfl rfl (Ext.refl _) (e_assign hf rfl) fun a hf => ?_
      refine pi_q hf rfl rfl rfl rfl (Ext.refl _) (e_assign hf rfl) fun a hf => ?_
      refine pi_nil ?_
      refine then_n ?_
      refine wp_seq ?_
      obtain ⟨x90, h91, h⟩ := bind_some h
      refine seq_join (fun a w => ∃ (t88 : Bool), t88 = x90 ∧ Has 114 a [(2, vI (aSlot9)), (3, vP b11 (0)), (4, vP b15 (0)), (8, vL A51 (y49.1) c52), (9, vI (y49.2)), (10, vP b64 (0)), (11, vL A82 (y80.1) c83), (12, vI (y80.2)), (55, .bool (t88))] ∧ Mem C w [.row strRep A82 c83 9 y80.1 true, .box b64 [vL A59 (y57.Words) c60] 45, .row strRep A59 c60 9 y57.Words true, .row strRep A51 c52 9 y49.1 true, .row strRep A44 c45 9 y42.Words true, .box b15 [vL A6 (aL5.Words) c7] 42, .box b11 [vI (aG1.Rows), vI (aG1.Cols), vS (aG1.Cells)] 23] [.dat (sliceRep strRep) aL5.Words [vL A6 aL5.Words c7]]) ?_ ?_
      · refine region_pl ?_
        refine q_ hf rfl rfl rfl (e_move hf rfl) fun a hf => ?_
        refine q_ hf rfl rfl rfl (e_move hf rfl) fun a hf => ?_
        obtain ⟨y92, hz93, h91⟩ := bind_some h91
        refine pl_l hf rfl rfl rfl (w_call hf Try.call31 rfl (r_laws_eqStringS ⟨_, All C _ _, none_, hM.all_lt, none_not, C.G, hM.g_lt, g_none, hM.tabs⟩ y80.1 _ _ (hM.lendRow (k := 0) rfl) y49.1 _ _ (hM.lendRow (k := 3) rfl) _ hz93) ?_)
        rintro _ w94 ⟨rfl, hM2⟩
        obtain ⟨hM, hx95⟩ := hM.backA hM2
        clear hM2
        refine ⟨_, rfl, fun a hf => ?_⟩
        refine q_ hf rfl rfl rfl (e_not hf rfl) fun a hf => ?_
        refine q_ hf rfl rfl rfl (e_move hf rfl) fun a hf => ?_
        rcases cond_some h91 with ⟨hc97, h91⟩ | ⟨hc97, h91⟩
        · refine pl_gs (wanted_f hf rfl rfl rfl rfl hc97) hf rfl rfl fun a hf => ?_
          refine pl_gs (wanted_f hf rfl rfl rfl rfl hc97) hf rfl rfl fun a hf => ?_
          refine pl_gs (wanted_f hf rfl rfl rfl rfl hc97) hf rfl rfl fun a hf => ?_
          refine q_ hf rfl rfl rfl (e_pick_t hf rfl hc97 rfl) fun a hf => ?_
          refine pl_nil ?_
          obtain rfl := some_inj h91
          refine then_n ?_
          exact ⟨true, rfl, hf.keep ⟨rfl, rfl, rfl, rfl, rfl, rfl, rfl, rfl, rfl, trivial⟩, hM.pick [0] rfl⟩
        · refine gq (wanted_t hf rfl rfl rfl rfl hc97) hf rfl rfl (e_move hf rfl) fun a hf => ?_
          refine gq (wanted_t hf rfl rfl rfl rfl hc97) hf rfl rfl (e_move hf rfl) fun a hf => ?_
          refine gq (wanted_t hf rfl rfl rfl rfl hc97) hf rfl rfl (e_ne hf (x := y80.2) (y := y49.2) rfl rfl) fun a hf => ?_
          refine q_ hf rfl rfl rfl (e_pick_f hf rfl hc97 rfl) fun a hf => ?_
          refine pl_nil ?_
          obtain rfl := some_inj h91
          refine then_n ?_
          exact ⟨(y80.2 != y49.2), rfl, hf.keep ⟨rfl, rfl, rfl, rfl, rfl, rfl, rfl, rfl, rfl, trivial⟩, hM.pick [0] rfl⟩
      · rintro a w100 ⟨t88, rfl, hf, hM⟩
        try dsimp only at h
        rcases cond_some h with ⟨hc101, h⟩ | ⟨hc101, h⟩
        · refine cond_t hf rfl hc101 ?_
          refine wp_seq ?_
          refine region_pl ?_
          refine q_ hf rfl rfl rfl (e_assign hf rfl) fun a hf => ?_
          refine pl_nil ?_
          refine then_n ?_
          refine wp_ret ?_
          refine then_r ?_
          obtain rfl := some_inj h
          have hM := hM.outs (own' := []) 0 rfl
          exact leave1 hf rfl rfl ⟨rfl, hM.fin⟩
        · refine cond_f hf rfl hc101 ?_
          refine wp_skip ?_
          refine then_n ?_
          refine wp_seq ?_
          refine wp_seq ?_
          obtain ⟨w102, hw⟩ : ∃ x, x = w100.drew := ⟨_, rfl⟩
          refine region_pi (.q 0 (.q 1 (.l 2 (.l 3 (.q 4 (.nil)))))) (Ext w102) rfl (by kernel_rfl) ?_
          have hM := hM.drew
          rw [← hw] at hM ⊢
          clear hw
          refine pi_q hf rfl rfl rfl rfl (Ext.refl _) (e_loadA hf (us := [vL A59 (y57.Words) c60]) rfl ⟨Try.isAgg45, Try.sizeOf45⟩ rfl (hM.boxSub (k := 1) (us := [vL A59 (y57.Words) c60]) (o := 0) rfl rfl)) fun a hf => ?_
          refine pi_q hf rfl rfl rfl rfl (Ext.refl _) (e_loadA hf (us := [vL A6 (aL5.Words) c7]) rfl ⟨Try.isAgg42, Try.sizeOf42⟩ rfl (hM.boxSub (k := 5) (us := [vL A6 (aL5.Words) c7]) (o := 0) rfl rfl)) fun a hf => ?_
          refine pi_one ?_
          obtain ⟨y103, hz104, h⟩ := bind_some h
          refine pi_l hf rfl rfl rfl rfl (w_call hf Try.call26 rfl (r_laws_toLexicon ⟨_, Sh C _ _, none_, hM.sh_lt, none_not, C.G, hM.g_lt, g_none, hM.tabs⟩ aL5 _ _ (hM.dat (k := 0) rfl) _ hz104) ?_)
          rintro _ w107 ⟨A105, c106, rfl, hM2⟩
          obtain ⟨hM, hx108, hup109⟩ := hM.back hM2
          dsimp only [List.cons_append, List.nil_append] at hM hup109
          clear hM2
          refine ⟨_, rfl, Ext w107, fun _ h => Ext.trans hx108 h, Ext.refl _, fun a hf => ?_⟩
          refine pi_one ?_
          obtain ⟨y110, hz111, h⟩ := bind_some h
          refine pi_l hf rfl rfl rfl rfl (w_call hf Try.call28 rfl (r_laws_eqLexicon ⟨_, All C _ _, none_, hM.all_lt, none_not, C.G, hM.g_lt, g_none, hM.tabs⟩ y57 _ _ (hM.lendRow (k := 3) rfl) y103 _ _ (hM.lendRow (k := 0) rfl) _ hz111) ?_)
          rintro _ w112 ⟨rfl, hM2⟩
          obtain ⟨hM, hx113⟩ := hM.backA hM2
          clear hM2
          refine ⟨_, rfl, Ext w112, fun _ h => Ext.trans hx113 h, Ext.refl _, fun a hf => ?_⟩
          refine pi_q hf rfl rfl rfl rfl (Ext.refl _) (e_not hf rfl) fun a hf => ?_
          refine pi_nil ?_
          refine then_n ?_
          rcases cond_some h with ⟨hc115, h⟩ | ⟨hc115, h⟩
          · refine cond_t hf rfl hc115 ?_
            refine wp_seq ?_
            refine region_pl ?_
            refine q_ hf rfl rfl rfl (e_assign hf rfl) fun a hf => ?_
            refine pl_nil ?_
            refine then_n ?_
            refine wp_ret ?_
            refine then_r ?_
            obtain rfl := some_inj h
            have hM := hM.outs (own' := []) 0 rfl
            exact leave1 hf rfl rfl ⟨rfl, hM.fin⟩
          · refine cond_f hf rfl hc115 ?_
            refine wp_skip ?_
            refine then_n ?_
            refine wp_seq ?_
            refine region_pl ?_
            refine q_ hf rfl rfl rfl (e_assign hf rfl) fun a hf => ?_
            refine pl_nil ?_
            refine then_n ?_
            refine wp_seq ?_
            refine region_pl ?_
            refine q_ hf rfl rfl rfl (e_loadA hf (us := [vL A59 (y57.Words) c60]) rfl ⟨Try.isAgg45, Try.sizeOf45⟩ rfl (hM.boxSub (k := 2) (us := [vL A59 (y57.Words) c60]) (o := 0) rfl rfl)) fun a hf => ?_
            refine q_ hf rfl rfl rfl (e_move hf rfl) fun a hf => ?_
            have hM := hM.front (k := 3) rfl
            dsimp only [List.eraseIdx] at hM
            have hM : Mem C _ ([.row strRep A59 c60 9 y57.Words true] ++ [.row strRep A105 c106 9 y103.Words true, .row strRep A82 c83 9 y80.1 true, .box b64 [vL A59 (y57.Words) c60] 45, .row strRep A51 c52 9 y49.1 true, .row strRep A44 c45 9 y42.Words true, .box b15 [vL A6 (aL5.Words) c7] 42, .box b11 [vI (aG1.Rows), vI (aG1.Cols), vS (aG1.Cells)] 23]) _ := hM
            obtain ⟨y116, hz117, h⟩ := bind_some h
            refine pl_l hf rfl rfl rfl (w_call hf Try.call32 rfl (r_laws_markLexicon ⟨_, Sh C _ _, ownB _, hM.sh_lt, sub_dis, C.G, hM.g_lt, hM.g_own, hM.tabs⟩ y57 _ _ 1 (R64_lit rfl) hM.sub sub_dis _ hz117) ?_)
            rintro _ w120 ⟨rfl, hM2, hl118, hv119⟩
            obtain ⟨hM, hup122⟩ := hM.backG hM2
            dsimp only [List.cons_append, List.nil_append] at hM hup122
            clear hM2
            refine ⟨_, rfl, fun a hf => ?_⟩
            have hf := hf.alter (d := 56) (v := .agg #[vL A59 (y116.2) c60]) rfl (by rw [vL_len (A := A59) (c := c60) hl118])
            have hf := hf.alter (d := 61) (v := .agg #[vL A59 (y116.2) c60]) rfl (by rw [vL_len (A := A59) (c := c60) hl118])
            rw [vL_len (A := A59) (c := c60) hl118] at hM
            refine q_ hf rfl rfl rfl (e_assign hf rfl) fun a hf => ?_
            refine pl_nil ?_
            refine then_n ?_
            refine wp_seq ?_
            obtain ⟨x125, h126, h⟩ := bind_some h
            refine seq_join (fun a w => ∃ (t123 : Bool), t123 = x125 ∧ Has 114 a [(2, vI (aSlot9)), (3, vP b11 (0)), (4, vP b15 (0)), (8, vL A51 (y49.1) c52), (9, vI (y49.2)), (11, vL A82 (y80.1) c83), (76, .bool (t123))] ∧ Mem C w [.row strRep A59 c60 9 y116.2 true, .row strRep A105 c106 9 y103.Words true, .row strRep A82 c83 9 y80.1 true, .box b64 [vL A59 (y116.2) c60] 45, .row strRep A51 c52 9 y49.1 true, .row strRep A44 c45 9 y42.Words true, .box b15 [vL A6 (aL5.Words) c7] 42, .box b11 [vI (aG1.Rows), vI (aG1.Cols), vS (aG1.Cells)] 23] [.dat (sliceRep strRep) aL5.Words [vL A6 aL5.Words c7]]) ?_ ?_
            · refine region_pl ?_
              refine q_ hf rfl rfl rfl (e_move hf rfl) fun a hf => ?_
              refine q_ hf rfl rfl rfl (e_lt hf (x := y116.1) (y := 0) rfl rfl) fun a hf => ?_
              refine q_ hf rfl rfl rfl (e_move hf rfl) fun a hf => ?_
              rcases cond_some h126 with ⟨hc127, h126⟩ | ⟨hc127, h126⟩
              · refine pl_gs (wanted_f hf rfl rfl rfl rfl hc127) hf rfl rfl fun a hf => ?_
                refine pl_gs (wanted_f hf rfl rfl rfl rfl hc127) hf rfl rfl fun a hf => ?_
                refine pl_gs (wanted_f hf rfl rfl rfl rfl hc127) hf rfl rfl fun a hf => ?_
                refine pl_gs (wanted_f hf rfl rfl rfl rfl hc127) hf rfl rfl fun a hf => ?_
                refine q_ hf rfl rfl rfl (e_pick_t hf rfl hc127 rfl) fun a hf => ?_
                refine q_ hf rfl rfl rfl (e_move hf rfl) fun a hf => ?_
                refine pl_gs (wanted_f hf rfl rfl rfl rfl rfl) hf rfl rfl fun a hf => ?_
                refine pl_gs (wanted_f hf rfl rfl rfl rfl rfl) hf rfl rfl fun a hf => ?_
                refine pl_gs (wanted_f hf rfl rfl rfl rfl rfl) hf rfl rfl fun a hf => ?_
                refine q_ hf rfl rfl rfl (e_pick_t hf rfl rfl rfl) fun a hf => ?_
                refine pl_nil ?_
                obtain rfl := some_inj h126
                refine then_n ?_
                exact ⟨true, rfl, hf.keep ⟨rfl, rfl, rfl, rfl, rfl, rfl, rfl, trivial⟩, hM.pick [0] rfl⟩
              · refine gq (wanted_t hf rfl rfl rfl rfl hc127) hf rfl rfl (e_move hf rfl) fun a hf => ?_
                refine gq (wanted_t hf rfl rfl rfl rfl hc127) hf rfl rfl (e_move hf rfl) fun a hf => ?_
                obtain ⟨y129, hz130, h126⟩ := bind_some h126
                refine pl_gl (wanted_t hf rfl rfl rfl rfl hc127) hf rfl rfl (w_call hf Try.call31 rfl (r_laws_eqStringS ⟨_, All C _ _, none_, hM.all_lt, none_not, C.G, hM.g_lt, g_none, hM.tabs⟩ y80.1 _ _ (hM.lendRow (k := 2) rfl) y49.1 _ _ (hM.lendRow (k := 4) rfl) _ hz130) ?_)
                rintro _ w131 ⟨rfl, hM2⟩
                obtain ⟨hM, hx132⟩ := hM.backA hM2
                clear hM2
                refine ⟨_, rfl, fun a hf => ?_⟩
                refine gq (wanted_t hf rfl rfl rfl rfl hc127) hf rfl rfl (e_not hf rfl) fun a hf => ?_
                refine q_ hf rfl rfl rfl (e_pick_f hf rfl hc127 rfl) fun a hf => ?_
                refine q_ hf rfl rfl rfl (e_move hf rfl) fun a hf => ?_
                rcases cond_some h126 with ⟨hc134, h126⟩ | ⟨hc134, h126⟩
                · refine pl_gs (wanted_f hf rfl rfl rfl rfl hc134) hf rfl rfl fun a hf => ?_
                  refine pl_gs (wanted_f hf rfl rfl rfl rfl hc134) hf rfl rfl fun a hf => ?_
                  refine pl_gs (wanted_f hf rfl rfl rfl rfl hc134) hf rfl rfl fun a hf => ?_
                  refine q_ hf rfl rfl rfl (e_pick_t hf rfl hc134 rfl) fun a hf => ?_
                  refine pl_nil ?_
                  obtain rfl := some_inj h126
                  refine then_n ?_
                  exact ⟨true, rfl, hf.keep ⟨rfl, rfl, rfl, rfl, rfl, rfl, rfl, trivial⟩, hM.pick [0] rfl⟩
                · refine gq (wanted_t hf rfl rfl rfl rfl hc134) hf rfl rfl (e_move hf rfl) fun a hf => ?_
                  refine gq (wanted_t hf rfl rfl rfl rfl hc134) hf rfl rfl (e_move hf rfl) fun a hf => ?_
                  refine gq (wanted_t hf rfl rfl rfl rfl hc134) hf rfl rfl (e_ne hf (x := y80.2) (y := y49.2) rfl rfl) fun a hf => ?_
                  refine q_ hf rfl rfl rfl (e_pick_f hf rfl hc134 rfl) fun a hf => ?_
                  refine pl_nil ?_
                  obtain rfl := some_inj h126
                  refine then_n ?_
                  exact ⟨(y80.2 != y49.2), rfl, hf.keep ⟨rfl, rfl, rfl, rfl, rfl, rfl, rfl, trivial⟩, hM.pick [0] rfl⟩
            · rintro a w137 ⟨t123, rfl, hf, hM⟩
              try dsimp only at h
              rcases cond_some h with ⟨hc138, h⟩ | ⟨hc138, h⟩
              · refine cond_t hf rfl hc138 ?_
                refine wp_seq ?_
                refine region_pl ?_
                refine q_ hf rfl rfl rfl (e_assign hf rfl) fun a hf => ?_
                refine pl_nil ?_
                refine then_n ?_
                refine wp_ret ?_
                refine then_r ?_
                obtain rfl := some_inj h
                have hM := hM.outs (own' := []) 0 rfl
                exact leave1 hf rfl rfl ⟨rfl, hM.fin⟩
              · refine cond_f hf rfl hc138 ?_
                refine wp_skip ?_
                refine then_n ?_
                refine wp_seq ?_
                refine region_pl ?_
                refine q_ hf rfl rfl rfl (e_assign hf rfl) fun a hf => ?_
                refine pl_nil ?_
                refine then_n ?_
                refine wp_seq ?_
                refine region_pl ?_
                refine q_ hf rfl rfl rfl (e_move hf rfl) fun a hf => ?_
                refine q_ hf rfl rfl rfl (e_move hf rfl) fun a hf => ?_
                have hM := hM.front (k := 2) rfl
                dsimp only [List.eraseIdx] at hM
                have hM : Mem C _ ([.row strRep A82 c83 9 y80.1 true] ++ [.row strRep A59 c60 9 y116.2 true, .row strRep A105 c106 9 y103.Words true, .box b64 [vL A59 (y116.2) c60] 45, .row strRep A51 c52 9 y49.1 true, .row strRep A44 c45 9 y42.Words true, .box b15 [vL A6 (aL5.Words) c7] 42, .box b11 [vI (aG1.Rows), vI (aG1.Cols), vS (aG1.Cells)] 23]) _ := hM
                obtain ⟨y139, hz140, h⟩ := bind_some h
                refine pl_l hf rfl rfl rfl (w_call hf Try.call33 rfl (r_laws_markStringS ⟨_, Sh C _ _, ownB _, hM.sh_lt, sub_dis, C.G, hM.g_lt, hM.g_own, hM.tabs⟩ y80.1 _ _ 1 (R64_lit rfl) hM.sub sub_dis _ hz140) ?_)
                rintro _ w143 ⟨rfl, hM2, hl141, hv142⟩
                obtain ⟨hM, hup145⟩ := hM.backG hM2
                dsimp only [List.cons_append, List.nil_append] at hM hup145
                clear hM2
                refine ⟨_, rfl, fun a hf => ?_⟩
                have hf := hf.alter (d := 11) (v := vL A82 (y139.2) c83) rfl (vL_len hl141)
                have hf := hf.alter (d := 77) (v := vL A82 (y139.2) c83) rfl (vL_len hl141)
                refine q_ hf rfl rfl rfl (e_assign hf rfl) fun a hf => ?_
                refine pl_nil ?_
                refine then_n ?_
                refine wp_seq ?_
                refine region_pl ?_
                refine q_ hf rfl rfl rfl (e_assign hf rfl) fun a hf => ?_
                refine pl_nil ?_
                refine then_n ?_
                refine wp_seq ?_
                refine region_pl ?_
                refine q_ hf rfl rfl rfl (e_move hf rfl) fun a hf => ?_
                refine q_ hf rfl rfl rfl (e_move hf rfl) fun a hf => ?_
                obtain ⟨y146, hz147, h⟩ := bind_some h
                refine pl_l hf rfl rfl rfl (w_call hf Try.call34 rfl (r_laws_heldStringS ⟨_, All C _ _, none_, hM.all_lt, none_not, C.G, hM.g_lt, g_none, hM.tabs⟩ y139.2 _ _ (hM.lendRow (k := 0) rfl) 1 (R64_lit rfl) _ hz147) ?_)
                rintro _ w149 ⟨rfl, hM2, hv148⟩
                obtain ⟨hM, hx150⟩ := hM.backA hM2
                clear hM2
                refine ⟨_, rfl, fun a hf => ?_⟩
                refine q_ hf rfl rfl rfl (e_assign hf rfl) fun a hf => ?_
                refine pl_nil ?_
                refine then_n ?_
                refine wp_seq ?_
                refine wp_seq ?_
                refine region_pl ?_
                refine q_ hf rfl rfl rfl (e_move hf rfl) fun a hf => ?_
                refine q_ hf rfl rfl rfl (e_lt hf (x := y146) (y := 0) rfl rfl) fun a hf => ?_
                refine pl_nil ?_
                refine then_n ?_
                rcases cond_some h with ⟨hc152, h⟩ | ⟨hc152, h⟩
                · refine cond_t hf rfl hc152 ?_
                  refine wp_seq ?_
                  refine region_pl ?_
                  refine q_ hf rfl rfl rfl (e_assign hf rfl) fun a hf => ?_
                  refine pl_nil ?_
                  refine then_n ?_
                  refine wp_ret ?_
                  refine then_r ?_
                  obtain rfl := some_inj h
                  have hM := hM.outs (own' := []) 0 rfl
                  exact leave1 hf rfl rfl ⟨rfl, hM.fin⟩
                · refine cond_f hf rfl hc152 ?_
                  refine wp_skip ?_
                  refine then_n ?_
                  refine wp_seq ?_
                  refine wp_seq ?_
                  refine region_pl ?_
                  refine q_ hf rfl rfl rfl (e_move hf rfl) fun a hf => ?_
                  refine q_ hf rfl rfl rfl (e_move hf rfl) fun a hf => ?_
                  refine q_ hf rfl rfl rfl (e_ne hf (x := y146) (y := y139.1) rfl rfl) fun a hf => ?_
                  refine pl_nil ?_
                  refine then_n ?_
                  rcases cond_some h with ⟨hc153, h⟩ | ⟨hc153, h⟩
                  · refine cond_t hf rfl hc153 ?_
                    refine wp_seq ?_
                    refine region_pl ?_
                    refine q_ hf rfl rfl rfl (e_assign hf rfl) fun a hf => ?_
                    refine pl_nil ?_
                    refine then_n ?_
                    refine wp_ret ?_
                    refine then_r ?_
                    obtain rfl := some_inj h
                    have hM := hM.outs (own' := []) 0 rfl
                    exact leave1 hf rfl rfl ⟨rfl, hM.fin⟩
                  · refine cond_f hf rfl hc153 ?_
                    refine wp_skip ?_
                    refine then_n ?_
                    refine wp_seq ?_
                    obtain ⟨w154, hw⟩ : ∃ x, x = w149.drew := ⟨_, rfl⟩
                    refine region_pi (.q 0 (.q 2 (.q 4 (.l 1 (.l 3 (.l 5 (.q 6 (.q 7 (.q 8 (.q 9 (.q 10 (.nil)))))))))))) (Ext w154) rfl (by kernel_rfl) ?_
                    have hM := hM.drew
                    rw [← hw] at hM ⊢
                    clear hw
                    refine pi_q hf rfl rfl rfl rfl (Ext.refl _) (e_loadA hf (us := [vI (aG1.Rows), vI (aG1.Cols), vS (aG1.Cells)]) rfl ⟨Try.isAgg23, Try.sizeOf23⟩ rfl (hM.boxSub (k := 7) (us := [vI (aG1.Rows), vI (aG1.Cols), vS (aG1.Cells)]) (o := 0) rfl rfl)) fun a hf => ?_
                    refine pi_q hf rfl rfl rfl rfl (Ext.refl _) (e_loadA hf (us := [vL A6 (aL5.Words) c7]) rfl ⟨Try.isAgg42, Try.sizeOf42⟩ rfl (hM.boxSub (k := 6) (us := [vL A6 (aL5.Words) c7]) (o := 0) rfl rfl)) fun a hf => ?_
                    refine pi_q hf rfl rfl rfl rfl (Ext.refl _) (e_move hf rfl) fun a hf => ?_
                    refine pi_one ?_
                    obtain ⟨y155, hz156, h⟩ := bind_some h
                    refine pi_l hf rfl rfl rfl rfl (w_call hf Try.call14 rfl (r_laws_toGrid ⟨_, Sh C _ _, none_, hM.sh_lt, none_not, C.G, hM.g_lt, g_none, hM.tabs⟩ aG1 hp2 hp3 hp4 _ hz156) ?_)
                    rintro _ w160 ⟨rfl, hM2, hv157, hv158, hv159⟩
                    obtain ⟨hM, hx161, hup162⟩ := hM.back hM2
                    dsimp only [List.cons_append, List.nil_append] at hM hup162
                    clear hM2
                    refine ⟨_, rfl, Ext w160, fun _ h => Ext.trans hx161 h, Ext.refl _, fun a hf => ?_⟩
                    refine pi_one ?_
                    obtain ⟨y163, hz164, h⟩ := bind_some h
                    refine pi_l hf rfl rfl rfl rfl (w_call hf Try.call26 rfl (r_laws_toLexicon ⟨_, Sh C _ _, none_, hM.sh_lt, none_not, C.G, hM.g_lt, g_none, hM.tabs⟩ aL5 _ _ (hM.dat (k := 0) rfl) _ hz164) ?_)
                    rintro _ w167 ⟨A165, c166, rfl, hM2⟩
                    obtain ⟨hM, hx168, hup169⟩ := hM.back hM2
                    dsimp only [List.cons_append, List.nil_append] at hM hup169
                    clear hM2
                    refine ⟨_, rfl, Ext w167, fun _ h => Ext.trans hx168 h, Ext.refl _, fun a hf => ?_⟩
                    refine pi_one ?_
                    obtain ⟨y170, hz171, h⟩ := bind_some h
                    refine pi_l hf rfl rfl rfl rfl (w_call hf Try.call30 rfl (r_impl_CandidatesOf ⟨_, All C _ _, none_, hM.all_lt, none_not, C.G, hM.g_lt, g_none, hM.tabs⟩ y155 hv157 hv158 hv159 y163 _ _ (hM.lendRow (k := 0) rfl) aSlot9 hp10 _ hz171) ?_)
                    rintro _ w175 ⟨A172, c173, rfl, hM2, hv174⟩
                    obtain ⟨hM, hx176⟩ := hM.backAF strRep_flat hM2
                    clear hM2
                    refine ⟨_, rfl, Ext w175, fun _ h => Ext.trans hx176 h, Ext.refl _, fun a hf => ?_⟩
                    refine pi_q hf rfl rfl rfl rfl (Ext.refl _) (e_move hf rfl) fun a hf => ?_
                    refine pi_q hf rfl rfl rfl rfl (Ext.refl _) (e_extract hf rfl rfl) fun a hf => ?_
                    refine pi_q hf rfl rfl rfl rfl (Ext.refl _) (e_extract hf rfl rfl) fun a hf => ?_
                    refine pi_q hf rfl rfl rfl rfl (Ext.refl _) (e_assign hf rfl) fun a hf => ?_
                    refine pi_q hf rfl rfl rfl rfl (Ext.refl _) (e_assign hf rfl) fun a hf => ?_
                    refine pi_nil ?_
                    refine then_n ?_
                    refine wp_seq ?_
                    obtain ⟨x180, h181, h⟩ := bind_some h
                    refine seq_join (fun a w => ∃ (t178 : Bool), t178 = x180 ∧ Has 114 a [(11, vL A82 (y139.2) c83), (14, vI (y139.1)), (105, .bool (t178))] ∧ Mem C w [.row strRep A172 c173 9 y170.1 true, .row strRep A165 c166 9 y163.Words true, .row strRep A82 c83 9 y139.2 true, .row strRep A59 c60 9 y116.2 true, .row strRep A105 c106 9 y103.Words true, .box b64 [vL A59 (y116.2) c60] 45, .row strRep A51 c52 9 y49.1 true, .row strRep A44 c45 9 y42.Words true, .box b15 [vL A6 (aL5.Words) c7] 42, .box b11 [vI (aG1.Rows), vI (aG1.Cols), vS (aG1.Cells)] 23] [.dat (sliceRep strRep) aL5.Words [vL A6 aL5.Words c7]]) ?_ ?_
                    · refine region_pl ?_
                      refine q_ hf rfl rfl rfl (e_move hf rfl) fun a hf => ?_
                      refine q_ hf rfl rfl rfl (e_move hf rfl) fun a hf => ?_
                      obtain ⟨y182, hz183, h181⟩ := bind_some h181
                      refine pl_l hf rfl rfl rfl (w_call hf Try.call31 rfl (r_laws_eqStringS ⟨_, All C _ _, none_, hM.all_lt, none_not, C.G, hM.g_lt, g_none, hM.tabs⟩ y170.1 _ _ (hM.lendRow (k := 0) rfl) y49.1 _ _ (hM.lendRow (k := 6) rfl) _ hz183) ?_)
                      rintro _ w184 ⟨rfl, hM2⟩
                      obtain ⟨hM, hx185⟩ := hM.backA hM2
                      clear hM2
                      refine ⟨_, rfl, fun a hf => ?_⟩
                      refine q_ hf rfl rfl rfl (e_not hf rfl) fun a hf => ?_
                      refine q_ hf rfl rfl rfl (e_move hf rfl) fun a hf => ?_
                      rcases cond_some h181 with ⟨hc187, h181⟩ | ⟨hc187, h181⟩
                      · refine pl_gs (wanted_f hf rfl rfl rfl rfl hc187) hf rfl rfl fun a hf => ?_
                        refine pl_gs (wanted_f hf rfl rfl rfl rfl hc187) hf rfl rfl fun a hf => ?_
                        refine pl_gs (wanted_f hf rfl rfl rfl rfl hc187) hf rfl rfl fun a hf => ?_
                        refine q_ hf rfl rfl rfl (e_pick_t hf rfl hc187 rfl) fun a hf => ?_
                        refine pl_nil ?_
                        obtain rfl := some_inj h181
                        refine then_n ?_
                        exact ⟨true, rfl, hf.keep ⟨rfl, rfl, rfl, trivial⟩, hM.pick [0] rfl⟩
                      · refine gq (wanted_t hf rfl rfl rfl rfl hc187) hf rfl rfl (e_move hf rfl) fun a hf => ?_
                        refine gq (wanted_t hf rfl rfl rfl rfl hc187) hf rfl rfl (e_move hf rfl) fun a hf => ?_
                        refine gq (wanted_t hf rfl rfl rfl rfl hc187) hf rfl rfl (e_ne hf (x := y170.2) (y := y49.2) rfl rfl) fun a hf => ?_
                        refine q_ hf rfl rfl rfl (e_pick_f hf rfl hc187 rfl) fun a hf => ?_
                        refine pl_nil ?_
                        obtain rfl := some_inj h181
                        refine then_n ?_
                        exact ⟨(y170.2 != y49.2), rfl, hf.keep ⟨rfl, rfl, rfl, trivial⟩, hM.pick [0] rfl⟩
                    · rintro a w190 ⟨t178, rfl, hf, hM⟩
                      try dsimp only at h
                      rcases cond_some h with ⟨hc191, h⟩ | ⟨hc191, h⟩
                      · refine cond_t hf rfl hc191 ?_
                        refine wp_seq ?_
                        refine region_pl ?_
                        refine q_ hf rfl rfl rfl (e_assign hf rfl) fun a hf => ?_
                        refine pl_nil ?_
                        refine then_n ?_
                        refine wp_ret ?_
                        refine then_r ?_
                        obtain rfl := some_inj h
                        have hM := hM.outs (own' := []) 0 rfl
                        exact leave1 hf rfl rfl ⟨rfl, hM.fin⟩
                      · refine cond_f hf rfl hc191 ?_
                        refine wp_skip ?_
                        refine then_n ?_
                        refine wp_seq ?_
                        refine region_pl ?_
                        refine q_ hf rfl rfl rfl (e_assign hf rfl) fun a hf => ?_
                        refine pl_nil ?_
                        refine then_n ?_
                        refine wp_seq ?_
                        refine region_pl ?_
                        refine q_ hf rfl rfl rfl (e_move hf rfl) fun a hf => ?_
                        refine q_ hf rfl rfl rfl (e_move hf rfl) fun a hf => ?_
                        obtain ⟨y192, hz193, h⟩ := bind_some h
                        refine pl_l hf rfl rfl rfl (w_call hf Try.call34 rfl (r_laws_heldStringS ⟨_, All C _ _, none_, hM.all_lt, none_not, C.G, hM.g_lt, g_none, hM.tabs⟩ y139.2 _ _ (hM.lendRow (k := 2) rfl) 1 (R64_lit rfl) _ hz193) ?_)
                        rintro _ w195 ⟨rfl, hM2, hv194⟩
                        obtain ⟨hM, hx196⟩ := hM.backA hM2
                        clear hM2
                        refine ⟨_, rfl, fun a hf => ?_⟩
                        refine q_ hf rfl rfl rfl (e_assign hf rfl) fun a hf => ?_
                        refine pl_nil ?_
                        refine then_n ?_
                        refine wp_seq ?_
                        refine wp_seq ?_
                        refine region_pl ?_
                        refine q_ hf rfl rfl rfl (e_move hf rfl) fun a hf => ?_
                        refine q_ hf rfl rfl rfl (e_lt hf (x := y192) (y := 0) rfl rfl) fun a hf => ?_
                        refine pl_nil ?_
                        refine then_n ?_
                        rcases cond_some h with ⟨hc198, h⟩ | ⟨hc198, h⟩
                        · refine cond_t hf rfl hc198 ?_
                          refine wp_seq ?_
                          refine region_pl ?_
                          refine q_ hf rfl rfl rfl (e_assign hf rfl) fun a hf => ?_
                          refine pl_nil ?_
                          refine then_n ?_
                          refine wp_ret ?_
                          refine then_r ?_
                          obtain rfl := some_inj h
                          have hM := hM.outs (own' := []) 0 rfl
                          exact leave1 hf rfl rfl ⟨rfl, hM.fin⟩
                        · refine cond_f hf rfl hc198 ?_
                          refine wp_skip ?_
                          refine then_n ?_
                          refine wp_seq ?_
                          refine wp_seq ?_
                          refine region_pl ?_
                          refine q_ hf rfl rfl rfl (e_move hf rfl) fun a hf => ?_
                          refine q_ hf rfl rfl rfl (e_move hf rfl) fun a hf => ?_
                          refine q_ hf rfl rfl rfl (e_ne hf (x := y192) (y := y139.1) rfl rfl) fun a hf => ?_
                          refine pl_nil ?_
                          refine then_n ?_
                          rcases cond_some h with ⟨hc199, h⟩ | ⟨hc199, h⟩
                          · refine cond_t hf rfl hc199 ?_
                            refine wp_seq ?_
                            refine region_pl ?_
                            refine q_ hf rfl rfl rfl (e_assign hf rfl) fun a hf => ?_
                            refine pl_nil ?_
                            refine then_n ?_
                            refine wp_ret ?_
                            refine then_r ?_
                            obtain rfl := some_inj h
                            have hM := hM.outs (own' := []) 0 rfl
                            exact leave1 hf rfl rfl ⟨rfl, hM.fin⟩
                          · refine cond_f hf rfl hc199 ?_
                            refine wp_skip ?_
                            refine then_n ?_
                            refine wp_seq ?_
                            refine region_pl ?_
                            refine q_ hf rfl rfl rfl (e_assign hf rfl) fun a hf => ?_
                            refine pl_nil ?_
                            refine then_n ?_
                            refine wp_ret ?_
                            obtain rfl := some_inj h
                            have hM := hM.outs (own' := []) 0 rfl
                            exact leave1 hf rfl rfl ⟨rfl, hM.fin⟩

end Go.Proofs.Ytgmikhdealhlfaa
