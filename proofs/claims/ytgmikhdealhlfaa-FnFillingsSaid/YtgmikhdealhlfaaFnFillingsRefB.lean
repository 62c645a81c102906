/- The functions that this law reaches do what their models say. Printed by gen.py. -/
import Derived.Test.YtgmikhdealhlfaaMod
import Derived.Test.YtgmikhdealhlfaaFnFillingsRef
namespace Go.Proofs.Ytgmikhdealhlfaa
open Go Go.RowKit
set_option linter.unusedSimpArgs false
set_option linter.unusedVariables false

set_option maxRecDepth 100000 in
set_option maxHeartbeats 4000000 in
theorem r_impl_Grid_slots (C : Cx) (g1 : Grid) (hp2 : R64 g1.Rows) (hp3 : R64 g1.Cols) (hp4 : g1.Cells.length ≤ maxLen) (r : (List Slot)) (h : m_impl_Grid_slots g1 = some r) :
    Calls Try.prog 55 #[.agg #[vI (g1.Rows), vI (g1.Cols), vS (g1.Cells)]] C.w0 fun e w => ∃ (A_1 : Option Addr), ∃ (c_1 : Nat), e = .returned (vL A_1 (r) c_1) ∧ Mem C w [.row SlotRep A_1 c_1 75 r true] [] := by
  have hM := Mem.begin C [] trivial
  refine enter Try.func55 rfl Try.ntmps55 rfl fun a hf => ?_
  unfold m_impl_Grid_slots at h
  refine wp_seq ?_
  refine region_pl ?_
  refine pl_l hf rfl rfl rfl (w_box hf hM (cs := [vI (g1.Rows), vI (g1.Cols), vS (g1.Cells)]) rfl rfl fun b5 w6 hx7 hM a hf => ?_)
  refine q_ hf rfl rfl rfl (e_assign hf rfl) fun a hf => ?_
  refine pl_nil ?_
  refine then_n ?_
  refine wp_seq ?_
  refine region_pl ?_
  refine q_ hf rfl rfl rfl (e_loadA hf (us := [vI (g1.Rows), vI (g1.Cols), vS (g1.Cells)]) rfl ⟨Try.isAgg27, Try.sizeOf27⟩ rfl (hM.boxSub (k := 0) (us := [vI (g1.Rows), vI (g1.Cols), vS (g1.Cells)]) (o := 0) rfl rfl)) fun a hf => ?_
  obtain ⟨y9, hz10, h⟩ := bind_some h
  refine pl_l hf rfl rfl rfl (w_call hf Try.call88 rfl (r_impl_Grid_across ⟨_, Sh C _ _, none_, hM.sh_lt, none_not, C.G, hM.g_lt, g_none, hM.tabs⟩ g1 hp2 hp3 hp4 _ hz10) ?_)
  rintro _ w13 ⟨A11, c12, rfl, hM2⟩
  obtain ⟨hM, hx14, hup15⟩ := hM.back hM2
  dsimp only [List.cons_append, List.nil_append] at hM hup15
  clear hM2
  refine ⟨_, rfl, fun a hf => ?_⟩
  refine q_ hf rfl rfl rfl (e_assign hf rfl) fun a hf => ?_
  refine pl_nil ?_
  refine then_n ?_
  obtain ⟨x19, h20, h⟩ := bind_some h
  refine seq_join (fun a w => ∃ (xs16 : (List Slot)) (A17 : Option Addr) (c18 : Nat), xs16 = x19 ∧ Has 28 a [(3, vL A17 (xs16) c18)] ∧ Mem C w [.row SlotRep A17 c18 75 xs16 true, .box b5 [vI (g1.Rows), vI (g1.Cols), vS (g1.Cells)] 27] []) ?_ ?_
  · refine wp_seq ?_
    refine region_pl ?_
    refine q_ hf rfl rfl rfl (e_loadA hf (us := [vI (g1.Rows), vI (g1.Cols), vS (g1.Cells)]) rfl ⟨Try.isAgg27, Try.sizeOf27⟩ rfl (hM.boxSub (k := 1) (us := [vI (g1.Rows), vI (g1.Cols), vS (g1.Cells)]) (o := 0) rfl rfl)) fun a hf => ?_
    obtain ⟨y21, hz22, h20⟩ := bind_some h20
    refine pl_l hf rfl rfl rfl (w_call hf Try.call81 rfl (r_impl_Grid_turned ⟨_, Sh C _ _, none_, hM.sh_lt, none_not, C.G, hM.g_lt, g_none, hM.tabs⟩ g1 hp2 hp3 hp4 _ hz22) ?_)
    rintro _ w26 ⟨rfl, hM2, hv23, hv24, hv25⟩
    obtain ⟨hM, hx27, hup28⟩ := hM.back hM2
    dsimp only [List.cons_append, List.nil_append] at hM hup28
    clear hM2
    refine ⟨_, rfl, fun a hf => ?_⟩
    obtain ⟨y29, hz30, h20⟩ := bind_some h20
    refine pl_l hf rfl rfl rfl (w_call hf Try.call88 rfl (r_impl_Grid_across ⟨_, Sh C _ _, none_, hM.sh_lt, none_not, C.G, hM.g_lt, g_none, hM.tabs⟩ y21 hv23 hv24 hv25 _ hz30) ?_)
    rintro _ w33 ⟨A31, c32, rfl, hM2⟩
    obtain ⟨hM, hx34, hup35⟩ := hM.back hM2
    dsimp only [List.cons_append, List.nil_append] at hM hup35
    clear hM2
    refine ⟨_, rfl, fun a hf => ?_⟩
    have hl36 := row_len (hM.ownAt (k := 0) rfl)
    refine q_ hf rfl rfl rfl (e_lenL hf (x := y29) rfl Try.underlying30) fun a hf => ?_
    refine q_ hf rfl rfl rfl (e_move hf rfl) fun a hf => ?_
    refine pl_nil ?_
    refine then_n ?_
    refine wp_block ?_
    obtain ⟨x46, h47, h20⟩ := bind_some h20
    refine wp_loopM h47 (fun s a w => ∃ (xs37 : (List Slot)) (n40 : Int) (A38 : Option Addr) (c39 : Nat), (xs37, n40) = s ∧ Has 28 a [(3, vL A38 (xs37) c39), (10, vL A31 (y29) c32), (11, vI ((y29.length : Int))), (12, vI (n40))] ∧ Mem C w [.row SlotRep A31 c32 75 y29 true, .row SlotRep A38 c39 75 xs37 true, .box b5 [vI (g1.Rows), vI (g1.Cols), vS (g1.Cells)] 27] [] ∧ R64 n40) ?_ ?_
    · exact ⟨y9, 0, A11, c12, rfl, hf.keep ⟨rfl, rfl, rfl, rfl, trivial⟩, hM.pick [] rfl, (R64_lit rfl)⟩
    · rintro s o48 a w42 ⟨xs37, n40, A38, c39, rfl, hf, hM, hv41⟩ h49 hd50
      replace h49 : m_impl_Grid_slots_l1 y29 xs37 n40 = some o48 := h49
      unfold m_impl_Grid_slots_l1 at h49
      refine wp_seq ?_
      refine region_pl ?_
      refine q_ hf rfl rfl rfl (e_lt hf (x := n40) (y := (y29.length : Int)) rfl rfl) fun a hf => ?_
      refine pl_nil ?_
      refine then_n ?_
      refine wp_seq ?_
      rcases cond_some h49 with ⟨hc51, h49⟩ | ⟨hc51, h49⟩
      · refine cond_t hf rfl hc51 ?_
        refine wp_skip ?_
        refine then_n ?_
        refine wp_seq ?_
        refine wp_block ?_
        refine wp_seq ?_
        refine region_pl ?_
        obtain ⟨e52, hz53, h49⟩ := bind_some h49
        obtain ⟨b58, _, hA59, h54, h55, hr56, hcell57⟩ := hM.rowElemN (k := 0) rfl (n := 4) rfl hz53
        obtain ⟨rfl, hv60, hv61, hv62⟩ := SlotRep_open hr56
        refine q_ hf rfl rfl rfl (e_indexAddr (A := A31) (b := b58) (o := 0) (xs := y29) (i := n40) hf hA59 rfl rfl Try.underlying30 Try.sizeOf75 h54 h55) fun a hf => ?_
        refine q_ hf rfl rfl rfl (e_loadA hf (us := [vI (e52.Row), vI (e52.Col), .bool (e52.Down), vI (e52.Length)]) rfl ⟨Try.isAgg75, Try.sizeOf75⟩ rfl hcell57) fun a hf => ?_
        refine pl_l hf rfl rfl rfl (w_alloc hM (cs := [vI (0), vI (0), .bool (false), vI (0)]) Try.zeroValue75 rfl fun b63 w64 hx65 hM a hf => ?_)
        refine pl_0 hf rfl rfl (w_store hf hM (us := [vI (e52.Row), vI (e52.Col), .bool (e52.Down), vI (e52.Length)]) (cs' := [vI (e52.Row), vI (e52.Col), .bool (e52.Down), vI (e52.Length)]) rfl rfl (k := 0) rfl rfl Try.sizeOf75 rfl rfl rfl fun w67 hM => ?_)
        dsimp only [List.set] at hM
        refine pl_nil ?_
        refine then_n ?_
        refine region_pl ?_
        refine q_ hf rfl rfl rfl (e_move hf rfl) fun a hf => ?_
        refine q_ hf rfl rfl rfl (e_field hf rfl Try.underlying75 rfl Try.sizeOf2 (o' := 1) rfl) fun a hf => ?_
        refine q_ hf rfl rfl rfl (e_load1 hf rfl Try.isAgg2 (hM.boxCell (k := 0) rfl rfl)) fun a hf => ?_
        refine q_ hf rfl rfl rfl (e_field hf rfl Try.underlying75 rfl Try.sizeOf2 (o' := 0) rfl) fun a hf => ?_
        refine q_ hf rfl rfl rfl (e_load1 hf rfl Try.isAgg2 (hM.boxCell (k := 0) rfl rfl)) fun a hf => ?_
        refine q_ hf rfl rfl rfl (e_field hf rfl Try.underlying75 rfl Try.sizeOf2 (o' := 3) rfl) fun a hf => ?_
        refine q_ hf rfl rfl rfl (e_load1 hf rfl Try.isAgg2 (hM.boxCell (k := 0) rfl rfl)) fun a hf => ?_
        refine q_ hf rfl rfl rfl (e_build hf Try.zeroValue75 Try.underlying75 (bp_75 _ Try.underlying75.symm) rfl (cs := #[vI (e52.Col), vI (e52.Row), .bool (true), vI (e52.Length)]) (by kernel_rfl)) fun a hf => ?_
        refine pl_l hf rfl rfl rfl (w_slice hf hM (K := SlotRep) (xs := ([(⟨e52.Col, e52.Row, true, e52.Length⟩ : Slot)] : (List Slot))) (os := [.tmp 23]) Try.underlying30 ei_75 rfl rfl rfl rfl rfl ⟨⟨[vI (e52.Col), vI (e52.Row), .bool (true), vI (e52.Length)], rfl, (SlotRep_mk (x := (⟨e52.Col, e52.Row, true, e52.Length⟩ : Slot)) hv61 hv60 hv62)⟩, trivial⟩ rfl fun b70 w71 hx72 hM a hf => ?_)
        obtain ⟨xs73, hz74, h49⟩ := bind_some h49
        refine pl_l hf rfl rfl rfl (w_append hf hM Try.underlying30 ei_75 rfl rfl rfl (k := 3) rfl (hM.srcRow (k := 0) rfl) hz74 fun A75 c76 w77 hM a hf => ?_)
        dsimp only [List.set] at hM
        refine q_ hf rfl rfl rfl (e_assign hf rfl) fun a hf => ?_
        refine pl_nil ?_
        refine blk_n ?_
        refine then_n ?_
        refine region_pl ?_
        obtain ⟨z80, hz81, h49⟩ := bind_some h49
        refine q_ hf rfl rfl rfl (e_add hf rfl rfl hz81) fun a hf => ?_
        refine q_ hf rfl rfl rfl (e_move hf rfl) fun a hf => ?_
        refine pl_nil ?_
        obtain rfl := some_inj h49
        refine then_n ⟨_, rfl, ?_⟩
        exact ⟨xs73, z80, A75, c76, rfl, hf.keep ⟨rfl, rfl, rfl, rfl, trivial⟩, (hM.drop (.cons _ (.cons _ (.cons_cons _ (.cons_cons _ (.cons_cons _ .slnil)))))).pick [] rfl, (chk_R hz81)⟩
      · refine cond_f hf rfl hc51 ?_
        refine wp_exit ?_
        refine then_x ?_
        obtain rfl := some_inj h49
        obtain rfl := hd50 _ rfl
        try dsimp only at h20
        refine then_x ?_
        refine exit_hit ?_
        obtain rfl := some_inj h20
        refine then_n ?_
        exact ⟨xs37, A38, c39, rfl, hf.keep ⟨rfl, trivial⟩, (hM.drop (.cons _ (.cons_cons _ (.cons_cons _ .slnil)))).pick [] rfl⟩
  · rintro a w87 ⟨xs16, A17, c18, rfl, hf, hM⟩
    try dsimp only at h
    refine wp_seq ?_
    refine region_pl ?_
    refine q_ hf rfl rfl rfl (e_move hf rfl) fun a hf => ?_
    refine q_ hf rfl rfl rfl (e_assign hf rfl) fun a hf => ?_
    refine pl_nil ?_
    refine then_n ?_
    refine wp_ret ?_
    obtain rfl := some_inj h
    have hM := hM.outs (own' := [.row SlotRep A17 c18 75 xs16 true]) 1 rfl
    exact leave1 hf rfl rfl ⟨A17, c18, rfl, hM.fin⟩

set_option maxRecDepth 100000 in
set_option maxHeartbeats 4000000 in
theorem r_impl_Grid_index (C : Cx) (g1 : Grid) (hp2 : R64 g1.Rows) (hp3 : R64 g1.Cols) (hp4 : g1.Cells.length ≤ maxLen) (s5 : Slot) (hp6 : R64 s5.Row) (hp7 : R64 s5.Col) (hp8 : R64 s5.Length) (n9 : Int) (hp10 : R64 n9) (r : Int) (h : m_impl_Grid_index g1 s5 n9 = some r) :
    Calls Try.prog 86 #[.agg #[vI (g1.Rows), vI (g1.Cols), vS (g1.Cells)], .agg #[vI (s5.Row), vI (s5.Col), .bool (s5.Down), vI (s5.Length)], vI (n9)] C.w0 fun e w => e = .returned (vI (r)) ∧ Mem C w [] [] ∧ R64 r := by
  have hM := Mem.begin C [] trivial
  refine enter Try.func86 rfl Try.ntmps86 rfl fun a hf => ?_
  unfold m_impl_Grid_index at h
  refine wp_seq ?_
  refine region_pl ?_
  refine pl_l hf rfl rfl rfl (w_box hf hM (cs := [vI (g1.Rows), vI (g1.Cols), vS (g1.Cells)]) rfl rfl fun b11 w12 hx13 hM a hf => ?_)
  refine pl_l hf rfl rfl rfl (w_box hf hM (cs := [vI (s5.Row), vI (s5.Col), .bool (s5.Down), vI (s5.Length)]) rfl rfl fun b15 w16 hx17 hM a hf => ?_)
  refine q_ hf rfl rfl rfl (e_assign hf rfl) fun a hf => ?_
  refine pl_nil ?_
  refine then_n ?_
  refine wp_seq ?_
  refine wp_seq ?_
  refine region_pl ?_
  refine q_ hf rfl rfl rfl (e_field hf rfl Try.underlying75 rfl Try.sizeOf4 (o' := 2) rfl) fun a hf => ?_
  refine q_ hf rfl rfl rfl (e_load1 hf rfl Try.isAgg4 (hM.boxCell (k := 0) rfl rfl)) fun a hf => ?_
  refine pl_nil ?_
  refine then_n ?_
  rcases cond_some h with ⟨hc19, h⟩ | ⟨hc19, h⟩
  · refine cond_t hf rfl hc19 ?_
    refine wp_seq ?_
    refine region_pl ?_
    refine q_ hf rfl rfl rfl (e_field hf rfl Try.underlying75 rfl Try.sizeOf2 (o' := 0) rfl) fun a hf => ?_
    refine q_ hf rfl rfl rfl (e_load1 hf rfl Try.isAgg2 (hM.boxCell (k := 0) rfl rfl)) fun a hf => ?_
    refine q_ hf rfl rfl rfl (e_move hf rfl) fun a hf => ?_
    obtain ⟨z20, hz21, h⟩ := bind_some h
    refine q_ hf rfl rfl rfl (e_add hf rfl rfl hz21) fun a hf => ?_
    refine q_ hf rfl rfl rfl (e_field hf rfl Try.underlying27 rfl Try.sizeOf2 (o' := 1) rfl) fun a hf => ?_
    refine q_ hf rfl rfl rfl (e_load1 hf rfl Try.isAgg2 (hM.boxCell (k := 1) rfl rfl)) fun a hf => ?_
    obtain ⟨z22, hz23, h⟩ := bind_some h
    refine q_ hf rfl rfl rfl (e_mul hf rfl rfl hz23) fun a hf => ?_
    refine q_ hf rfl rfl rfl (e_field hf rfl Try.underlying75 rfl Try.sizeOf2 (o' := 1) rfl) fun a hf => ?_
    refine q_ hf rfl rfl rfl (e_load1 hf rfl Try.isAgg2 (hM.boxCell (k := 0) rfl rfl)) fun a hf => ?_
    obtain ⟨z24, hz25, h⟩ := bind_some h
    refine q_ hf rfl rfl rfl (e_add hf rfl rfl hz25) fun a hf => ?_
    refine q_ hf rfl rfl rfl (e_assign hf rfl) fun a hf => ?_
    refine pl_nil ?_
    refine then_n ?_
    refine wp_ret ?_
    refine then_r ?_
    obtain rfl := some_inj h
    have hM := hM.outs (own' := []) 0 rfl
    exact leave1 hf rfl rfl ⟨rfl, hM.fin, (chk_R hz25)⟩
  · refine cond_f hf rfl hc19 ?_
    refine wp_skip ?_
    refine then_n ?_
    refine wp_seq ?_
    refine region_pl ?_
    refine q_ hf rfl rfl rfl (e_field hf rfl Try.underlying75 rfl Try.sizeOf2 (o' := 0) rfl) fun a hf => ?_
    refine q_ hf rfl rfl rfl (e_load1 hf rfl Try.isAgg2 (hM.boxCell (k := 0) rfl rfl)) fun a hf => ?_
    refine q_ hf rfl rfl rfl (e_field hf rfl Try.underlying27 rfl Try.sizeOf2 (o' := 1) rfl) fun a hf => ?_
    refine q_ hf rfl rfl rfl (e_load1 hf rfl Try.isAgg2 (hM.boxCell (k := 1) rfl rfl)) fun a hf => ?_
    obtain ⟨z26, hz27, h⟩ := bind_some h
    refine q_ hf rfl rfl rfl (e_mul hf rfl rfl hz27) fun a hf => ?_
    refine q_ hf rfl rfl rfl (e_field hf rfl Try.underlying75 rfl Try.sizeOf2 (o' := 1) rfl) fun a hf => ?_
    refine q_ hf rfl rfl rfl (e_load1 hf rfl Try.isAgg2 (hM.boxCell (k := 0) rfl rfl)) fun a hf => ?_
    obtain ⟨z28, hz29, h⟩ := bind_some h
    refine q_ hf rfl rfl rfl (e_add hf rfl rfl hz29) fun a hf => ?_
    refine q_ hf rfl rfl rfl (e_move hf rfl) fun a hf => ?_
    obtain ⟨z30, hz31, h⟩ := bind_some h
    refine q_ hf rfl rfl rfl (e_add hf rfl rfl hz31) fun a hf => ?_
    refine q_ hf rfl rfl rfl (e_assign hf rfl) fun a hf => ?_
    refine pl_nil ?_
    refine then_n ?_
    refine wp_ret ?_
    obtain rfl := some_inj h
    have hM := hM.outs (own' := []) 0 rfl
    exact leave1 hf rfl rfl ⟨rfl, hM.fin, (chk_R hz31)⟩

set_option maxRecDepth 100000 in
set_option maxHeartbeats 4000000 in
theorem r_impl_Grid_pattern (C : Cx) (g1 : Grid) (hp2 : R64 g1.Rows) (hp3 : R64 g1.Cols) (hp4 : g1.Cells.length ≤ maxLen) (s5 : Slot) (hp6 : R64 s5.Row) (hp7 : R64 s5.Col) (hp8 : R64 s5.Length) (r : Str) (h : m_impl_Grid_pattern g1 s5 = some r) :
    Calls Try.prog 53 #[.agg #[vI (g1.Rows), vI (g1.Cols), vS (g1.Cells)], .agg #[vI (s5.Row), vI (s5.Col), .bool (s5.Down), vI (s5.Length)]] C.w0 fun e w => e = .returned (vS (r)) ∧ Mem C w [] [] ∧ r.length ≤ maxLen := by
  have hM := Mem.begin C [] trivial
  refine enter Try.func53 rfl Try.ntmps53 rfl fun a hf => ?_
  unfold m_impl_Grid_pattern at h
  refine wp_seq ?_
  refine region_pl ?_
  refine pl_l hf rfl rfl rfl (w_box hf hM (cs := [vI (g1.Rows), vI (g1.Cols), vS (g1.Cells)]) rfl rfl fun b9 w10 hx11 hM a hf => ?_)
  refine pl_l hf rfl rfl rfl (w_box hf hM (cs := [vI (s5.Row), vI (s5.Col), .bool (s5.Down), vI (s5.Length)]) rfl rfl fun b13 w14 hx15 hM a hf => ?_)
  refine q_ hf rfl rfl rfl (e_assign hf rfl) fun a hf => ?_
  refine pl_nil ?_
  refine then_n ?_
  refine wp_seq ?_
  refine region_pl ?_
  refine pl_l hf rfl rfl rfl (w_slice0 (K := byteRep) hM Try.underlying63 ei_5 fun b17 w18 hx19 hM a hf => ?_)
  refine q_ hf rfl rfl rfl (e_assign hf rfl) fun a hf => ?_
  refine pl_nil ?_
  refine then_n ?_
  obtain ⟨x23, h24, h⟩ := bind_some h
  refine seq_join (fun a w => ∃ (xs20 : Str) (A21 : Option Addr) (c22 : Nat), xs20 = x23 ∧ Has 26 a [(5, vL A21 (xs20) c22)] ∧ Mem C w [.row byteRep A21 c22 5 xs20 true, .box b13 [vI (s5.Row), vI (s5.Col), .bool (s5.Down), vI (s5.Length)] 75, .box b9 [vI (g1.Rows), vI (g1.Cols), vS (g1.Cells)] 27] []) ?_ ?_
  · refine wp_seq ?_
    refine region_pl ?_
    refine q_ hf rfl rfl rfl (e_assign hf rfl) fun a hf => ?_
    refine pl_nil ?_
    refine then_n ?_
    refine wp_block ?_
    obtain ⟨x34, h35, h24⟩ := bind_some h24
    refine wp_loopM h35 (fun s a w => ∃ (xs25 : Str) (n28 : Int) (A26 : Option Addr) (c27 : Nat), (xs25, n28) = s ∧ Has 26 a [(2, vP b9 (0)), (3, vP b13 (0)), (5, vL A26 (xs25) c27), (6, vI (n28))] ∧ Mem C w [.row byteRep A26 c27 5 xs25 true, .box b13 [vI (s5.Row), vI (s5.Col), .bool (s5.Down), vI (s5.Length)] 75, .box b9 [vI (g1.Rows), vI (g1.Cols), vS (g1.Cells)] 27] [] ∧ R64 n28) ?_ ?_
    · exact ⟨([] : Str), 0, (some ⟨b17, 0, none⟩), 0, rfl, hf.keep ⟨rfl, rfl, rfl, rfl, trivial⟩, hM.pick [] rfl, (R64_lit rfl)⟩
    · rintro s o36 a w30 ⟨xs25, n28, A26, c27, rfl, hf, hM, hv29⟩ h37 hd38
      replace h37 : m_impl_Grid_pattern_l1 s5 g1 xs25 n28 = some o36 := h37
      unfold m_impl_Grid_pattern_l1 at h37
      refine wp_seq ?_
      refine wp_seq ?_
      refine region_pl ?_
      refine q_ hf rfl rfl rfl (e_move hf rfl) fun a hf => ?_
      refine q_ hf rfl rfl rfl (e_field hf rfl Try.underlying75 rfl Try.sizeOf2 (o' := 3) rfl) fun a hf => ?_
      refine q_ hf rfl rfl rfl (e_load1 hf rfl Try.isAgg2 (hM.boxCell (k := 1) rfl rfl)) fun a hf => ?_
      refine q_ hf rfl rfl rfl (e_lt hf (x := n28) (y := s5.Length) rfl rfl) fun a hf => ?_
      refine pl_nil ?_
      refine then_n ?_
      rcases cond_some h37 with ⟨hc39, h37⟩ | ⟨hc39, h37⟩
      · refine cond_t hf rfl hc39 ?_
        refine wp_skip ?_
        refine then_n ?_
        refine wp_seq ?_
        refine wp_block ?_
        obtain ⟨w40, hw⟩ : ∃ x, x = w30.drew := ⟨_, rfl⟩
        refine region_pi (.q 0 (.q 1 (.q 2 (.q 3 (.q 4 (.q 5 (.l 6 (.q 7 (.l 8 (.l 9 (.q 10 (.nil)))))))))))) (Ext w40) rfl (by kernel_rfl) ?_
        have hM := hM.drew
        rw [← hw] at hM ⊢
        clear hw
        refine pi_q hf rfl rfl rfl rfl (Ext.refl _) (e_move hf rfl) fun a hf => ?_
        refine pi_q hf rfl rfl rfl rfl (Ext.refl _) (e_field hf rfl Try.underlying27 rfl Try.sizeOf9 (o' := 2) rfl) fun a hf => ?_
        refine pi_q hf rfl rfl rfl rfl (Ext.refl _) (e_load1 hf rfl Try.isAgg9 (hM.boxCell (k := 2) rfl rfl)) fun a hf => ?_
        refine pi_q hf rfl rfl rfl rfl (Ext.refl _) (e_loadA hf (us := [vI (g1.Rows), vI (g1.Cols), vS (g1.Cells)]) rfl ⟨Try.isAgg27, Try.sizeOf27⟩ rfl (hM.boxSub (k := 2) (us := [vI (g1.Rows), vI (g1.Cols), vS (g1.Cells)]) (o := 0) rfl rfl)) fun a hf => ?_
        refine pi_q hf rfl rfl rfl rfl (Ext.refl _) (e_loadA hf (us := [vI (s5.Row), vI (s5.Col), .bool (s5.Down), vI (s5.Length)]) rfl ⟨Try.isAgg75, Try.sizeOf75⟩ rfl (hM.boxSub (k := 1) (us := [vI (s5.Row), vI (s5.Col), .bool (s5.Down), vI (s5.Length)]) (o := 0) rfl rfl)) fun a hf => ?_
        refine pi_q hf rfl rfl rfl rfl (Ext.refl _) (e_move hf rfl) fun a hf => ?_
        refine pi_one ?_
        obtain ⟨y41, hz42, h37⟩ := bind_some h37
        refine pi_l hf rfl rfl rfl rfl (w_call hf Try.call86 rfl (r_impl_Grid_index ⟨_, Sh C _ _, none_, hM.sh_lt, none_not, C.G, hM.g_lt, g_none, hM.tabs⟩ g1 hp2 hp3 hp4 s5 hp6 hp7 hp8 n28 hv29 _ hz42) ?_)
        rintro _ w44 ⟨rfl, hM2, hv43⟩
        obtain ⟨hM, hx45, hup46⟩ := hM.back hM2
        dsimp only [List.cons_append, List.nil_append] at hM hup46
        clear hM2
        refine ⟨_, rfl, Ext w44, fun _ h => Ext.trans hx45 h, Ext.refl _, fun a hf => ?_⟩
        obtain ⟨c47, hz48, h37⟩ := bind_some h37
        refine pi_q hf rfl rfl rfl rfl (Ext.refl _) (e_indexS hf (x := g1.Cells) rfl rfl Try.underlying9 hz48) fun a hf => ?_
        refine pi_one ?_
        refine pi_l hf rfl rfl rfl rfl (w_slice hf hM (K := byteRep) (xs := ([c47] : Str)) (os := [.tmp 21]) Try.underlying63 ei_5 rfl rfl rfl rfl rfl ⟨⟨[vB (c47)], rfl, rfl⟩, trivial⟩ rfl fun b49 w50 hx51 hM => ⟨Ext w50, fun _ h => Ext.trans hx51 h, Ext.refl _, fun a hf => ?_⟩)
        refine pi_one ?_
        obtain ⟨xs52, hz53, h37⟩ := bind_some h37
        refine pi_z hf rfl rfl rfl rfl (by kernel_rfl) (w_append hf hM Try.underlying63 ei_5 rfl rfl rfl (k := 1) rfl (hM.srcRow (k := 0) rfl) hz53 fun A54 c55 w56 hM a hf => ?_)
        dsimp only [List.set] at hM
        refine pi_q hf rfl rfl rfl rfl (Ext.refl _) (e_assign hf rfl) fun a hf => ?_
        refine pi_nil ?_
        refine blk_n ?_
        refine then_n ?_
        refine region_pl ?_
        refine q_ hf rfl rfl rfl (e_move hf rfl) fun a hf => ?_
        obtain ⟨z59, hz60, h37⟩ := bind_some h37
        refine q_ hf rfl rfl rfl (e_add hf rfl rfl hz60) fun a hf => ?_
        refine q_ hf rfl rfl rfl (e_assign hf rfl) fun a hf => ?_
        refine pl_nil ?_
        obtain rfl := some_inj h37
        refine then_n ⟨_, rfl, ?_⟩
        exact ⟨xs52, z59, A54, c55, rfl, hf.keep ⟨rfl, rfl, rfl, rfl, trivial⟩, (hM.drop (.cons _ (.cons_cons _ (.cons_cons _ (.cons_cons _ .slnil))))).pick [] rfl, (chk_R hz60)⟩
      · refine cond_f hf rfl hc39 ?_
        refine wp_exit ?_
        refine then_x ?_
        obtain rfl := some_inj h37
        obtain rfl := hd38 _ rfl
        try dsimp only at h24
        refine then_x ?_
        refine exit_hit ?_
        obtain rfl := some_inj h24
        refine then_n ?_
        exact ⟨xs25, A26, c27, rfl, hf.keep ⟨rfl, trivial⟩, hM.pick [] rfl⟩
  · rintro a w66 ⟨xs20, A21, c22, rfl, hf, hM⟩
    try dsimp only at h
    refine wp_seq ?_
    refine region_pl ?_
    refine q_ hf rfl rfl rfl (e_move hf rfl) fun a hf => ?_
    have hl67 := row_len (hM.ownAt (k := 0) rfl)
    refine q_ hf rfl rfl rfl (e_bytesStr hf (xs := xs20) rfl Try.underlying63 Try.underlying5 Try.underlying9 (hM.lendRow (k := 0) rfl)) fun a hf => ?_
    refine q_ hf rfl rfl rfl (e_assign hf rfl) fun a hf => ?_
    refine pl_nil ?_
    refine then_n ?_
    refine wp_ret ?_
    obtain rfl := some_inj h
    have hM := hM.outs (own' := []) 0 rfl
    exact leave1 hf rfl rfl ⟨rfl, hM.fin, hl67⟩

set_option maxRecDepth 100000 in
set_option maxHeartbeats 4000000 in
theorem r_impl_fitsPattern (C : Cx) (pattern1 : Str) (hp2 : pattern1.length ≤ maxLen) (word3 : Str) (hp4 : word3.length ≤ maxLen) (r : Bool) (h : m_impl_fitsPattern pattern1 word3 = some r) :
    Calls Try.prog 61 #[vS (pattern1), vS (word3)] C.w0 fun e w => e = .returned (.bool (r)) ∧ Mem C w [] [] := by
  have hM := Mem.begin C [] trivial
  refine enter Try.func61 rfl Try.ntmps61 rfl fun a hf => ?_
  unfold m_impl_fitsPattern at h
  refine wp_seq ?_
  refine region_pl ?_
  refine q_ hf rfl rfl rfl (e_assign hf rfl) fun a hf => ?_
  refine pl_nil ?_
  refine then_n ?_
  refine wp_seq ?_
  refine wp_seq ?_
  refine region_pl ?_
  refine q_ hf rfl rfl rfl (e_move hf rfl) fun a hf => ?_
  refine q_ hf rfl rfl rfl (e_lenS hf (x := pattern1) rfl Try.underlying9) fun a hf => ?_
  refine q_ hf rfl rfl rfl (e_move hf rfl) fun a hf => ?_
  refine q_ hf rfl rfl rfl (e_lenS hf (x := word3) rfl Try.underlying9) fun a hf => ?_
  refine q_ hf rfl rfl rfl (e_ne hf (x := (pattern1.length : Int)) (y := (word3.length : Int)) rfl rfl) fun a hf => ?_
  refine pl_nil ?_
  refine then_n ?_
  rcases cond_some h with ⟨hc5, h⟩ | ⟨hc5, h⟩
  · refine cond_t hf rfl hc5 ?_
    refine wp_seq ?_
    refine region_pl ?_
    refine q_ hf rfl rfl rfl (e_assign hf rfl) fun a hf => ?_
    refine pl_nil ?_
    refine then_n ?_
    refine wp_ret ?_
    refine then_r ?_
    obtain rfl := some_inj h
    exact leave1 hf rfl rfl ⟨rfl, hM.fin⟩
  · refine cond_f hf rfl hc5 ?_
    refine wp_skip ?_
    refine then_n ?_
    obtain ⟨x6, h7, h⟩ := bind_some h
    refine seq_join (fun a w => (.inl ()) = x6 ∧ Has 29 a [] ∧ Mem C w [] []) ?_ ?_
    · refine wp_seq ?_
      refine region_pl ?_
      refine q_ hf rfl rfl rfl (e_move hf rfl) fun a hf => ?_
      refine pl_l hf rfl rfl rfl (w_range hf hM (x := word3) rfl Try.underlying9 fun b8 w9 hx10 hM a hf => ?_)
      refine pl_nil ?_
      refine then_n ?_
      refine wp_block ?_
      obtain ⟨x14, h15, h7⟩ := bind_some h7
      refine wp_loopM h15 (fun s a w => ∃ (pos11 : Nat), pos11 = s ∧ Has 29 a [(0, vS (pattern1)), (1, vS (word3)), (12, vP b8 0)] ∧ Mem C w [.obj b8 (.stringIter ⟨List.toArray word3⟩ pos11)] []) ?_ ?_
      · exact ⟨0, rfl, hf.keep ⟨rfl, rfl, rfl, trivial⟩, hM.pick [] rfl⟩
      · rintro s o16 a w12 ⟨pos11, rfl, hf, hM⟩ h17 hd18
        replace h17 : m_impl_fitsPattern_l1 word3 pattern1 pos11 = some o16 := h17
        unfold m_impl_fitsPattern_l1 at h17
        refine wp_seq ?_
        refine region_pl ?_
        rcases cond_some h17 with ⟨hc19, h17⟩ | ⟨hc19, h17⟩
        · refine pl_l hf rfl rfl rfl (w_next hf hM rfl (k := 0) rfl hc19 fun w20 hM a hf => ?_)
          dsimp only [List.set] at hM
          refine q_ hf rfl rfl rfl (e_extract hf rfl rfl) fun a hf => ?_
          refine pl_nil ?_
          refine then_n ?_
          refine wp_seq ?_
          refine cond_t hf rfl rfl ?_
          refine wp_skip ?_
          refine then_n ?_
          refine wp_block ?_
          refine wp_seq ?_
          refine region_pl ?_
          refine q_ hf rfl rfl rfl (e_extract hf rfl rfl) fun a hf => ?_
          refine q_ hf rfl rfl rfl (e_assign hf rfl) fun a hf => ?_
          refine pl_nil ?_
          refine then_n ?_
          obtain ⟨x24, h25, h17⟩ := bind_some h17
          refine seq_join (fun a w => ∃ (t22 : Bool), t22 = x24 ∧ Has 29 a [(0, vS (pattern1)), (1, vS (word3)), (12, vP b8 0), (28, .bool (t22))] ∧ Mem C w [.obj b8 (.stringIter ⟨List.toArray word3⟩ (pos11 + runeW word3 pos11))] []) ?_ ?_
          · obtain ⟨w26, hw⟩ : ∃ x, x = w20.drew := ⟨_, rfl⟩
            refine region_pi (.q 0 (.q 1 (.q 2 (.q 3 (.q 4 (.q 5 (.q 6 (.q 7 (.q 8 (.q 9 (.q 10 (.q 11 (.q 12 (.nil)))))))))))))) (Ext w26) rfl (by kernel_rfl) ?_
            have hM := hM.drew
            rw [← hw] at hM ⊢
            clear hw
            refine pi_q hf rfl rfl rfl rfl (Ext.refl _) (e_move hf rfl) fun a hf => ?_
            refine pi_q hf rfl rfl rfl rfl (Ext.refl _) (e_move hf rfl) fun a hf => ?_
            obtain ⟨c27, hz28, h25⟩ := bind_some h25
            refine pi_q hf rfl rfl rfl rfl (Ext.refl _) (e_indexS hf (x := pattern1) rfl rfl Try.underlying9 hz28) fun a hf => ?_
            refine pi_q hf rfl rfl rfl rfl (Ext.refl _) (e_neB hf (x := c27) (y := 46) rfl rfl) fun a hf => ?_
            refine pi_q hf rfl rfl rfl rfl (Ext.refl _) (e_move hf rfl) fun a hf => ?_
            rcases cond_some h25 with ⟨hc29, h25⟩ | ⟨hc29, h25⟩
            · refine pi_gq hf rfl (wanted_t hf rfl rfl rfl rfl hc29) rfl rfl (Ext.refl _) (e_move hf rfl) fun a hf => ?_
              refine pi_gq hf rfl (wanted_t hf rfl rfl rfl rfl hc29) rfl rfl (Ext.refl _) (e_move hf rfl) fun a hf => ?_
              obtain ⟨c30, hz31, h25⟩ := bind_some h25
              refine pi_gq hf rfl (wanted_t hf rfl rfl rfl rfl hc29) rfl rfl (Ext.refl _) (e_indexS hf (x := pattern1) rfl rfl Try.underlying9 hz31) fun a hf => ?_
              refine pi_gq hf rfl (wanted_t hf rfl rfl rfl rfl hc29) rfl rfl (Ext.refl _) (e_move hf rfl) fun a hf => ?_
              refine pi_gq hf rfl (wanted_t hf rfl rfl rfl rfl hc29) rfl rfl (Ext.refl _) (e_move hf rfl) fun a hf => ?_
              obtain ⟨c32, hz33, h25⟩ := bind_some h25
              refine pi_gq hf rfl (wanted_t hf rfl rfl rfl rfl hc29) rfl rfl (Ext.refl _) (e_indexS hf (x := word3) rfl rfl Try.underlying9 hz33) fun a hf => ?_
              refine pi_gq hf rfl (wanted_t hf rfl rfl rfl rfl hc29) rfl rfl (Ext.refl _) (e_neB hf (x := c30) (y := c32) rfl rfl) fun a hf => ?_
              refine pi_q hf rfl rfl rfl rfl (Ext.refl _) (e_pick_t hf rfl hc29 rfl) fun a hf => ?_
              refine pi_nil ?_
              obtain rfl := some_inj h25
              refine then_n ?_
              exact ⟨(c30 != c32), rfl, hf.keep ⟨rfl, rfl, rfl, rfl, trivial⟩, hM.pick [] rfl⟩
            · refine pi_gs hf rfl (wanted_f hf rfl rfl rfl rfl hc29) rfl rfl (Ext.refl _) fun a hf => ?_
              refine pi_gs hf rfl (wanted_f hf rfl rfl rfl rfl hc29) rfl rfl (Ext.refl _) fun a hf => ?_
              refine pi_gs hf rfl (wanted_f hf rfl rfl rfl rfl hc29) rfl rfl (Ext.refl _) fun a hf => ?_
              refine pi_gs hf rfl (wanted_f hf rfl rfl rfl rfl hc29) rfl rfl (Ext.refl _) fun a hf => ?_
              refine pi_gs hf rfl (wanted_f hf rfl rfl rfl rfl hc29) rfl rfl (Ext.refl _) fun a hf => ?_
              refine pi_gs hf rfl (wanted_f hf rfl rfl rfl rfl hc29) rfl rfl (Ext.refl _) fun a hf => ?_
              refine pi_gs hf rfl (wanted_f hf rfl rfl rfl rfl hc29) rfl rfl (Ext.refl _) fun a hf => ?_
              refine pi_q hf rfl rfl rfl rfl (Ext.refl _) (e_pick_f hf rfl hc29 rfl) fun a hf => ?_
              refine pi_nil ?_
              obtain rfl := some_inj h25
              refine then_n ?_
              exact ⟨false, rfl, hf.keep ⟨rfl, rfl, rfl, rfl, trivial⟩, hM.pick [] rfl⟩
          · rintro a w36 ⟨t22, rfl, hf, hM⟩
            try dsimp only at h17
            rcases cond_some h17 with ⟨hc37, h17⟩ | ⟨hc37, h17⟩
            · refine cond_t hf rfl hc37 ?_
              refine wp_seq ?_
              refine region_pl ?_
              refine q_ hf rfl rfl rfl (e_assign hf rfl) fun a hf => ?_
              refine pl_nil ?_
              refine then_n ?_
              refine wp_ret ?_
              refine blk_r ?_
              obtain rfl := some_inj h17
              obtain rfl := hd18 _ rfl
              try dsimp only at h7
              refine then_r ?_
              refine blk_r ?_
              obtain rfl := some_inj h7
              try dsimp only at h
              refine then_r ?_
              obtain rfl := some_inj h
              have hM := hM.outs (own' := []) 0 rfl
              exact leave1 hf rfl rfl ⟨rfl, hM.fin⟩
            · refine cond_f hf rfl hc37 ?_
              refine wp_skip ?_
              refine blk_n ?_
              obtain rfl := some_inj h17
              refine then_n ⟨_, rfl, ?_⟩
              exact ⟨(pos11 + runeW word3 pos11), rfl, hf.keep ⟨rfl, rfl, rfl, trivial⟩, hM.pick [] rfl⟩
        · refine pl_l hf rfl rfl rfl (w_nextEnd hf hM rfl (k := 0) rfl hc19 fun w39 hx40 hM a hf => ?_)
          refine q_ hf rfl rfl rfl (e_extract hf rfl rfl) fun a hf => ?_
          refine pl_nil ?_
          refine then_n ?_
          refine wp_seq ?_
          refine cond_f hf rfl rfl ?_
          refine wp_exit ?_
          refine then_x ?_
          obtain rfl := some_inj h17
          obtain rfl := hd18 _ rfl
          try dsimp only at h7
          refine then_x ?_
          refine exit_hit ?_
          obtain rfl := some_inj h7
          refine then_n ?_
          exact ⟨rfl, hf.keep trivial, (hM.drop (.cons _ .slnil)).pick [] rfl⟩
    · rintro a w46 ⟨rfl, hf, hM⟩
      try dsimp only at h
      refine wp_seq ?_
      refine region_pl ?_
      refine q_ hf rfl rfl rfl (e_assign hf rfl) fun a hf => ?_
      refine pl_nil ?_
      refine then_n ?_
      refine wp_ret ?_
      obtain rfl := some_inj h
      exact leave1 hf rfl rfl ⟨rfl, hM.fin⟩

set_option maxRecDepth 100000 in
set_option maxHeartbeats 4000000 in
theorem r_impl_Grid_candidates_1 (C : Cx) (word1 : Str) (hp2 : word1.length ≤ maxLen) (p3 : Str) (b4 : Nat) (o5 : Nat) (hp6 : (ptrRep strRep).R C.w0 C.S0 p3 [vP b4 o5]) (r : Bool) (h : m_impl_Grid_candidates_1 word1 p3 = some r) :
    Calls Try.prog 96 #[vS (word1), vP b4 (o5)] C.w0 fun e w => e = .returned (.bool (r)) ∧ Mem C w [] [] := by
  have hM := Mem.begin C [.dat (ptrRep strRep) p3 [vP b4 o5]] ⟨hp6, trivial⟩
  refine enter Try.func96 rfl Try.ntmps96 rfl fun a hf => ?_
  unfold m_impl_Grid_candidates_1 at h
  refine wp_seq ?_
  refine region_pl ?_
  refine q_ hf rfl rfl rfl (e_assign hf rfl) fun a hf => ?_
  refine pl_nil ?_
  refine then_n ?_
  refine wp_seq ?_
  refine region_pl ?_
  obtain ⟨_, hr7, hM⟩ := hM.deref (hM.dat (k := 0) rfl)
  obtain ⟨rfl, hv8⟩ := hr7
  refine q_ hf rfl rfl rfl (e_load1 hf rfl Try.isAgg9 (hM.litCell (k := 0) (j := 0) rfl rfl rfl)) fun a hf => ?_
  refine q_ hf rfl rfl rfl (e_move hf rfl) fun a hf => ?_
  obtain ⟨y9, hz10, h⟩ := bind_some h
  refine pl_l hf rfl rfl rfl (w_call hf Try.call61 rfl (r_impl_fitsPattern ⟨_, Sh C _ _, none_, hM.sh_lt, none_not, C.G, hM.g_lt, g_none, hM.tabs⟩ p3 hv8 word1 hp2 _ hz10) ?_)
  rintro _ w11 ⟨rfl, hM2⟩
  obtain ⟨hM, hx12, hup13⟩ := hM.back hM2
  dsimp only [List.cons_append, List.nil_append] at hM hup13
  clear hM2
  refine ⟨_, rfl, fun a hf => ?_⟩
  refine q_ hf rfl rfl rfl (e_assign hf rfl) fun a hf => ?_
  refine pl_nil ?_
  refine then_n ?_
  refine wp_ret ?_
  obtain rfl := some_inj h
  exact leave1 hf rfl rfl ⟨rfl, hM.fin⟩

set_option maxRecDepth 100000 in
set_option maxHeartbeats 4000000 in
theorem r_impl_selected_string (C : Cx) (list1 : (List Str)) (A2 : Option Addr) (c3 : Nat) (hp4 : (sliceRep strRep).R C.w0 C.S0 list1 [vL A2 list1 c3]) (is5 : (Str → Option Bool)) (fk6 : FuncId) (fc7 : List Value) (hfn8 : FnOk Try.prog C fk6 (FnC_Str_to_Bool fk6 fc7 is5)) (r : (List Str)) (h : m_impl_selected_string list1 is5 = some r) :
    Calls Try.prog 95 #[vL A2 (list1) c3, .func (.func fk6) #[] fc7.toArray] C.w0 fun e w => ∃ (A_1 : Option Addr), ∃ (c_1 : Nat), e = .returned (vL A_1 (r) c_1) ∧ Mem C w [.row strRep A_1 c_1 9 r true] [] := by
  have hM := Mem.begin C [.dat (sliceRep strRep) list1 [vL A2 list1 c3]] ⟨hp4, trivial⟩
  refine enter Try.func95 rfl Try.ntmps95 rfl fun a hf => ?_
  unfold m_impl_selected_string at h
  refine wp_seq ?_
  refine region_pl ?_
  refine q_ hf rfl rfl rfl (e_assign hf rfl) fun a hf => ?_
  refine pl_nil ?_
  refine then_n ?_
  refine wp_seq ?_
  refine region_pl ?_
  refine pl_l hf rfl rfl rfl (w_slice0 (K := strRep) hM Try.underlying40 ei_9 fun b9 w10 hx11 hM a hf => ?_)
  refine q_ hf rfl rfl rfl (e_assign hf rfl) fun a hf => ?_
  refine pl_nil ?_
  refine then_n ?_
  obtain ⟨x15, h16, h⟩ := bind_some h
  refine seq_join (fun a w => ∃ (xs12 : (List Str)) (A13 : Option Addr) (c14 : Nat), xs12 = x15 ∧ Has 24 a [(5, vL A13 (xs12) c14)] ∧ Mem C w [.row strRep A13 c14 9 xs12 true] [.dat (sliceRep strRep) list1 [vL A2 list1 c3]]) ?_ ?_
  · refine wp_seq ?_
    refine region_pl ?_
    refine q_ hf rfl rfl rfl (e_move hf rfl) fun a hf => ?_
    have hl17 := slice_len (hM.dat (k := 0) rfl)
    refine q_ hf rfl rfl rfl (e_lenL hf (x := list1) rfl Try.underlying40) fun a hf => ?_
    refine q_ hf rfl rfl rfl (e_move hf rfl) fun a hf => ?_
    refine pl_nil ?_
    refine then_n ?_
    refine wp_block ?_
    obtain ⟨x27, h28, h16⟩ := bind_some h16
    refine wp_loopM h28 (fun s a w => ∃ (xs18 : (List Str)) (n21 : Int) (A19 : Option Addr) (c20 : Nat), (xs18, n21) = s ∧ Has 24 a [(1, .func (.func fk6) #[] fc7.toArray), (5, vL A19 (xs18) c20), (9, vL A2 (list1) c3), (10, vI ((list1.length : Int))), (11, vI (n21))] ∧ Mem C w [.row strRep A19 c20 9 xs18 true] [.dat (sliceRep strRep) list1 [vL A2 list1 c3]] ∧ R64 n21) ?_ ?_
    · exact ⟨([] : (List Str)), 0, (some ⟨b9, 0, none⟩), 0, rfl, hf.keep ⟨rfl, rfl, rfl, rfl, rfl, trivial⟩, hM.pick [0] rfl, (R64_lit rfl)⟩
    · rintro s o29 a w23 ⟨xs18, n21, A19, c20, rfl, hf, hM, hv22⟩ h30 hd31
      replace h30 : m_impl_selected_string_l1 list1 is5 xs18 n21 = some o29 := h30
      unfold m_impl_selected_string_l1 at h30
      refine wp_seq ?_
      refine region_pl ?_
      refine q_ hf rfl rfl rfl (e_lt hf (x := n21) (y := (list1.length : Int)) rfl rfl) fun a hf => ?_
      refine pl_nil ?_
      refine then_n ?_
      refine wp_seq ?_
      rcases cond_some h30 with ⟨hc32, h30⟩ | ⟨hc32, h30⟩
      · refine cond_t hf rfl hc32 ?_
        refine wp_skip ?_
        refine then_n ?_
        obtain ⟨x36, h37, h30⟩ := bind_some h30
        refine seq_join (fun a w => ∃ (xs33 : (List Str)) (A34 : Option Addr) (c35 : Nat), xs33 = x36 ∧ Has 24 a [(1, .func (.func fk6) #[] fc7.toArray), (5, vL A34 (xs33) c35), (9, vL A2 (list1) c3), (10, vI ((list1.length : Int))), (11, vI (n21))] ∧ Mem C w [.row strRep A34 c35 9 xs33 true] [.dat (sliceRep strRep) list1 [vL A2 list1 c3]]) ?_ ?_
        · refine wp_block ?_
          refine wp_seq ?_
          refine region_pl ?_
          obtain ⟨e38, hz39, h37⟩ := bind_some h37
          obtain ⟨b43, o44, _, hA45, h40, h41, hr42, hM⟩ := hM.elem (hM.dat (k := 0) rfl) (n := 1) rfl hz39
          obtain ⟨rfl, hv46⟩ := hr42
          refine q_ hf rfl rfl rfl (e_indexAddr (A := A2) (b := b43) (o := o44) (xs := list1) (i := n21) hf hA45 rfl rfl Try.underlying40 Try.sizeOf9 h40 h41) fun a hf => ?_
          refine q_ hf rfl rfl rfl (e_load1 hf rfl Try.isAgg9 (hM.litCell (k := 0) (j := 0) rfl rfl rfl)) fun a hf => ?_
          refine q_ hf rfl rfl rfl (e_assign hf rfl) fun a hf => ?_
          refine pl_nil ?_
          refine then_n ?_
          refine wp_seq ?_
          refine region_pl ?_
          refine q_ hf rfl rfl rfl (e_move hf rfl) fun a hf => ?_
          refine q_ hf rfl rfl rfl (e_move hf rfl) fun a hf => ?_
          obtain ⟨y47, hz48, h37⟩ := bind_some h37
          refine pl_l hf rfl rfl rfl (w_callV hf rfl hfn8.1 rfl (hfn8.2 ⟨_, Sh C _ _, none_, hM.sh_lt, none_not, C.G, hM.g_lt, g_none, hM.tabs⟩ hM.sameS hM.s0sh e38 hv46 _ hz48) ?_)
          rintro _ w49 ⟨rfl, hM2⟩
          obtain ⟨hM, hx50, hup51⟩ := hM.back hM2
          dsimp only [List.cons_append, List.nil_append] at hM hup51
          clear hM2
          refine ⟨_, rfl, fun a hf => ?_⟩
          refine pl_nil ?_
          refine then_n ?_
          rcases cond_some h37 with ⟨hc52, h37⟩ | ⟨hc52, h37⟩
          · refine cond_t hf rfl hc52 ?_
            refine region_pl ?_
            refine q_ hf rfl rfl rfl (e_move hf rfl) fun a hf => ?_
            refine q_ hf rfl rfl rfl (e_move hf rfl) fun a hf => ?_
            refine pl_l hf rfl rfl rfl (w_slice hf hM (K := strRep) (xs := ([e38] : (List Str))) (os := [.tmp 19]) Try.underlying40 ei_9 rfl rfl rfl rfl rfl ⟨⟨[vS (e38)], rfl, ⟨rfl, hv46⟩⟩, trivial⟩ rfl fun b53 w54 hx55 hM a hf => ?_)
            obtain ⟨xs56, hz57, h37⟩ := bind_some h37
            refine pl_l hf rfl rfl rfl (w_append hf hM Try.underlying40 ei_9 rfl rfl rfl (k := 1) rfl (hM.srcRow (k := 0) rfl) hz57 fun A58 c59 w60 hM a hf => ?_)
            dsimp only [List.set] at hM
            refine q_ hf rfl rfl rfl (e_assign hf rfl) fun a hf => ?_
            refine pl_nil ?_
            refine blk_n ?_
            obtain rfl := some_inj h37
            refine then_n ?_
            exact ⟨xs56, A58, c59, rfl, hf.keep ⟨rfl, rfl, rfl, rfl, rfl, trivial⟩, (hM.drop (.cons _ (.cons_cons _ .slnil))).pick [1] rfl⟩
          · refine cond_f hf rfl hc52 ?_
            refine wp_skip ?_
            refine blk_n ?_
            obtain rfl := some_inj h37
            refine then_n ?_
            exact ⟨xs18, A19, c20, rfl, hf.keep ⟨rfl, rfl, rfl, rfl, rfl, trivial⟩, hM.pick [1] rfl⟩
        · rintro a w65 ⟨xs33, A34, c35, rfl, hf, hM⟩
          try dsimp only at h30
          refine region_pl ?_
          obtain ⟨z66, hz67, h30⟩ := bind_some h30
          refine q_ hf rfl rfl rfl (e_add hf rfl rfl hz67) fun a hf => ?_
          refine q_ hf rfl rfl rfl (e_move hf rfl) fun a hf => ?_
          refine pl_nil ?_
          obtain rfl := some_inj h30
          refine then_n ⟨_, rfl, ?_⟩
          exact ⟨xs33, z66, A34, c35, rfl, hf.keep ⟨rfl, rfl, rfl, rfl, rfl, trivial⟩, hM.pick [0] rfl, (chk_R hz67)⟩
      · refine cond_f hf rfl hc32 ?_
        refine wp_exit ?_
        refine then_x ?_
        obtain rfl := some_inj h30
        obtain rfl := hd31 _ rfl
        try dsimp only at h16
        refine then_x ?_
        refine exit_hit ?_
        obtain rfl := some_inj h16
        refine then_n ?_
        exact ⟨xs18, A19, c20, rfl, hf.keep ⟨rfl, trivial⟩, hM.pick [0] rfl⟩
  · rintro a w73 ⟨xs12, A13, c14, rfl, hf, hM⟩
    try dsimp only at h
    refine wp_seq ?_
    refine region_pl ?_
    refine q_ hf rfl rfl rfl (e_move hf rfl) fun a hf => ?_
    refine q_ hf rfl rfl rfl (e_assign hf rfl) fun a hf => ?_
    refine pl_nil ?_
    refine then_n ?_
    refine wp_ret ?_
    obtain rfl := some_inj h
    exact leave1 hf rfl rfl ⟨A13, c14, rfl, hM.fin⟩

set_option maxRecDepth 100000 in
set_option maxHeartbeats 4000000 in
theorem r_impl_Grid_candidates (C : Cx) (g1 : Grid) (hp2 : R64 g1.Rows) (hp3 : R64 g1.Cols) (hp4 : g1.Cells.length ≤ maxLen) (l5 : Lexicon) (A6 : Option Addr) (c7 : Nat) (hp8 : (sliceRep strRep).R C.w0 C.S0 l5.Words [vL A6 l5.Words c7]) (s9 : Slot) (hp10 : R64 s9.Row) (hp11 : R64 s9.Col) (hp12 : R64 s9.Length) (r : (List Str)) (h : m_impl_Grid_candidates g1 l5 s9 = some r) :
    Calls Try.prog 70 #[.agg #[vI (g1.Rows), vI (g1.Cols), vS (g1.Cells)], .agg #[vL A6 (l5.Words) c7], .agg #[vI (s9.Row), vI (s9.Col), .bool (s9.Down), vI (s9.Length)]] C.w0 fun e w => ∃ (A_1 : Option Addr), ∃ (c_1 : Nat), e = .returned (vL A_1 (r) c_1) ∧ Mem C w [.row strRep A_1 c_1 9 r true] [] := by
  have hM := Mem.begin C [.dat (sliceRep strRep) l5.Words [vL A6 l5.Words c7]] ⟨hp8, trivial⟩
  refine enter Try.func70 rfl Try.ntmps70 rfl fun a hf => ?_
  unfold m_impl_Grid_candidates at h
  refine wp_seq ?_
  refine region_pl ?_
  refine pl_l hf rfl rfl rfl (w_box hf hM (cs := [vI (g1.Rows), vI (g1.Cols), vS (g1.Cells)]) rfl rfl fun b13 w14 hx15 hM a hf => ?_)
  refine pl_l hf rfl rfl rfl (w_box hf hM (cs := [vL A6 (l5.Words) c7]) rfl rfl fun b17 w18 hx19 hM a hf => ?_)
  refine pl_l hf rfl rfl rfl (w_box hf hM (cs := [vI (s9.Row), vI (s9.Col), .bool (s9.Down), vI (s9.Length)]) rfl rfl fun b21 w22 hx23 hM a hf => ?_)
  refine q_ hf rfl rfl rfl (e_assign hf rfl) fun a hf => ?_
  refine pl_nil ?_
  refine then_n ?_
  refine wp_seq ?_
  refine region_pl ?_
  refine q_ hf rfl rfl rfl (e_loadA hf (us := [vI (g1.Rows), vI (g1.Cols), vS (g1.Cells)]) rfl ⟨Try.isAgg27, Try.sizeOf27⟩ rfl (hM.boxSub (k := 2) (us := [vI (g1.Rows), vI (g1.Cols), vS (g1.Cells)]) (o := 0) rfl rfl)) fun a hf => ?_
  refine q_ hf rfl rfl rfl (e_loadA hf (us := [vI (s9.Row), vI (s9.Col), .bool (s9.Down), vI (s9.Length)]) rfl ⟨Try.isAgg75, Try.sizeOf75⟩ rfl (hM.boxSub (k := 0) (us := [vI (s9.Row), vI (s9.Col), .bool (s9.Down), vI (s9.Length)]) (o := 0) rfl rfl)) fun a hf => ?_
  obtain ⟨y25, hz26, h⟩ := bind_some h
  refine pl_l hf rfl rfl rfl (w_call hf Try.call53 rfl (r_impl_Grid_pattern ⟨_, Sh C _ _, none_, hM.sh_lt, none_not, C.G, hM.g_lt, g_none, hM.tabs⟩ g1 hp2 hp3 hp4 s9 hp10 hp11 hp12 _ hz26) ?_)
  rintro _ w28 ⟨rfl, hM2, hv27⟩
  obtain ⟨hM, hx29, hup30⟩ := hM.back hM2
  dsimp only [List.cons_append, List.nil_append] at hM hup30
  clear hM2
  refine ⟨_, rfl, fun a hf => ?_⟩
  refine pl_l hf rfl rfl rfl (w_alloc hM (cs := [vS (([] : Str))]) Try.zeroValue9 rfl fun b31 w32 hx33 hM a hf => ?_)
  refine pl_0 hf rfl rfl (w_store hf hM (us := [vS (y25)]) (cs' := [vS (y25)]) rfl rfl (k := 0) rfl rfl Try.sizeOf9 rfl rfl rfl fun w35 hM => ?_)
  dsimp only [List.set] at hM
  refine pl_nil ?_
  refine then_n ?_
  refine wp_seq ?_
  refine region_pl ?_
  refine q_ hf rfl rfl rfl (e_field hf rfl Try.underlying45 rfl Try.sizeOf40 (o' := 0) rfl) fun a hf => ?_
  refine q_ hf rfl rfl rfl (e_load1 hf rfl Try.isAgg40 (hM.boxCell (k := 2) rfl rfl)) fun a hf => ?_
  refine q_ hf rfl rfl rfl (w_makeFunc hf rfl) fun a hf => ?_
  obtain ⟨y40, hz41, h⟩ := bind_some h
  refine pl_l hf rfl rfl rfl (w_call hf Try.call95 rfl (r_impl_selected_string ⟨_, All C _ _, none_, hM.all_lt, none_not, C.G, hM.g_lt, g_none, hM.tabs⟩ l5.Words _ _ (hM.lendDat (k := 0) rfl) (fun u38 => m_impl_Grid_candidates_1 u38 y25) 96 [vP b31 (0)] ⟨Try.call96, fun C1 hs hsub u38 hp39 r h => r_impl_Grid_candidates_1 C1 u38 hp39 y25 _ _ (Rep.to (hM.lendBox (k := 0) rfl ⟨rfl, hv27⟩) hs hsub) r h⟩ _ hz41) ?_)
  rintro _ w44 ⟨A42, c43, rfl, hM2⟩
  obtain ⟨hM, hx45⟩ := hM.backAF strRep_flat hM2
  clear hM2
  refine ⟨_, rfl, fun a hf => ?_⟩
  refine q_ hf rfl rfl rfl (e_assign hf rfl) fun a hf => ?_
  refine pl_nil ?_
  refine then_n ?_
  refine wp_ret ?_
  obtain rfl := some_inj h
  have hM := hM.outs (own' := [.row strRep A42 c43 9 y40 true]) 1 rfl
  exact leave1 hf rfl rfl ⟨A42, c43, rfl, hM.fin⟩

set_option maxRecDepth 100000 in
set_option maxHeartbeats 4000000 in
theorem r_impl_Grid_put (C : Cx) (g1 : Grid) (hp2 : R64 g1.Rows) (hp3 : R64 g1.Cols) (hp4 : g1.Cells.length ≤ maxLen) (s5 : Slot) (hp6 : R64 s5.Row) (hp7 : R64 s5.Col) (hp8 : R64 s5.Length) (word9 : Str) (hp10 : word9.length ≤ maxLen) (r : Grid) (h : m_impl_Grid_put g1 s5 word9 = some r) :
    Calls Try.prog 62 #[.agg #[vI (g1.Rows), vI (g1.Cols), vS (g1.Cells)], .agg #[vI (s5.Row), vI (s5.Col), .bool (s5.Down), vI (s5.Length)], vS (word9)] C.w0 fun e w => e = .returned (.agg #[vI (r.Rows), vI (r.Cols), vS (r.Cells)]) ∧ Mem C w [] [] ∧ R64 r.Rows ∧ R64 r.Cols ∧ r.Cells.length ≤ maxLen := by
  have hM := Mem.begin C [] trivial
  refine enter Try.func62 rfl Try.ntmps62 rfl fun a hf => ?_
  unfold m_impl_Grid_put at h
  refine wp_seq ?_
  refine region_pl ?_
  refine pl_l hf rfl rfl rfl (w_box hf hM (cs := [vI (g1.Rows), vI (g1.Cols), vS (g1.Cells)]) rfl rfl fun b11 w12 hx13 hM a hf => ?_)
  refine pl_l hf rfl rfl rfl (w_box hf hM (cs := [vI (s5.Row), vI (s5.Col), .bool (s5.Down), vI (s5.Length)]) rfl rfl fun b15 w16 hx17 hM a hf => ?_)
  refine pl_l hf rfl rfl rfl (w_alloc hM (cs := [vI (0), vI (0), vS (([] : Str))]) Try.zeroValue27 rfl fun b19 w20 hx21 hM a hf => ?_)
  refine pl_nil ?_
  refine then_n ?_
  refine wp_seq ?_
  refine region_pl ?_
  refine q_ hf rfl rfl rfl (e_field hf rfl Try.underlying27 rfl Try.sizeOf9 (o' := 2) rfl) fun a hf => ?_
  refine q_ hf rfl rfl rfl (e_load1 hf rfl Try.isAgg9 (hM.boxCell (k := 2) rfl rfl)) fun a hf => ?_
  refine pl_l hf rfl rfl rfl (w_bytes hf hM (x := g1.Cells) rfl Try.underlying9 Try.underlying63 Try.underlying5 hp4 fun A23 c24 w25 hx26 hM a hf => ?_)
  refine q_ hf rfl rfl rfl (e_assign hf rfl) fun a hf => ?_
  refine pl_nil ?_
  refine then_n ?_
  obtain ⟨x28, h29, h⟩ := bind_some h
  refine seq_join (fun a w => ∃ (xs27 : Str), xs27 = x28 ∧ Has 30 a [(3, vP b11 (0)), (6, vP b19 (0)), (7, vL A23 (xs27) c24)] ∧ Mem C w [.row byteRep A23 c24 5 xs27 false, .box b19 [vI (0), vI (0), vS (([] : Str))] 27, .box b15 [vI (s5.Row), vI (s5.Col), .bool (s5.Down), vI (s5.Length)] 75, .box b11 [vI (g1.Rows), vI (g1.Cols), vS (g1.Cells)] 27] []) ?_ ?_
  · refine wp_seq ?_
    refine region_pl ?_
    refine q_ hf rfl rfl rfl (e_move hf rfl) fun a hf => ?_
    refine pl_l hf rfl rfl rfl (w_range hf hM (x := word9) rfl Try.underlying9 fun b30 w31 hx32 hM a hf => ?_)
    refine pl_nil ?_
    refine then_n ?_
    refine wp_block ?_
    obtain ⟨x38, h39, h29⟩ := bind_some h29
    refine wp_loopM h39 (fun s a w => ∃ (pos33 : Nat) (xs34 : Str), (pos33, xs34) = s ∧ Has 30 a [(2, vS (word9)), (3, vP b11 (0)), (4, vP b15 (0)), (6, vP b19 (0)), (7, vL A23 (xs34) c24), (13, vP b30 0)] ∧ Mem C w [.obj b30 (.stringIter ⟨List.toArray word9⟩ pos33), .row byteRep A23 c24 5 xs34 false, .box b19 [vI (0), vI (0), vS (([] : Str))] 27, .box b15 [vI (s5.Row), vI (s5.Col), .bool (s5.Down), vI (s5.Length)] 75, .box b11 [vI (g1.Rows), vI (g1.Cols), vS (g1.Cells)] 27] []) ?_ ?_
    · exact ⟨0, g1.Cells, rfl, hf.keep ⟨rfl, rfl, rfl, rfl, rfl, rfl, trivial⟩, hM.pick [] rfl⟩
    · rintro s o40 a w35 ⟨pos33, xs34, rfl, hf, hM⟩ h41 hd42
      replace h41 : m_impl_Grid_put_l1 word9 g1 s5 pos33 xs34 = some o40 := h41
      unfold m_impl_Grid_put_l1 at h41
      refine wp_seq ?_
      refine region_pl ?_
      rcases cond_some h41 with ⟨hc43, h41⟩ | ⟨hc43, h41⟩
      · refine pl_l hf rfl rfl rfl (w_next hf hM rfl (k := 0) rfl hc43 fun w44 hM a hf => ?_)
        dsimp only [List.set] at hM
        refine q_ hf rfl rfl rfl (e_extract hf rfl rfl) fun a hf => ?_
        refine pl_nil ?_
        refine then_n ?_
        refine wp_seq ?_
        refine cond_t hf rfl rfl ?_
        refine wp_skip ?_
        refine then_n ?_
        refine wp_block ?_
        refine wp_seq ?_
        refine region_pl ?_
        refine q_ hf rfl rfl rfl (e_extract hf rfl rfl) fun a hf => ?_
        refine q_ hf rfl rfl rfl (e_assign hf rfl) fun a hf => ?_
        refine pl_nil ?_
        refine then_n ?_
        obtain ⟨w46, hw⟩ : ∃ x, x = w44.drew := ⟨_, rfl⟩
        refine region_pi (.q 0 (.q 1 (.q 2 (.q 3 (.q 5 (.q 6 (.q 7 (.l 4 (.q 8 (.l 9 (.nil))))))))))) (Ext w46) rfl (by kernel_rfl) ?_
        have hM := hM.drew
        rw [← hw] at hM ⊢
        clear hw
        refine pi_q hf rfl rfl rfl rfl (Ext.refl _) (e_move hf rfl) fun a hf => ?_
        refine pi_q hf rfl rfl rfl rfl (Ext.refl _) (e_loadA hf (us := [vI (g1.Rows), vI (g1.Cols), vS (g1.Cells)]) rfl ⟨Try.isAgg27, Try.sizeOf27⟩ rfl (hM.boxSub (k := 4) (us := [vI (g1.Rows), vI (g1.Cols), vS (g1.Cells)]) (o := 0) rfl rfl)) fun a hf => ?_
        refine pi_q hf rfl rfl rfl rfl (Ext.refl _) (e_loadA hf (us := [vI (s5.Row), vI (s5.Col), .bool (s5.Down), vI (s5.Length)]) rfl ⟨Try.isAgg75, Try.sizeOf75⟩ rfl (hM.boxSub (k := 3) (us := [vI (s5.Row), vI (s5.Col), .bool (s5.Down), vI (s5.Length)]) (o := 0) rfl rfl)) fun a hf => ?_
        refine pi_q hf rfl rfl rfl rfl (Ext.refl _) (e_move hf rfl) fun a hf => ?_
        refine pi_q hf rfl rfl rfl rfl (Ext.refl _) (e_move hf rfl) fun a hf => ?_
        refine pi_q hf rfl rfl rfl rfl (Ext.refl _) (e_move hf rfl) fun a hf => ?_
        obtain ⟨c47, hz48, h41⟩ := bind_some h41
        refine pi_q hf rfl rfl rfl rfl (Ext.refl _) (e_indexS hf (x := word9) rfl rfl Try.underlying9 hz48) fun a hf => ?_
        refine pi_one ?_
        obtain ⟨y49, hz50, h41⟩ := bind_some h41
        refine pi_l hf rfl rfl rfl rfl (w_call hf Try.call86 rfl (r_impl_Grid_index ⟨_, Sh C _ _, none_, hM.sh_lt, none_not, C.G, hM.g_lt, g_none, hM.tabs⟩ g1 hp2 hp3 hp4 s5 hp6 hp7 hp8 (pos33 : Int) (R64_pos hc43 hp10) _ hz50) ?_)
        rintro _ w52 ⟨rfl, hM2, hv51⟩
        obtain ⟨hM, hx53, hup54⟩ := hM.back hM2
        dsimp only [List.cons_append, List.nil_append] at hM hup54
        clear hM2
        refine ⟨_, rfl, Ext w52, fun _ h => Ext.trans hx53 h, Ext.refl _, fun a hf => ?_⟩
        obtain ⟨e55, hz56, h41⟩ := bind_some h41
        obtain ⟨b61, _, hA62, h57, h58, hr59, hcell60⟩ := hM.rowElemN (k := 1) rfl (n := 1) rfl hz56
        obtain rfl : _ = _ := hr59
        refine pi_q hf rfl rfl rfl rfl (Ext.refl _) (e_indexAddr (A := A23) (b := b61) (o := 0) (xs := xs34) (i := y49) hf hA62 rfl rfl Try.underlying63 Try.sizeOf5 h57 h58) fun a hf => ?_
        refine pi_one ?_
        obtain ⟨xs64, hz65, h41⟩ := bind_some h41
        refine pi_z0 hf rfl rfl rfl (by kernel_rfl) (w_storeElem hf hM (x := c47) (row := [vB (c47)]) (i := y49) rfl rfl rfl hA62 (k := 1) rfl rfl Try.sizeOf5 rfl hz65 fun w63 hM => ?_)
        dsimp only [List.set] at hM
        have hf := hf.alter (d := 7) (v := vL A23 (xs64) c24) rfl (vL_len (setL_len hz65))
        have hf := hf.alter (d := 17) (v := vL A23 (xs64) c24) rfl (vL_len (setL_len hz65))
        refine pi_nil ?_
        refine blk_n ?_
        obtain rfl := some_inj h41
        refine then_n ⟨_, rfl, ?_⟩
        exact ⟨(pos33 + runeW word9 pos33), xs64, rfl, hf.keep ⟨rfl, rfl, rfl, rfl, rfl, rfl, trivial⟩, hM.pick [] rfl⟩
      · refine pl_l hf rfl rfl rfl (w_nextEnd hf hM rfl (k := 0) rfl hc43 fun w67 hx68 hM a hf => ?_)
        refine q_ hf rfl rfl rfl (e_extract hf rfl rfl) fun a hf => ?_
        refine pl_nil ?_
        refine then_n ?_
        refine wp_seq ?_
        refine cond_f hf rfl rfl ?_
        refine wp_exit ?_
        refine then_x ?_
        obtain rfl := some_inj h41
        obtain rfl := hd42 _ rfl
        try dsimp only at h29
        refine then_x ?_
        refine exit_hit ?_
        obtain rfl := some_inj h29
        refine then_n ?_
        exact ⟨xs34, rfl, hf.keep ⟨rfl, rfl, rfl, trivial⟩, (hM.drop (.cons _ (.cons_cons _ (.cons_cons _ (.cons_cons _ (.cons_cons _ .slnil)))))).pick [] rfl⟩
  · rintro a w73 ⟨xs27, rfl, hf, hM⟩
    try dsimp only at h
    refine wp_seq ?_
    refine region_pl ?_
    refine q_ hf rfl rfl rfl (e_move hf rfl) fun a hf => ?_
    have hl74 := row_len (hM.ownAt (k := 0) rfl)
    refine q_ hf rfl rfl rfl (e_bytesStr hf (xs := xs27) rfl Try.underlying63 Try.underlying5 Try.underlying9 (hM.lendRow (k := 0) rfl)) fun a hf => ?_
    refine q_ hf rfl rfl rfl (e_field hf rfl Try.underlying27 rfl Try.sizeOf9 (o' := 2) rfl) fun a hf => ?_
    refine pl_0 hf rfl rfl (w_store hf hM (us := [vS (xs27)]) (cs' := [vI (g1.Rows), vI (g1.Cols), vS (xs27)]) rfl rfl (k := 3) rfl rfl Try.sizeOf9 rfl rfl rfl fun w75 hM => ?_)
    dsimp only [List.set] at hM
    refine pl_nil ?_
    refine then_n ?_
    refine wp_seq ?_
    refine region_pl ?_
    refine q_ hf rfl rfl rfl (e_loadA hf (us := [vI (g1.Rows), vI (g1.Cols), vS (xs27)]) rfl ⟨Try.isAgg27, Try.sizeOf27⟩ rfl (hM.boxSub (k := 3) (us := [vI (g1.Rows), vI (g1.Cols), vS (xs27)]) (o := 0) rfl rfl)) fun a hf => ?_
    refine pl_0 hf rfl rfl (w_store hf hM (us := [vI (g1.Rows), vI (g1.Cols), vS (xs27)]) (cs' := [vI (g1.Rows), vI (g1.Cols), vS (xs27)]) rfl rfl (k := 1) rfl rfl Try.sizeOf27 rfl rfl rfl fun w78 hM => ?_)
    dsimp only [List.set] at hM
    refine pl_nil ?_
    refine then_n ?_
    refine wp_ret ?_
    obtain rfl := some_inj h
    have hres81 := leaveV1 (P := Try.prog) Try.results62 (res_agg hf rfl ⟨Try.isAgg27, Try.sizeOf27⟩ (us := [vI (g1.Rows), vI (g1.Cols), vS (xs27)]) rfl (hM.boxSub (k := 1) (o := 0) rfl rfl))
    have hM := hM.outs (own' := []) 0 rfl
    exact bodyPost_ret hres81 hf.defers ⟨rfl, hM.fin, hp2, hp3, hl74⟩

set_option maxRecDepth 100000 in
set_option maxHeartbeats 4000000 in
theorem r_impl_Grid_possible_1 (C : Cx) (word1 : Str) (hp2 : word1.length ≤ maxLen) (p3 : Str) (b4 : Nat) (o5 : Nat) (hp6 : (ptrRep strRep).R C.w0 C.S0 p3 [vP b4 o5]) (r : Bool) (h : m_impl_Grid_possible_1 word1 p3 = some r) :
    Calls Try.prog 112 #[vS (word1), vP b4 (o5)] C.w0 fun e w => e = .returned (.bool (r)) ∧ Mem C w [] [] := by
  have hM := Mem.begin C [.dat (ptrRep strRep) p3 [vP b4 o5]] ⟨hp6, trivial⟩
  refine enter Try.func112 rfl Try.ntmps112 rfl fun a hf => ?_
  unfold m_impl_Grid_possible_1 at h
  refine wp_seq ?_
  refine region_pl ?_
  refine q_ hf rfl rfl rfl (e_assign hf rfl) fun a hf => ?_
  refine pl_nil ?_
  refine then_n ?_
  refine wp_seq ?_
  refine region_pl ?_
  obtain ⟨_, hr7, hM⟩ := hM.deref (hM.dat (k := 0) rfl)
  obtain ⟨rfl, hv8⟩ := hr7
  refine q_ hf rfl rfl rfl (e_load1 hf rfl Try.isAgg9 (hM.litCell (k := 0) (j := 0) rfl rfl rfl)) fun a hf => ?_
  refine q_ hf rfl rfl rfl (e_move hf rfl) fun a hf => ?_
  obtain ⟨y9, hz10, h⟩ := bind_some h
  refine pl_l hf rfl rfl rfl (w_call hf Try.call61 rfl (r_impl_fitsPattern ⟨_, Sh C _ _, none_, hM.sh_lt, none_not, C.G, hM.g_lt, g_none, hM.tabs⟩ p3 hv8 word1 hp2 _ hz10) ?_)
  rintro _ w11 ⟨rfl, hM2⟩
  obtain ⟨hM, hx12, hup13⟩ := hM.back hM2
  dsimp only [List.cons_append, List.nil_append] at hM hup13
  clear hM2
  refine ⟨_, rfl, fun a hf => ?_⟩
  refine q_ hf rfl rfl rfl (e_assign hf rfl) fun a hf => ?_
  refine pl_nil ?_
  refine then_n ?_
  refine wp_ret ?_
  obtain rfl := some_inj h
  exact leave1 hf rfl rfl ⟨rfl, hM.fin⟩

set_option maxRecDepth 100000 in
set_option maxHeartbeats 4000000 in
theorem r_slices_IndexFunc_string_string (C : Cx) (s1 : (List Str)) (A2 : Option Addr) (c3 : Nat) (hp4 : (sliceRep strRep).R C.w0 C.S0 s1 [vL A2 s1 c3]) (f5 : (Str → Option Bool)) (fk6 : FuncId) (fc7 : List Value) (hfn8 : FnOk Try.prog C fk6 (FnC_Str_to_Bool fk6 fc7 f5)) (r : Int) (h : m_slices_IndexFunc_string_string s1 f5 = some r) :
    Calls Try.prog 126 #[vL A2 (s1) c3, .func (.func fk6) #[] fc7.toArray] C.w0 fun e w => e = .returned (vI (r)) ∧ Mem C w [] [] ∧ R64 r := by
  have hM := Mem.begin C [.dat (sliceRep strRep) s1 [vL A2 s1 c3]] ⟨hp4, trivial⟩
  refine enter Try.func126 rfl Try.ntmps126 rfl fun a hf => ?_
  unfold m_slices_IndexFunc_string_string at h
  refine wp_seq ?_
  refine region_pl ?_
  refine q_ hf rfl rfl rfl (e_assign hf rfl) fun a hf => ?_
  refine pl_nil ?_
  refine then_n ?_
  obtain ⟨x9, h10, h⟩ := bind_some h
  refine seq_join (fun a w => (.inl ()) = x9 ∧ Has 19 a [] ∧ Mem C w [] [.dat (sliceRep strRep) s1 [vL A2 s1 c3]]) ?_ ?_
  · refine wp_seq ?_
    refine region_pl ?_
    refine q_ hf rfl rfl rfl (e_move hf rfl) fun a hf => ?_
    have hl11 := slice_len (hM.dat (k := 0) rfl)
    refine q_ hf rfl rfl rfl (e_lenL hf (x := s1) rfl Try.underlying40) fun a hf => ?_
    refine q_ hf rfl rfl rfl (e_move hf rfl) fun a hf => ?_
    refine pl_nil ?_
    refine then_n ?_
    refine wp_block ?_
    obtain ⟨x15, h16, h10⟩ := bind_some h10
    refine wp_loopM h16 (fun s a w => ∃ (n12 : Int), n12 = s ∧ Has 19 a [(0, vL A2 (s1) c3), (1, .func (.func fk6) #[] fc7.toArray), (7, vI ((s1.length : Int))), (8, vI (n12))] ∧ Mem C w [] [.dat (sliceRep strRep) s1 [vL A2 s1 c3]] ∧ R64 n12) ?_ ?_
    · exact ⟨0, rfl, hf.keep ⟨rfl, rfl, rfl, rfl, trivial⟩, hM.pick [0] rfl, (R64_lit rfl)⟩
    · rintro s o17 a w14 ⟨n12, rfl, hf, hM, hv13⟩ h18 hd19
      replace h18 : m_slices_IndexFunc_string_string_l1 s1 f5 n12 = some o17 := h18
      unfold m_slices_IndexFunc_string_string_l1 at h18
      refine wp_seq ?_
      refine region_pl ?_
      refine q_ hf rfl rfl rfl (e_lt hf (x := n12) (y := (s1.length : Int)) rfl rfl) fun a hf => ?_
      refine pl_nil ?_
      refine then_n ?_
      refine wp_seq ?_
      rcases cond_some h18 with ⟨hc20, h18⟩ | ⟨hc20, h18⟩
      · refine cond_t hf rfl hc20 ?_
        refine wp_skip ?_
        refine then_n ?_
        refine wp_seq ?_
        refine wp_block ?_
        refine wp_seq ?_
        refine region_pl ?_
        refine q_ hf rfl rfl rfl (e_move hf rfl) fun a hf => ?_
        refine q_ hf rfl rfl rfl (e_assign hf rfl) fun a hf => ?_
        refine pl_nil ?_
        refine then_n ?_
        refine wp_seq ?_
        refine region_pl ?_
        refine q_ hf rfl rfl rfl (e_move hf rfl) fun a hf => ?_
        refine q_ hf rfl rfl rfl (e_move hf rfl) fun a hf => ?_
        refine q_ hf rfl rfl rfl (e_move hf rfl) fun a hf => ?_
        obtain ⟨e21, hz22, h18⟩ := bind_some h18
        obtain ⟨b26, o27, _, hA28, h23, h24, hr25, hM⟩ := hM.elem (hM.dat (k := 0) rfl) (n := 1) rfl hz22
        obtain ⟨rfl, hv29⟩ := hr25
        refine q_ hf rfl rfl rfl (e_indexAddr (A := A2) (b := b26) (o := o27) (xs := s1) (i := n12) hf hA28 rfl rfl Try.underlying40 Try.sizeOf9 h23 h24) fun a hf => ?_
        refine q_ hf rfl rfl rfl (e_load1 hf rfl Try.isAgg9 (hM.litCell (k := 0) (j := 0) rfl rfl rfl)) fun a hf => ?_
        obtain ⟨y30, hz31, h18⟩ := bind_some h18
        refine pl_l hf rfl rfl rfl (w_callV hf rfl hfn8.1 rfl (hfn8.2 ⟨_, Sh C _ _, none_, hM.sh_lt, none_not, C.G, hM.g_lt, g_none, hM.tabs⟩ hM.sameS hM.s0sh e21 hv29 _ hz31) ?_)
        rintro _ w32 ⟨rfl, hM2⟩
        obtain ⟨hM, hx33, hup34⟩ := hM.back hM2
        dsimp only [List.cons_append, List.nil_append] at hM hup34
        clear hM2
        refine ⟨_, rfl, fun a hf => ?_⟩
        refine pl_nil ?_
        refine then_n ?_
        rcases cond_some h18 with ⟨hc35, h18⟩ | ⟨hc35, h18⟩
        · refine cond_t hf rfl hc35 ?_
          refine wp_seq ?_
          refine region_pl ?_
          refine q_ hf rfl rfl rfl (e_move hf rfl) fun a hf => ?_
          refine q_ hf rfl rfl rfl (e_assign hf rfl) fun a hf => ?_
          refine pl_nil ?_
          refine then_n ?_
          refine wp_ret ?_
          refine blk_r ?_
          refine then_r ?_
          obtain rfl := some_inj h18
          obtain rfl := hd19 _ rfl
          try dsimp only at h10
          refine then_r ?_
          refine blk_r ?_
          obtain rfl := some_inj h10
          try dsimp only at h
          refine then_r ?_
          obtain rfl := some_inj h
          exact leave1 hf rfl rfl ⟨rfl, hM.fin, hv13⟩
        · refine cond_f hf rfl hc35 ?_
          refine wp_skip ?_
          refine blk_n ?_
          refine then_n ?_
          refine region_pl ?_
          obtain ⟨z36, hz37, h18⟩ := bind_some h18
          refine q_ hf rfl rfl rfl (e_add hf rfl rfl hz37) fun a hf => ?_
          refine q_ hf rfl rfl rfl (e_move hf rfl) fun a hf => ?_
          refine pl_nil ?_
          obtain rfl := some_inj h18
          refine then_n ⟨_, rfl, ?_⟩
          exact ⟨z36, rfl, hf.keep ⟨rfl, rfl, rfl, rfl, trivial⟩, hM.pick [1] rfl, (chk_R hz37)⟩
      · refine cond_f hf rfl hc20 ?_
        refine wp_exit ?_
        refine then_x ?_
        obtain rfl := some_inj h18
        obtain rfl := hd19 _ rfl
        try dsimp only at h10
        refine then_x ?_
        refine exit_hit ?_
        obtain rfl := some_inj h10
        refine then_n ?_
        exact ⟨rfl, hf.keep trivial, hM.pick [0] rfl⟩
  · rintro a w44 ⟨rfl, hf, hM⟩
    try dsimp only at h
    refine wp_seq ?_
    refine region_pl ?_
    refine q_ hf rfl rfl rfl (e_assign hf rfl) fun a hf => ?_
    refine pl_nil ?_
    refine then_n ?_
    refine wp_ret ?_
    obtain rfl := some_inj h
    exact leave1 hf rfl rfl ⟨rfl, hM.fin, (R64_lit rfl)⟩

set_option maxRecDepth 100000 in
set_option maxHeartbeats 4000000 in
theorem r_slices_ContainsFunc_string_string (C : Cx) (s1 : (List Str)) (A2 : Option Addr) (c3 : Nat) (hp4 : (sliceRep strRep).R C.w0 C.S0 s1 [vL A2 s1 c3]) (f5 : (Str → Option Bool)) (fk6 : FuncId) (fc7 : List Value) (hfn8 : FnOk Try.prog C fk6 (FnC_Str_to_Bool fk6 fc7 f5)) (r : Bool) (h : m_slices_ContainsFunc_string_string s1 f5 = some r) :
    Calls Try.prog 111 #[vL A2 (s1) c3, .func (.func fk6) #[] fc7.toArray] C.w0 fun e w => e = .returned (.bool (r)) ∧ Mem C w [] [] := by
  have hM := Mem.begin C [.dat (sliceRep strRep) s1 [vL A2 s1 c3]] ⟨hp4, trivial⟩
  refine enter Try.func111 rfl Try.ntmps111 rfl fun a hf => ?_
  unfold m_slices_ContainsFunc_string_string at h
  refine wp_seq ?_
  refine region_pl ?_
  refine q_ hf rfl rfl rfl (e_assign hf rfl) fun a hf => ?_
  refine pl_nil ?_
  refine then_n ?_
  refine wp_seq ?_
  refine region_pl ?_
  refine q_ hf rfl rfl rfl (e_move hf rfl) fun a hf => ?_
  refine q_ hf rfl rfl rfl (e_move hf rfl) fun a hf => ?_
  obtain ⟨y9, hz10, h⟩ := bind_some h
  refine pl_l hf rfl rfl rfl (w_call hf Try.call126 rfl (r_slices_IndexFunc_string_string ⟨_, Sh C _ _, none_, hM.sh_lt, none_not, C.G, hM.g_lt, g_none, hM.tabs⟩ s1 _ _ (hM.dat (k := 0) rfl) f5 _ _ (hfn8.to hM.sameS hM.s0sh) _ hz10) ?_)
  rintro _ w12 ⟨rfl, hM2, hv11⟩
  obtain ⟨hM, hx13, hup14⟩ := hM.back hM2
  dsimp only [List.cons_append, List.nil_append] at hM hup14
  clear hM2
  refine ⟨_, rfl, fun a hf => ?_⟩
  refine q_ hf rfl rfl rfl (e_ge hf (x := y9) (y := 0) rfl rfl) fun a hf => ?_
  refine q_ hf rfl rfl rfl (e_assign hf rfl) fun a hf => ?_
  refine pl_nil ?_
  refine then_n ?_
  refine wp_ret ?_
  obtain rfl := some_inj h
  exact leave1 hf rfl rfl ⟨rfl, hM.fin⟩

set_option maxRecDepth 100000 in
set_option maxHeartbeats 4000000 in
theorem r_impl_Grid_possible (C : Cx) (g1 : Grid) (hp2 : R64 g1.Rows) (hp3 : R64 g1.Cols) (hp4 : g1.Cells.length ≤ maxLen) (l5 : Lexicon) (A6 : Option Addr) (c7 : Nat) (hp8 : (sliceRep strRep).R C.w0 C.S0 l5.Words [vL A6 l5.Words c7]) (slots9 : (List Slot)) (A10 : Option Addr) (c11 : Nat) (hp12 : (sliceRep SlotRep).R C.w0 C.S0 slots9 [vL A10 slots9 c11]) (r : Bool) (h : m_impl_Grid_possible g1 l5 slots9 = some r) :
    Calls Try.prog 100 #[.agg #[vI (g1.Rows), vI (g1.Cols), vS (g1.Cells)], .agg #[vL A6 (l5.Words) c7], vL A10 (slots9) c11] C.w0 fun e w => e = .returned (.bool (r)) ∧ Mem C w [] [] := by
  have hM := Mem.begin C [.dat (sliceRep SlotRep) slots9 [vL A10 slots9 c11], .dat (sliceRep strRep) l5.Words [vL A6 l5.Words c7]] ⟨hp12, hp8, trivial⟩
  refine enter Try.func100 rfl Try.ntmps100 rfl fun a hf => ?_
  unfold m_impl_Grid_possible at h
  refine wp_seq ?_
  refine region_pl ?_
  refine pl_l hf rfl rfl rfl (w_box hf hM (cs := [vI (g1.Rows), vI (g1.Cols), vS (g1.Cells)]) rfl rfl fun b13 w14 hx15 hM a hf => ?_)
  refine pl_l hf rfl rfl rfl (w_box hf hM (cs := [vL A6 (l5.Words) c7]) rfl rfl fun b17 w18 hx19 hM a hf => ?_)
  refine q_ hf rfl rfl rfl (e_assign hf rfl) fun a hf => ?_
  refine pl_nil ?_
  refine then_n ?_
  obtain ⟨x21, h22, h⟩ := bind_some h
  refine seq_join (fun a w => (.inl ()) = x21 ∧ Has 25 a [] ∧ Mem C w [.box b17 [vL A6 (l5.Words) c7] 45, .box b13 [vI (g1.Rows), vI (g1.Cols), vS (g1.Cells)] 27] [.dat (sliceRep SlotRep) slots9 [vL A10 slots9 c11], .dat (sliceRep strRep) l5.Words [vL A6 l5.Words c7]]) ?_ ?_
  · refine wp_seq ?_
    refine region_pl ?_
    refine q_ hf rfl rfl rfl (e_move hf rfl) fun a hf => ?_
    have hl23 := slice_len (hM.dat (k := 0) rfl)
    refine q_ hf rfl rfl rfl (e_lenL hf (x := slots9) rfl Try.underlying30) fun a hf => ?_
    refine q_ hf rfl rfl rfl (e_move hf rfl) fun a hf => ?_
    refine pl_nil ?_
    refine then_n ?_
    refine wp_block ?_
    obtain ⟨x27, h28, h22⟩ := bind_some h22
    refine wp_loopM h28 (fun s a w => ∃ (n24 : Int), n24 = s ∧ Has 25 a [(3, vP b13 (0)), (4, vP b17 (0)), (10, vL A10 (slots9) c11), (11, vI ((slots9.length : Int))), (12, vI (n24))] ∧ Mem C w [.box b17 [vL A6 (l5.Words) c7] 45, .box b13 [vI (g1.Rows), vI (g1.Cols), vS (g1.Cells)] 27] [.dat (sliceRep SlotRep) slots9 [vL A10 slots9 c11], .dat (sliceRep strRep) l5.Words [vL A6 l5.Words c7]] ∧ R64 n24) ?_ ?_
    · exact ⟨0, rfl, hf.keep ⟨rfl, rfl, rfl, rfl, rfl, trivial⟩, hM.pick [0, 1] rfl, (R64_lit rfl)⟩
    · rintro s o29 a w26 ⟨n24, rfl, hf, hM, hv25⟩ h30 hd31
      replace h30 : m_impl_Grid_possible_l1 slots9 g1 l5 n24 = some o29 := h30
      unfold m_impl_Grid_possible_l1 at h30
      refine wp_seq ?_
      refine region_pl ?_
      refine q_ hf rfl rfl rfl (e_lt hf (x := n24) (y := (slots9.length : Int)) rfl rfl) fun a hf => ?_
      refine pl_nil ?_
      refine then_n ?_
      refine wp_seq ?_
      rcases cond_some h30 with ⟨hc32, h30⟩ | ⟨hc32, h30⟩
      · refine cond_t hf rfl hc32 ?_
        refine wp_skip ?_
        refine then_n ?_
        refine wp_seq ?_
        refine wp_block ?_
        refine wp_seq ?_
        refine region_pl ?_
        obtain ⟨e33, hz34, h30⟩ := bind_some h30
        obtain ⟨b38, o39, _, hA40, h35, h36, hr37, hM⟩ := hM.elem (hM.dat (k := 0) rfl) (n := 4) rfl hz34
        obtain ⟨rfl, hv41, hv42, hv43⟩ := SlotRep_open hr37
        refine q_ hf rfl rfl rfl (e_indexAddr (A := A10) (b := b38) (o := o39) (xs := slots9) (i := n24) hf hA40 rfl rfl Try.underlying30 Try.sizeOf75 h35 h36) fun a hf => ?_
        refine q_ hf rfl rfl rfl (e_loadA hf (us := [vI (e33.Row), vI (e33.Col), .bool (e33.Down), vI (e33.Length)]) rfl ⟨Try.isAgg75, Try.sizeOf75⟩ rfl (hM.litSub (k := 0) (d := 0) (us := [vI (e33.Row), vI (e33.Col), .bool (e33.Down), vI (e33.Length)]) rfl rfl rfl)) fun a hf => ?_
        refine pl_l hf rfl rfl rfl (w_alloc hM (cs := [vI (0), vI (0), .bool (false), vI (0)]) Try.zeroValue75 rfl fun b44 w45 hx46 hM a hf => ?_)
        refine pl_0 hf rfl rfl (w_store hf hM (us := [vI (e33.Row), vI (e33.Col), .bool (e33.Down), vI (e33.Length)]) (cs' := [vI (e33.Row), vI (e33.Col), .bool (e33.Down), vI (e33.Length)]) rfl rfl (k := 0) rfl rfl Try.sizeOf75 rfl rfl rfl fun w48 hM => ?_)
        dsimp only [List.set] at hM
        refine pl_nil ?_
        refine then_n ?_
        refine wp_seq ?_
        refine region_pl ?_
        refine q_ hf rfl rfl rfl (e_loadA hf (us := [vI (g1.Rows), vI (g1.Cols), vS (g1.Cells)]) rfl ⟨Try.isAgg27, Try.sizeOf27⟩ rfl (hM.boxSub (k := 2) (us := [vI (g1.Rows), vI (g1.Cols), vS (g1.Cells)]) (o := 0) rfl rfl)) fun a hf => ?_
        refine q_ hf rfl rfl rfl (e_loadA hf (us := [vI (e33.Row), vI (e33.Col), .bool (e33.Down), vI (e33.Length)]) rfl ⟨Try.isAgg75, Try.sizeOf75⟩ rfl (hM.boxSub (k := 0) (us := [vI (e33.Row), vI (e33.Col), .bool (e33.Down), vI (e33.Length)]) (o := 0) rfl rfl)) fun a hf => ?_
        obtain ⟨y51, hz52, h30⟩ := bind_some h30
        refine pl_l hf rfl rfl rfl (w_call hf Try.call53 rfl (r_impl_Grid_pattern ⟨_, Sh C _ _, none_, hM.sh_lt, none_not, C.G, hM.g_lt, g_none, hM.tabs⟩ g1 hp2 hp3 hp4 e33 hv41 hv42 hv43 _ hz52) ?_)
        rintro _ w54 ⟨rfl, hM2, hv53⟩
        obtain ⟨hM, hx55, hup56⟩ := hM.back hM2
        dsimp only [List.cons_append, List.nil_append] at hM hup56
        clear hM2
        refine ⟨_, rfl, fun a hf => ?_⟩
        refine pl_l hf rfl rfl rfl (w_alloc hM (cs := [vS (([] : Str))]) Try.zeroValue9 rfl fun b57 w58 hx59 hM a hf => ?_)
        refine pl_0 hf rfl rfl (w_store hf hM (us := [vS (y51)]) (cs' := [vS (y51)]) rfl rfl (k := 0) rfl rfl Try.sizeOf9 rfl rfl rfl fun w61 hM => ?_)
        dsimp only [List.set] at hM
        refine pl_nil ?_
        refine then_n ?_
        refine wp_seq ?_
        refine region_pl ?_
        refine q_ hf rfl rfl rfl (e_field hf rfl Try.underlying45 rfl Try.sizeOf40 (o' := 0) rfl) fun a hf => ?_
        refine q_ hf rfl rfl rfl (e_load1 hf rfl Try.isAgg40 (hM.boxCell (k := 2) rfl rfl)) fun a hf => ?_
        refine q_ hf rfl rfl rfl (w_makeFunc hf rfl) fun a hf => ?_
        obtain ⟨y66, hz67, h30⟩ := bind_some h30
        refine pl_l hf rfl rfl rfl (w_call hf Try.call111 rfl (r_slices_ContainsFunc_string_string ⟨_, All C _ _, none_, hM.all_lt, none_not, C.G, hM.g_lt, g_none, hM.tabs⟩ l5.Words _ _ (hM.lendDat (k := 2) rfl) (fun u64 => m_impl_Grid_possible_1 u64 y51) 112 [vP b57 (0)] ⟨Try.call112, fun C1 hs hsub u64 hp65 r h => r_impl_Grid_possible_1 C1 u64 hp65 y51 _ _ (Rep.to (hM.lendBox (k := 0) rfl ⟨rfl, hv53⟩) hs hsub) r h⟩ _ hz67) ?_)
        rintro _ w68 ⟨rfl, hM2⟩
        obtain ⟨hM, hx69⟩ := hM.backA hM2
        clear hM2
        refine ⟨_, rfl, fun a hf => ?_⟩
        refine q_ hf rfl rfl rfl (e_not hf rfl) fun a hf => ?_
        refine pl_nil ?_
        refine then_n ?_
        rcases cond_some h30 with ⟨hc71, h30⟩ | ⟨hc71, h30⟩
        · refine cond_t hf rfl hc71 ?_
          refine wp_seq ?_
          refine region_pl ?_
          refine q_ hf rfl rfl rfl (e_assign hf rfl) fun a hf => ?_
          refine pl_nil ?_
          refine then_n ?_
          refine wp_ret ?_
          refine blk_r ?_
          refine then_r ?_
          obtain rfl := some_inj h30
          obtain rfl := hd31 _ rfl
          try dsimp only at h22
          refine then_r ?_
          refine blk_r ?_
          obtain rfl := some_inj h22
          try dsimp only at h
          refine then_r ?_
          obtain rfl := some_inj h
          have hM := hM.outs (own' := []) 0 rfl
          exact leave1 hf rfl rfl ⟨rfl, hM.fin⟩
        · refine cond_f hf rfl hc71 ?_
          refine wp_skip ?_
          refine blk_n ?_
          refine then_n ?_
          refine region_pl ?_
          obtain ⟨z72, hz73, h30⟩ := bind_some h30
          refine q_ hf rfl rfl rfl (e_add hf rfl rfl hz73) fun a hf => ?_
          refine q_ hf rfl rfl rfl (e_move hf rfl) fun a hf => ?_
          refine pl_nil ?_
          obtain rfl := some_inj h30
          refine then_n ⟨_, rfl, ?_⟩
          exact ⟨z72, rfl, hf.keep ⟨rfl, rfl, rfl, rfl, rfl, trivial⟩, (hM.drop (.cons _ (.cons _ (.cons_cons _ (.cons_cons _ .slnil))))).pick [1, 2] rfl, (chk_R hz73)⟩
      · refine cond_f hf rfl hc32 ?_
        refine wp_exit ?_
        refine then_x ?_
        obtain rfl := some_inj h30
        obtain rfl := hd31 _ rfl
        try dsimp only at h22
        refine then_x ?_
        refine exit_hit ?_
        obtain rfl := some_inj h22
        refine then_n ?_
        exact ⟨rfl, hf.keep trivial, hM.pick [0, 1] rfl⟩
  · rintro a w80 ⟨rfl, hf, hM⟩
    try dsimp only at h
    refine wp_seq ?_
    refine region_pl ?_
    refine q_ hf rfl rfl rfl (e_assign hf rfl) fun a hf => ?_
    refine pl_nil ?_
    refine then_n ?_
    refine wp_ret ?_
    obtain rfl := some_inj h
    have hM := hM.outs (own' := []) 0 rfl
    exact leave1 hf rfl rfl ⟨rfl, hM.fin⟩

def Ct_impl_Grid_fillings_1_1 {σ : Type} (rc : Grid → Int → (List Slot) → Lexicon → (Grid → σ → Option (Bool × σ)) → σ → Option (Bool × σ)) : Prop := ∀ (C : Cx) (g1 : Grid) (hp2 : R64 g1.Rows) (hp3 : R64 g1.Cols) (hp4 : g1.Cells.length ≤ maxLen) (k5 : Int) (hp6 : R64 k5) (p7 : (List Slot)) (b8 : Nat) (o9 : Nat) (hp10 : (ptrRep (sliceRep SlotRep)).R C.w0 C.S0 p7 [vP b8 o9]) (b12 : Nat) (o13 : Nat) (p14 : Lexicon) (b15 : Nat) (o16 : Nat) (hp17 : (ptrRep LexiconRep).R C.w0 C.S0 p14 [vP b15 o16]) (b19 : Nat) (o20 : Nat) (yv : (Grid → σ → Option (Bool × σ))) (yl : Nat) (y1_ : Nat) (y2_ : Nat) (y3_ : Nat) (y4_ : Nat) (q1_ : σ → Obj) (q2_ : σ → Obj) (q3_ : σ → Obj) (q4_ : σ → Obj) (hY : YOk Try.prog yl y1_ y2_ y3_ y4_ q1_ q2_ q3_ q4_ yv) (sg_ : σ) (hp23 : Shr.good C.w0 C.S0 (.lit b12 (o13) [.func (.yield yl) #[] #[]])) (hp24 : Shr.good C.w0 C.S0 (.lit b19 (o20) [.func (.func 99) #[] #[vP b8 (o9), vP b12 (o13), vP b15 (o16), vP b19 (o20)]])) (hO : Mem C C.w0 [.obj y1_ (q1_ sg_), .obj y2_ (q2_ sg_), .obj y3_ (q3_ sg_), .obj y4_ (q4_ sg_)] []) (hd : ∀ b, C.S0 b → ¬ ownB [.obj y1_ (q1_ sg_), .obj y2_ (q2_ sg_), .obj y3_ (q3_ sg_), .obj y4_ (q4_ sg_)] b) (r : (Bool × σ)) (h : rc g1 k5 p7 p14 yv sg_ = some r),
    Calls Try.prog 99 #[.agg #[vI (g1.Rows), vI (g1.Cols), vS (g1.Cells)], vI (k5), vP b8 (o9), vP b12 (o13), vP b15 (o16), vP b19 (o20)] C.w0 fun e w => e = .returned (.bool (r.1)) ∧ Mem C w [.obj y1_ (q1_ r.2), .obj y2_ (q2_ r.2), .obj y3_ (q3_ r.2), .obj y4_ (q4_ r.2)] []

set_option maxRecDepth 100000 in
set_option maxHeartbeats 4000000 in
theorem r_impl_Grid_fillings_1_1_b {σ : Type} (rc : Grid → Int → (List Slot) → Lexicon → (Grid → σ → Option (Bool × σ)) → σ → Option (Bool × σ)) (ih : Ct_impl_Grid_fillings_1_1 rc) : Ct_impl_Grid_fillings_1_1 (m_impl_Grid_fillings_1_1_b rc) := by
  intro C g1 hp2 hp3 hp4 k5 hp6 p7 b8 o9 hp10 b12 o13 p14 b15 o16 hp17 b19 o20 yv yl y1_ y2_ y3_ y4_ q1_ q2_ q3_ q4_ hY sg_ hp23 hp24 hO hd r h
  have hM := hO
  have hM := hM.addIn hd (y := .dat (ptrRep (sliceRep SlotRep)) p7 [vP b8 o9]) hp10
  have hM := hM.addIn hd (y := .dat (ptrRep LexiconRep) p14 [vP b15 o16]) hp17
  have hM := hM.addIn hd (y := .lit b12 (o13) [.func (.yield yl) #[] #[]]) hp23
  have hM := hM.addIn hd (y := .lit b19 (o20) [.func (.func 99) #[] #[vP b8 (o9), vP b12 (o13), vP b15 (o16), vP b19 (o20)]]) hp24
  refine enter Try.func99 rfl Try.ntmps99 rfl fun a hf => ?_
  unfold m_impl_Grid_fillings_1_1_b at h
  refine wp_seq ?_
  refine region_pl ?_
  refine pl_l hf rfl rfl rfl (w_box hf hM (cs := [vI (g1.Rows), vI (g1.Cols), vS (g1.Cells)]) rfl rfl fun b25 w26 hx27 hM a hf => ?_)
  refine q_ hf rfl rfl rfl (e_assign hf rfl) fun a hf => ?_
  refine pl_nil ?_
  refine then_n ?_
  refine wp_seq ?_
  refine wp_seq ?_
  refine region_pl ?_
  refine q_ hf rfl rfl rfl (e_move hf rfl) fun a hf => ?_
  obtain ⟨_, hr29, hM⟩ := hM.deref (hM.dat (k := 3) rfl)
  obtain ⟨A30, c31, rfl, hv32⟩ := slice_form hr29
  have hM := hM.add (y := .dat (sliceRep SlotRep) p7 [vL A30 p7 c31]) hv32
  refine q_ hf rfl rfl rfl (e_load1 hf rfl Try.isAgg30 (hM.litCell (k := 1) (j := 0) rfl rfl rfl)) fun a hf => ?_
  have hl33 := slice_len (hM.dat (k := 0) rfl)
  refine q_ hf rfl rfl rfl (e_lenL hf (x := p7) rfl Try.underlying30) fun a hf => ?_
  refine q_ hf rfl rfl rfl (e_eq hf (x := k5) (y := (p7.length : Int)) rfl rfl) fun a hf => ?_
  refine pl_nil ?_
  refine then_n ?_
  rcases cond_some h with ⟨hc34, h⟩ | ⟨hc34, h⟩
  · refine cond_t hf rfl hc34 ?_
    refine wp_seq ?_
    refine wpIn_wide.1 (region_plI fall_wide ?_)
    have hf := hf.toD
    refine pD_q fall_wide hf rfl rfl rfl rfl (Ext.refl _) (e_load1 hf.1 rfl Try.isAgg67 (hM.litCell (k := 3) (j := 0) rfl rfl rfl)) fun a hf => ?_
    refine pD_q fall_wide hf rfl rfl rfl rfl (Ext.refl _) (e_loadA hf.1 (us := [vI (g1.Rows), vI (g1.Cols), vS (g1.Cells)]) rfl ⟨Try.isAgg27, Try.sizeOf27⟩ rfl (hM.boxSub (k := 0) (us := [vI (g1.Rows), vI (g1.Cols), vS (g1.Cells)]) (o := 0) rfl rfl)) fun a hf => ?_
    have hM := hM.front (k := 4) rfl
    dsimp only [List.eraseIdx] at hM
    have hM := hM.front (k := 4) rfl
    dsimp only [List.eraseIdx] at hM
    have hM := hM.front (k := 4) rfl
    dsimp only [List.eraseIdx] at hM
    have hM := hM.front (k := 4) rfl
    dsimp only [List.eraseIdx] at hM
    have hM : Mem C _ ([.obj y1_ (q1_ sg_), .obj y2_ (q2_ sg_), .obj y3_ (q3_ sg_), .obj y4_ (q4_ sg_)] ++ [.box b25 [vI (g1.Rows), vI (g1.Cols), vS (g1.Cells)] 27]) _ := hM
    obtain ⟨y35, hz36, h⟩ := bind_some h
    refine pD_l fall_wide hf rfl rfl rfl (i_yield hf rfl rfl (hY ⟨_, Sh C _ _, ownB _, hM.sh_lt, sub_dis, C.G, hM.g_lt, hM.g_own, hM.tabs⟩ g1 hp2 hp3 hp4 sg_ hM.sub sub_dis _ hz36) ?_)
    rintro _ w37 ⟨rfl, hM2⟩
    obtain ⟨hM, hup38⟩ := hM.backG hM2
    clear hM2
    dsimp only [List.cons_append, List.nil_append] at hM hup38
    refine ⟨_, rfl, fun a hf => ?_⟩
    refine pD_q fall_wide hf rfl rfl rfl rfl (Ext.refl _) (e_assign hf.1 rfl) fun a hf => ?_
    refine pD_nil ?_
    have hf := hf.has
    refine then_n ?_
    refine wp_ret ?_
    refine then_r ?_
    obtain rfl := some_inj h
    have hM := hM.outs (own' := [.obj y1_ (q1_ y35.2), .obj y2_ (q2_ y35.2), .obj y3_ (q3_ y35.2), .obj y4_ (q4_ y35.2)]) 4 rfl
    exact leave1 hf rfl rfl ⟨rfl, hM.fin⟩
  · refine cond_f hf rfl hc34 ?_
    refine wp_skip ?_
    refine then_n ?_
    obtain ⟨x40, h41, h⟩ := bind_some h
    refine seq_join (fun a w => ∃ (sg39 : σ), (.inl sg39) = x40 ∧ Has 51 a [] ∧ Mem C w [.box b25 [vI (g1.Rows), vI (g1.Cols), vS (g1.Cells)] 27, .obj y1_ (q1_ sg39), .obj y2_ (q2_ sg39), .obj y3_ (q3_ sg39), .obj y4_ (q4_ sg39)] [.dat (sliceRep SlotRep) p7 [vL A30 p7 c31], .lit b8 (o9) [vL A30 (p7) c31], .lit b19 (o20) [.func (.func 99) #[] #[vP b8 (o9), vP b12 (o13), vP b15 (o16), vP b19 (o20)]], .lit b12 (o13) [.func (.yield yl) #[] #[]], .dat (ptrRep LexiconRep) p14 [vP b15 o16], .dat (ptrRep (sliceRep SlotRep)) p7 [vP b8 o9]]) ?_ ?_
    · refine wp_seq ?_
      obtain ⟨w42, hw⟩ : ∃ x, x = w26.drew := ⟨_, rfl⟩
      refine region_pi (.q 0 (.q 1 (.q 2 (.q 3 (.q 4 (.q 5 (.q 8 (.l 6 (.q 7 (.nil)))))))))) (Ext w42) rfl (by kernel_rfl) ?_
      have hM := hM.drew
      rw [← hw] at hM ⊢
      clear hw
      refine pi_q hf rfl rfl rfl rfl (Ext.refl _) (e_loadA hf (us := [vI (g1.Rows), vI (g1.Cols), vS (g1.Cells)]) rfl ⟨Try.isAgg27, Try.sizeOf27⟩ rfl (hM.boxSub (k := 0) (us := [vI (g1.Rows), vI (g1.Cols), vS (g1.Cells)]) (o := 0) rfl rfl)) fun a hf => ?_
      obtain ⟨_, hr43, hM⟩ := hM.deref (hM.dat (k := 4) rfl)
      obtain ⟨A44, c45, rfl, hv46⟩ := LexiconRep_open hr43
      have hM := hM.add (y := .dat (sliceRep strRep) p14.Words [vL A44 p14.Words c45]) hv46
      refine pi_q hf rfl rfl rfl rfl (Ext.refl _) (e_loadA hf (us := [vL A44 (p14.Words) c45]) rfl ⟨Try.isAgg45, Try.sizeOf45⟩ rfl (hM.litSub (k := 1) (d := 0) (us := [vL A44 (p14.Words) c45]) rfl rfl rfl)) fun a hf => ?_
      refine pi_q hf rfl rfl rfl rfl (Ext.refl _) (e_load1 hf rfl Try.isAgg30 (hM.litCell (k := 3) (j := 0) rfl rfl rfl)) fun a hf => ?_
      refine pi_q hf rfl rfl rfl rfl (Ext.refl _) (e_move hf rfl) fun a hf => ?_
      obtain ⟨e47, hz48, h41⟩ := bind_some h41
      obtain ⟨b52, o53, _, hA54, h49, h50, hr51, hM⟩ := hM.elem (hM.dat (k := 2) rfl) (n := 4) rfl hz48
      obtain ⟨rfl, hv55, hv56, hv57⟩ := SlotRep_open hr51
      refine pi_q hf rfl rfl rfl rfl (Ext.refl _) (e_indexAddr (A := A30) (b := b52) (o := o53) (xs := p7) (i := k5) hf hA54 rfl rfl Try.underlying30 Try.sizeOf75 h49 h50) fun a hf => ?_
      refine pi_q hf rfl rfl rfl rfl (Ext.refl _) (e_loadA hf (us := [vI (e47.Row), vI (e47.Col), .bool (e47.Down), vI (e47.Length)]) rfl ⟨Try.isAgg75, Try.sizeOf75⟩ rfl (hM.litSub (k := 0) (d := 0) (us := [vI (e47.Row), vI (e47.Col), .bool (e47.Down), vI (e47.Length)]) rfl rfl rfl)) fun a hf => ?_
      refine pi_q hf rfl rfl rfl rfl (Ext.refl _) (e_move hf rfl) fun a hf => ?_
      refine pi_one ?_
      obtain ⟨y58, hz59, h41⟩ := bind_some h41
      refine pi_l hf rfl rfl rfl rfl (w_call hf Try.call70 rfl (r_impl_Grid_candidates ⟨_, Sh C _ _, none_, hM.sh_lt, none_not, C.G, hM.g_lt, g_none, hM.tabs⟩ g1 hp2 hp3 hp4 p14 _ _ (hM.dat (k := 1) rfl) e47 hv55 hv56 hv57 _ hz59) ?_)
      rintro _ w62 ⟨A60, c61, rfl, hM2⟩
      obtain ⟨hM, hx63, hup64⟩ := hM.back hM2
      dsimp only [List.cons_append, List.nil_append] at hM hup64
      clear hM2
      refine ⟨_, rfl, Ext w62, fun _ h => Ext.trans hx63 h, Ext.refl _, fun a hf => ?_⟩
      have hl65 := row_len (hM.ownAt (k := 0) rfl)
      refine pi_q hf rfl rfl rfl rfl (Ext.refl _) (e_lenL hf (x := y58) rfl Try.underlying40) fun a hf => ?_
      refine pi_nil ?_
      refine then_n ?_
      refine wp_block ?_
      obtain ⟨x71, h72, h41⟩ := bind_some h41
      refine wp_loopM h72 (fun s a w => ∃ (sg66 : σ) (n67 : Int), (sg66, n67) = s ∧ Has 51 a [(1, vI (k5)), (2, vP b8 (o9)), (4, vP b15 (o16)), (5, vP b19 (o20)), (6, vP b25 (0)), (25, vL A60 (y58) c61), (26, vI ((y58.length : Int))), (27, vI (n67))] ∧ Mem C w [.row strRep A60 c61 9 y58 true, .box b25 [vI (g1.Rows), vI (g1.Cols), vS (g1.Cells)] 27, .obj y1_ (q1_ sg66), .obj y2_ (q2_ sg66), .obj y3_ (q3_ sg66), .obj y4_ (q4_ sg66)] [.lit b52 (o53 + (k5 : Int).toNat * 4) [vI (e47.Row), vI (e47.Col), .bool (e47.Down), vI (e47.Length)], .dat (sliceRep strRep) p14.Words [vL A44 p14.Words c45], .lit b15 (o16) [vL A44 (p14.Words) c45], .dat (sliceRep SlotRep) p7 [vL A30 p7 c31], .lit b8 (o9) [vL A30 (p7) c31], .lit b19 (o20) [.func (.func 99) #[] #[vP b8 (o9), vP b12 (o13), vP b15 (o16), vP b19 (o20)]], .lit b12 (o13) [.func (.yield yl) #[] #[]], .dat (ptrRep LexiconRep) p14 [vP b15 o16], .dat (ptrRep (sliceRep SlotRep)) p7 [vP b8 o9]] ∧ R64 n67) ?_ ?_
      · exact ⟨sg_, 0, rfl, hf.keep ⟨rfl, rfl, rfl, rfl, rfl, rfl, rfl, rfl, trivial⟩, hM.pick [0, 1, 2, 3, 4, 5, 6, 7, 8] rfl, (R64_lit rfl)⟩
      · rintro s o73 a w69 ⟨sg66, n67, rfl, hf, hM, hv68⟩ h74 hd75
        replace h74 : m_impl_Grid_fillings_1_1_l1 y58 p7 k5 g1 p14 rc yv sg66 n67 = some o73 := h74
        unfold m_impl_Grid_fillings_1_1_l1 at h74
        refine wp_seq ?_
        refine region_pl ?_
        refine q_ hf rfl rfl rfl (e_lt hf (x := n67) (y := (y58.length : Int)) rfl rfl) fun a hf => ?_
        refine pl_nil ?_
        refine then_n ?_
        refine wp_seq ?_
        rcases cond_some h74 with ⟨hc76, h74⟩ | ⟨hc76, h74⟩
        · refine cond_t hf rfl hc76 ?_
          refine wp_skip ?_
          refine then_n ?_
          refine wp_seq ?_
          refine wp_block ?_
          refine wp_seq ?_
          refine region_pl ?_
          obtain ⟨e77, hz78, h74⟩ := bind_some h74
          obtain ⟨b83, _, hA84, h79, h80, hr81, hcell82⟩ := hM.rowElemN (k := 0) rfl (n := 1) rfl hz78
          obtain ⟨rfl, hv85⟩ := hr81
          refine q_ hf rfl rfl rfl (e_indexAddr (A := A60) (b := b83) (o := 0) (xs := y58) (i := n67) hf hA84 rfl rfl Try.underlying40 Try.sizeOf9 h79 h80) fun a hf => ?_
          refine q_ hf rfl rfl rfl (e_load1 hf rfl Try.isAgg9 (hcell82 0 _ rfl)) fun a hf => ?_
          refine q_ hf rfl rfl rfl (e_assign hf rfl) fun a hf => ?_
          refine pl_nil ?_
          refine then_n ?_
          refine wp_seq ?_
          obtain ⟨w86, hw⟩ : ∃ x, x = w69.drew := ⟨_, rfl⟩
          refine region_pi (.q 0 (.q 1 (.q 2 (.q 3 (.q 4 (.q 5 (.b 6 7 (.l 7 (.l 8 (.nil))) (.l 6 (.l 8 (.nil)))))))))) (Ext w86) rfl (by kernel_rfl) ?_
          have hM := hM.drew
          rw [← hw] at hM ⊢
          clear hw
          refine pi_q hf rfl rfl rfl rfl (Ext.refl _) (e_loadA hf (us := [vI (g1.Rows), vI (g1.Cols), vS (g1.Cells)]) rfl ⟨Try.isAgg27, Try.sizeOf27⟩ rfl (hM.boxSub (k := 1) (us := [vI (g1.Rows), vI (g1.Cols), vS (g1.Cells)]) (o := 0) rfl rfl)) fun a hf => ?_
          refine pi_q hf rfl rfl rfl rfl (Ext.refl _) (e_load1 hf rfl Try.isAgg30 (hM.litCell (k := 4) (j := 0) rfl rfl rfl)) fun a hf => ?_
          refine pi_q hf rfl rfl rfl rfl (Ext.refl _) (e_move hf rfl) fun a hf => ?_
          obtain ⟨e87, hz88, h74⟩ := bind_some h74
          obtain ⟨b92, o93, _, hA94, h89, h90, hr91, hM⟩ := hM.elem (hM.dat (k := 3) rfl) (n := 4) rfl hz88
          obtain ⟨rfl, hv95, hv96, hv97⟩ := SlotRep_open hr91
          refine pi_q hf rfl rfl rfl rfl (Ext.refl _) (e_indexAddr (A := A30) (b := b92) (o := o93) (xs := p7) (i := k5) hf hA94 rfl rfl Try.underlying30 Try.sizeOf75 h89 h90) fun a hf => ?_
          refine pi_q hf rfl rfl rfl rfl (Ext.refl _) (e_loadA hf (us := [vI (e87.Row), vI (e87.Col), .bool (e87.Down), vI (e87.Length)]) rfl ⟨Try.isAgg75, Try.sizeOf75⟩ rfl (hM.litSub (k := 0) (d := 0) (us := [vI (e87.Row), vI (e87.Col), .bool (e87.Down), vI (e87.Length)]) rfl rfl rfl)) fun a hf => ?_
          refine pi_q hf rfl rfl rfl rfl (Ext.refl _) (e_move hf rfl) fun a hf => ?_
          obtain ⟨y98, hz99, h74⟩ := bind_some h74
          refine pi_two ?_ ?_
          · refine pi_l hf rfl rfl rfl rfl (w_call hf Try.call62 rfl (r_impl_Grid_put ⟨_, Sh C _ _, none_, hM.sh_lt, none_not, C.G, hM.g_lt, g_none, hM.tabs⟩ g1 hp2 hp3 hp4 e87 hv95 hv96 hv97 e77 hv85 _ hz99) ?_)
            rintro _ w113 ⟨rfl, hM2, hv110, hv111, hv112⟩
            obtain ⟨hM, hx114, hup115⟩ := hM.back hM2
            dsimp only [List.cons_append, List.nil_append] at hM hup115
            clear hM2
            refine ⟨_, rfl, Ext w113, fun _ h => Ext.trans hx114 h, Ext.refl _, fun a hf => ?_⟩
            refine pi_one ?_
            refine pi_l hf rfl rfl rfl rfl (w_alloc hM (cs := [vI (0), vI (0), vS (([] : Str))]) Try.zeroValue27 rfl fun b116 w117 hx118 hM => ⟨Ext w117, fun _ h => Ext.trans hx118 h, Ext.refl _, fun a hf => ?_⟩)
            refine pi_one ?_
            refine pi_z0 hf rfl rfl rfl (by kernel_rfl) (w_store hf hM (us := [vI (y98.Rows), vI (y98.Cols), vS (y98.Cells)]) (cs' := [vI (y98.Rows), vI (y98.Cols), vS (y98.Cells)]) rfl rfl (k := 0) rfl rfl Try.sizeOf27 rfl rfl rfl fun w120 hM => ?_)
            dsimp only [List.set] at hM
            refine pi_nil ?_
            refine then_n ?_
            obtain ⟨x126, h127, h74⟩ := bind_some h74
            refine seq_join (fun a w => ∃ (sg123 : σ) (t124 : Bool), (sg123, t124) = x126 ∧ Has 51 a [(1, vI (k5)), (2, vP b8 (o9)), (4, vP b15 (o16)), (5, vP b19 (o20)), (6, vP b25 (0)), (25, vL A60 (y58) c61), (26, vI ((y58.length : Int))), (27, vI (n67)), (49, .bool (t124))] ∧ Mem C w [.box b116 [vI (y98.Rows), vI (y98.Cols), vS (y98.Cells)] 27, .row strRep A60 c61 9 y58 true, .box b25 [vI (g1.Rows), vI (g1.Cols), vS (g1.Cells)] 27, .obj y1_ (q1_ sg123), .obj y2_ (q2_ sg123), .obj y3_ (q3_ sg123), .obj y4_ (q4_ sg123)] [.lit b92 (o93 + (k5 : Int).toNat * 4) [vI (e87.Row), vI (e87.Col), .bool (e87.Down), vI (e87.Length)], .lit b52 (o53 + (k5 : Int).toNat * 4) [vI (e47.Row), vI (e47.Col), .bool (e47.Down), vI (e47.Length)], .dat (sliceRep strRep) p14.Words [vL A44 p14.Words c45], .lit b15 (o16) [vL A44 (p14.Words) c45], .dat (sliceRep SlotRep) p7 [vL A30 p7 c31], .lit b8 (o9) [vL A30 (p7) c31], .lit b19 (o20) [.func (.func 99) #[] #[vP b8 (o9), vP b12 (o13), vP b15 (o16), vP b19 (o20)]], .lit b12 (o13) [.func (.yield yl) #[] #[]], .dat (ptrRep LexiconRep) p14 [vP b15 o16], .dat (ptrRep (sliceRep SlotRep)) p7 [vP b8 o9]]) ?_ ?_
            · refine region_pl ?_
              refine q_ hf rfl rfl rfl (e_loadA hf (us := [vI (y98.Rows), vI (y98.Cols), vS (y98.Cells)]) rfl ⟨Try.isAgg27, Try.sizeOf27⟩ rfl (hM.boxSub (k := 0) (us := [vI (y98.Rows), vI (y98.Cols), vS (y98.Cells)]) (o := 0) rfl rfl)) fun a hf => ?_
              refine q_ hf rfl rfl rfl (e_loadA hf (us := [vL A44 (p14.Words) c45]) rfl ⟨Try.isAgg45, Try.sizeOf45⟩ rfl (hM.litSub (k := 3) (d := 0) (us := [vL A44 (p14.Words) c45]) rfl rfl rfl)) fun a hf => ?_
              refine q_ hf rfl rfl rfl (e_load1 hf rfl Try.isAgg30 (hM.litCell (k := 5) (j := 0) rfl rfl rfl)) fun a hf => ?_
              obtain ⟨y128, hz129, h127⟩ := bind_some h127
              refine pl_l hf rfl rfl rfl (w_call hf Try.call100 rfl (r_impl_Grid_possible ⟨_, Sh C _ _, none_, hM.sh_lt, none_not, C.G, hM.g_lt, g_none, hM.tabs⟩ y98 hv110 hv111 hv112 p14 _ _ (hM.dat (k := 2) rfl) p7 _ _ (hM.dat (k := 4) rfl) _ hz129) ?_)
              rintro _ w130 ⟨rfl, hM2⟩
              obtain ⟨hM, hx131, hup132⟩ := hM.back hM2
              dsimp only [List.cons_append, List.nil_append] at hM hup132
              clear hM2
              refine ⟨_, rfl, fun a hf => ?_⟩
              refine q_ hf rfl rfl rfl (e_move hf rfl) fun a hf => ?_
              rcases cond_some h127 with ⟨hc133, h127⟩ | ⟨hc133, h127⟩
              · refine gq (wanted_t hf rfl rfl rfl rfl hc133) hf rfl rfl (e_load1 hf rfl Try.isAgg120 (hM.litCell (k := 6) (j := 0) rfl rfl rfl)) fun a hf => ?_
                refine gq (wanted_t hf rfl rfl rfl rfl hc133) hf rfl rfl (e_loadA hf (us := [vI (y98.Rows), vI (y98.Cols), vS (y98.Cells)]) rfl ⟨Try.isAgg27, Try.sizeOf27⟩ rfl (hM.boxSub (k := 0) (us := [vI (y98.Rows), vI (y98.Cols), vS (y98.Cells)]) (o := 0) rfl rfl)) fun a hf => ?_
                refine gq (wanted_t hf rfl rfl rfl rfl hc133) hf rfl rfl (e_move hf rfl) fun a hf => ?_
                obtain ⟨z134, hz135, h127⟩ := bind_some h127
                refine gq (wanted_t hf rfl rfl rfl rfl hc133) hf rfl rfl (e_add hf rfl rfl hz135) fun a hf => ?_
                have hM := hM.front (k := 6) rfl
                dsimp only [List.eraseIdx] at hM
                have hM := hM.front (k := 6) rfl
                dsimp only [List.eraseIdx] at hM
                have hM := hM.front (k := 6) rfl
                dsimp only [List.eraseIdx] at hM
                have hM := hM.front (k := 6) rfl
                dsimp only [List.eraseIdx] at hM
                have hM : Mem C _ ([.obj y1_ (q1_ sg66), .obj y2_ (q2_ sg66), .obj y3_ (q3_ sg66), .obj y4_ (q4_ sg66)] ++ [.box b116 [vI (y98.Rows), vI (y98.Cols), vS (y98.Cells)] 27, .row strRep A60 c61 9 y58 true, .box b25 [vI (g1.Rows), vI (g1.Cols), vS (g1.Cells)] 27]) _ := hM
                obtain ⟨y136, hz137, h127⟩ := bind_some h127
                refine pl_gl (wanted_t hf rfl rfl rfl rfl hc133) hf rfl rfl (w_callV hf (fk := 99) (fc := [vP b8 (o9), vP b12 (o13), vP b15 (o16), vP b19 (o20)]) rfl Try.call99 rfl (ih ⟨_, Sh C _ _, ownB _, hM.sh_lt, sub_dis, C.G, hM.g_lt, hM.g_own, hM.tabs⟩ y98 hv110 hv111 hv112 z134 (chk_R hz135) p7 _ _ (hM.dat (k := 9) rfl) _ _ p14 _ _ (hM.dat (k := 8) rfl) _ _ yv yl y1_ y2_ y3_ y4_ q1_ q2_ q3_ q4_ hY sg66 (hM.at_ (k := 7) rfl) (hM.at_ (k := 6) rfl) hM.sub sub_dis _ hz137) ?_)
                rintro _ w138 ⟨rfl, hM2⟩
                obtain ⟨hM, hup140⟩ := hM.backG hM2
                dsimp only [List.cons_append, List.nil_append] at hM hup140
                clear hM2
                refine ⟨_, rfl, fun a hf => ?_⟩
                refine gq (wanted_t hf rfl rfl rfl rfl hc133) hf rfl rfl (e_not hf rfl) fun a hf => ?_
                refine q_ hf rfl rfl rfl (e_pick_t hf rfl hc133 rfl) fun a hf => ?_
                refine pl_nil ?_
                obtain rfl := some_inj h127
                refine then_n ?_
                have hM := hM.front (k := 3) rfl
                dsimp only [List.eraseIdx] at hM
                have hM := hM.front (k := 3) rfl
                dsimp only [List.eraseIdx] at hM
                have hM := hM.front (k := 3) rfl
                dsimp only [List.eraseIdx] at hM
                have hM := hM.front (k := 3) rfl
                dsimp only [List.eraseIdx] at hM
                have hM := hM.front (k := 6) rfl
                dsimp only [List.eraseIdx] at hM
                have hM := hM.front (k := 6) rfl
                dsimp only [List.eraseIdx] at hM
                have hM := hM.front (k := 6) rfl
                dsimp only [List.eraseIdx] at hM
                exact ⟨y136.2, (!y136.1), rfl, hf.keep ⟨rfl, rfl, rfl, rfl, rfl, rfl, rfl, rfl, rfl, trivial⟩, hM.pick [0, 1, 2, 3, 4, 5, 6, 7, 8, 9] rfl⟩
              · refine pl_gs (wanted_f hf rfl rfl rfl rfl hc133) hf rfl rfl fun a hf => ?_
                refine pl_gs (wanted_f hf rfl rfl rfl rfl hc133) hf rfl rfl fun a hf => ?_
                refine pl_gs (wanted_f hf rfl rfl rfl rfl hc133) hf rfl rfl fun a hf => ?_
                refine pl_gs (wanted_f hf rfl rfl rfl rfl hc133) hf rfl rfl fun a hf => ?_
                refine pl_gs (wanted_f hf rfl rfl rfl rfl hc133) hf rfl rfl fun a hf => ?_
                refine pl_gs (wanted_f hf rfl rfl rfl rfl hc133) hf rfl rfl fun a hf => ?_
                refine q_ hf rfl rfl rfl (e_pick_f hf rfl hc133 rfl) fun a hf => ?_
                refine pl_nil ?_
                obtain rfl := some_inj h127
                refine then_n ?_
                exact ⟨sg66, false, rfl, hf.keep ⟨rfl, rfl, rfl, rfl, rfl, rfl, rfl, rfl, rfl, trivial⟩, hM.pick [0, 1, 2, 3, 4, 5, 6, 7, 8, 9] rfl⟩
            · rintro a w143 ⟨sg123, t124, rfl, hf, hM⟩
              try dsimp only at h74
              rcases cond_some h74 with ⟨hc144, h74⟩ | ⟨hc144, h74⟩
              · refine cond_t hf rfl hc144 ?_
                refine wp_seq ?_
                refine region_pl ?_
                refine q_ hf rfl rfl rfl (e_assign hf rfl) fun a hf => ?_
                refine pl_nil ?_
                refine then_n ?_
                refine wp_ret ?_
                refine blk_r ?_
                refine then_r ?_
                obtain rfl := some_inj h74
                obtain rfl := hd75 _ rfl
                try dsimp only at h41
                refine then_r ?_
                refine blk_r ?_
                obtain rfl := some_inj h41
                try dsimp only at h
                refine then_r ?_
                obtain rfl := some_inj h
                have hM := hM.front (k := 6) rfl
                dsimp only [List.eraseIdx] at hM
                have hM := hM.front (k := 6) rfl
                dsimp only [List.eraseIdx] at hM
                have hM := hM.front (k := 6) rfl
                dsimp only [List.eraseIdx] at hM
                have hM := hM.front (k := 6) rfl
                dsimp only [List.eraseIdx] at hM
                have hM := hM.outs (own' := [.obj y1_ (q1_ sg123), .obj y2_ (q2_ sg123), .obj y3_ (q3_ sg123), .obj y4_ (q4_ sg123)]) 4 rfl
                exact leave1 hf rfl rfl ⟨rfl, hM.fin⟩
              · refine cond_f hf rfl hc144 ?_
                refine wp_skip ?_
                refine blk_n ?_
                refine then_n ?_
                refine region_pl ?_
                obtain ⟨z145, hz146, h74⟩ := bind_some h74
                refine q_ hf rfl rfl rfl (e_add hf rfl rfl hz146) fun a hf => ?_
                refine q_ hf rfl rfl rfl (e_move hf rfl) fun a hf => ?_
                refine pl_nil ?_
                obtain rfl := some_inj h74
                refine then_n ⟨_, rfl, ?_⟩
                exact ⟨sg123, z145, rfl, hf.keep ⟨rfl, rfl, rfl, rfl, rfl, rfl, rfl, rfl, trivial⟩, (hM.drop (.cons _ (.cons_cons _ (.cons_cons _ (.cons_cons _ (.cons_cons _ (.cons_cons _ (.cons_cons _ .slnil)))))))).pick [1, 2, 3, 4, 5, 6, 7, 8, 9] rfl, (chk_R hz146)⟩
          · refine pi_l hf rfl rfl rfl rfl (w_alloc hM (cs := [vI (0), vI (0), vS (([] : Str))]) Try.zeroValue27 rfl fun b148 w149 hx150 hM => ⟨Ext w149, fun _ h => Ext.trans hx150 h, Ext.refl _, fun a hf => ?_⟩)
            refine pi_one ?_
            refine pi_l hf rfl rfl rfl rfl (w_call hf Try.call62 rfl (r_impl_Grid_put ⟨_, Sh C _ _, none_, hM.sh_lt, none_not, C.G, hM.g_lt, g_none, hM.tabs⟩ g1 hp2 hp3 hp4 e87 hv95 hv96 hv97 e77 hv85 _ hz99) ?_)
            rintro _ w155 ⟨rfl, hM2, hv152, hv153, hv154⟩
            obtain ⟨hM, hx156, hup157⟩ := hM.back hM2
            dsimp only [List.cons_append, List.nil_append] at hM hup157
            clear hM2
            refine ⟨_, rfl, Ext w155, fun _ h => Ext.trans hx156 h, Ext.refl _, fun a hf => ?_⟩
            refine pi_one ?_
            refine pi_z0 hf rfl rfl rfl (by kernel_rfl) (w_store hf hM (us := [vI (y98.Rows), vI (y98.Cols), vS (y98.Cells)]) (cs' := [vI (y98.Rows), vI (y98.Cols), vS (y98.Cells)]) rfl rfl (k := 0) rfl rfl Try.sizeOf27 rfl rfl rfl fun w158 hM => ?_)
            dsimp only [List.set] at hM
            refine pi_nil ?_
            refine then_n ?_
            obtain ⟨x164, h165, h74⟩ := bind_some h74
            refine seq_join (fun a w => ∃ (sg161 : σ) (t162 : Bool), (sg161, t162) = x164 ∧ Has 51 a [(1, vI (k5)), (2, vP b8 (o9)), (4, vP b15 (o16)), (5, vP b19 (o20)), (6, vP b25 (0)), (25, vL A60 (y58) c61), (26, vI ((y58.length : Int))), (27, vI (n67)), (49, .bool (t162))] ∧ Mem C w [.box b148 [vI (y98.Rows), vI (y98.Cols), vS (y98.Cells)] 27, .row strRep A60 c61 9 y58 true, .box b25 [vI (g1.Rows), vI (g1.Cols), vS (g1.Cells)] 27, .obj y1_ (q1_ sg161), .obj y2_ (q2_ sg161), .obj y3_ (q3_ sg161), .obj y4_ (q4_ sg161)] [.lit b92 (o93 + (k5 : Int).toNat * 4) [vI (e87.Row), vI (e87.Col), .bool (e87.Down), vI (e87.Length)], .lit b52 (o53 + (k5 : Int).toNat * 4) [vI (e47.Row), vI (e47.Col), .bool (e47.Down), vI (e47.Length)], .dat (sliceRep strRep) p14.Words [vL A44 p14.Words c45], .lit b15 (o16) [vL A44 (p14.Words) c45], .dat (sliceRep SlotRep) p7 [vL A30 p7 c31], .lit b8 (o9) [vL A30 (p7) c31], .lit b19 (o20) [.func (.func 99) #[] #[vP b8 (o9), vP b12 (o13), vP b15 (o16), vP b19 (o20)]], .lit b12 (o13) [.func (.yield yl) #[] #[]], .dat (ptrRep LexiconRep) p14 [vP b15 o16], .dat (ptrRep (sliceRep SlotRep)) p7 [vP b8 o9]]) ?_ ?_
            · refine region_pl ?_
              refine q_ hf rfl rfl rfl (e_loadA hf (us := [vI (y98.Rows), vI (y98.Cols), vS (y98.Cells)]) rfl ⟨Try.isAgg27, Try.sizeOf27⟩ rfl (hM.boxSub (k := 0) (us := [vI (y98.Rows), vI (y98.Cols), vS (y98.Cells)]) (o := 0) rfl rfl)) fun a hf => ?_
              refine q_ hf rfl rfl rfl (e_loadA hf (us := [vL A44 (p14.Words) c45]) rfl ⟨Try.isAgg45, Try.sizeOf45⟩ rfl (hM.litSub (k := 3) (d := 0) (us := [vL A44 (p14.Words) c45]) rfl rfl rfl)) fun a hf => ?_
              refine q_ hf rfl rfl rfl (e_load1 hf rfl Try.isAgg30 (hM.litCell (k := 5) (j := 0) rfl rfl rfl)) fun a hf => ?_
              obtain ⟨y166, hz167, h165⟩ := bind_some h165
              refine pl_l hf rfl rfl rfl (w_call hf Try.call100 rfl (r_impl_Grid_possible ⟨_, Sh C _ _, none_, hM.sh_lt, none_not, C.G, hM.g_lt, g_none, hM.tabs⟩ y98 hv152 hv153 hv154 p14 _ _ (hM.dat (k := 2) rfl) p7 _ _ (hM.dat (k := 4) rfl) _ hz167) ?_)
              rintro _ w168 ⟨rfl, hM2⟩
              obtain ⟨hM, hx169, hup170⟩ := hM.back hM2
              dsimp only [List.cons_append, List.nil_append] at hM hup170
              clear hM2
              refine ⟨_, rfl, fun a hf => ?_⟩
              refine q_ hf rfl rfl rfl (e_move hf rfl) fun a hf => ?_
              rcases cond_some h165 with ⟨hc171, h165⟩ | ⟨hc171, h165⟩
              · refine gq (wanted_t hf rfl rfl rfl rfl hc171) hf rfl rfl (e_load1 hf rfl Try.isAgg120 (hM.litCell (k := 6) (j := 0) rfl rfl rfl)) fun a hf => ?_
                refine gq (wanted_t hf rfl rfl rfl rfl hc171) hf rfl rfl (e_loadA hf (us := [vI (y98.Rows), vI (y98.Cols), vS (y98.Cells)]) rfl ⟨Try.isAgg27, Try.sizeOf27⟩ rfl (hM.boxSub (k := 0) (us := [vI (y98.Rows), vI (y98.Cols), vS (y98.Cells)]) (o := 0) rfl rfl)) fun a hf => ?_
                refine gq (wanted_t hf rfl rfl rfl rfl hc171) hf rfl rfl (e_move hf rfl) fun a hf => ?_
                obtain ⟨z172, hz173, h165⟩ := bind_some h165
                refine gq (wanted_t hf rfl rfl rfl rfl hc171) hf rfl rfl (e_add hf rfl rfl hz173) fun a hf => ?_
                have hM := hM.front (k := 6) rfl
                dsimp only [List.eraseIdx] at hM
                have hM := hM.front (k := 6) rfl
                dsimp only [List.eraseIdx] at hM
                have hM := hM.front (k := 6) rfl
                dsimp only [List.eraseIdx] at hM
                have hM := hM.front (k := 6) rfl
                dsimp only [List.eraseIdx] at hM
                have hM : Mem C _ ([.obj y1_ (q1_ sg66), .obj y2_ (q2_ sg66), .obj y3_ (q3_ sg66), .obj y4_ (q4_ sg66)] ++ [.box b148 [vI (y98.Rows), vI (y98.Cols), vS (y98.Cells)] 27, .row strRep A60 c61 9 y58 true, .box b25 [vI (g1.Rows), vI (g1.Cols), vS (g1.Cells)] 27]) _ := hM
                obtain ⟨y174, hz175, h165⟩ := bind_some h165
                refine pl_gl (wanted_t hf rfl rfl rfl rfl hc171) hf rfl rfl (w_callV hf (fk := 99) (fc := [vP b8 (o9), vP b12 (o13), vP b15 (o16), vP b19 (o20)]) rfl Try.call99 rfl (ih ⟨_, Sh C _ _, ownB _, hM.sh_lt, sub_dis, C.G, hM.g_lt, hM.g_own, hM.tabs⟩ y98 hv152 hv153 hv154 z172 (chk_R hz173) p7 _ _ (hM.dat (k := 9) rfl) _ _ p14 _ _ (hM.dat (k := 8) rfl) _ _ yv yl y1_ y2_ y3_ y4_ q1_ q2_ q3_ q4_ hY sg66 (hM.at_ (k := 7) rfl) (hM.at_ (k := 6) rfl) hM.sub sub_dis _ hz175) ?_)
                rintro _ w176 ⟨rfl, hM2⟩
                obtain ⟨hM, hup178⟩ := hM.backG hM2
                dsimp only [List.cons_append, List.nil_append] at hM hup178
                clear hM2
                refine ⟨_, rfl, fun a hf => ?_⟩
                refine gq (wanted_t hf rfl rfl rfl rfl hc171) hf rfl rfl (e_not hf rfl) fun a hf => ?_
                refine q_ hf rfl rfl rfl (e_pick_t hf rfl hc171 rfl) fun a hf => ?_
                refine pl_nil ?_
                obtain rfl := some_inj h165
                refine then_n ?_
                have hM := hM.front (k := 3) rfl
                dsimp only [List.eraseIdx] at hM
                have hM := hM.front (k := 3) rfl
                dsimp only [List.eraseIdx] at hM
                have hM := hM.front (k := 3) rfl
                dsimp only [List.eraseIdx] at hM
                have hM := hM.front (k := 3) rfl
                dsimp only [List.eraseIdx] at hM
                have hM := hM.front (k := 6) rfl
                dsimp only [List.eraseIdx] at hM
                have hM := hM.front (k := 6) rfl
                dsimp only [List.eraseIdx] at hM
                have hM := hM.front (k := 6) rfl
                dsimp only [List.eraseIdx] at hM
                exact ⟨y174.2, (!y174.1), rfl, hf.keep ⟨rfl, rfl, rfl, rfl, rfl, rfl, rfl, rfl, rfl, trivial⟩, hM.pick [0, 1, 2, 3, 4, 5, 6, 7, 8, 9] rfl⟩
              · refine pl_gs (wanted_f hf rfl rfl rfl rfl hc171) hf rfl rfl fun a hf => ?_
                refine pl_gs (wanted_f hf rfl rfl rfl rfl hc171) hf rfl rfl fun a hf => ?_
                refine pl_gs (wanted_f hf rfl rfl rfl rfl hc171) hf rfl rfl fun a hf => ?_
                refine pl_gs (wanted_f hf rfl rfl rfl rfl hc171) hf rfl rfl fun a hf => ?_
                refine pl_gs (wanted_f hf rfl rfl rfl rfl hc171) hf rfl rfl fun a hf => ?_
                refine pl_gs (wanted_f hf rfl rfl rfl rfl hc171) hf rfl rfl fun a hf => ?_
                refine q_ hf rfl rfl rfl (e_pick_f hf rfl hc171 rfl) fun a hf => ?_
                refine pl_nil ?_
                obtain rfl := some_inj h165
                refine then_n ?_
                exact ⟨sg66, false, rfl, hf.keep ⟨rfl, rfl, rfl, rfl, rfl, rfl, rfl, rfl, rfl, trivial⟩, hM.pick [0, 1, 2, 3, 4, 5, 6, 7, 8, 9] rfl⟩
            · rintro a w181 ⟨sg161, t162, rfl, hf, hM⟩
              try dsimp only at h74
              rcases cond_some h74 with ⟨hc182, h74⟩ | ⟨hc182, h74⟩
              · refine cond_t hf rfl hc182 ?_
                refine wp_seq ?_
                refine region_pl ?_
                refine q_ hf rfl rfl rfl (e_assign hf rfl) fun a hf => ?_
                refine pl_nil ?_
                refine then_n ?_
                refine wp_ret ?_
                refine blk_r ?_
                refine then_r ?_
                obtain rfl := some_inj h74
                obtain rfl := hd75 _ rfl
                try dsimp only at h41
                refine then_r ?_
                refine blk_r ?_
                obtain rfl := some_inj h41
                try dsimp only at h
                refine then_r ?_
                obtain rfl := some_inj h
                have hM := hM.front (k := 6) rfl
                dsimp only [List.eraseIdx] at hM
                have hM := hM.front (k := 6) rfl
                dsimp only [List.eraseIdx] at hM
                have hM := hM.front (k := 6) rfl
                dsimp only [List.eraseIdx] at hM
                have hM := hM.front (k := 6) rfl
                dsimp only [List.eraseIdx] at hM
                have hM := hM.outs (own' := [.obj y1_ (q1_ sg161), .obj y2_ (q2_ sg161), .obj y3_ (q3_ sg161), .obj y4_ (q4_ sg161)]) 4 rfl
                exact leave1 hf rfl rfl ⟨rfl, hM.fin⟩
              · refine cond_f hf rfl hc182 ?_
                refine wp_skip ?_
                refine blk_n ?_
                refine then_n ?_
                refine region_pl ?_
                obtain ⟨z183, hz184, h74⟩ := bind_some h74
                refine q_ hf rfl rfl rfl (e_add hf rfl rfl hz184) fun a hf => ?_
                refine q_ hf rfl rfl rfl (e_move hf rfl) fun a hf => ?_
                refine pl_nil ?_
                obtain rfl := some_inj h74
                refine then_n ⟨_, rfl, ?_⟩
                exact ⟨sg161, z183, rfl, hf.keep ⟨rfl, rfl, rfl, rfl, rfl, rfl, rfl, rfl, trivial⟩, (hM.drop (.cons _ (.cons_cons _ (.cons_cons _ (.cons_cons _ (.cons_cons _ (.cons_cons _ (.cons_cons _ .slnil)))))))).pick [1, 2, 3, 4, 5, 6, 7, 8, 9] rfl, (chk_R hz184)⟩
        · refine cond_f hf rfl hc76 ?_
          refine wp_exit ?_
          refine then_x ?_
          obtain rfl := some_inj h74
          obtain rfl := hd75 _ rfl
          try dsimp only at h41
          refine then_x ?_
          refine exit_hit ?_
          obtain rfl := some_inj h41
          refine then_n ?_
          exact ⟨sg66, rfl, hf.keep trivial, (hM.drop (.cons _ (.cons_cons _ (.cons_cons _ (.cons_cons _ (.cons_cons _ (.cons_cons _ .slnil))))))).pick [3, 4, 5, 6, 7, 8] rfl⟩
    · rintro a w191 ⟨sg39, rfl, hf, hM⟩
      try dsimp only at h
      refine wp_seq ?_
      refine region_pl ?_
      refine q_ hf rfl rfl rfl (e_assign hf rfl) fun a hf => ?_
      refine pl_nil ?_
      refine then_n ?_
      refine wp_ret ?_
      obtain rfl := some_inj h
      have hM := hM.front (k := 4) rfl
      dsimp only [List.eraseIdx] at hM
      have hM := hM.front (k := 4) rfl
      dsimp only [List.eraseIdx] at hM
      have hM := hM.front (k := 4) rfl
      dsimp only [List.eraseIdx] at hM
      have hM := hM.front (k := 4) rfl
      dsimp only [List.eraseIdx] at hM
      have hM := hM.outs (own' := [.obj y1_ (q1_ sg39), .obj y2_ (q2_ sg39), .obj y3_ (q3_ sg39), .obj y4_ (q4_ sg39)]) 4 rfl
      exact leave1 hf rfl rfl ⟨rfl, hM.fin⟩

theorem r_impl_Grid_fillings_1_1_n {σ : Type} : ∀ n, Ct_impl_Grid_fillings_1_1 (m_impl_Grid_fillings_1_1_n (σ := σ) n)
  | 0 => fun C g1 hp2 hp3 hp4 k5 hp6 p7 b8 o9 hp10 b12 o13 p14 b15 o16 hp17 b19 o20 yv yl y1_ y2_ y3_ y4_ q1_ q2_ q3_ q4_ hY sg_ hp23 hp24 hO hd r h => by cases h
  | n + 1 => r_impl_Grid_fillings_1_1_b _ (r_impl_Grid_fillings_1_1_n n)

theorem r_impl_Grid_fillings_1_1 {σ : Type} : Ct_impl_Grid_fillings_1_1 (m_impl_Grid_fillings_1_1 (σ := σ)) := r_impl_Grid_fillings_1_1_n fuelN

set_option maxRecDepth 100000 in
set_option maxHeartbeats 4000000 in
theorem r_impl_Grid_fillings_1 {σ : Type} (C : Cx) (p2 : (List Slot)) (b3 : Nat) (o4 : Nat) (hp5 : (ptrRep (sliceRep SlotRep)).R C.w0 C.S0 p2 [vP b3 o4]) (p6 : Lexicon) (b7 : Nat) (o8 : Nat) (hp9 : (ptrRep LexiconRep).R C.w0 C.S0 p6 [vP b7 o8]) (p10 : Grid) (b11 : Nat) (o12 : Nat) (hp13 : (ptrRep GridRep).R C.w0 C.S0 p10 [vP b11 o12]) (yv : (Grid → σ → Option (Bool × σ))) (yl : Nat) (y1_ : Nat) (y2_ : Nat) (y3_ : Nat) (y4_ : Nat) (q1_ : σ → Obj) (q2_ : σ → Obj) (q3_ : σ → Obj) (q4_ : σ → Obj) (hY : YOk Try.prog yl y1_ y2_ y3_ y4_ q1_ q2_ q3_ q4_ yv) (sg_ : σ) (hO : Mem C C.w0 [.obj y1_ (q1_ sg_), .obj y2_ (q2_ sg_), .obj y3_ (q3_ sg_), .obj y4_ (q4_ sg_)] []) (hd : ∀ b, C.S0 b → ¬ ownB [.obj y1_ (q1_ sg_), .obj y2_ (q2_ sg_), .obj y3_ (q3_ sg_), .obj y4_ (q4_ sg_)] b) (r : σ) (h : m_impl_Grid_fillings_1 p2 p6 p10 yv sg_ = some r) :
    Calls Try.prog 98 #[.func (.yield yl) #[] #[], vP b3 (o4), vP b7 (o8), vP b11 (o12)] C.w0 fun e w => e = .returned (.tuple #[]) ∧ Mem C w [.obj y1_ (q1_ r), .obj y2_ (q2_ r), .obj y3_ (q3_ r), .obj y4_ (q4_ r)] [] := by
  have hM := hO
  have hM := hM.addIn hd (y := .dat (ptrRep (sliceRep SlotRep)) p2 [vP b3 o4]) hp5
  have hM := hM.addIn hd (y := .dat (ptrRep LexiconRep) p6 [vP b7 o8]) hp9
  have hM := hM.addIn hd (y := .dat (ptrRep GridRep) p10 [vP b11 o12]) hp13
  refine enter Try.func98 rfl Try.ntmps98 rfl fun a hf => ?_
  unfold m_impl_Grid_fillings_1 at h
  refine wp_seq ?_
  refine region_pl ?_
  refine pl_l hf rfl rfl rfl (w_box hf hM (cs := [.func (.yield yl) #[] #[]]) rfl rfl fun b16 w17 hx18 hM a hf => ?_)
  refine pl_nil ?_
  refine then_n ?_
  refine wp_seq ?_
  refine region_pl ?_
  refine pl_l hf rfl rfl rfl (w_alloc hM (cs := [.nilFunc]) Try.zeroValue120 rfl fun b20 w21 hx22 hM a hf => ?_)
  refine pl_nil ?_
  refine then_n ?_
  refine wp_seq ?_
  refine region_pl ?_
  refine q_ hf rfl rfl rfl (w_makeFunc hf rfl) fun a hf => ?_
  refine pl_0 hf rfl rfl (w_store hf hM (us := [.func (.func 99) #[] #[vP b3 (o4), vP b16 (0), vP b7 (o8), vP b20 (0)]]) (cs' := [.func (.func 99) #[] #[vP b3 (o4), vP b16 (0), vP b7 (o8), vP b20 (0)]]) rfl rfl (k := 0) rfl rfl Try.sizeOf120 rfl rfl rfl fun w24 hM => ?_)
  dsimp only [List.set] at hM
  refine pl_nil ?_
  refine then_n ?_
  refine region_pl ?_
  refine q_ hf rfl rfl rfl (e_load1 hf rfl Try.isAgg120 (hM.boxCell (k := 0) rfl rfl)) fun a hf => ?_
  obtain ⟨_, hr27, hM⟩ := hM.deref (hM.dat (k := 0) rfl)
  obtain ⟨rfl, hv28, hv29, hv30⟩ := GridRep_open hr27
  refine q_ hf rfl rfl rfl (e_loadA hf (us := [vI (p10.Rows), vI (p10.Cols), vS (p10.Cells)]) rfl ⟨Try.isAgg27, Try.sizeOf27⟩ rfl (hM.litSub (k := 0) (d := 0) (us := [vI (p10.Rows), vI (p10.Cols), vS (p10.Cells)]) rfl rfl rfl)) fun a hf => ?_
  have hM := hM.freezeBox (k := 1) rfl rfl
  dsimp only [List.eraseIdx] at hM
  have hM := hM.freezeBox (k := 0) rfl rfl
  dsimp only [List.eraseIdx] at hM
  have hM : Mem C _ ([.obj y1_ (q1_ sg_), .obj y2_ (q2_ sg_), .obj y3_ (q3_ sg_), .obj y4_ (q4_ sg_)] ++ []) _ := hM
  obtain ⟨y31, hz32, h⟩ := bind_some h
  refine pl_l hf rfl rfl rfl (w_callV hf (fk := 99) (fc := [vP b3 (o4), vP b16 (0), vP b7 (o8), vP b20 (0)]) rfl Try.call99 rfl (r_impl_Grid_fillings_1_1 ⟨_, Sh C _ _, ownB _, hM.sh_lt, sub_dis, C.G, hM.g_lt, hM.g_own, hM.tabs⟩ p10 hv28 hv29 hv30 0 (R64_lit rfl) p2 _ _ (hM.dat (k := 5) rfl) _ _ p6 _ _ (hM.dat (k := 4) rfl) _ _ yv yl y1_ y2_ y3_ y4_ q1_ q2_ q3_ q4_ hY sg_ (hM.at_ (k := 1) rfl) (hM.at_ (k := 0) rfl) hM.sub sub_dis _ hz32) ?_)
  rintro _ w33 ⟨rfl, hM2⟩
  obtain ⟨hM, hup35⟩ := hM.backG hM2
  dsimp only [List.cons_append, List.nil_append] at hM hup35
  clear hM2
  refine ⟨_, rfl, fun a hf => ?_⟩
  refine pl_nil ?_
  obtain rfl := some_inj h
  exact leave0n hf rfl ⟨rfl, hM.fin⟩

set_option maxRecDepth 100000 in
/-- The fillings, as a function of the loop's body. -/
theorem r_fillings (C : Cx) (g : Grid) (h1 : R64 g.Rows) (h2 : R64 g.Cols) (h3 : g.Cells.length ≤ maxLen) (l : Lexicon) (A : Option Addr) (c : Nat) (hl : (sliceRep strRep).R C.w0 C.S0 l.Words [vL A l.Words c]) (sl : List Slot) (h : m_impl_Grid_slots g = some sl) :
    Calls Try.prog 73 #[.agg #[vI g.Rows, vI g.Cols, vS g.Cells], .agg #[vL A l.Words c]] C.w0 fun e w => ∃ (b1 b2 b3 : Nat) (A1 : Option Addr) (c1 : Nat), e = .returned (.func (.func 98) #[] #[vP b1 0, vP b2 0, vP b3 0]) ∧ Mem C w [.box b1 [vL A1 sl c1] 30, .box b2 [vL A l.Words c] 45, .box b3 [vI g.Rows, vI g.Cols, vS g.Cells] 27] [] ∧
      (sliceRep SlotRep).R w (Sh C [.box b1 [vL A1 sl c1] 30, .box b2 [vL A l.Words c] 45, .box b3 [vI g.Rows, vI g.Cols, vS g.Cells] 27] w) sl [vL A1 sl c1] ∧
      (sliceRep strRep).R w (Sh C [.box b1 [vL A1 sl c1] 30, .box b2 [vL A l.Words c] 45, .box b3 [vI g.Rows, vI g.Cols, vS g.Cells] 27] w) l.Words [vL A l.Words c] := by
  have hM := Mem.begin C [.dat (sliceRep strRep) l.Words [vL A l.Words c]] ⟨hl, trivial⟩
  refine enter Try.func73 rfl Try.ntmps73 rfl fun a hf => ?_
  refine wp_seq ?_
  refine region_pl ?_
  refine pl_l hf rfl rfl rfl (w_box hf hM (cs := [vI g.Rows, vI g.Cols, vS g.Cells]) rfl rfl fun b3 w1 hx1 hM a hf => ?_)
  refine pl_l hf rfl rfl rfl (w_box hf hM (cs := [vL A l.Words c]) rfl rfl fun b2 w2 hx2 hM a hf => ?_)
  refine q_ hf rfl rfl rfl (e_assign hf rfl) fun a hf => ?_
  refine pl_nil ?_
  refine then_n ?_
  refine wp_seq ?_
  refine region_pl ?_
  refine q_ hf rfl rfl rfl (e_loadA hf (us := [vI g.Rows, vI g.Cols, vS g.Cells]) rfl ⟨Try.isAgg27, Try.sizeOf27⟩ rfl (hM.boxSub (k := 1) (us := [vI g.Rows, vI g.Cols, vS g.Cells]) (o := 0) rfl rfl)) fun a hf => ?_
  refine pl_l hf rfl rfl rfl (w_call hf Try.call55 rfl (r_impl_Grid_slots ⟨_, Sh C _ _, none_, hM.sh_lt, none_not, C.G, hM.g_lt, g_none, hM.tabs⟩ g h1 h2 h3 _ h) ?_)
  rintro _ w3 ⟨A1, c1, rfl, hM2⟩
  obtain ⟨hM, hx3, hup3⟩ := hM.back hM2
  dsimp only [List.cons_append, List.nil_append] at hM hup3
  clear hM2
  refine ⟨_, rfl, fun a hf => ?_⟩
  have hM := hM.freezeRow (k := 0) rfl rfl
  dsimp only [List.eraseIdx] at hM
  refine pl_l hf rfl rfl rfl (w_alloc hM (cs := [.slice none 0 0]) Try.zeroValue30 rfl fun b1 w4 hx4 hM a hf => ?_)
  refine pl_0 hf rfl rfl (w_store hf hM (us := [vL A1 sl c1]) (cs' := [vL A1 sl c1]) rfl rfl (k := 0) rfl rfl Try.sizeOf30 rfl rfl rfl fun w5 hM => ?_)
  dsimp only [List.set] at hM
  refine pl_nil ?_
  refine then_n ?_
  refine wp_seq ?_
  refine region_pl ?_
  refine q_ hf rfl rfl rfl (w_makeFunc hf rfl) fun a hf => ?_
  refine q_ hf rfl rfl rfl (e_assign hf rfl) fun a hf => ?_
  refine pl_nil ?_
  refine then_n ?_
  refine wp_ret ?_
  exact leave1 hf rfl rfl ⟨b1, b2, b3, A1, c1, rfl, hM.fin, hM.dat (k := 0) rfl, hM.dat (k := 1) rfl⟩

def q1First (s : Option Grid) : Obj := .cells (match s with | none => [vI 0, vI 0, vS []] | some x => [vI x.Rows, vI x.Cols, vS x.Cells]).toArray 27 (0, 0)
def q2First (s : Option Grid) : Obj := .cells [Value.bool s.isSome].toArray 4 (0, 0)
def q3First (rec : Loop) (s : Option Grid) : Obj := .loop (match s with | none => rec | some _ => { rec with state := .done, pending := some .ret })
def q4First (_ : Option Grid) : Obj := .deferred (some [])

set_option maxRecDepth 100000 in
set_option maxHeartbeats 4000000 in
theorem r_impl_Grid_first (C : Cx) (g : Grid) (h1 : R64 g.Rows) (h2 : R64 g.Cols) (h3 : g.Cells.length ≤ maxLen) (l : Lexicon) (A : Option Addr) (c : Nat) (hl : (sliceRep strRep).R C.w0 C.S0 l.Words [vL A l.Words c]) (r : Grid × Bool) (h : m_impl_Grid_first g l = some r) :
    Calls Try.prog 74 #[.agg #[vI g.Rows, vI g.Cols, vS g.Cells], .agg #[vL A l.Words c]] C.w0 fun e w => e = .returned (.tuple #[.agg #[vI r.1.Rows, vI r.1.Cols, vS r.1.Cells], .bool r.2]) ∧ Mem C w [] [] ∧ R64 r.1.Rows ∧ R64 r.1.Cols ∧ r.1.Cells.length ≤ maxLen := by
  unfold m_impl_Grid_first at h
  obtain ⟨sl, hsl, h⟩ := bind_some h
  obtain ⟨s, hs, h⟩ := bind_some h
  have hM := Mem.begin C [.dat (sliceRep strRep) l.Words [vL A l.Words c]] ⟨hl, trivial⟩
  refine enterM Try.func74 rfl Try.ntmps74 rfl fun a hf => ?_
  refine wpIn_seq ?_
  refine wpIn_wide.2 ?_
  refine region_pl ?_
  refine pl_l hf rfl rfl rfl (w_box hf hM (cs := [vI g.Rows, vI g.Cols, vS g.Cells]) rfl rfl fun b2 w1 hx1 hM a hf => ?_)
  refine pl_l hf rfl rfl rfl (w_box hf hM (cs := [vL A l.Words c]) rfl rfl fun b3 w2 hx2 hM a hf => ?_)
  refine pl_l hf rfl rfl rfl (w_alloc hM (cs := [vI 0, vI 0, vS []]) Try.zeroValue27 rfl fun b4 w3 hx3 hM a hf => ?_)
  refine pl_l hf rfl rfl rfl (w_alloc hM (cs := [.bool false]) Try.zeroValue4 rfl fun b5 w4 hx4 hM a hf => ?_)
  refine pl_nil ?_
  refine then_n ?_
  refine wpIn_seq ?_
  refine wpIn_seq ?_
  refine wpIn_wide.2 ?_
  refine region_pl ?_
  refine q_ hf rfl rfl rfl (e_loadA hf (us := [vI g.Rows, vI g.Cols, vS g.Cells]) rfl ⟨Try.isAgg27, Try.sizeOf27⟩ rfl (hM.boxSub (k := 3) (us := [vI g.Rows, vI g.Cols, vS g.Cells]) (o := 0) rfl rfl)) fun a hf => ?_
  refine q_ hf rfl rfl rfl (e_loadA hf (us := [vL A l.Words c]) rfl ⟨Try.isAgg45, Try.sizeOf45⟩ rfl (hM.boxSub (k := 2) (us := [vL A l.Words c]) (o := 0) rfl rfl)) fun a hf => ?_
  refine pl_l hf rfl rfl rfl (w_call hf Try.call73 rfl (r_fillings ⟨_, Sh C _ _, none_, hM.sh_lt, none_not, C.G, hM.g_lt, g_none, hM.tabs⟩ g h1 h2 h3 l A c (hM.dat (k := 0) rfl) _ hsl) ?_)
  rintro _ w5 ⟨c1, c2, c3, A1, k1, rfl, hM2, hv1, hv2⟩
  obtain ⟨hM, hx5, hup5⟩ := hM.back hM2
  dsimp only [List.cons_append, List.nil_append] at hM hup5
  clear hM2
  have hM := hM.add (y := .dat (sliceRep SlotRep) sl [vL A1 sl k1]) (hup5 hv1)
  have hM := hM.add (y := .dat (sliceRep strRep) l.Words [vL A l.Words c]) (hup5 hv2)
  refine ⟨_, rfl, fun a hf => ?_⟩
  refine pl_nil ?_
  refine then_n ?_
  have hM := hM.freezeBox (k := 0) rfl rfl
  dsimp only [List.eraseIdx] at hM
  have hM := hM.freezeBox (k := 0) rfl rfl
  dsimp only [List.eraseIdx] at hM
  have hM := hM.freezeBox (k := 0) rfl rfl
  dsimp only [List.eraseIdx] at hM
  refine wpIn_block ?_
  refine range_enter hM (hf.ev rfl) Try.call98 (lb := #[vP c1 0, vP c2 0, vP c3 0]) ?_
  intro fn w6 rec hrec hM
  have hM := hM.toObj (k := 2) rfl
  dsimp only [List.set] at hM
  have hM := hM.toObj (k := 3) rfl
  dsimp only [List.set] at hM
  have hM := hM.front (k := 2) rfl
  dsimp only [List.eraseIdx] at hM
  have hM := hM.front (k := 3) rfl
  dsimp only [List.eraseIdx] at hM
  have hM : Mem C _ ([.obj b4 (q1First none), .obj b5 (q2First none), .obj (w5.heap.size + 1) (q3First rec none), .obj w5.heap.size (q4First none)] ++ [.box b3 [vL A l.Words c] 45, .box b2 [vI g.Rows, vI g.Cols, vS g.Cells] 27]) _ := hM
  have hY : YOk Try.prog (w5.heap.size + 1) b4 b5 (w5.heap.size + 1) w5.heap.size q1First q2First (q3First rec) q4First yvFirst := by
    clear hM
    intro C' x x1 x2 x3 s' hO hd' r' hr
    cases s' with
    | some _ => cases hr
    | none =>
      obtain rfl := some_inj hr
      have hl : C'.w0.heap[w5.heap.size + 1]? = some (.loop rec) := hO.ownAt (k := 2) rfl
      have hfr := round_has hf (t := 10) rfl (.agg #[vI x.Rows, vI x.Cols, vS x.Cells])
      refine ⟨_, _, _, _, run_yield hl (by rw [hrec]; rfl), roundIn_of_wpIn trivial ?_⟩
      have hst : rec.state = .ready := by rw [hrec]
      rw [congrArg Loop.assign hrec, congrArg Loop.body hrec, congrArg Loop.tmps hrec, congrArg Loop.params hrec]
      have hM := hO.toBox (k := 0) (cs := [vI 0, vI 0, vS []]) rfl
      dsimp only [List.set] at hM
      have hM := hM.toBox (k := 1) (cs := [.bool false]) rfl
      dsimp only [List.set] at hM
      refine region_plI (fall_round _) ?_
      refine pD_l (fall_round _) hfr rfl rfl rfl (i_alloc (fall_round _) hM (cs := [vI 0, vI 0, vS []]) Try.zeroValue27 rfl fun b6 w7 hM a hf => ?_)
      refine pD_0 hf rfl rfl (i_store (fall_round _) hf hM (us := [vI x.Rows, vI x.Cols, vS x.Cells]) (cs' := [vI x.Rows, vI x.Cols, vS x.Cells]) rfl rfl (k := 0) rfl rfl Try.sizeOf27 rfl rfl rfl fun w8 hM a hf => ?_)
      dsimp only [List.set] at hM
      refine pD_nil ?_
      refine then_n ?_
      refine ⟨_, run_beginRound (hM.ownAt (k := 3) rfl) hst, ?_⟩
      have hM := hM.putObj (k := 3) rfl (.loop { rec with state := .busy })
      dsimp only [List.set] at hM
      refine wpIn_block ?_
      refine wpIn_seq ?_
      refine region_plI (fall_round _) ?_
      refine pD_q (fall_round _) hf rfl rfl rfl rfl (Ext.refl _) (e_loadA hf.1 (us := [vI x.Rows, vI x.Cols, vS x.Cells]) rfl ⟨Try.isAgg27, Try.sizeOf27⟩ rfl (hM.boxSub (k := 0) (us := [vI x.Rows, vI x.Cols, vS x.Cells]) (o := 0) rfl rfl)) fun a hf => ?_
      refine pD_0 hf rfl rfl (i_store (fall_round _) hf hM (us := [vI x.Rows, vI x.Cols, vS x.Cells]) (cs' := [vI x.Rows, vI x.Cols, vS x.Cells]) rfl rfl (k := 1) rfl rfl Try.sizeOf27 rfl rfl rfl fun w9 hM a hf => ?_)
      dsimp only [List.set] at hM
      refine pD_0 hf rfl rfl (i_store (fall_round _) hf hM (us := [.bool true]) (cs' := [.bool true]) rfl rfl (k := 2) rfl rfl Try.sizeOf4 rfl rfl rfl fun w10 hM a hf => ?_)
      dsimp only [List.set] at hM
      refine pD_nil ?_
      refine then_n ?_
      refine wpIn_ret ?_
      refine blk_r ?_
      refine ⟨_, _, run_endRound (some .ret) (hM.ownAt (k := 3) rfl), rfl, ?_⟩
      have hM := hM.putObj (k := 3) rfl (.loop { rec with state := .done, pending := some .ret })
      dsimp only [List.set] at hM
      have hM := hM.drop (List.sublist_cons_self _ _)
      have hM := hM.toObj (k := 0) rfl
      dsimp only [List.set] at hM
      have hM := hM.toObj (k := 1) rfl
      dsimp only [List.set] at hM
      exact hM
  have hfD := hf.toD
  refine (r_impl_Grid_fillings_1 ⟨_, Sh C _ _, ownB _, hM.sh_lt, sub_dis, C.G, hM.g_lt, hM.g_own, hM.tabs⟩ sl _ _ (hM.litPtr (k := 2) (d := 0) (us := [vL A1 sl k1]) rfl rfl rfl (hM.dat (k := 4) rfl)) l _ _ (hM.litPtr (k := 1) (d := 0) (us := [vL A l.Words c]) rfl rfl rfl (LexiconRep_mk (x := l) (hM.dat (k := 3) rfl))) g _ _ (hM.litPtr (k := 0) (d := 0) (us := [vI g.Rows, vI g.Cols, vS g.Cells]) rfl rfl rfl (GridRep_mk (x := g) h1 h2 h3)) yvFirst _ _ _ _ _ _ _ _ _ hY none hM.sub sub_dis s hs).mono ?_
  rintro _ w11 ⟨rfl, hM2⟩
  obtain ⟨hM, hup11⟩ := hM.backG hM2
  dsimp only [List.cons_append, List.nil_append] at hM hup11
  clear hM2 hup11
  have hst : rec.state = .ready := by rw [hrec]
  have hpe : rec.pending = none := by rw [hrec]
  have hdf : a.defers = [] := hf.defers
  cases s with
  | none =>
    obtain rfl := some_inj h
    refine ⟨_, _, run_endLoop (r := rec) (hM.ownAt (k := 2) rfl) (by rw [hst]; decide), ?_⟩
    have hM := hM.putObj (k := 2) rfl (.loop { rec with state := .exhausted })
    dsimp only [List.set] at hM
    generalize w11.putObj (w5.heap.size + 1) (.loop { rec with state := .exhausted }) = w12 at hM ⊢
    rw [hpe]
    refine blk_n ?_
    refine then_n ?_
    have hM := hM.toBox (k := 0) (cs := [vI 0, vI 0, vS []]) rfl
    dsimp only [List.set] at hM
    have hM := hM.toBox (k := 1) (cs := [.bool false]) rfl
    dsimp only [List.set] at hM
    have hfD := hf.toDs { target := .collected w5.heap.size, args := #[] }
    refine wpIn_seq ?_
    refine region_plI fall_wide ?_
    refine pD_q fall_wide hfD rfl rfl rfl rfl (Ext.refl _) (e_build hfD.1 Try.zeroValue27 Try.underlying27 (bp_27 _ Try.underlying27.symm) rfl (cs := #[vI 0, vI 0, vS []]) (by kernel_rfl)) fun a hf => ?_
    refine pD_0 hf rfl rfl (i_store fall_wide hf (o := 0) (cs := [vI 0, vI 0, vS []]) hM (us := [vI 0, vI 0, vS []]) (cs' := [vI 0, vI 0, vS []]) rfl rfl (k := 0) rfl rfl Try.sizeOf27 rfl rfl rfl fun w12 hM a hf => ?_)
    dsimp only [List.set] at hM
    refine pD_0 hf rfl rfl (i_store fall_wide hf hM (us := [.bool false]) (cs' := [.bool false]) rfl rfl (k := 1) rfl rfl Try.sizeOf4 rfl rfl rfl fun w13 hM a hf => ?_)
    dsimp only [List.set] at hM
    refine pD_nil ?_
    refine then_n ?_
    refine wpIn_ret ?_
    have hK := hM.ownAt (k := 3) rfl
    have hM := hM.putObj (k := 3) rfl (.deferred none)
    dsimp only [List.set] at hM
    have hres := leaveV2 (P := Try.prog) Try.results74 (res_agg hf.1 rfl ⟨Try.isAgg27, Try.sizeOf27⟩ (us := [vI 0, vI 0, vS []]) rfl (hM.boxSub (k := 0) (o := 0) rfl rfl)) (res_one hf.1 rfl Try.isAgg4 (hM.boxCell (k := 1) (o := 0) rfl rfl))
    refine leaveM hf.2 hK hres ?_
    exact ⟨rfl, (hM.outs (own' := []) 0 rfl).fin, R64_lit rfl, R64_lit rfl, lit_len rfl⟩
  | some x =>
    rcases cond_some h with ⟨hc, h⟩ | ⟨hc, h⟩
    case inr => cases h
    obtain rfl := some_inj h
    obtain ⟨hc, hc3⟩ := Bool.and_eq_true_iff.1 hc
    obtain ⟨hc1, hc2⟩ := Bool.and_eq_true_iff.1 hc
    refine ⟨_, _, run_endLoop (r := { rec with state := .done, pending := some .ret }) (hM.ownAt (k := 2) rfl) (by intro h; cases h), ?_⟩
    have hM := hM.putObj (k := 2) rfl (.loop { { rec with state := .done, pending := some .ret } with state := .exhausted })
    dsimp only [List.set] at hM
    generalize w11.putObj (w5.heap.size + 1) (.loop { { rec with state := .done, pending := some .ret } with state := .exhausted }) = w12 at hM ⊢
    have hM := hM.toBox (k := 0) (cs := [vI x.Rows, vI x.Cols, vS x.Cells]) rfl
    dsimp only [List.set] at hM
    have hM := hM.toBox (k := 1) (cs := [.bool true]) rfl
    dsimp only [List.set] at hM
    have hfD := hf.toDs { target := .collected w5.heap.size, args := #[] }
    refine wpIn_ret ?_
    refine blk_r ?_
    refine then_r ?_
    have hK := hM.ownAt (k := 3) rfl
    have hM := hM.putObj (k := 3) rfl (.deferred none)
    dsimp only [List.set] at hM
    have hres := leaveV2 (P := Try.prog) Try.results74 (res_agg hfD.1 rfl ⟨Try.isAgg27, Try.sizeOf27⟩ (us := [vI x.Rows, vI x.Cols, vS x.Cells]) rfl (hM.boxSub (k := 0) (o := 0) rfl rfl)) (res_one hfD.1 rfl Try.isAgg4 (hM.boxCell (k := 1) (o := 0) rfl rfl))
    refine leaveM hfD.2 hK hres ?_
    exact ⟨rfl, (hM.outs (own' := []) 0 rfl).fin, r64_iff.1 hc1, r64_iff.1 hc2, lim_max (of_decide_eq_true hc3)⟩

set_option maxRecDepth 100000 in
set_option maxHeartbeats 4000000 in
theorem r_impl_FillGrid (C : Cx) (g1 : Grid) (hp2 : R64 g1.Rows) (hp3 : R64 g1.Cols) (hp4 : g1.Cells.length ≤ maxLen) (l5 : Lexicon) (A6 : Option Addr) (c7 : Nat) (hp8 : (sliceRep strRep).R C.w0 C.S0 l5.Words [vL A6 l5.Words c7]) (r : (Grid × Int)) (h : m_impl_FillGrid g1 l5 = some r) :
    Calls Try.prog 38 #[.agg #[vI (g1.Rows), vI (g1.Cols), vS (g1.Cells)], .agg #[vL A6 (l5.Words) c7]] C.w0 fun e w => e = .returned (.tuple #[.agg #[vI (r.1.Rows), vI (r.1.Cols), vS (r.1.Cells)], vI (r.2)]) ∧ Mem C w [] [] ∧ R64 r.1.Rows ∧ R64 r.1.Cols ∧ r.1.Cells.length ≤ maxLen ∧ R64 r.2 := by
  have hM := Mem.begin C [.dat (sliceRep strRep) l5.Words [vL A6 l5.Words c7]] ⟨hp8, trivial⟩
  refine enter Try.func38 rfl Try.ntmps38 rfl fun a hf => ?_
  unfold m_impl_FillGrid at h
  refine wp_seq ?_
  refine region_pl ?_
  refine pl_l hf rfl rfl rfl (w_box hf hM (cs := [vI (g1.Rows), vI (g1.Cols), vS (g1.Cells)]) rfl rfl fun b9 w10 hx11 hM a hf => ?_)
  refine pl_l hf rfl rfl rfl (w_box hf hM (cs := [vL A6 (l5.Words) c7]) rfl rfl fun b13 w14 hx15 hM a hf => ?_)
  refine pl_l hf rfl rfl rfl (w_alloc hM (cs := [vI (0), vI (0), vS (([] : Str))]) Try.zeroValue27 rfl fun b17 w18 hx19 hM a hf => ?_)
  refine q_ hf rfl rfl rfl (e_assign hf rfl) fun a hf => ?_
  refine pl_nil ?_
  refine then_n ?_
  refine wp_seq ?_
  obtain ⟨x23, h24, h⟩ := bind_some h
  refine seq_join (fun a w => ∃ (t21 : Bool), t21 = x23 ∧ Has 27 a [(2, vP b9 (0)), (3, vP b13 (0)), (4, vP b17 (0)), (15, .bool (t21))] ∧ Mem C w [.box b17 [vI (0), vI (0), vS (([] : Str))] 27, .box b13 [vL A6 (l5.Words) c7] 45, .box b9 [vI (g1.Rows), vI (g1.Cols), vS (g1.Cells)] 27] [.dat (sliceRep strRep) l5.Words [vL A6 l5.Words c7]]) ?_ ?_
  · refine region_pl ?_
    refine q_ hf rfl rfl rfl (e_loadA hf (us := [vI (g1.Rows), vI (g1.Cols), vS (g1.Cells)]) rfl ⟨Try.isAgg27, Try.sizeOf27⟩ rfl (hM.boxSub (k := 2) (us := [vI (g1.Rows), vI (g1.Cols), vS (g1.Cells)]) (o := 0) rfl rfl)) fun a hf => ?_
    obtain ⟨y25, hz26, h24⟩ := bind_some h24
    refine pl_l hf rfl rfl rfl (w_call hf Try.call46 rfl (r_impl_ValidGrid ⟨_, Sh C _ _, none_, hM.sh_lt, none_not, C.G, hM.g_lt, g_none, hM.tabs⟩ g1 hp2 hp3 hp4 _ hz26) ?_)
    rintro _ w27 ⟨rfl, hM2⟩
    obtain ⟨hM, hx28, hup29⟩ := hM.back hM2
    dsimp only [List.cons_append, List.nil_append] at hM hup29
    clear hM2
    refine ⟨_, rfl, fun a hf => ?_⟩
    refine q_ hf rfl rfl rfl (e_not hf rfl) fun a hf => ?_
    refine q_ hf rfl rfl rfl (e_move hf rfl) fun a hf => ?_
    rcases cond_some h24 with ⟨hc30, h24⟩ | ⟨hc30, h24⟩
    · refine pl_gs (wanted_f hf rfl rfl rfl rfl hc30) hf rfl rfl fun a hf => ?_
      refine pl_gs (wanted_f hf rfl rfl rfl rfl hc30) hf rfl rfl fun a hf => ?_
      refine pl_gs (wanted_f hf rfl rfl rfl rfl hc30) hf rfl rfl fun a hf => ?_
      refine q_ hf rfl rfl rfl (e_pick_t hf rfl hc30 rfl) fun a hf => ?_
      refine pl_nil ?_
      obtain rfl := some_inj h24
      refine then_n ?_
      exact ⟨true, rfl, hf.keep ⟨rfl, rfl, rfl, rfl, trivial⟩, hM.pick [0] rfl⟩
    · refine gq (wanted_t hf rfl rfl rfl rfl hc30) hf rfl rfl (e_loadA hf (us := [vL A6 (l5.Words) c7]) rfl ⟨Try.isAgg45, Try.sizeOf45⟩ rfl (hM.boxSub (k := 1) (us := [vL A6 (l5.Words) c7]) (o := 0) rfl rfl)) fun a hf => ?_
      obtain ⟨y32, hz33, h24⟩ := bind_some h24
      refine pl_gl (wanted_t hf rfl rfl rfl rfl hc30) hf rfl rfl (w_call hf Try.call67 rfl (r_impl_ValidLexicon ⟨_, Sh C _ _, none_, hM.sh_lt, none_not, C.G, hM.g_lt, g_none, hM.tabs⟩ l5 _ _ (hM.dat (k := 0) rfl) _ hz33) ?_)
      rintro _ w34 ⟨rfl, hM2⟩
      obtain ⟨hM, hx35, hup36⟩ := hM.back hM2
      dsimp only [List.cons_append, List.nil_append] at hM hup36
      clear hM2
      refine ⟨_, rfl, fun a hf => ?_⟩
      refine gq (wanted_t hf rfl rfl rfl rfl hc30) hf rfl rfl (e_not hf rfl) fun a hf => ?_
      refine q_ hf rfl rfl rfl (e_pick_f hf rfl hc30 rfl) fun a hf => ?_
      refine pl_nil ?_
      obtain rfl := some_inj h24
      refine then_n ?_
      exact ⟨(!y32), rfl, hf.keep ⟨rfl, rfl, rfl, rfl, trivial⟩, hM.pick [0] rfl⟩
  · rintro a w38 ⟨t21, rfl, hf, hM⟩
    try dsimp only at h
    rcases cond_some h with ⟨hc39, h⟩ | ⟨hc39, h⟩
    · refine cond_t hf rfl hc39 ?_
      refine wp_seq ?_
      refine region_pl ?_
      refine q_ hf rfl rfl rfl (e_build hf Try.zeroValue27 Try.underlying27 (bp_27 _ Try.underlying27.symm) rfl (cs := #[vI (0), vI (0), vS (([] : Str))]) (by kernel_rfl)) fun a hf => ?_
      refine pl_0 hf rfl rfl (w_store hf hM (us := [vI (0), vI (0), vS (([] : Str))]) (cs' := [vI (0), vI (0), vS (([] : Str))]) rfl rfl (k := 0) rfl rfl Try.sizeOf27 rfl rfl rfl fun w40 hM => ?_)
      dsimp only [List.set] at hM
      refine q_ hf rfl rfl rfl (e_assign hf rfl) fun a hf => ?_
      refine pl_nil ?_
      refine then_n ?_
      refine wp_ret ?_
      refine then_r ?_
      obtain rfl := some_inj h
      have hres43 := leaveV2 (P := Try.prog) Try.results38 (res_agg hf rfl ⟨Try.isAgg27, Try.sizeOf27⟩ (us := [vI (0), vI (0), vS (([] : Str))]) rfl (hM.boxSub (k := 0) (o := 0) rfl rfl)) (res_tmp hf rfl)
      have hM := hM.outs (own' := []) 0 rfl
      exact bodyPost_ret hres43 hf.defers ⟨rfl, hM.fin, (R64_lit rfl), (R64_lit rfl), (lit_len rfl), (R64_lit rfl)⟩
    · refine cond_f hf rfl hc39 ?_
      refine wp_skip ?_
      refine then_n ?_
      refine wp_seq ?_
      refine region_pl ?_
      refine q_ hf rfl rfl rfl (e_loadA hf (us := [vI (g1.Rows), vI (g1.Cols), vS (g1.Cells)]) rfl ⟨Try.isAgg27, Try.sizeOf27⟩ rfl (hM.boxSub (k := 2) (us := [vI (g1.Rows), vI (g1.Cols), vS (g1.Cells)]) (o := 0) rfl rfl)) fun a hf => ?_
      refine q_ hf rfl rfl rfl (e_loadA hf (us := [vL A6 (l5.Words) c7]) rfl ⟨Try.isAgg45, Try.sizeOf45⟩ rfl (hM.boxSub (k := 1) (us := [vL A6 (l5.Words) c7]) (o := 0) rfl rfl)) fun a hf => ?_
      obtain ⟨y44, hz45, h⟩ := bind_some h
      refine pl_l hf rfl rfl rfl (w_call hf Try.call74 rfl (r_impl_Grid_first ⟨_, Sh C _ _, none_, hM.sh_lt, none_not, C.G, hM.g_lt, g_none, hM.tabs⟩ g1 hp2 hp3 hp4 l5 _ _ (hM.dat (k := 0) rfl) _ hz45) ?_)
      rintro _ w49 ⟨rfl, hM2, hv46, hv47, hv48⟩
      obtain ⟨hM, hx50, hup51⟩ := hM.back hM2
      dsimp only [List.cons_append, List.nil_append] at hM hup51
      clear hM2
      refine ⟨_, rfl, fun a hf => ?_⟩
      refine q_ hf rfl rfl rfl (e_move hf rfl) fun a hf => ?_
      refine q_ hf rfl rfl rfl (e_extract hf rfl rfl) fun a hf => ?_
      refine q_ hf rfl rfl rfl (e_extract hf rfl rfl) fun a hf => ?_
      refine pl_l hf rfl rfl rfl (w_alloc hM (cs := [vI (0), vI (0), vS (([] : Str))]) Try.zeroValue27 rfl fun b52 w53 hx54 hM a hf => ?_)
      refine pl_0 hf rfl rfl (w_store hf hM (us := [vI (y44.1.Rows), vI (y44.1.Cols), vS (y44.1.Cells)]) (cs' := [vI (y44.1.Rows), vI (y44.1.Cols), vS (y44.1.Cells)]) rfl rfl (k := 0) rfl rfl Try.sizeOf27 rfl rfl rfl fun w56 hM => ?_)
      dsimp only [List.set] at hM
      refine q_ hf rfl rfl rfl (e_assign hf rfl) fun a hf => ?_
      refine pl_nil ?_
      refine then_n ?_
      refine wp_seq ?_
      refine wp_seq ?_
      refine region_pl ?_
      refine q_ hf rfl rfl rfl (e_move hf rfl) fun a hf => ?_
      refine q_ hf rfl rfl rfl (e_not hf rfl) fun a hf => ?_
      refine pl_nil ?_
      refine then_n ?_
      rcases cond_some h with ⟨hc59, h⟩ | ⟨hc59, h⟩
      · refine cond_t hf rfl hc59 ?_
        refine wp_seq ?_
        refine region_pl ?_
        refine q_ hf rfl rfl rfl (e_build hf Try.zeroValue27 Try.underlying27 (bp_27 _ Try.underlying27.symm) rfl (cs := #[vI (0), vI (0), vS (([] : Str))]) (by kernel_rfl)) fun a hf => ?_
        refine pl_0 hf rfl rfl (w_store hf hM (us := [vI (0), vI (0), vS (([] : Str))]) (cs' := [vI (0), vI (0), vS (([] : Str))]) rfl rfl (k := 1) rfl rfl Try.sizeOf27 rfl rfl rfl fun w60 hM => ?_)
        dsimp only [List.set] at hM
        refine q_ hf rfl rfl rfl (e_assign hf rfl) fun a hf => ?_
        refine pl_nil ?_
        refine then_n ?_
        refine wp_ret ?_
        refine then_r ?_
        obtain rfl := some_inj h
        have hres63 := leaveV2 (P := Try.prog) Try.results38 (res_agg hf rfl ⟨Try.isAgg27, Try.sizeOf27⟩ (us := [vI (0), vI (0), vS (([] : Str))]) rfl (hM.boxSub (k := 1) (o := 0) rfl rfl)) (res_tmp hf rfl)
        have hM := hM.outs (own' := []) 0 rfl
        exact bodyPost_ret hres63 hf.defers ⟨rfl, hM.fin, (R64_lit rfl), (R64_lit rfl), (lit_len rfl), (R64_lit rfl)⟩
      · refine cond_f hf rfl hc59 ?_
        refine wp_skip ?_
        refine then_n ?_
        refine wp_seq ?_
        refine region_pl ?_
        refine q_ hf rfl rfl rfl (e_loadA hf (us := [vI (y44.1.Rows), vI (y44.1.Cols), vS (y44.1.Cells)]) rfl ⟨Try.isAgg27, Try.sizeOf27⟩ rfl (hM.boxSub (k := 0) (us := [vI (y44.1.Rows), vI (y44.1.Cols), vS (y44.1.Cells)]) (o := 0) rfl rfl)) fun a hf => ?_
        refine pl_0 hf rfl rfl (w_store hf hM (us := [vI (y44.1.Rows), vI (y44.1.Cols), vS (y44.1.Cells)]) (cs' := [vI (y44.1.Rows), vI (y44.1.Cols), vS (y44.1.Cells)]) rfl rfl (k := 1) rfl rfl Try.sizeOf27 rfl rfl rfl fun w64 hM => ?_)
        dsimp only [List.set] at hM
        refine q_ hf rfl rfl rfl (e_assign hf rfl) fun a hf => ?_
        refine pl_nil ?_
        refine then_n ?_
        refine wp_ret ?_
        obtain rfl := some_inj h
        have hres67 := leaveV2 (P := Try.prog) Try.results38 (res_agg hf rfl ⟨Try.isAgg27, Try.sizeOf27⟩ (us := [vI (y44.1.Rows), vI (y44.1.Cols), vS (y44.1.Cells)]) rfl (hM.boxSub (k := 1) (o := 0) rfl rfl)) (res_tmp hf rfl)
        have hM := hM.outs (own' := []) 0 rfl
        exact bodyPost_ret hres67 hf.defers ⟨rfl, hM.fin, hv46, hv47, hv48, (R64_lit rfl)⟩

set_option maxRecDepth 100000 in
set_option maxHeartbeats 4000000 in
theorem r_spec_l00In (C : Cx) (n1 : Int) (hp2 : R64 n1) (low3 : Int) (hp4 : R64 low3) (high5 : Int) (hp6 : R64 high5) (r : Bool) (h : m_spec_l00In n1 low3 high5 = some r) :
    Calls Try.prog 82 #[vI (n1), vI (low3), vI (high5)] C.w0 fun e w => e = .returned (.bool (r)) ∧ Mem C w [] [] := by
  have hM := Mem.begin C [] trivial
  refine enter Try.func82 rfl Try.ntmps82 rfl fun a hf => ?_
  unfold m_spec_l00In at h
  refine wp_seq ?_
  refine region_pl ?_
  refine q_ hf rfl rfl rfl (e_assign hf rfl) fun a hf => ?_
  refine pl_nil ?_
  refine then_n ?_
  obtain ⟨x9, h10, h⟩ := bind_some h
  refine seq_join (fun a w => ∃ (t7 : Bool), t7 = x9 ∧ Has 15 a [(6, .bool (t7))] ∧ Mem C w [] []) ?_ ?_
  · refine region_pl ?_
    refine q_ hf rfl rfl rfl (e_move hf rfl) fun a hf => ?_
    refine q_ hf rfl rfl rfl (e_move hf rfl) fun a hf => ?_
    refine q_ hf rfl rfl rfl (e_ge hf (x := n1) (y := low3) rfl rfl) fun a hf => ?_
    refine q_ hf rfl rfl rfl (e_move hf rfl) fun a hf => ?_
    rcases cond_some h10 with ⟨hc11, h10⟩ | ⟨hc11, h10⟩
    · refine gq (wanted_t hf rfl rfl rfl rfl hc11) hf rfl rfl (e_move hf rfl) fun a hf => ?_
      refine gq (wanted_t hf rfl rfl rfl rfl hc11) hf rfl rfl (e_move hf rfl) fun a hf => ?_
      refine gq (wanted_t hf rfl rfl rfl rfl hc11) hf rfl rfl (e_le hf (x := n1) (y := high5) rfl rfl) fun a hf => ?_
      refine q_ hf rfl rfl rfl (e_pick_t hf rfl hc11 rfl) fun a hf => ?_
      refine q_ hf rfl rfl rfl (e_assign hf rfl) fun a hf => ?_
      refine pl_nil ?_
      obtain rfl := some_inj h10
      refine then_n ?_
      exact ⟨(decide (n1 ≤ high5)), rfl, hf.keep ⟨rfl, trivial⟩, hM.pick [] rfl⟩
    · refine pl_gs (wanted_f hf rfl rfl rfl rfl hc11) hf rfl rfl fun a hf => ?_
      refine pl_gs (wanted_f hf rfl rfl rfl rfl hc11) hf rfl rfl fun a hf => ?_
      refine pl_gs (wanted_f hf rfl rfl rfl rfl hc11) hf rfl rfl fun a hf => ?_
      refine q_ hf rfl rfl rfl (e_pick_f hf rfl hc11 rfl) fun a hf => ?_
      refine q_ hf rfl rfl rfl (e_assign hf rfl) fun a hf => ?_
      refine pl_nil ?_
      obtain rfl := some_inj h10
      refine then_n ?_
      exact ⟨false, rfl, hf.keep ⟨rfl, trivial⟩, hM.pick [] rfl⟩
  · rintro a w14 ⟨t7, rfl, hf, hM⟩
    try dsimp only at h
    refine wp_ret ?_
    obtain rfl := some_inj h
    exact leave1 hf rfl rfl ⟨rfl, hM.fin⟩

set_option maxRecDepth 100000 in
set_option maxHeartbeats 4000000 in
theorem r_spec_l01Small (C : Cx) (c1 : UInt8) (r : Bool) (h : m_spec_l01Small c1 = some r) :
    Calls Try.prog 87 #[vB (c1)] C.w0 fun e w => e = .returned (.bool (r)) ∧ Mem C w [] [] := by
  have hM := Mem.begin C [] trivial
  refine enter Try.func87 rfl Try.ntmps87 rfl fun a hf => ?_
  unfold m_spec_l01Small at h
  refine wp_seq ?_
  refine region_pl ?_
  refine q_ hf rfl rfl rfl (e_assign hf rfl) fun a hf => ?_
  refine pl_nil ?_
  refine then_n ?_
  obtain ⟨x4, h5, h⟩ := bind_some h
  refine seq_join (fun a w => ∃ (t2 : Bool), t2 = x4 ∧ Has 9 a [(2, .bool (t2))] ∧ Mem C w [] []) ?_ ?_
  · refine region_pl ?_
    refine q_ hf rfl rfl rfl (e_move hf rfl) fun a hf => ?_
    refine q_ hf rfl rfl rfl (e_geB hf (x := c1) (y := 97) rfl rfl) fun a hf => ?_
    refine q_ hf rfl rfl rfl (e_move hf rfl) fun a hf => ?_
    rcases cond_some h5 with ⟨hc6, h5⟩ | ⟨hc6, h5⟩
    · refine gq (wanted_t hf rfl rfl rfl rfl hc6) hf rfl rfl (e_move hf rfl) fun a hf => ?_
      refine gq (wanted_t hf rfl rfl rfl rfl hc6) hf rfl rfl (e_leB hf (x := c1) (y := 122) rfl rfl) fun a hf => ?_
      refine q_ hf rfl rfl rfl (e_pick_t hf rfl hc6 rfl) fun a hf => ?_
      refine q_ hf rfl rfl rfl (e_assign hf rfl) fun a hf => ?_
      refine pl_nil ?_
      obtain rfl := some_inj h5
      refine then_n ?_
      exact ⟨(decide (c1 ≤ 122)), rfl, hf.keep ⟨rfl, trivial⟩, hM.pick [] rfl⟩
    · refine pl_gs (wanted_f hf rfl rfl rfl rfl hc6) hf rfl rfl fun a hf => ?_
      refine pl_gs (wanted_f hf rfl rfl rfl rfl hc6) hf rfl rfl fun a hf => ?_
      refine q_ hf rfl rfl rfl (e_pick_f hf rfl hc6 rfl) fun a hf => ?_
      refine q_ hf rfl rfl rfl (e_assign hf rfl) fun a hf => ?_
      refine pl_nil ?_
      obtain rfl := some_inj h5
      refine then_n ?_
      exact ⟨false, rfl, hf.keep ⟨rfl, trivial⟩, hM.pick [] rfl⟩
  · rintro a w9 ⟨t2, rfl, hf, hM⟩
    try dsimp only at h
    refine wp_ret ?_
    obtain rfl := some_inj h
    exact leave1 hf rfl rfl ⟨rfl, hM.fin⟩

set_option maxRecDepth 100000 in
set_option maxHeartbeats 4000000 in
theorem r_spec_l25Ok (C : Cx) (g1 : Grid) (b2 : Nat) (o3 : Nat) (hp4 : (ptrRep GridRep).R C.w0 C.S0 g1 [vP b2 o3]) (r : Bool) (h : m_spec_l25Ok g1 = some r) :
    Calls Try.prog 54 #[vP b2 (o3)] C.w0 fun e w => e = .returned (.bool (r)) ∧ Mem C w [] [] := by
  have hM := Mem.begin C [.dat (ptrRep GridRep) g1 [vP b2 o3]] ⟨hp4, trivial⟩
  refine enter Try.func54 rfl Try.ntmps54 rfl fun a hf => ?_
  unfold m_spec_l25Ok at h
  refine wp_seq ?_
  refine region_pl ?_
  refine q_ hf rfl rfl rfl (e_assign hf rfl) fun a hf => ?_
  refine pl_nil ?_
  refine then_n ?_
  refine wp_seq ?_
  obtain ⟨x7, h8, h⟩ := bind_some h
  refine seq_join (fun a w => ∃ (t5 : Bool), t5 = x7 ∧ Has 70 a [(0, vP b2 (o3)), (34, .bool (t5))] ∧ Mem C w [] [.dat (ptrRep GridRep) g1 [vP b2 o3]]) ?_ ?_
  · obtain ⟨w9, hw⟩ : ∃ x, x = C.w0.drew := ⟨_, rfl⟩
    refine region_pi (.q 0 (.q 1 (.q 2 (.q 3 (.l 4 (.q 5 (.q 6 (.q 7 (.q 8 (.q 9 (.q 10 (.l 11 (.q 12 (.q 13 (.q 14 (.q 15 (.q 16 (.q 17 (.q 18 (.q 19 (.q 20 (.q 21 (.q 22 (.q 23 (.q 24 (.q 25 (.q 26 (.q 27 (.q 28 (.q 29 (.q 30 (.nil)))))))))))))))))))))))))))))))) (Ext w9) rfl (by kernel_rfl) ?_
    have hM := hM.drew
    rw [← hw] at hM ⊢
    clear hw
    refine pi_q hf rfl rfl rfl rfl (Ext.refl _) (e_move hf rfl) fun a hf => ?_
    refine pi_q hf rfl rfl rfl rfl (Ext.refl _) (e_nil hf rfl) fun a hf => ?_
    obtain ⟨_, hr10, hM⟩ := hM.deref (hM.dat (k := 0) rfl)
    obtain ⟨rfl, hv11, hv12, hv13⟩ := GridRep_open hr10
    refine pi_q hf rfl rfl rfl rfl (Ext.refl _) (e_field hf rfl Try.underlying27 rfl Try.sizeOf2 (o' := o3 + 0) rfl) fun a hf => ?_
    refine pi_q hf rfl rfl rfl rfl (Ext.refl _) (e_load1 hf rfl Try.isAgg2 (hM.litCell (k := 0) (j := 0) rfl rfl rfl)) fun a hf => ?_
    refine pi_one ?_
    obtain ⟨y14, hz15, h8⟩ := bind_some h8
    refine pi_l hf rfl rfl rfl rfl (w_call hf Try.call82 rfl (r_spec_l00In ⟨_, Sh C _ _, none_, hM.sh_lt, none_not, C.G, hM.g_lt, g_none, hM.tabs⟩ g1.Rows hv11 1 (R64_lit rfl) 5 (R64_lit rfl) _ hz15) ?_)
    rintro _ w16 ⟨rfl, hM2⟩
    obtain ⟨hM, hx17, hup18⟩ := hM.back hM2
    dsimp only [List.cons_append, List.nil_append] at hM hup18
    clear hM2
    refine ⟨_, rfl, Ext w16, fun _ h => Ext.trans hx17 h, Ext.refl _, fun a hf => ?_⟩
    refine pi_q hf rfl rfl rfl rfl (Ext.refl _) (e_not hf rfl) fun a hf => ?_
    refine pi_q hf rfl rfl rfl rfl (Ext.refl _) (e_move hf rfl) fun a hf => ?_
    rcases cond_some h8 with ⟨hc19, h8⟩ | ⟨hc19, h8⟩
    · refine pi_gs hf rfl (wanted_f hf rfl rfl rfl rfl hc19) rfl rfl (Ext.refl _) fun a hf => ?_
      refine pi_gs hf rfl (wanted_f hf rfl rfl rfl rfl hc19) rfl rfl (Ext.refl _) fun a hf => ?_
      refine pi_gs hf rfl (wanted_f hf rfl rfl rfl rfl hc19) rfl rfl (Ext.refl _) fun a hf => ?_
      refine pi_gs hf rfl (wanted_f hf rfl rfl rfl rfl hc19) rfl rfl (Ext.refl _) fun a hf => ?_
      refine pi_one ?_
      refine pi_ls hf rfl (wanted_f hf rfl rfl rfl rfl hc19) rfl rfl (Ext.refl _) fun a hf => ?_
      refine pi_gs hf rfl (wanted_f hf rfl rfl rfl rfl hc19) rfl rfl (Ext.refl _) fun a hf => ?_
      refine pi_q hf rfl rfl rfl rfl (Ext.refl _) (e_pick_t hf rfl hc19 rfl) fun a hf => ?_
      refine pi_q hf rfl rfl rfl rfl (Ext.refl _) (e_move hf rfl) fun a hf => ?_
      refine pi_gs hf rfl (wanted_f hf rfl rfl rfl rfl rfl) rfl rfl (Ext.refl _) fun a hf => ?_
      refine pi_gs hf rfl (wanted_f hf rfl rfl rfl rfl rfl) rfl rfl (Ext.refl _) fun a hf => ?_
      refine pi_gs hf rfl (wanted_f hf rfl rfl rfl rfl rfl) rfl rfl (Ext.refl _) fun a hf => ?_
      refine pi_gs hf rfl (wanted_f hf rfl rfl rfl rfl rfl) rfl rfl (Ext.refl _) fun a hf => ?_
      refine pi_gs hf rfl (wanted_f hf rfl rfl rfl rfl rfl) rfl rfl (Ext.refl _) fun a hf => ?_
      refine pi_gs hf rfl (wanted_f hf rfl rfl rfl rfl rfl) rfl rfl (Ext.refl _) fun a hf => ?_
      refine pi_gs hf rfl (wanted_f hf rfl rfl rfl rfl rfl) rfl rfl (Ext.refl _) fun a hf => ?_
      refine pi_gs hf rfl (wanted_f hf rfl rfl rfl rfl rfl) rfl rfl (Ext.refl _) fun a hf => ?_
      refine pi_gs hf rfl (wanted_f hf rfl rfl rfl rfl rfl) rfl rfl (Ext.refl _) fun a hf => ?_
      refine pi_gs hf rfl (wanted_f hf rfl rfl rfl rfl rfl) rfl rfl (Ext.refl _) fun a hf => ?_
      refine pi_gs hf rfl (wanted_f hf rfl rfl rfl rfl rfl) rfl rfl (Ext.refl _) fun a hf => ?_
      refine pi_gs hf rfl (wanted_f hf rfl rfl rfl rfl rfl) rfl rfl (Ext.refl _) fun a hf => ?_
      refine pi_gs hf rfl (wanted_f hf rfl rfl rfl rfl rfl) rfl rfl (Ext.refl _) fun a hf => ?_
      refine pi_gs hf rfl (wanted_f hf rfl rfl rfl rfl rfl) rfl rfl (Ext.refl _) fun a hf => ?_
      refine pi_gs hf rfl (wanted_f hf rfl rfl rfl rfl rfl) rfl rfl (Ext.refl _) fun a hf => ?_
      refine pi_q hf rfl rfl rfl rfl (Ext.refl _) (e_pick_t hf rfl rfl rfl) fun a hf => ?_
      refine pi_nil ?_
      obtain rfl := some_inj h8
      refine then_n ?_
      exact ⟨true, rfl, hf.keep ⟨rfl, rfl, trivial⟩, hM.pick [1] rfl⟩
    · refine pi_gq hf rfl (wanted_t hf rfl rfl rfl rfl hc19) rfl rfl (Ext.refl _) (e_move hf rfl) fun a hf => ?_
      refine pi_gq hf rfl (wanted_t hf rfl rfl rfl rfl hc19) rfl rfl (Ext.refl _) (e_nil hf rfl) fun a hf => ?_
      refine pi_gq hf rfl (wanted_t hf rfl rfl rfl rfl hc19) rfl rfl (Ext.refl _) (e_field hf rfl Try.underlying27 rfl Try.sizeOf2 (o' := o3 + 1) rfl) fun a hf => ?_
      refine pi_gq hf rfl (wanted_t hf rfl rfl rfl rfl hc19) rfl rfl (Ext.refl _) (e_load1 hf rfl Try.isAgg2 (hM.litCell (k := 0) (j := 1) rfl rfl rfl)) fun a hf => ?_
      refine pi_one ?_
      obtain ⟨y21, hz22, h8⟩ := bind_some h8
      refine pi_gl hf rfl (wanted_t hf rfl rfl rfl rfl hc19) rfl rfl (w_call hf Try.call82 rfl (r_spec_l00In ⟨_, Sh C _ _, none_, hM.sh_lt, none_not, C.G, hM.g_lt, g_none, hM.tabs⟩ g1.Cols hv12 1 (R64_lit rfl) 5 (R64_lit rfl) _ hz22) ?_)
      rintro _ w23 ⟨rfl, hM2⟩
      obtain ⟨hM, hx24, hup25⟩ := hM.back hM2
      dsimp only [List.cons_append, List.nil_append] at hM hup25
      clear hM2
      refine ⟨_, rfl, Ext w23, fun _ h => Ext.trans hx24 h, Ext.refl _, fun a hf => ?_⟩
      refine pi_gq hf rfl (wanted_t hf rfl rfl rfl rfl hc19) rfl rfl (Ext.refl _) (e_not hf rfl) fun a hf => ?_
      refine pi_q hf rfl rfl rfl rfl (Ext.refl _) (e_pick_f hf rfl hc19 rfl) fun a hf => ?_
      refine pi_q hf rfl rfl rfl rfl (Ext.refl _) (e_move hf rfl) fun a hf => ?_
      rcases cond_some h8 with ⟨hc26, h8⟩ | ⟨hc26, h8⟩
      · refine pi_gs hf rfl (wanted_f hf rfl rfl rfl rfl hc26) rfl rfl (Ext.refl _) fun a hf => ?_
        refine pi_gs hf rfl (wanted_f hf rfl rfl rfl rfl hc26) rfl rfl (Ext.refl _) fun a hf => ?_
        refine pi_gs hf rfl (wanted_f hf rfl rfl rfl rfl hc26) rfl rfl (Ext.refl _) fun a hf => ?_
        refine pi_gs hf rfl (wanted_f hf rfl rfl rfl rfl hc26) rfl rfl (Ext.refl _) fun a hf => ?_
        refine pi_gs hf rfl (wanted_f hf rfl rfl rfl rfl hc26) rfl rfl (Ext.refl _) fun a hf => ?_
        refine pi_gs hf rfl (wanted_f hf rfl rfl rfl rfl hc26) rfl rfl (Ext.refl _) fun a hf => ?_
        refine pi_gs hf rfl (wanted_f hf rfl rfl rfl rfl hc26) rfl rfl (Ext.refl _) fun a hf => ?_
        refine pi_gs hf rfl (wanted_f hf rfl rfl rfl rfl hc26) rfl rfl (Ext.refl _) fun a hf => ?_
        refine pi_gs hf rfl (wanted_f hf rfl rfl rfl rfl hc26) rfl rfl (Ext.refl _) fun a hf => ?_
        refine pi_gs hf rfl (wanted_f hf rfl rfl rfl rfl hc26) rfl rfl (Ext.refl _) fun a hf => ?_
        refine pi_gs hf rfl (wanted_f hf rfl rfl rfl rfl hc26) rfl rfl (Ext.refl _) fun a hf => ?_
        refine pi_gs hf rfl (wanted_f hf rfl rfl rfl rfl hc26) rfl rfl (Ext.refl _) fun a hf => ?_
        refine pi_gs hf rfl (wanted_f hf rfl rfl rfl rfl hc26) rfl rfl (Ext.refl _) fun a hf => ?_
        refine pi_gs hf rfl (wanted_f hf rfl rfl rfl rfl hc26) rfl rfl (Ext.refl _) fun a hf => ?_
        refine pi_gs hf rfl (wanted_f hf rfl rfl rfl rfl hc26) rfl rfl (Ext.refl _) fun a hf => ?_
        refine pi_q hf rfl rfl rfl rfl (Ext.refl _) (e_pick_t hf rfl hc26 rfl) fun a hf => ?_
        refine pi_nil ?_
        obtain rfl := some_inj h8
        refine then_n ?_
        exact ⟨true, rfl, hf.keep ⟨rfl, rfl, trivial⟩, hM.pick [1] rfl⟩
      · refine pi_gq hf rfl (wanted_t hf rfl rfl rfl rfl hc26) rfl rfl (Ext.refl _) (e_move hf rfl) fun a hf => ?_
        refine pi_gq hf rfl (wanted_t hf rfl rfl rfl rfl hc26) rfl rfl (Ext.refl _) (e_nil hf rfl) fun a hf => ?_
        refine pi_gq hf rfl (wanted_t hf rfl rfl rfl rfl hc26) rfl rfl (Ext.refl _) (e_field hf rfl Try.underlying27 rfl Try.sizeOf9 (o' := o3 + 2) rfl) fun a hf => ?_
        refine pi_gq hf rfl (wanted_t hf rfl rfl rfl rfl hc26) rfl rfl (Ext.refl _) (e_load1 hf rfl Try.isAgg9 (hM.litCell (k := 0) (j := 2) rfl rfl rfl)) fun a hf => ?_
        refine pi_gq hf rfl (wanted_t hf rfl rfl rfl rfl hc26) rfl rfl (Ext.refl _) (e_lenS hf (x := g1.Cells) rfl Try.underlying9) fun a hf => ?_
        refine pi_gq hf rfl (wanted_t hf rfl rfl rfl rfl hc26) rfl rfl (Ext.refl _) (e_move hf rfl) fun a hf => ?_
        refine pi_gq hf rfl (wanted_t hf rfl rfl rfl rfl hc26) rfl rfl (Ext.refl _) (e_nil hf rfl) fun a hf => ?_
        refine pi_gq hf rfl (wanted_t hf rfl rfl rfl rfl hc26) rfl rfl (Ext.refl _) (e_field hf rfl Try.underlying27 rfl Try.sizeOf2 (o' := o3 + 0) rfl) fun a hf => ?_
        refine pi_gq hf rfl (wanted_t hf rfl rfl rfl rfl hc26) rfl rfl (Ext.refl _) (e_load1 hf rfl Try.isAgg2 (hM.litCell (k := 0) (j := 0) rfl rfl rfl)) fun a hf => ?_
        refine pi_gq hf rfl (wanted_t hf rfl rfl rfl rfl hc26) rfl rfl (Ext.refl _) (e_move hf rfl) fun a hf => ?_
        refine pi_gq hf rfl (wanted_t hf rfl rfl rfl rfl hc26) rfl rfl (Ext.refl _) (e_nil hf rfl) fun a hf => ?_
        refine pi_gq hf rfl (wanted_t hf rfl rfl rfl rfl hc26) rfl rfl (Ext.refl _) (e_field hf rfl Try.underlying27 rfl Try.sizeOf2 (o' := o3 + 1) rfl) fun a hf => ?_
        refine pi_gq hf rfl (wanted_t hf rfl rfl rfl rfl hc26) rfl rfl (Ext.refl _) (e_load1 hf rfl Try.isAgg2 (hM.litCell (k := 0) (j := 1) rfl rfl rfl)) fun a hf => ?_
        obtain ⟨z28, hz29, h8⟩ := bind_some h8
        refine pi_gq hf rfl (wanted_t hf rfl rfl rfl rfl hc26) rfl rfl (Ext.refl _) (e_mul hf rfl rfl hz29) fun a hf => ?_
        refine pi_gq hf rfl (wanted_t hf rfl rfl rfl rfl hc26) rfl rfl (Ext.refl _) (e_ne hf (x := (g1.Cells.length : Int)) (y := z28) rfl rfl) fun a hf => ?_
        refine pi_q hf rfl rfl rfl rfl (Ext.refl _) (e_pick_f hf rfl hc26 rfl) fun a hf => ?_
        refine pi_nil ?_
        obtain rfl := some_inj h8
        refine then_n ?_
        exact ⟨((g1.Cells.length : Int) != z28), rfl, hf.keep ⟨rfl, rfl, trivial⟩, hM.pick [1] rfl⟩
  · rintro a w31 ⟨t5, rfl, hf, hM⟩
    try dsimp only at h
    rcases cond_some h with ⟨hc32, h⟩ | ⟨hc32, h⟩
    · refine cond_t hf rfl hc32 ?_
      refine wp_seq ?_
      refine region_pl ?_
      refine q_ hf rfl rfl rfl (e_assign hf rfl) fun a hf => ?_
      refine pl_nil ?_
      refine then_n ?_
      refine wp_ret ?_
      refine then_r ?_
      obtain rfl := some_inj h
      exact leave1 hf rfl rfl ⟨rfl, hM.fin⟩
    · refine cond_f hf rfl hc32 ?_
      refine wp_skip ?_
      refine then_n ?_
      obtain ⟨x33, h34, h⟩ := bind_some h
      refine seq_join (fun a w => (.inl ()) = x33 ∧ Has 70 a [] ∧ Mem C w [] [.dat (ptrRep GridRep) g1 [vP b2 o3]]) ?_ ?_
      · refine wp_seq ?_
        refine region_pl ?_
        refine q_ hf rfl rfl rfl (e_assign hf rfl) fun a hf => ?_
        refine pl_nil ?_
        refine then_n ?_
        refine wp_block ?_
        obtain ⟨x38, h39, h34⟩ := bind_some h34
        refine wp_loopM h39 (fun s a w => ∃ (n35 : Int), n35 = s ∧ Has 70 a [(0, vP b2 (o3)), (3, vI (n35))] ∧ Mem C w [] [.dat (ptrRep GridRep) g1 [vP b2 o3]] ∧ R64 n35) ?_ ?_
        · exact ⟨0, rfl, hf.keep ⟨rfl, rfl, trivial⟩, hM.pick [0] rfl, (R64_lit rfl)⟩
        · rintro s o40 a w37 ⟨n35, rfl, hf, hM, hv36⟩ h41 hd42
          replace h41 : m_spec_l25Ok_l1 g1 n35 = some o40 := h41
          unfold m_spec_l25Ok_l1 at h41
          refine wp_seq ?_
          refine wp_seq ?_
          refine region_pl ?_
          refine q_ hf rfl rfl rfl (e_move hf rfl) fun a hf => ?_
          refine q_ hf rfl rfl rfl (e_move hf rfl) fun a hf => ?_
          refine q_ hf rfl rfl rfl (e_nil hf rfl) fun a hf => ?_
          obtain ⟨_, hr43, hM⟩ := hM.deref (hM.dat (k := 0) rfl)
          obtain ⟨rfl, hv44, hv45, hv46⟩ := GridRep_open hr43
          refine q_ hf rfl rfl rfl (e_field hf rfl Try.underlying27 rfl Try.sizeOf9 (o' := o3 + 2) rfl) fun a hf => ?_
          refine q_ hf rfl rfl rfl (e_load1 hf rfl Try.isAgg9 (hM.litCell (k := 0) (j := 2) rfl rfl rfl)) fun a hf => ?_
          refine q_ hf rfl rfl rfl (e_lenS hf (x := g1.Cells) rfl Try.underlying9) fun a hf => ?_
          refine q_ hf rfl rfl rfl (e_lt hf (x := n35) (y := (g1.Cells.length : Int)) rfl rfl) fun a hf => ?_
          refine pl_nil ?_
          refine then_n ?_
          rcases cond_some h41 with ⟨hc47, h41⟩ | ⟨hc47, h41⟩
          · refine cond_t hf rfl hc47 ?_
            refine wp_skip ?_
            refine then_n ?_
            refine wp_seq ?_
            refine wp_block ?_
            obtain ⟨x50, h51, h41⟩ := bind_some h41
            refine seq_join (fun a w => ∃ (t48 : Bool), t48 = x50 ∧ Has 70 a [(0, vP b2 (o3)), (3, vI (n35)), (69, .bool (t48))] ∧ Mem C w [] [.lit b2 (o3) [vI (g1.Rows), vI (g1.Cols), vS (g1.Cells)], .dat (ptrRep GridRep) g1 [vP b2 o3]]) ?_ ?_
            · refine region_pl ?_
              refine q_ hf rfl rfl rfl (e_move hf rfl) fun a hf => ?_
              refine q_ hf rfl rfl rfl (e_nil hf rfl) fun a hf => ?_
              refine q_ hf rfl rfl rfl (e_field hf rfl Try.underlying27 rfl Try.sizeOf9 (o' := o3 + 2) rfl) fun a hf => ?_
              refine q_ hf rfl rfl rfl (e_load1 hf rfl Try.isAgg9 (hM.litCell (k := 0) (j := 2) rfl rfl rfl)) fun a hf => ?_
              refine q_ hf rfl rfl rfl (e_move hf rfl) fun a hf => ?_
              obtain ⟨c52, hz53, h51⟩ := bind_some h51
              refine q_ hf rfl rfl rfl (e_indexS hf (x := g1.Cells) rfl rfl Try.underlying9 hz53) fun a hf => ?_
              refine q_ hf rfl rfl rfl (e_neB hf (x := c52) (y := 35) rfl rfl) fun a hf => ?_
              refine q_ hf rfl rfl rfl (e_move hf rfl) fun a hf => ?_
              rcases cond_some h51 with ⟨hc54, h51⟩ | ⟨hc54, h51⟩
              · refine gq (wanted_t hf rfl rfl rfl rfl hc54) hf rfl rfl (e_move hf rfl) fun a hf => ?_
                refine gq (wanted_t hf rfl rfl rfl rfl hc54) hf rfl rfl (e_nil hf rfl) fun a hf => ?_
                refine gq (wanted_t hf rfl rfl rfl rfl hc54) hf rfl rfl (e_field hf rfl Try.underlying27 rfl Try.sizeOf9 (o' := o3 + 2) rfl) fun a hf => ?_
                refine gq (wanted_t hf rfl rfl rfl rfl hc54) hf rfl rfl (e_load1 hf rfl Try.isAgg9 (hM.litCell (k := 0) (j := 2) rfl rfl rfl)) fun a hf => ?_
                refine gq (wanted_t hf rfl rfl rfl rfl hc54) hf rfl rfl (e_move hf rfl) fun a hf => ?_
                obtain ⟨c55, hz56, h51⟩ := bind_some h51
                refine gq (wanted_t hf rfl rfl rfl rfl hc54) hf rfl rfl (e_indexS hf (x := g1.Cells) rfl rfl Try.underlying9 hz56) fun a hf => ?_
                refine gq (wanted_t hf rfl rfl rfl rfl hc54) hf rfl rfl (e_neB hf (x := c55) (y := 46) rfl rfl) fun a hf => ?_
                refine q_ hf rfl rfl rfl (e_pick_t hf rfl hc54 rfl) fun a hf => ?_
                refine q_ hf rfl rfl rfl (e_move hf rfl) fun a hf => ?_
                rcases cond_some h51 with ⟨hc57, h51⟩ | ⟨hc57, h51⟩
                · refine gq (wanted_t hf rfl rfl rfl rfl hc57) hf rfl rfl (e_move hf rfl) fun a hf => ?_
                  refine gq (wanted_t hf rfl rfl rfl rfl hc57) hf rfl rfl (e_nil hf rfl) fun a hf => ?_
                  refine gq (wanted_t hf rfl rfl rfl rfl hc57) hf rfl rfl (e_field hf rfl Try.underlying27 rfl Try.sizeOf9 (o' := o3 + 2) rfl) fun a hf => ?_
                  refine gq (wanted_t hf rfl rfl rfl rfl hc57) hf rfl rfl (e_load1 hf rfl Try.isAgg9 (hM.litCell (k := 0) (j := 2) rfl rfl rfl)) fun a hf => ?_
                  refine gq (wanted_t hf rfl rfl rfl rfl hc57) hf rfl rfl (e_move hf rfl) fun a hf => ?_
                  obtain ⟨c58, hz59, h51⟩ := bind_some h51
                  refine gq (wanted_t hf rfl rfl rfl rfl hc57) hf rfl rfl (e_indexS hf (x := g1.Cells) rfl rfl Try.underlying9 hz59) fun a hf => ?_
                  obtain ⟨y60, hz61, h51⟩ := bind_some h51
                  refine pl_gl (wanted_t hf rfl rfl rfl rfl hc57) hf rfl rfl (w_call hf Try.call87 rfl (r_spec_l01Small ⟨_, Sh C _ _, none_, hM.sh_lt, none_not, C.G, hM.g_lt, g_none, hM.tabs⟩ c58 _ hz61) ?_)
                  rintro _ w62 ⟨rfl, hM2⟩
                  obtain ⟨hM, hx63, hup64⟩ := hM.back hM2
                  dsimp only [List.cons_append, List.nil_append] at hM hup64
                  clear hM2
                  refine ⟨_, rfl, fun a hf => ?_⟩
                  refine gq (wanted_t hf rfl rfl rfl rfl hc57) hf rfl rfl (e_not hf rfl) fun a hf => ?_
                  refine q_ hf rfl rfl rfl (e_pick_t hf rfl hc57 rfl) fun a hf => ?_
                  refine pl_nil ?_
                  obtain rfl := some_inj h51
                  refine then_n ?_
                  exact ⟨(!y60), rfl, hf.keep ⟨rfl, rfl, rfl, trivial⟩, hM.pick [0, 1] rfl⟩
                · refine pl_gs (wanted_f hf rfl rfl rfl rfl hc57) hf rfl rfl fun a hf => ?_
                  refine pl_gs (wanted_f hf rfl rfl rfl rfl hc57) hf rfl rfl fun a hf => ?_
                  refine pl_gs (wanted_f hf rfl rfl rfl rfl hc57) hf rfl rfl fun a hf => ?_
                  refine pl_gs (wanted_f hf rfl rfl rfl rfl hc57) hf rfl rfl fun a hf => ?_
                  refine pl_gs (wanted_f hf rfl rfl rfl rfl hc57) hf rfl rfl fun a hf => ?_
                  refine pl_gs (wanted_f hf rfl rfl rfl rfl hc57) hf rfl rfl fun a hf => ?_
                  refine pl_gs (wanted_f hf rfl rfl rfl rfl hc57) hf rfl rfl fun a hf => ?_
                  refine pl_gs (wanted_f hf rfl rfl rfl rfl hc57) hf rfl rfl fun a hf => ?_
                  refine q_ hf rfl rfl rfl (e_pick_f hf rfl hc57 rfl) fun a hf => ?_
                  refine pl_nil ?_
                  obtain rfl := some_inj h51
                  refine then_n ?_
                  exact ⟨false, rfl, hf.keep ⟨rfl, rfl, rfl, trivial⟩, hM.pick [0, 1] rfl⟩
              · refine pl_gs (wanted_f hf rfl rfl rfl rfl hc54) hf rfl rfl fun a hf => ?_
                refine pl_gs (wanted_f hf rfl rfl rfl rfl hc54) hf rfl rfl fun a hf => ?_
                refine pl_gs (wanted_f hf rfl rfl rfl rfl hc54) hf rfl rfl fun a hf => ?_
                refine pl_gs (wanted_f hf rfl rfl rfl rfl hc54) hf rfl rfl fun a hf => ?_
                refine pl_gs (wanted_f hf rfl rfl rfl rfl hc54) hf rfl rfl fun a hf => ?_
                refine pl_gs (wanted_f hf rfl rfl rfl rfl hc54) hf rfl rfl fun a hf => ?_
                refine pl_gs (wanted_f hf rfl rfl rfl rfl hc54) hf rfl rfl fun a hf => ?_
                refine q_ hf rfl rfl rfl (e_pick_f hf rfl hc54 rfl) fun a hf => ?_
                refine q_ hf rfl rfl rfl (e_move hf rfl) fun a hf => ?_
                refine pl_gs (wanted_f hf rfl rfl rfl rfl rfl) hf rfl rfl fun a hf => ?_
                refine pl_gs (wanted_f hf rfl rfl rfl rfl rfl) hf rfl rfl fun a hf => ?_
                refine pl_gs (wanted_f hf rfl rfl rfl rfl rfl) hf rfl rfl fun a hf => ?_
                refine pl_gs (wanted_f hf rfl rfl rfl rfl rfl) hf rfl rfl fun a hf => ?_
                refine pl_gs (wanted_f hf rfl rfl rfl rfl rfl) hf rfl rfl fun a hf => ?_
                refine pl_gs (wanted_f hf rfl rfl rfl rfl rfl) hf rfl rfl fun a hf => ?_
                refine pl_gs (wanted_f hf rfl rfl rfl rfl rfl) hf rfl rfl fun a hf => ?_
                refine pl_gs (wanted_f hf rfl rfl rfl rfl rfl) hf rfl rfl fun a hf => ?_
                refine q_ hf rfl rfl rfl (e_pick_f hf rfl rfl rfl) fun a hf => ?_
                refine pl_nil ?_
                obtain rfl := some_inj h51
                refine then_n ?_
                exact ⟨false, rfl, hf.keep ⟨rfl, rfl, rfl, trivial⟩, hM.pick [0, 1] rfl⟩
            · rintro a w68 ⟨t48, rfl, hf, hM⟩
              try dsimp only at h41
              rcases cond_some h41 with ⟨hc69, h41⟩ | ⟨hc69, h41⟩
              · refine cond_t hf rfl hc69 ?_
                refine wp_seq ?_
                refine region_pl ?_
                refine q_ hf rfl rfl rfl (e_assign hf rfl) fun a hf => ?_
                refine pl_nil ?_
                refine then_n ?_
                refine wp_ret ?_
                refine blk_r ?_
                refine then_r ?_
                obtain rfl := some_inj h41
                obtain rfl := hd42 _ rfl
                try dsimp only at h34
                refine then_r ?_
                refine blk_r ?_
                obtain rfl := some_inj h34
                try dsimp only at h
                refine then_r ?_
                obtain rfl := some_inj h
                exact leave1 hf rfl rfl ⟨rfl, hM.fin⟩
              · refine cond_f hf rfl hc69 ?_
                refine wp_skip ?_
                refine blk_n ?_
                refine then_n ?_
                refine region_pl ?_
                refine q_ hf rfl rfl rfl (e_move hf rfl) fun a hf => ?_
                obtain ⟨z70, hz71, h41⟩ := bind_some h41
                refine q_ hf rfl rfl rfl (e_add hf rfl rfl hz71) fun a hf => ?_
                refine q_ hf rfl rfl rfl (e_assign hf rfl) fun a hf => ?_
                refine pl_nil ?_
                obtain rfl := some_inj h41
                refine then_n ⟨_, rfl, ?_⟩
                exact ⟨z70, rfl, hf.keep ⟨rfl, rfl, trivial⟩, hM.pick [1] rfl, (chk_R hz71)⟩
          · refine cond_f hf rfl hc47 ?_
            refine wp_exit ?_
            refine then_x ?_
            obtain rfl := some_inj h41
            obtain rfl := hd42 _ rfl
            try dsimp only at h34
            refine then_x ?_
            refine exit_hit ?_
            obtain rfl := some_inj h34
            refine then_n ?_
            exact ⟨rfl, hf.keep trivial, hM.pick [1] rfl⟩
      · rintro a w78 ⟨rfl, hf, hM⟩
        try dsimp only at h
        refine wp_seq ?_
        refine region_pl ?_
        refine q_ hf rfl rfl rfl (e_assign hf rfl) fun a hf => ?_
        refine pl_nil ?_
        refine then_n ?_
        refine wp_ret ?_
        obtain rfl := some_inj h
        exact leave1 hf rfl rfl ⟨rfl, hM.fin⟩

set_option maxRecDepth 100000 in
set_option maxHeartbeats 4000000 in
theorem r_spec_IsWord (C : Cx) (s1 : Str) (hp2 : s1.length ≤ maxLen) (r : Bool) (h : m_spec_IsWord s1 = some r) :
    Calls Try.prog 57 #[vS (s1)] C.w0 fun e w => e = .returned (.bool (r)) ∧ Mem C w [] [] := by
  have hM := Mem.begin C [] trivial
  refine enter Try.func57 rfl Try.ntmps57 rfl fun a hf => ?_
  unfold m_spec_IsWord at h
  refine wp_seq ?_
  refine region_pl ?_
  refine q_ hf rfl rfl rfl (e_assign hf rfl) fun a hf => ?_
  refine pl_nil ?_
  refine then_n ?_
  obtain ⟨x3, h4, h⟩ := bind_some h
  refine seq_join (fun a w => (.inl ()) = x3 ∧ Has 18 a [(0, vS (s1))] ∧ Mem C w [] []) ?_ ?_
  · refine wp_seq ?_
    refine region_pl ?_
    refine q_ hf rfl rfl rfl (e_assign hf rfl) fun a hf => ?_
    refine pl_nil ?_
    refine then_n ?_
    refine wp_block ?_
    obtain ⟨x8, h9, h4⟩ := bind_some h4
    refine wp_loopM h9 (fun s a w => ∃ (n5 : Int), n5 = s ∧ Has 18 a [(0, vS (s1)), (3, vI (n5))] ∧ Mem C w [] [] ∧ R64 n5) ?_ ?_
    · exact ⟨0, rfl, hf.keep ⟨rfl, rfl, trivial⟩, hM.pick [] rfl, (R64_lit rfl)⟩
    · rintro s o10 a w7 ⟨n5, rfl, hf, hM, hv6⟩ h11 hd12
      replace h11 : m_spec_IsWord_l1 s1 n5 = some o10 := h11
      unfold m_spec_IsWord_l1 at h11
      refine wp_seq ?_
      refine wp_seq ?_
      refine region_pl ?_
      refine q_ hf rfl rfl rfl (e_move hf rfl) fun a hf => ?_
      refine q_ hf rfl rfl rfl (e_move hf rfl) fun a hf => ?_
      refine q_ hf rfl rfl rfl (e_lenS hf (x := s1) rfl Try.underlying9) fun a hf => ?_
      refine q_ hf rfl rfl rfl (e_lt hf (x := n5) (y := (s1.length : Int)) rfl rfl) fun a hf => ?_
      refine pl_nil ?_
      refine then_n ?_
      rcases cond_some h11 with ⟨hc13, h11⟩ | ⟨hc13, h11⟩
      · refine cond_t hf rfl hc13 ?_
        refine wp_skip ?_
        refine then_n ?_
        refine wp_seq ?_
        refine wp_block ?_
        refine wp_seq ?_
        refine region_pl ?_
        refine q_ hf rfl rfl rfl (e_move hf rfl) fun a hf => ?_
        refine q_ hf rfl rfl rfl (e_move hf rfl) fun a hf => ?_
        obtain ⟨c14, hz15, h11⟩ := bind_some h11
        refine q_ hf rfl rfl rfl (e_indexS hf (x := s1) rfl rfl Try.underlying9 hz15) fun a hf => ?_
        obtain ⟨y16, hz17, h11⟩ := bind_some h11
        refine pl_l hf rfl rfl rfl (w_call hf Try.call87 rfl (r_spec_l01Small ⟨_, Sh C _ _, none_, hM.sh_lt, none_not, C.G, hM.g_lt, g_none, hM.tabs⟩ c14 _ hz17) ?_)
        rintro _ w18 ⟨rfl, hM2⟩
        obtain ⟨hM, hx19, hup20⟩ := hM.back hM2
        dsimp only [List.cons_append, List.nil_append] at hM hup20
        clear hM2
        refine ⟨_, rfl, fun a hf => ?_⟩
        refine q_ hf rfl rfl rfl (e_not hf rfl) fun a hf => ?_
        refine pl_nil ?_
        refine then_n ?_
        rcases cond_some h11 with ⟨hc21, h11⟩ | ⟨hc21, h11⟩
        · refine cond_t hf rfl hc21 ?_
          refine wp_seq ?_
          refine region_pl ?_
          refine q_ hf rfl rfl rfl (e_assign hf rfl) fun a hf => ?_
          refine pl_nil ?_
          refine then_n ?_
          refine wp_ret ?_
          refine blk_r ?_
          refine then_r ?_
          obtain rfl := some_inj h11
          obtain rfl := hd12 _ rfl
          try dsimp only at h4
          refine then_r ?_
          refine blk_r ?_
          obtain rfl := some_inj h4
          try dsimp only at h
          refine then_r ?_
          obtain rfl := some_inj h
          exact leave1 hf rfl rfl ⟨rfl, hM.fin⟩
        · refine cond_f hf rfl hc21 ?_
          refine wp_skip ?_
          refine blk_n ?_
          refine then_n ?_
          refine region_pl ?_
          refine q_ hf rfl rfl rfl (e_move hf rfl) fun a hf => ?_
          obtain ⟨z22, hz23, h11⟩ := bind_some h11
          refine q_ hf rfl rfl rfl (e_add hf rfl rfl hz23) fun a hf => ?_
          refine q_ hf rfl rfl rfl (e_assign hf rfl) fun a hf => ?_
          refine pl_nil ?_
          obtain rfl := some_inj h11
          refine then_n ⟨_, rfl, ?_⟩
          exact ⟨z22, rfl, hf.keep ⟨rfl, rfl, trivial⟩, hM.pick [] rfl, (chk_R hz23)⟩
      · refine cond_f hf rfl hc13 ?_
        refine wp_exit ?_
        refine then_x ?_
        obtain rfl := some_inj h11
        obtain rfl := hd12 _ rfl
        try dsimp only at h4
        refine then_x ?_
        refine exit_hit ?_
        obtain rfl := some_inj h4
        refine then_n ?_
        exact ⟨rfl, hf.keep ⟨rfl, trivial⟩, hM.pick [] rfl⟩
  · rintro a w30 ⟨rfl, hf, hM⟩
    try dsimp only at h
    refine wp_seq ?_
    refine region_pl ?_
    refine q_ hf rfl rfl rfl (e_move hf rfl) fun a hf => ?_
    refine q_ hf rfl rfl rfl (e_lenS hf (x := s1) rfl Try.underlying9) fun a hf => ?_
    obtain ⟨y31, hz32, h⟩ := bind_some h
    refine pl_l hf rfl rfl rfl (w_call hf Try.call82 rfl (r_spec_l00In ⟨_, Sh C _ _, none_, hM.sh_lt, none_not, C.G, hM.g_lt, g_none, hM.tabs⟩ (s1.length : Int) (R64_len hp2) 1 (R64_lit rfl) 12 (R64_lit rfl) _ hz32) ?_)
    rintro _ w33 ⟨rfl, hM2⟩
    obtain ⟨hM, hx34, hup35⟩ := hM.back hM2
    dsimp only [List.cons_append, List.nil_append] at hM hup35
    clear hM2
    refine ⟨_, rfl, fun a hf => ?_⟩
    refine q_ hf rfl rfl rfl (e_assign hf rfl) fun a hf => ?_
    refine pl_nil ?_
    refine then_n ?_
    refine wp_ret ?_
    obtain rfl := some_inj h
    exact leave1 hf rfl rfl ⟨rfl, hM.fin⟩

set_option maxRecDepth 100000 in
set_option maxHeartbeats 4000000 in
theorem r_spec_l05Long (C : Cx) (s1 : Str) (hp2 : s1.length ≤ maxLen) (r : Bool) (h : m_spec_l05Long s1 = some r) :
    Calls Try.prog 90 #[vS (s1)] C.w0 fun e w => e = .returned (.bool (r)) ∧ Mem C w [] [] := by
  have hM := Mem.begin C [] trivial
  refine enter Try.func90 rfl Try.ntmps90 rfl fun a hf => ?_
  unfold m_spec_l05Long at h
  refine wp_seq ?_
  refine region_pl ?_
  refine q_ hf rfl rfl rfl (e_assign hf rfl) fun a hf => ?_
  refine pl_nil ?_
  refine then_n ?_
  obtain ⟨x5, h6, h⟩ := bind_some h
  refine seq_join (fun a w => ∃ (t3 : Bool), t3 = x5 ∧ Has 10 a [(2, .bool (t3))] ∧ Mem C w [] []) ?_ ?_
  · refine region_pl ?_
    refine q_ hf rfl rfl rfl (e_move hf rfl) fun a hf => ?_
    refine q_ hf rfl rfl rfl (e_lenS hf (x := s1) rfl Try.underlying9) fun a hf => ?_
    refine q_ hf rfl rfl rfl (e_gt hf (x := (s1.length : Int)) (y := 1) rfl rfl) fun a hf => ?_
    refine q_ hf rfl rfl rfl (e_move hf rfl) fun a hf => ?_
    rcases cond_some h6 with ⟨hc7, h6⟩ | ⟨hc7, h6⟩
    · refine gq (wanted_t hf rfl rfl rfl rfl hc7) hf rfl rfl (e_move hf rfl) fun a hf => ?_
      obtain ⟨y8, hz9, h6⟩ := bind_some h6
      refine pl_gl (wanted_t hf rfl rfl rfl rfl hc7) hf rfl rfl (w_call hf Try.call57 rfl (r_spec_IsWord ⟨_, Sh C _ _, none_, hM.sh_lt, none_not, C.G, hM.g_lt, g_none, hM.tabs⟩ s1 hp2 _ hz9) ?_)
      rintro _ w10 ⟨rfl, hM2⟩
      obtain ⟨hM, hx11, hup12⟩ := hM.back hM2
      dsimp only [List.cons_append, List.nil_append] at hM hup12
      clear hM2
      refine ⟨_, rfl, fun a hf => ?_⟩
      refine q_ hf rfl rfl rfl (e_pick_t hf rfl hc7 rfl) fun a hf => ?_
      refine q_ hf rfl rfl rfl (e_assign hf rfl) fun a hf => ?_
      refine pl_nil ?_
      obtain rfl := some_inj h6
      refine then_n ?_
      exact ⟨y8, rfl, hf.keep ⟨rfl, trivial⟩, hM.pick [] rfl⟩
    · refine pl_gs (wanted_f hf rfl rfl rfl rfl hc7) hf rfl rfl fun a hf => ?_
      refine pl_gs (wanted_f hf rfl rfl rfl rfl hc7) hf rfl rfl fun a hf => ?_
      refine q_ hf rfl rfl rfl (e_pick_f hf rfl hc7 rfl) fun a hf => ?_
      refine q_ hf rfl rfl rfl (e_assign hf rfl) fun a hf => ?_
      refine pl_nil ?_
      obtain rfl := some_inj h6
      refine then_n ?_
      exact ⟨false, rfl, hf.keep ⟨rfl, trivial⟩, hM.pick [] rfl⟩
  · rintro a w15 ⟨t3, rfl, hf, hM⟩
    try dsimp only at h
    refine wp_ret ?_
    obtain rfl := some_inj h
    exact leave1 hf rfl rfl ⟨rfl, hM.fin⟩

set_option maxRecDepth 100000 in
set_option maxHeartbeats 4000000 in
theorem r_spec_l05Ok (C : Cx) (l1 : Lexicon) (b2 : Nat) (o3 : Nat) (hp4 : (ptrRep LexiconRep).R C.w0 C.S0 l1 [vP b2 o3]) (r : Bool) (h : m_spec_l05Ok l1 = some r) :
    Calls Try.prog 64 #[vP b2 (o3)] C.w0 fun e w => e = .returned (.bool (r)) ∧ Mem C w [] [] := by
  have hM := Mem.begin C [.dat (ptrRep LexiconRep) l1 [vP b2 o3]] ⟨hp4, trivial⟩
  refine enter Try.func64 rfl Try.ntmps64 rfl fun a hf => ?_
  unfold m_spec_l05Ok at h
  refine wp_seq ?_
  refine region_pl ?_
  refine q_ hf rfl rfl rfl (e_assign hf rfl) fun a hf => ?_
  refine pl_nil ?_
  refine then_n ?_
  obtain ⟨x5, h6, h⟩ := bind_some h
  refine seq_join (fun a w => (.inl ()) = x5 ∧ Has 50 a [(0, vP b2 (o3))] ∧ Mem C w [] [.dat (ptrRep LexiconRep) l1 [vP b2 o3]]) ?_ ?_
  · refine wp_seq ?_
    refine region_pl ?_
    refine q_ hf rfl rfl rfl (e_assign hf rfl) fun a hf => ?_
    refine pl_nil ?_
    refine then_n ?_
    refine wp_block ?_
    obtain ⟨x10, h11, h6⟩ := bind_some h6
    refine wp_loopM h11 (fun s a w => ∃ (n7 : Int), n7 = s ∧ Has 50 a [(0, vP b2 (o3)), (3, vI (n7))] ∧ Mem C w [] [.dat (ptrRep LexiconRep) l1 [vP b2 o3]] ∧ R64 n7) ?_ ?_
    · exact ⟨0, rfl, hf.keep ⟨rfl, rfl, trivial⟩, hM.pick [0] rfl, (R64_lit rfl)⟩
    · rintro s o12 a w9 ⟨n7, rfl, hf, hM, hv8⟩ h13 hd14
      replace h13 : m_spec_l05Ok_l1 l1 n7 = some o12 := h13
      unfold m_spec_l05Ok_l1 at h13
      refine wp_seq ?_
      refine wp_seq ?_
      refine region_pl ?_
      refine q_ hf rfl rfl rfl (e_move hf rfl) fun a hf => ?_
      refine q_ hf rfl rfl rfl (e_move hf rfl) fun a hf => ?_
      refine q_ hf rfl rfl rfl (e_nil hf rfl) fun a hf => ?_
      obtain ⟨_, hr15, hM⟩ := hM.deref (hM.dat (k := 0) rfl)
      obtain ⟨A16, c17, rfl, hv18⟩ := LexiconRep_open hr15
      have hM := hM.add (y := .dat (sliceRep strRep) l1.Words [vL A16 l1.Words c17]) hv18
      refine q_ hf rfl rfl rfl (e_field hf rfl Try.underlying45 rfl Try.sizeOf40 (o' := o3 + 0) rfl) fun a hf => ?_
      refine q_ hf rfl rfl rfl (e_load1 hf rfl Try.isAgg40 (hM.litCell (k := 1) (j := 0) rfl rfl rfl)) fun a hf => ?_
      have hl19 := slice_len (hM.dat (k := 0) rfl)
      refine q_ hf rfl rfl rfl (e_lenL hf (x := l1.Words) rfl Try.underlying40) fun a hf => ?_
      refine q_ hf rfl rfl rfl (e_lt hf (x := n7) (y := (l1.Words.length : Int)) rfl rfl) fun a hf => ?_
      refine pl_nil ?_
      refine then_n ?_
      rcases cond_some h13 with ⟨hc20, h13⟩ | ⟨hc20, h13⟩
      · refine cond_t hf rfl hc20 ?_
        refine wp_skip ?_
        refine then_n ?_
        refine wp_seq ?_
        refine wp_block ?_
        obtain ⟨x23, h24, h13⟩ := bind_some h13
        refine seq_join (fun a w => ∃ (t21 : Bool), t21 = x23 ∧ Has 50 a [(0, vP b2 (o3)), (3, vI (n7)), (43, .bool (t21))] ∧ Mem C w [] [.dat (sliceRep strRep) l1.Words [vL A16 l1.Words c17], .lit b2 (o3) [vL A16 (l1.Words) c17], .dat (ptrRep LexiconRep) l1 [vP b2 o3]]) ?_ ?_
        · obtain ⟨w25, hw⟩ : ∃ x, x = w9.drew := ⟨_, rfl⟩
          refine region_pi (.q 0 (.q 1 (.q 2 (.q 3 (.q 4 (.q 5 (.q 6 (.l 7 (.q 8 (.q 9 (.q 10 (.q 11 (.q 12 (.q 13 (.q 14 (.q 15 (.q 16 (.q 17 (.q 18 (.q 19 (.q 20 (.q 21 (.q 22 (.q 23 (.q 24 (.q 25 (.q 26 (.q 27 (.q 28 (.q 29 (.q 30 (.nil)))))))))))))))))))))))))))))))) (Ext w25) rfl (by kernel_rfl) ?_
          have hM := hM.drew
          rw [← hw] at hM ⊢
          clear hw
          refine pi_q hf rfl rfl rfl rfl (Ext.refl _) (e_move hf rfl) fun a hf => ?_
          refine pi_q hf rfl rfl rfl rfl (Ext.refl _) (e_nil hf rfl) fun a hf => ?_
          refine pi_q hf rfl rfl rfl rfl (Ext.refl _) (e_field hf rfl Try.underlying45 rfl Try.sizeOf40 (o' := o3 + 0) rfl) fun a hf => ?_
          refine pi_q hf rfl rfl rfl rfl (Ext.refl _) (e_load1 hf rfl Try.isAgg40 (hM.litCell (k := 1) (j := 0) rfl rfl rfl)) fun a hf => ?_
          refine pi_q hf rfl rfl rfl rfl (Ext.refl _) (e_move hf rfl) fun a hf => ?_
          obtain ⟨e26, hz27, h24⟩ := bind_some h24
          obtain ⟨b31, o32, _, hA33, h28, h29, hr30, hM⟩ := hM.elem (hM.dat (k := 0) rfl) (n := 1) rfl hz27
          obtain ⟨rfl, hv34⟩ := hr30
          refine pi_q hf rfl rfl rfl rfl (Ext.refl _) (e_indexAddr (A := A16) (b := b31) (o := o32) (xs := l1.Words) (i := n7) hf hA33 rfl rfl Try.underlying40 Try.sizeOf9 h28 h29) fun a hf => ?_
          refine pi_q hf rfl rfl rfl rfl (Ext.refl _) (e_load1 hf rfl Try.isAgg9 (hM.litCell (k := 0) (j := 0) rfl rfl rfl)) fun a hf => ?_
          refine pi_one ?_
          obtain ⟨y35, hz36, h24⟩ := bind_some h24
          refine pi_l hf rfl rfl rfl rfl (w_call hf Try.call90 rfl (r_spec_l05Long ⟨_, Sh C _ _, none_, hM.sh_lt, none_not, C.G, hM.g_lt, g_none, hM.tabs⟩ e26 hv34 _ hz36) ?_)
          rintro _ w37 ⟨rfl, hM2⟩
          obtain ⟨hM, hx38, hup39⟩ := hM.back hM2
          dsimp only [List.cons_append, List.nil_append] at hM hup39
          clear hM2
          refine ⟨_, rfl, Ext w37, fun _ h => Ext.trans hx38 h, Ext.refl _, fun a hf => ?_⟩
          refine pi_q hf rfl rfl rfl rfl (Ext.refl _) (e_not hf rfl) fun a hf => ?_
          refine pi_q hf rfl rfl rfl rfl (Ext.refl _) (e_move hf rfl) fun a hf => ?_
          rcases cond_some h24 with ⟨hc40, h24⟩ | ⟨hc40, h24⟩
          · refine pi_gs hf rfl (wanted_f hf rfl rfl rfl rfl hc40) rfl rfl (Ext.refl _) fun a hf => ?_
            refine pi_gs hf rfl (wanted_f hf rfl rfl rfl rfl hc40) rfl rfl (Ext.refl _) fun a hf => ?_
            refine pi_gs hf rfl (wanted_f hf rfl rfl rfl rfl hc40) rfl rfl (Ext.refl _) fun a hf => ?_
            refine pi_gs hf rfl (wanted_u hf rfl rfl rfl rfl) rfl rfl (Ext.refl _) fun a hf => ?_
            refine pi_gs hf rfl (wanted_u hf rfl rfl rfl rfl) rfl rfl (Ext.refl _) fun a hf => ?_
            refine pi_gs hf rfl (wanted_u hf rfl rfl rfl rfl) rfl rfl (Ext.refl _) fun a hf => ?_
            refine pi_gs hf rfl (wanted_u hf rfl rfl rfl rfl) rfl rfl (Ext.refl _) fun a hf => ?_
            refine pi_gs hf rfl (wanted_u hf rfl rfl rfl rfl) rfl rfl (Ext.refl _) fun a hf => ?_
            refine pi_gs hf rfl (wanted_u hf rfl rfl rfl rfl) rfl rfl (Ext.refl _) fun a hf => ?_
            refine pi_gs hf rfl (wanted_u hf rfl rfl rfl rfl) rfl rfl (Ext.refl _) fun a hf => ?_
            refine pi_gs hf rfl (wanted_u hf rfl rfl rfl rfl) rfl rfl (Ext.refl _) fun a hf => ?_
            refine pi_gs hf rfl (wanted_u hf rfl rfl rfl rfl) rfl rfl (Ext.refl _) fun a hf => ?_
            refine pi_gs hf rfl (wanted_u hf rfl rfl rfl rfl) rfl rfl (Ext.refl _) fun a hf => ?_
            refine pi_gs hf rfl (wanted_u hf rfl rfl rfl rfl) rfl rfl (Ext.refl _) fun a hf => ?_
            refine pi_gs hf rfl (wanted_u hf rfl rfl rfl rfl) rfl rfl (Ext.refl _) fun a hf => ?_
            refine pi_gs hf rfl (wanted_u hf rfl rfl rfl rfl) rfl rfl (Ext.refl _) fun a hf => ?_
            refine pi_gs hf rfl (wanted_u hf rfl rfl rfl rfl) rfl rfl (Ext.refl _) fun a hf => ?_
            refine pi_gs hf rfl (wanted_u hf rfl rfl rfl rfl) rfl rfl (Ext.refl _) fun a hf => ?_
            refine pi_gs hf rfl (wanted_u hf rfl rfl rfl rfl) rfl rfl (Ext.refl _) fun a hf => ?_
            refine pi_gs hf rfl (wanted_f hf rfl rfl rfl rfl hc40) rfl rfl (Ext.refl _) fun a hf => ?_
            refine pi_q hf rfl rfl rfl rfl (Ext.refl _) (e_pick_t hf rfl hc40 rfl) fun a hf => ?_
            refine pi_nil ?_
            obtain rfl := some_inj h24
            refine then_n ?_
            exact ⟨true, rfl, hf.keep ⟨rfl, rfl, rfl, trivial⟩, hM.pick [1, 2, 3] rfl⟩
          · refine pi_gq hf rfl (wanted_t hf rfl rfl rfl rfl hc40) rfl rfl (Ext.refl _) (e_move hf rfl) fun a hf => ?_
            refine pi_gq hf rfl (wanted_t hf rfl rfl rfl rfl hc40) rfl rfl (Ext.refl _) (e_gt hf (x := n7) (y := 0) rfl rfl) fun a hf => ?_
            refine pi_gq hf rfl (wanted_t hf rfl rfl rfl rfl hc40) rfl rfl (Ext.refl _) (e_move hf rfl) fun a hf => ?_
            rcases cond_some h24 with ⟨hc42, h24⟩ | ⟨hc42, h24⟩
            · refine pi_gq hf rfl (wanted_t hf rfl rfl rfl rfl hc42) rfl rfl (Ext.refl _) (e_move hf rfl) fun a hf => ?_
              refine pi_gq hf rfl (wanted_t hf rfl rfl rfl rfl hc42) rfl rfl (Ext.refl _) (e_nil hf rfl) fun a hf => ?_
              refine pi_gq hf rfl (wanted_t hf rfl rfl rfl rfl hc42) rfl rfl (Ext.refl _) (e_field hf rfl Try.underlying45 rfl Try.sizeOf40 (o' := o3 + 0) rfl) fun a hf => ?_
              refine pi_gq hf rfl (wanted_t hf rfl rfl rfl rfl hc42) rfl rfl (Ext.refl _) (e_load1 hf rfl Try.isAgg40 (hM.litCell (k := 2) (j := 0) rfl rfl rfl)) fun a hf => ?_
              refine pi_gq hf rfl (wanted_t hf rfl rfl rfl rfl hc42) rfl rfl (Ext.refl _) (e_move hf rfl) fun a hf => ?_
              obtain ⟨e43, hz44, h24⟩ := bind_some h24
              obtain ⟨b48, o49, _, hA50, h45, h46, hr47, hM⟩ := hM.elem (hM.dat (k := 1) rfl) (n := 1) rfl hz44
              obtain ⟨rfl, hv51⟩ := hr47
              refine pi_gq hf rfl (wanted_t hf rfl rfl rfl rfl hc42) rfl rfl (Ext.refl _) (e_indexAddr (A := A16) (b := b48) (o := o49) (xs := l1.Words) (i := n7) hf hA50 rfl rfl Try.underlying40 Try.sizeOf9 h45 h46) fun a hf => ?_
              refine pi_gq hf rfl (wanted_t hf rfl rfl rfl rfl hc42) rfl rfl (Ext.refl _) (e_load1 hf rfl Try.isAgg9 (hM.litCell (k := 0) (j := 0) rfl rfl rfl)) fun a hf => ?_
              refine pi_gq hf rfl (wanted_t hf rfl rfl rfl rfl hc42) rfl rfl (Ext.refl _) (e_move hf rfl) fun a hf => ?_
              refine pi_gq hf rfl (wanted_t hf rfl rfl rfl rfl hc42) rfl rfl (Ext.refl _) (e_nil hf rfl) fun a hf => ?_
              refine pi_gq hf rfl (wanted_t hf rfl rfl rfl rfl hc42) rfl rfl (Ext.refl _) (e_field hf rfl Try.underlying45 rfl Try.sizeOf40 (o' := o3 + 0) rfl) fun a hf => ?_
              refine pi_gq hf rfl (wanted_t hf rfl rfl rfl rfl hc42) rfl rfl (Ext.refl _) (e_load1 hf rfl Try.isAgg40 (hM.litCell (k := 3) (j := 0) rfl rfl rfl)) fun a hf => ?_
              refine pi_gq hf rfl (wanted_t hf rfl rfl rfl rfl hc42) rfl rfl (Ext.refl _) (e_move hf rfl) fun a hf => ?_
              obtain ⟨z52, hz53, h24⟩ := bind_some h24
              refine pi_gq hf rfl (wanted_t hf rfl rfl rfl rfl hc42) rfl rfl (Ext.refl _) (e_sub hf rfl rfl hz53) fun a hf => ?_
              obtain ⟨e54, hz55, h24⟩ := bind_some h24
              obtain ⟨b59, o60, _, hA61, h56, h57, hr58, hM⟩ := hM.elem (hM.dat (k := 2) rfl) (n := 1) rfl hz55
              obtain ⟨rfl, hv62⟩ := hr58
              refine pi_gq hf rfl (wanted_t hf rfl rfl rfl rfl hc42) rfl rfl (Ext.refl _) (e_indexAddr (A := A16) (b := b59) (o := o60) (xs := l1.Words) (i := z52) hf hA61 rfl rfl Try.underlying40 Try.sizeOf9 h56 h57) fun a hf => ?_
              refine pi_gq hf rfl (wanted_t hf rfl rfl rfl rfl hc42) rfl rfl (Ext.refl _) (e_load1 hf rfl Try.isAgg9 (hM.litCell (k := 0) (j := 0) rfl rfl rfl)) fun a hf => ?_
              refine pi_gq hf rfl (wanted_t hf rfl rfl rfl rfl hc42) rfl rfl (Ext.refl _) (e_leS hf (x := e43) (y := e54) rfl rfl) fun a hf => ?_
              refine pi_gq hf rfl (wanted_t hf rfl rfl rfl rfl hc40) rfl rfl (Ext.refl _) (e_pick_t hf rfl hc42 rfl) fun a hf => ?_
              refine pi_q hf rfl rfl rfl rfl (Ext.refl _) (e_pick_f hf rfl hc40 rfl) fun a hf => ?_
              refine pi_nil ?_
              obtain rfl := some_inj h24
              refine then_n ?_
              exact ⟨(ltS e43 e54 || e43 == e54), rfl, hf.keep ⟨rfl, rfl, rfl, trivial⟩, hM.pick [3, 4, 5] rfl⟩
            · refine pi_gs hf rfl (wanted_f hf rfl rfl rfl rfl hc42) rfl rfl (Ext.refl _) fun a hf => ?_
              refine pi_gs hf rfl (wanted_f hf rfl rfl rfl rfl hc42) rfl rfl (Ext.refl _) fun a hf => ?_
              refine pi_gs hf rfl (wanted_f hf rfl rfl rfl rfl hc42) rfl rfl (Ext.refl _) fun a hf => ?_
              refine pi_gs hf rfl (wanted_f hf rfl rfl rfl rfl hc42) rfl rfl (Ext.refl _) fun a hf => ?_
              refine pi_gs hf rfl (wanted_f hf rfl rfl rfl rfl hc42) rfl rfl (Ext.refl _) fun a hf => ?_
              refine pi_gs hf rfl (wanted_f hf rfl rfl rfl rfl hc42) rfl rfl (Ext.refl _) fun a hf => ?_
              refine pi_gs hf rfl (wanted_f hf rfl rfl rfl rfl hc42) rfl rfl (Ext.refl _) fun a hf => ?_
              refine pi_gs hf rfl (wanted_f hf rfl rfl rfl rfl hc42) rfl rfl (Ext.refl _) fun a hf => ?_
              refine pi_gs hf rfl (wanted_f hf rfl rfl rfl rfl hc42) rfl rfl (Ext.refl _) fun a hf => ?_
              refine pi_gs hf rfl (wanted_f hf rfl rfl rfl rfl hc42) rfl rfl (Ext.refl _) fun a hf => ?_
              refine pi_gs hf rfl (wanted_f hf rfl rfl rfl rfl hc42) rfl rfl (Ext.refl _) fun a hf => ?_
              refine pi_gs hf rfl (wanted_f hf rfl rfl rfl rfl hc42) rfl rfl (Ext.refl _) fun a hf => ?_
              refine pi_gs hf rfl (wanted_f hf rfl rfl rfl rfl hc42) rfl rfl (Ext.refl _) fun a hf => ?_
              refine pi_gs hf rfl (wanted_f hf rfl rfl rfl rfl hc42) rfl rfl (Ext.refl _) fun a hf => ?_
              refine pi_gs hf rfl (wanted_f hf rfl rfl rfl rfl hc42) rfl rfl (Ext.refl _) fun a hf => ?_
              refine pi_gs hf rfl (wanted_f hf rfl rfl rfl rfl hc42) rfl rfl (Ext.refl _) fun a hf => ?_
              refine pi_gq hf rfl (wanted_t hf rfl rfl rfl rfl hc40) rfl rfl (Ext.refl _) (e_pick_f hf rfl hc42 rfl) fun a hf => ?_
              refine pi_q hf rfl rfl rfl rfl (Ext.refl _) (e_pick_f hf rfl hc40 rfl) fun a hf => ?_
              refine pi_nil ?_
              obtain rfl := some_inj h24
              refine then_n ?_
              exact ⟨false, rfl, hf.keep ⟨rfl, rfl, rfl, trivial⟩, hM.pick [1, 2, 3] rfl⟩
        · rintro a w65 ⟨t21, rfl, hf, hM⟩
          try dsimp only at h13
          rcases cond_some h13 with ⟨hc66, h13⟩ | ⟨hc66, h13⟩
          · refine cond_t hf rfl hc66 ?_
            refine wp_seq ?_
            refine region_pl ?_
            refine q_ hf rfl rfl rfl (e_assign hf rfl) fun a hf => ?_
            refine pl_nil ?_
            refine then_n ?_
            refine wp_ret ?_
            refine blk_r ?_
            refine then_r ?_
            obtain rfl := some_inj h13
            obtain rfl := hd14 _ rfl
            try dsimp only at h6
            refine then_r ?_
            refine blk_r ?_
            obtain rfl := some_inj h6
            try dsimp only at h
            refine then_r ?_
            obtain rfl := some_inj h
            exact leave1 hf rfl rfl ⟨rfl, hM.fin⟩
          · refine cond_f hf rfl hc66 ?_
            refine wp_skip ?_
            refine blk_n ?_
            refine then_n ?_
            refine region_pl ?_
            refine q_ hf rfl rfl rfl (e_move hf rfl) fun a hf => ?_
            obtain ⟨z67, hz68, h13⟩ := bind_some h13
            refine q_ hf rfl rfl rfl (e_add hf rfl rfl hz68) fun a hf => ?_
            refine q_ hf rfl rfl rfl (e_assign hf rfl) fun a hf => ?_
            refine pl_nil ?_
            obtain rfl := some_inj h13
            refine then_n ⟨_, rfl, ?_⟩
            exact ⟨z67, rfl, hf.keep ⟨rfl, rfl, trivial⟩, hM.pick [2] rfl, (chk_R hz68)⟩
      · refine cond_f hf rfl hc20 ?_
        refine wp_exit ?_
        refine then_x ?_
        obtain rfl := some_inj h13
        obtain rfl := hd14 _ rfl
        try dsimp only at h6
        refine then_x ?_
        refine exit_hit ?_
        obtain rfl := some_inj h6
        refine then_n ?_
        exact ⟨rfl, hf.keep ⟨rfl, trivial⟩, hM.pick [2] rfl⟩
  · rintro a w75 ⟨rfl, hf, hM⟩
    try dsimp only at h
    refine wp_seq ?_
    refine region_pl ?_
    refine q_ hf rfl rfl rfl (e_move hf rfl) fun a hf => ?_
    refine q_ hf rfl rfl rfl (e_nil hf rfl) fun a hf => ?_
    obtain ⟨_, hr76, hM⟩ := hM.deref (hM.dat (k := 0) rfl)
    obtain ⟨A77, c78, rfl, hv79⟩ := LexiconRep_open hr76
    have hM := hM.add (y := .dat (sliceRep strRep) l1.Words [vL A77 l1.Words c78]) hv79
    refine q_ hf rfl rfl rfl (e_field hf rfl Try.underlying45 rfl Try.sizeOf40 (o' := o3 + 0) rfl) fun a hf => ?_
    refine q_ hf rfl rfl rfl (e_load1 hf rfl Try.isAgg40 (hM.litCell (k := 1) (j := 0) rfl rfl rfl)) fun a hf => ?_
    have hl80 := slice_len (hM.dat (k := 0) rfl)
    refine q_ hf rfl rfl rfl (e_lenL hf (x := l1.Words) rfl Try.underlying40) fun a hf => ?_
    refine q_ hf rfl rfl rfl (e_le hf (x := (l1.Words.length : Int)) (y := 200) rfl rfl) fun a hf => ?_
    refine q_ hf rfl rfl rfl (e_assign hf rfl) fun a hf => ?_
    refine pl_nil ?_
    refine then_n ?_
    refine wp_ret ?_
    obtain rfl := some_inj h
    exact leave1 hf rfl rfl ⟨rfl, hM.fin⟩

set_option maxRecDepth 100000 in
set_option maxHeartbeats 4000000 in
theorem r_spec_l25At (C : Cx) (g1 : Grid) (b2 : Nat) (o3 : Nat) (hp4 : (ptrRep GridRep).R C.w0 C.S0 g1 [vP b2 o3]) (row5 : Int) (hp6 : R64 row5) (col7 : Int) (hp8 : R64 col7) (r : UInt8) (h : m_spec_l25At g1 row5 col7 = some r) :
    Calls Try.prog 108 #[vP b2 (o3), vI (row5), vI (col7)] C.w0 fun e w => e = .returned (vB (r)) ∧ Mem C w [] [] := by
  have hM := Mem.begin C [.dat (ptrRep GridRep) g1 [vP b2 o3]] ⟨hp4, trivial⟩
  refine enter Try.func108 rfl Try.ntmps108 rfl fun a hf => ?_
  unfold m_spec_l25At at h
  refine wp_seq ?_
  refine region_pl ?_
  refine q_ hf rfl rfl rfl (e_assign hf rfl) fun a hf => ?_
  refine pl_nil ?_
  refine then_n ?_
  refine wp_seq ?_
  obtain ⟨x11, h12, h⟩ := bind_some h
  refine seq_join (fun a w => ∃ (t9 : Bool), t9 = x11 ∧ Has 38 a [(0, vP b2 (o3)), (1, vI (row5)), (2, vI (col7)), (24, .bool (t9))] ∧ Mem C w [] [.dat (ptrRep GridRep) g1 [vP b2 o3]]) ?_ ?_
  · refine region_pl ?_
    refine q_ hf rfl rfl rfl (e_move hf rfl) fun a hf => ?_
    refine q_ hf rfl rfl rfl (e_move hf rfl) fun a hf => ?_
    refine q_ hf rfl rfl rfl (e_nil hf rfl) fun a hf => ?_
    obtain ⟨_, hr13, hM⟩ := hM.deref (hM.dat (k := 0) rfl)
    obtain ⟨rfl, hv14, hv15, hv16⟩ := GridRep_open hr13
    refine q_ hf rfl rfl rfl (e_field hf rfl Try.underlying27 rfl Try.sizeOf2 (o' := o3 + 0) rfl) fun a hf => ?_
    refine q_ hf rfl rfl rfl (e_load1 hf rfl Try.isAgg2 (hM.litCell (k := 0) (j := 0) rfl rfl rfl)) fun a hf => ?_
    obtain ⟨z17, hz18, h12⟩ := bind_some h12
    refine q_ hf rfl rfl rfl (e_sub hf rfl rfl hz18) fun a hf => ?_
    obtain ⟨y19, hz20, h12⟩ := bind_some h12
    refine pl_l hf rfl rfl rfl (w_call hf Try.call82 rfl (r_spec_l00In ⟨_, Sh C _ _, none_, hM.sh_lt, none_not, C.G, hM.g_lt, g_none, hM.tabs⟩ row5 hp6 0 (R64_lit rfl) z17 (chk_R hz18) _ hz20) ?_)
    rintro _ w21 ⟨rfl, hM2⟩
    obtain ⟨hM, hx22, hup23⟩ := hM.back hM2
    dsimp only [List.cons_append, List.nil_append] at hM hup23
    clear hM2
    refine ⟨_, rfl, fun a hf => ?_⟩
    refine q_ hf rfl rfl rfl (e_not hf rfl) fun a hf => ?_
    refine q_ hf rfl rfl rfl (e_move hf rfl) fun a hf => ?_
    rcases cond_some h12 with ⟨hc24, h12⟩ | ⟨hc24, h12⟩
    · refine pl_gs (wanted_f hf rfl rfl rfl rfl hc24) hf rfl rfl fun a hf => ?_
      refine pl_gs (wanted_f hf rfl rfl rfl rfl hc24) hf rfl rfl fun a hf => ?_
      refine pl_gs (wanted_f hf rfl rfl rfl rfl hc24) hf rfl rfl fun a hf => ?_
      refine pl_gs (wanted_f hf rfl rfl rfl rfl hc24) hf rfl rfl fun a hf => ?_
      refine pl_gs (wanted_f hf rfl rfl rfl rfl hc24) hf rfl rfl fun a hf => ?_
      refine pl_gs (wanted_f hf rfl rfl rfl rfl hc24) hf rfl rfl fun a hf => ?_
      refine pl_gs (wanted_f hf rfl rfl rfl rfl hc24) hf rfl rfl fun a hf => ?_
      refine pl_gs (wanted_f hf rfl rfl rfl rfl hc24) hf rfl rfl fun a hf => ?_
      refine q_ hf rfl rfl rfl (e_pick_t hf rfl hc24 rfl) fun a hf => ?_
      refine pl_nil ?_
      obtain rfl := some_inj h12
      refine then_n ?_
      exact ⟨true, rfl, hf.keep ⟨rfl, rfl, rfl, rfl, trivial⟩, hM.pick [1] rfl⟩
    · refine gq (wanted_t hf rfl rfl rfl rfl hc24) hf rfl rfl (e_move hf rfl) fun a hf => ?_
      refine gq (wanted_t hf rfl rfl rfl rfl hc24) hf rfl rfl (e_move hf rfl) fun a hf => ?_
      refine gq (wanted_t hf rfl rfl rfl rfl hc24) hf rfl rfl (e_nil hf rfl) fun a hf => ?_
      refine gq (wanted_t hf rfl rfl rfl rfl hc24) hf rfl rfl (e_field hf rfl Try.underlying27 rfl Try.sizeOf2 (o' := o3 + 1) rfl) fun a hf => ?_
      refine gq (wanted_t hf rfl rfl rfl rfl hc24) hf rfl rfl (e_load1 hf rfl Try.isAgg2 (hM.litCell (k := 0) (j := 1) rfl rfl rfl)) fun a hf => ?_
      obtain ⟨z26, hz27, h12⟩ := bind_some h12
      refine gq (wanted_t hf rfl rfl rfl rfl hc24) hf rfl rfl (e_sub hf rfl rfl hz27) fun a hf => ?_
      obtain ⟨y28, hz29, h12⟩ := bind_some h12
      refine pl_gl (wanted_t hf rfl rfl rfl rfl hc24) hf rfl rfl (w_call hf Try.call82 rfl (r_spec_l00In ⟨_, Sh C _ _, none_, hM.sh_lt, none_not, C.G, hM.g_lt, g_none, hM.tabs⟩ col7 hp8 0 (R64_lit rfl) z26 (chk_R hz27) _ hz29) ?_)
      rintro _ w30 ⟨rfl, hM2⟩
      obtain ⟨hM, hx31, hup32⟩ := hM.back hM2
      dsimp only [List.cons_append, List.nil_append] at hM hup32
      clear hM2
      refine ⟨_, rfl, fun a hf => ?_⟩
      refine gq (wanted_t hf rfl rfl rfl rfl hc24) hf rfl rfl (e_not hf rfl) fun a hf => ?_
      refine q_ hf rfl rfl rfl (e_pick_f hf rfl hc24 rfl) fun a hf => ?_
      refine pl_nil ?_
      obtain rfl := some_inj h12
      refine then_n ?_
      exact ⟨(!y28), rfl, hf.keep ⟨rfl, rfl, rfl, rfl, trivial⟩, hM.pick [1] rfl⟩
  · rintro a w34 ⟨t9, rfl, hf, hM⟩
    try dsimp only at h
    rcases cond_some h with ⟨hc35, h⟩ | ⟨hc35, h⟩
    · refine cond_t hf rfl hc35 ?_
      refine wp_seq ?_
      refine region_pl ?_
      refine q_ hf rfl rfl rfl (e_assign hf rfl) fun a hf => ?_
      refine pl_nil ?_
      refine then_n ?_
      refine wp_ret ?_
      refine then_r ?_
      obtain rfl := some_inj h
      exact leave1 hf rfl rfl ⟨rfl, hM.fin⟩
    · refine cond_f hf rfl hc35 ?_
      refine wp_skip ?_
      refine then_n ?_
      refine wp_seq ?_
      obtain ⟨w36, hw⟩ : ∃ x, x = w34.drew := ⟨_, rfl⟩
      refine region_pi (.q 0 (.q 1 (.q 2 (.q 3 (.q 4 (.q 5 (.q 6 (.q 7 (.q 8 (.q 9 (.q 10 (.q 11 (.q 12 (.q 13 (.nil))))))))))))))) (Ext w36) rfl (by kernel_rfl) ?_
      have hM := hM.drew
      rw [← hw] at hM ⊢
      clear hw
      refine pi_q hf rfl rfl rfl rfl (Ext.refl _) (e_move hf rfl) fun a hf => ?_
      refine pi_q hf rfl rfl rfl rfl (Ext.refl _) (e_nil hf rfl) fun a hf => ?_
      obtain ⟨_, hr37, hM⟩ := hM.deref (hM.dat (k := 0) rfl)
      obtain ⟨rfl, hv38, hv39, hv40⟩ := GridRep_open hr37
      refine pi_q hf rfl rfl rfl rfl (Ext.refl _) (e_field hf rfl Try.underlying27 rfl Try.sizeOf9 (o' := o3 + 2) rfl) fun a hf => ?_
      refine pi_q hf rfl rfl rfl rfl (Ext.refl _) (e_load1 hf rfl Try.isAgg9 (hM.litCell (k := 0) (j := 2) rfl rfl rfl)) fun a hf => ?_
      refine pi_q hf rfl rfl rfl rfl (Ext.refl _) (e_move hf rfl) fun a hf => ?_
      refine pi_q hf rfl rfl rfl rfl (Ext.refl _) (e_move hf rfl) fun a hf => ?_
      refine pi_q hf rfl rfl rfl rfl (Ext.refl _) (e_nil hf rfl) fun a hf => ?_
      refine pi_q hf rfl rfl rfl rfl (Ext.refl _) (e_field hf rfl Try.underlying27 rfl Try.sizeOf2 (o' := o3 + 1) rfl) fun a hf => ?_
      refine pi_q hf rfl rfl rfl rfl (Ext.refl _) (e_load1 hf rfl Try.isAgg2 (hM.litCell (k := 0) (j := 1) rfl rfl rfl)) fun a hf => ?_
      obtain ⟨z41, hz42, h⟩ := bind_some h
      refine pi_q hf rfl rfl rfl rfl (Ext.refl _) (e_mul hf rfl rfl hz42) fun a hf => ?_
      refine pi_q hf rfl rfl rfl rfl (Ext.refl _) (e_move hf rfl) fun a hf => ?_
      obtain ⟨z43, hz44, h⟩ := bind_some h
      refine pi_q hf rfl rfl rfl rfl (Ext.refl _) (e_add hf rfl rfl hz44) fun a hf => ?_
      obtain ⟨c45, hz46, h⟩ := bind_some h
      refine pi_q hf rfl rfl rfl rfl (Ext.refl _) (e_indexS hf (x := g1.Cells) rfl rfl Try.underlying9 hz46) fun a hf => ?_
      refine pi_q hf rfl rfl rfl rfl (Ext.refl _) (e_assign hf rfl) fun a hf => ?_
      refine pi_nil ?_
      refine then_n ?_
      refine wp_ret ?_
      obtain rfl := some_inj h
      exact leave1 hf rfl rfl ⟨rfl, hM.fin⟩

set_option maxRecDepth 100000 in
set_option maxHeartbeats 4000000 in
theorem r_spec_l25Across (C : Cx) (g1 : Grid) (b2 : Nat) (o3 : Nat) (hp4 : (ptrRep GridRep).R C.w0 C.S0 g1 [vP b2 o3]) (r : (List Slot)) (h : m_spec_l25Across g1 = some r) :
    Calls Try.prog 83 #[vP b2 (o3)] C.w0 fun e w => ∃ (A_1 : Option Addr), ∃ (c_1 : Nat), e = .returned (vL A_1 (r) c_1) ∧ Mem C w [.row SlotRep A_1 c_1 75 r true] [] := by
  have hM := Mem.begin C [.dat (ptrRep GridRep) g1 [vP b2 o3]] ⟨hp4, trivial⟩
  refine enter Try.func83 rfl Try.ntmps83 rfl fun a hf => ?_
  unfold m_spec_l25Across at h
  refine wp_seq ?_
  refine region_pl ?_
  refine q_ hf rfl rfl rfl (e_assign hf rfl) fun a hf => ?_
  refine pl_nil ?_
  refine then_n ?_
  refine wp_seq ?_
  refine region_pl ?_
  refine pl_l hf rfl rfl rfl (w_slice0 (K := SlotRep) hM Try.underlying30 ei_75 fun b5 w6 hx7 hM a hf => ?_)
  refine q_ hf rfl rfl rfl (e_assign hf rfl) fun a hf => ?_
  refine pl_nil ?_
  refine then_n ?_
  obtain ⟨x11, h12, h⟩ := bind_some h
  refine seq_join (fun a w => ∃ (xs8 : (List Slot)) (A9 : Option Addr) (c10 : Nat), xs8 = x11 ∧ Has 45 a [(3, vL A9 (xs8) c10)] ∧ Mem C w [.row SlotRep A9 c10 75 xs8 true] [.dat (ptrRep GridRep) g1 [vP b2 o3]]) ?_ ?_
  · refine wp_seq ?_
    refine region_pl ?_
    refine q_ hf rfl rfl rfl (e_assign hf rfl) fun a hf => ?_
    refine pl_nil ?_
    refine then_n ?_
    refine wp_block ?_
    obtain ⟨x22, h23, h12⟩ := bind_some h12
    refine wp_loopM h23 (fun s a w => ∃ (xs13 : (List Slot)) (c16 : Int) (A14 : Option Addr) (c15 : Nat), (xs13, c16) = s ∧ Has 45 a [(0, vP b2 (o3)), (3, vL A14 (xs13) c15), (4, vI (c16))] ∧ Mem C w [.row SlotRep A14 c15 75 xs13 true] [.dat (ptrRep GridRep) g1 [vP b2 o3]] ∧ R64 c16) ?_ ?_
    · exact ⟨([] : (List Slot)), 0, (some ⟨b5, 0, none⟩), 0, rfl, hf.keep ⟨rfl, rfl, rfl, trivial⟩, hM.pick [0] rfl, (R64_lit rfl)⟩
    · rintro s o24 a w18 ⟨xs13, c16, A14, c15, rfl, hf, hM, hv17⟩ h25 hd26
      replace h25 : m_spec_l25Across_l1 g1 xs13 c16 = some o24 := h25
      unfold m_spec_l25Across_l1 at h25
      refine wp_seq ?_
      refine wp_seq ?_
      refine region_pl ?_
      refine q_ hf rfl rfl rfl (e_move hf rfl) fun a hf => ?_
      refine q_ hf rfl rfl rfl (e_move hf rfl) fun a hf => ?_
      refine q_ hf rfl rfl rfl (e_nil hf rfl) fun a hf => ?_
      obtain ⟨_, hr27, hM⟩ := hM.deref (hM.dat (k := 0) rfl)
      obtain ⟨rfl, hv28, hv29, hv30⟩ := GridRep_open hr27
      refine q_ hf rfl rfl rfl (e_field hf rfl Try.underlying27 rfl Try.sizeOf2 (o' := o3 + 0) rfl) fun a hf => ?_
      refine q_ hf rfl rfl rfl (e_load1 hf rfl Try.isAgg2 (hM.litCell (k := 0) (j := 0) rfl rfl rfl)) fun a hf => ?_
      refine q_ hf rfl rfl rfl (e_lt hf (x := c16) (y := g1.Rows) rfl rfl) fun a hf => ?_
      refine pl_nil ?_
      refine then_n ?_
      rcases cond_some h25 with ⟨hc31, h25⟩ | ⟨hc31, h25⟩
      · refine cond_t hf rfl hc31 ?_
        refine wp_skip ?_
        refine then_n ?_
        obtain ⟨x35, h36, h25⟩ := bind_some h25
        refine seq_join (fun a w => ∃ (xs32 : (List Slot)) (A33 : Option Addr) (c34 : Nat), xs32 = x35 ∧ Has 45 a [(0, vP b2 (o3)), (3, vL A33 (xs32) c34), (4, vI (c16))] ∧ Mem C w [.row SlotRep A33 c34 75 xs32 true] [.lit b2 (o3) [vI (g1.Rows), vI (g1.Cols), vS (g1.Cells)], .dat (ptrRep GridRep) g1 [vP b2 o3]]) ?_ ?_
        · refine wp_block ?_
          refine wp_seq ?_
          refine region_pl ?_
          refine q_ hf rfl rfl rfl (e_assign hf rfl) fun a hf => ?_
          refine pl_nil ?_
          refine then_n ?_
          refine wp_block ?_
          obtain ⟨x46, h47, h36⟩ := bind_some h36
          refine wp_loopM h47 (fun s a w => ∃ (xs37 : (List Slot)) (n40 : Int) (A38 : Option Addr) (c39 : Nat), (xs37, n40) = s ∧ Has 45 a [(0, vP b2 (o3)), (3, vL A38 (xs37) c39), (4, vI (c16)), (5, vI (n40))] ∧ Mem C w [.row SlotRep A38 c39 75 xs37 true] [.lit b2 (o3) [vI (g1.Rows), vI (g1.Cols), vS (g1.Cells)], .dat (ptrRep GridRep) g1 [vP b2 o3]] ∧ R64 n40) ?_ ?_
          · exact ⟨xs13, 0, A14, c15, rfl, hf.keep ⟨rfl, rfl, rfl, rfl, trivial⟩, hM.pick [0, 1] rfl, (R64_lit rfl)⟩
          · rintro s o48 a w42 ⟨xs37, n40, A38, c39, rfl, hf, hM, hv41⟩ h49 hd50
            replace h49 : m_spec_l25Across_l2 g1 c16 xs37 n40 = some o48 := h49
            unfold m_spec_l25Across_l2 at h49
            refine wp_seq ?_
            refine wp_seq ?_
            refine region_pl ?_
            refine q_ hf rfl rfl rfl (e_move hf rfl) fun a hf => ?_
            refine q_ hf rfl rfl rfl (e_move hf rfl) fun a hf => ?_
            refine q_ hf rfl rfl rfl (e_nil hf rfl) fun a hf => ?_
            refine q_ hf rfl rfl rfl (e_field hf rfl Try.underlying27 rfl Try.sizeOf2 (o' := o3 + 1) rfl) fun a hf => ?_
            refine q_ hf rfl rfl rfl (e_load1 hf rfl Try.isAgg2 (hM.litCell (k := 0) (j := 1) rfl rfl rfl)) fun a hf => ?_
            refine q_ hf rfl rfl rfl (e_lt hf (x := n40) (y := g1.Cols) rfl rfl) fun a hf => ?_
            refine pl_nil ?_
            refine then_n ?_
            rcases cond_some h49 with ⟨hc51, h49⟩ | ⟨hc51, h49⟩
            · refine cond_t hf rfl hc51 ?_
              refine wp_skip ?_
              refine then_n ?_
              refine wp_block ?_
              refine wp_seq ?_
              refine region_pl ?_
              refine q_ hf rfl rfl rfl (e_assign hf rfl) fun a hf => ?_
              refine pl_nil ?_
              refine then_n ?_
              obtain ⟨x54, h55, h49⟩ := bind_some h49
              refine seq_join (fun a w => ∃ (n52 : Int), n52 = x54 ∧ Has 45 a [(0, vP b2 (o3)), (3, vL A38 (xs37) c39), (4, vI (c16)), (5, vI (n40)), (6, vI (n52))] ∧ Mem C w [.row SlotRep A38 c39 75 xs37 true] [.lit b2 (o3) [vI (g1.Rows), vI (g1.Cols), vS (g1.Cells)], .dat (ptrRep GridRep) g1 [vP b2 o3]] ∧ R64 n52) ?_ ?_
              · refine wp_block ?_
                obtain ⟨x61, h62, h55⟩ := bind_some h55
                refine wp_loopM h62 (fun s a w => ∃ (n56 : Int), n56 = s ∧ Has 45 a [(0, vP b2 (o3)), (3, vL A38 (xs37) c39), (4, vI (c16)), (5, vI (n40)), (6, vI (n56))] ∧ Mem C w [.row SlotRep A38 c39 75 xs37 true] [.lit b2 (o3) [vI (g1.Rows), vI (g1.Cols), vS (g1.Cells)], .dat (ptrRep GridRep) g1 [vP b2 o3]] ∧ R64 n56) ?_ ?_
                · exact ⟨0, rfl, hf.keep ⟨rfl, rfl, rfl, rfl, rfl, trivial⟩, hM.pick [0, 1] rfl, (R64_lit rfl)⟩
                · rintro s o63 a w58 ⟨n56, rfl, hf, hM, hv57⟩ h64 hd65
                  replace h64 : m_spec_l25Across_l3 n40 g1 c16 n56 = some o63 := h64
                  unfold m_spec_l25Across_l3 at h64
                  refine wp_seq ?_
                  refine wp_seq ?_
                  refine region_pl ?_
                  refine q_ hf rfl rfl rfl (e_move hf rfl) fun a hf => ?_
                  refine q_ hf rfl rfl rfl (e_move hf rfl) fun a hf => ?_
                  refine q_ hf rfl rfl rfl (e_move hf rfl) fun a hf => ?_
                  refine q_ hf rfl rfl rfl (e_move hf rfl) fun a hf => ?_
                  obtain ⟨z66, hz67, h64⟩ := bind_some h64
                  refine q_ hf rfl rfl rfl (e_add hf rfl rfl hz67) fun a hf => ?_
                  obtain ⟨y68, hz69, h64⟩ := bind_some h64
                  refine pl_l hf rfl rfl rfl (w_call hf Try.call108 rfl (r_spec_l25At ⟨_, Sh C _ _, none_, hM.sh_lt, none_not, C.G, hM.g_lt, g_none, hM.tabs⟩ g1 _ _ (hM.dat (k := 1) rfl) c16 hv17 z66 (chk_R hz67) _ hz69) ?_)
                  rintro _ w70 ⟨rfl, hM2⟩
                  obtain ⟨hM, hx71, hup72⟩ := hM.back hM2
                  dsimp only [List.cons_append, List.nil_append] at hM hup72
                  clear hM2
                  refine ⟨_, rfl, fun a hf => ?_⟩
                  refine q_ hf rfl rfl rfl (e_neB hf (x := y68) (y := 35) rfl rfl) fun a hf => ?_
                  refine pl_nil ?_
                  refine then_n ?_
                  rcases cond_some h64 with ⟨hc73, h64⟩ | ⟨hc73, h64⟩
                  · refine cond_t hf rfl hc73 ?_
                    refine wp_skip ?_
                    refine then_n ?_
                    refine wp_block ?_
                    refine region_pl ?_
                    refine q_ hf rfl rfl rfl (e_move hf rfl) fun a hf => ?_
                    obtain ⟨z74, hz75, h64⟩ := bind_some h64
                    refine q_ hf rfl rfl rfl (e_add hf rfl rfl hz75) fun a hf => ?_
                    refine q_ hf rfl rfl rfl (e_assign hf rfl) fun a hf => ?_
                    refine pl_nil ?_
                    refine blk_n ?_
                    obtain rfl := some_inj h64
                    refine then_n ⟨_, rfl, ?_⟩
                    exact ⟨z74, rfl, hf.keep ⟨rfl, rfl, rfl, rfl, rfl, trivial⟩, hM.pick [0, 1] rfl, (chk_R hz75)⟩
                  · refine cond_f hf rfl hc73 ?_
                    refine wp_exit ?_
                    refine then_x ?_
                    obtain rfl := some_inj h64
                    obtain rfl := hd65 _ rfl
                    try dsimp only at h55
                    refine then_x ?_
                    refine exit_hit ?_
                    obtain rfl := some_inj h55
                    refine then_n ?_
                    exact ⟨n56, rfl, hf.keep ⟨rfl, rfl, rfl, rfl, rfl, trivial⟩, hM.pick [0, 1] rfl, hv57⟩
              · rintro a w81 ⟨n52, rfl, hf, hM, hv53⟩
                try dsimp only at h49
                obtain ⟨x85, h86, h49⟩ := bind_some h49
                refine seq_join (fun a w => ∃ (xs82 : (List Slot)) (A83 : Option Addr) (c84 : Nat), xs82 = x85 ∧ Has 45 a [(0, vP b2 (o3)), (3, vL A83 (xs82) c84), (4, vI (c16)), (5, vI (n40)), (6, vI (n52))] ∧ Mem C w [.row SlotRep A83 c84 75 xs82 true] [.lit b2 (o3) [vI (g1.Rows), vI (g1.Cols), vS (g1.Cells)], .dat (ptrRep GridRep) g1 [vP b2 o3]]) ?_ ?_
                · refine wp_seq ?_
                  refine region_pl ?_
                  refine q_ hf rfl rfl rfl (e_move hf rfl) fun a hf => ?_
                  refine q_ hf rfl rfl rfl (e_ge hf (x := n52) (y := 2) rfl rfl) fun a hf => ?_
                  refine pl_nil ?_
                  refine then_n ?_
                  rcases cond_some h86 with ⟨hc87, h86⟩ | ⟨hc87, h86⟩
                  · refine cond_t hf rfl hc87 ?_
                    refine region_pl ?_
                    refine q_ hf rfl rfl rfl (e_move hf rfl) fun a hf => ?_
                    refine q_ hf rfl rfl rfl (e_move hf rfl) fun a hf => ?_
                    refine q_ hf rfl rfl rfl (e_move hf rfl) fun a hf => ?_
                    refine q_ hf rfl rfl rfl (e_move hf rfl) fun a hf => ?_
                    refine q_ hf rfl rfl rfl (e_build hf Try.zeroValue75 Try.underlying75 (bp_75 _ Try.underlying75.symm) rfl (cs := #[vI (c16), vI (n40), .bool (false), vI (n52)]) (by kernel_rfl)) fun a hf => ?_
                    refine pl_l hf rfl rfl rfl (w_slice hf hM (K := SlotRep) (xs := ([(⟨c16, n40, false, n52⟩ : Slot)] : (List Slot))) (os := [.tmp 37]) Try.underlying30 ei_75 rfl rfl rfl rfl rfl ⟨⟨[vI (c16), vI (n40), .bool (false), vI (n52)], rfl, (SlotRep_mk (x := (⟨c16, n40, false, n52⟩ : Slot)) hv17 hv41 hv53)⟩, trivial⟩ rfl fun b88 w89 hx90 hM a hf => ?_)
                    obtain ⟨xs91, hz92, h86⟩ := bind_some h86
                    refine pl_l hf rfl rfl rfl (w_append hf hM Try.underlying30 ei_75 rfl rfl rfl (k := 1) rfl (hM.srcRow (k := 0) rfl) hz92 fun A93 c94 w95 hM a hf => ?_)
                    dsimp only [List.set] at hM
                    refine q_ hf rfl rfl rfl (e_assign hf rfl) fun a hf => ?_
                    refine pl_nil ?_
                    obtain rfl := some_inj h86
                    refine then_n ?_
                    exact ⟨xs91, A93, c94, rfl, hf.keep ⟨rfl, rfl, rfl, rfl, rfl, trivial⟩, (hM.drop (.cons _ (.cons_cons _ .slnil))).pick [0, 1] rfl⟩
                  · refine cond_f hf rfl hc87 ?_
                    refine wp_skip ?_
                    obtain rfl := some_inj h86
                    refine then_n ?_
                    exact ⟨xs37, A38, c39, rfl, hf.keep ⟨rfl, rfl, rfl, rfl, rfl, trivial⟩, hM.pick [0, 1] rfl⟩
                · rintro a w100 ⟨xs82, A83, c84, rfl, hf, hM⟩
                  try dsimp only at h49
                  refine region_pl ?_
                  refine q_ hf rfl rfl rfl (e_move hf rfl) fun a hf => ?_
                  refine q_ hf rfl rfl rfl (e_move hf rfl) fun a hf => ?_
                  obtain ⟨z101, hz102, h49⟩ := bind_some h49
                  refine q_ hf rfl rfl rfl (e_add hf rfl rfl hz102) fun a hf => ?_
                  obtain ⟨z103, hz104, h49⟩ := bind_some h49
                  refine q_ hf rfl rfl rfl (e_add hf rfl rfl hz104) fun a hf => ?_
                  refine q_ hf rfl rfl rfl (e_assign hf rfl) fun a hf => ?_
                  refine pl_nil ?_
                  refine blk_n ?_
                  obtain rfl := some_inj h49
                  refine then_n ⟨_, rfl, ?_⟩
                  exact ⟨xs82, z103, A83, c84, rfl, hf.keep ⟨rfl, rfl, rfl, rfl, trivial⟩, hM.pick [0, 1] rfl, (chk_R hz104)⟩
            · refine cond_f hf rfl hc51 ?_
              refine wp_exit ?_
              refine then_x ?_
              obtain rfl := some_inj h49
              obtain rfl := hd50 _ rfl
              try dsimp only at h36
              refine then_x ?_
              refine exit_hit ?_
              refine blk_n ?_
              obtain rfl := some_inj h36
              refine then_n ?_
              exact ⟨xs37, A38, c39, rfl, hf.keep ⟨rfl, rfl, rfl, trivial⟩, hM.pick [0, 1] rfl⟩
        · rintro a w110 ⟨xs32, A33, c34, rfl, hf, hM⟩
          try dsimp only at h25
          refine region_pl ?_
          refine q_ hf rfl rfl rfl (e_move hf rfl) fun a hf => ?_
          obtain ⟨z111, hz112, h25⟩ := bind_some h25
          refine q_ hf rfl rfl rfl (e_add hf rfl rfl hz112) fun a hf => ?_
          refine q_ hf rfl rfl rfl (e_assign hf rfl) fun a hf => ?_
          refine pl_nil ?_
          obtain rfl := some_inj h25
          refine then_n ⟨_, rfl, ?_⟩
          exact ⟨xs32, z111, A33, c34, rfl, hf.keep ⟨rfl, rfl, rfl, trivial⟩, hM.pick [1] rfl, (chk_R hz112)⟩
      · refine cond_f hf rfl hc31 ?_
        refine wp_exit ?_
        refine then_x ?_
        obtain rfl := some_inj h25
        obtain rfl := hd26 _ rfl
        try dsimp only at h12
        refine then_x ?_
        refine exit_hit ?_
        obtain rfl := some_inj h12
        refine then_n ?_
        exact ⟨xs13, A14, c15, rfl, hf.keep ⟨rfl, trivial⟩, hM.pick [1] rfl⟩
  · rintro a w118 ⟨xs8, A9, c10, rfl, hf, hM⟩
    try dsimp only at h
    refine wp_seq ?_
    refine region_pl ?_
    refine q_ hf rfl rfl rfl (e_move hf rfl) fun a hf => ?_
    refine q_ hf rfl rfl rfl (e_assign hf rfl) fun a hf => ?_
    refine pl_nil ?_
    refine then_n ?_
    refine wp_ret ?_
    obtain rfl := some_inj h
    exact leave1 hf rfl rfl ⟨A9, c10, rfl, hM.fin⟩

set_option maxRecDepth 100000 in
set_option maxHeartbeats 4000000 in
theorem r_spec_l25Turn (C : Cx) (g1 : Grid) (b2 : Nat) (o3 : Nat) (hp4 : (ptrRep GridRep).R C.w0 C.S0 g1 [vP b2 o3]) (r : Grid) (h : m_spec_l25Turn g1 = some r) :
    Calls Try.prog 84 #[vP b2 (o3)] C.w0 fun e w => e = .returned (.agg #[vI (r.Rows), vI (r.Cols), vS (r.Cells)]) ∧ Mem C w [] [] ∧ R64 r.Rows ∧ R64 r.Cols ∧ r.Cells.length ≤ maxLen := by
  have hM := Mem.begin C [.dat (ptrRep GridRep) g1 [vP b2 o3]] ⟨hp4, trivial⟩
  refine enter Try.func84 rfl Try.ntmps84 rfl fun a hf => ?_
  unfold m_spec_l25Turn at h
  refine wp_seq ?_
  refine region_pl ?_
  refine pl_l hf rfl rfl rfl (w_alloc hM (cs := [vI (0), vI (0), vS (([] : Str))]) Try.zeroValue27 rfl fun b5 w6 hx7 hM a hf => ?_)
  refine pl_nil ?_
  refine then_n ?_
  refine wp_seq ?_
  refine region_pl ?_
  refine pl_l hf rfl rfl rfl (w_slice0 (K := byteRep) hM Try.underlying63 ei_5 fun b9 w10 hx11 hM a hf => ?_)
  refine q_ hf rfl rfl rfl (e_assign hf rfl) fun a hf => ?_
  refine pl_nil ?_
  refine then_n ?_
  obtain ⟨x15, h16, h⟩ := bind_some h
  refine seq_join (fun a w => ∃ (xs12 : Str) (A13 : Option Addr) (c14 : Nat), xs12 = x15 ∧ Has 41 a [(0, vP b2 (o3)), (2, vP b5 (0)), (3, vL A13 (xs12) c14)] ∧ Mem C w [.row byteRep A13 c14 5 xs12 true, .box b5 [vI (0), vI (0), vS (([] : Str))] 27] [.dat (ptrRep GridRep) g1 [vP b2 o3]]) ?_ ?_
  · refine wp_seq ?_
    refine region_pl ?_
    refine q_ hf rfl rfl rfl (e_assign hf rfl) fun a hf => ?_
    refine pl_nil ?_
    refine then_n ?_
    refine wp_block ?_
    obtain ⟨x26, h27, h16⟩ := bind_some h16
    refine wp_loopM h27 (fun s a w => ∃ (xs17 : Str) (r20 : Int) (A18 : Option Addr) (c19 : Nat), (xs17, r20) = s ∧ Has 41 a [(0, vP b2 (o3)), (2, vP b5 (0)), (3, vL A18 (xs17) c19), (4, vI (r20))] ∧ Mem C w [.row byteRep A18 c19 5 xs17 true, .box b5 [vI (0), vI (0), vS (([] : Str))] 27] [.dat (ptrRep GridRep) g1 [vP b2 o3]] ∧ R64 r20) ?_ ?_
    · exact ⟨([] : Str), 0, (some ⟨b9, 0, none⟩), 0, rfl, hf.keep ⟨rfl, rfl, rfl, rfl, trivial⟩, hM.pick [0] rfl, (R64_lit rfl)⟩
    · rintro s o28 a w22 ⟨xs17, r20, A18, c19, rfl, hf, hM, hv21⟩ h29 hd30
      replace h29 : m_spec_l25Turn_l1 g1 xs17 r20 = some o28 := h29
      unfold m_spec_l25Turn_l1 at h29
      refine wp_seq ?_
      refine wp_seq ?_
      refine region_pl ?_
      refine q_ hf rfl rfl rfl (e_move hf rfl) fun a hf => ?_
      refine q_ hf rfl rfl rfl (e_move hf rfl) fun a hf => ?_
      refine q_ hf rfl rfl rfl (e_nil hf rfl) fun a hf => ?_
      obtain ⟨_, hr31, hM⟩ := hM.deref (hM.dat (k := 0) rfl)
      obtain ⟨rfl, hv32, hv33, hv34⟩ := GridRep_open hr31
      refine q_ hf rfl rfl rfl (e_field hf rfl Try.underlying27 rfl Try.sizeOf2 (o' := o3 + 1) rfl) fun a hf => ?_
      refine q_ hf rfl rfl rfl (e_load1 hf rfl Try.isAgg2 (hM.litCell (k := 0) (j := 1) rfl rfl rfl)) fun a hf => ?_
      refine q_ hf rfl rfl rfl (e_lt hf (x := r20) (y := g1.Cols) rfl rfl) fun a hf => ?_
      refine pl_nil ?_
      refine then_n ?_
      rcases cond_some h29 with ⟨hc35, h29⟩ | ⟨hc35, h29⟩
      · refine cond_t hf rfl hc35 ?_
        refine wp_skip ?_
        refine then_n ?_
        obtain ⟨x39, h40, h29⟩ := bind_some h29
        refine seq_join (fun a w => ∃ (xs36 : Str) (A37 : Option Addr) (c38 : Nat), xs36 = x39 ∧ Has 41 a [(0, vP b2 (o3)), (2, vP b5 (0)), (3, vL A37 (xs36) c38), (4, vI (r20))] ∧ Mem C w [.row byteRep A37 c38 5 xs36 true, .box b5 [vI (0), vI (0), vS (([] : Str))] 27] [.lit b2 (o3) [vI (g1.Rows), vI (g1.Cols), vS (g1.Cells)], .dat (ptrRep GridRep) g1 [vP b2 o3]]) ?_ ?_
        · refine wp_block ?_
          refine wp_seq ?_
          refine region_pl ?_
          refine q_ hf rfl rfl rfl (e_assign hf rfl) fun a hf => ?_
          refine pl_nil ?_
          refine then_n ?_
          refine wp_block ?_
          obtain ⟨x50, h51, h40⟩ := bind_some h40
          refine wp_loopM h51 (fun s a w => ∃ (xs41 : Str) (n44 : Int) (A42 : Option Addr) (c43 : Nat), (xs41, n44) = s ∧ Has 41 a [(0, vP b2 (o3)), (2, vP b5 (0)), (3, vL A42 (xs41) c43), (4, vI (r20)), (5, vI (n44))] ∧ Mem C w [.row byteRep A42 c43 5 xs41 true, .box b5 [vI (0), vI (0), vS (([] : Str))] 27] [.lit b2 (o3) [vI (g1.Rows), vI (g1.Cols), vS (g1.Cells)], .dat (ptrRep GridRep) g1 [vP b2 o3]] ∧ R64 n44) ?_ ?_
          · exact ⟨xs17, 0, A18, c19, rfl, hf.keep ⟨rfl, rfl, rfl, rfl, rfl, trivial⟩, hM.pick [0, 1] rfl, (R64_lit rfl)⟩
          · rintro s o52 a w46 ⟨xs41, n44, A42, c43, rfl, hf, hM, hv45⟩ h53 hd54
            replace h53 : m_spec_l25Turn_l2 g1 r20 xs41 n44 = some o52 := h53
            unfold m_spec_l25Turn_l2 at h53
            refine wp_seq ?_
            refine wp_seq ?_
            refine region_pl ?_
            refine q_ hf rfl rfl rfl (e_move hf rfl) fun a hf => ?_
            refine q_ hf rfl rfl rfl (e_move hf rfl) fun a hf => ?_
            refine q_ hf rfl rfl rfl (e_nil hf rfl) fun a hf => ?_
            refine q_ hf rfl rfl rfl (e_field hf rfl Try.underlying27 rfl Try.sizeOf2 (o' := o3 + 0) rfl) fun a hf => ?_
            refine q_ hf rfl rfl rfl (e_load1 hf rfl Try.isAgg2 (hM.litCell (k := 0) (j := 0) rfl rfl rfl)) fun a hf => ?_
            refine q_ hf rfl rfl rfl (e_lt hf (x := n44) (y := g1.Rows) rfl rfl) fun a hf => ?_
            refine pl_nil ?_
            refine then_n ?_
            rcases cond_some h53 with ⟨hc55, h53⟩ | ⟨hc55, h53⟩
            · refine cond_t hf rfl hc55 ?_
              refine wp_skip ?_
              refine then_n ?_
              refine wp_seq ?_
              refine wp_block ?_
              refine region_pl ?_
              refine q_ hf rfl rfl rfl (e_move hf rfl) fun a hf => ?_
              refine q_ hf rfl rfl rfl (e_move hf rfl) fun a hf => ?_
              refine q_ hf rfl rfl rfl (e_move hf rfl) fun a hf => ?_
              refine q_ hf rfl rfl rfl (e_move hf rfl) fun a hf => ?_
              obtain ⟨y56, hz57, h53⟩ := bind_some h53
              refine pl_l hf rfl rfl rfl (w_call hf Try.call108 rfl (r_spec_l25At ⟨_, Sh C _ _, none_, hM.sh_lt, none_not, C.G, hM.g_lt, g_none, hM.tabs⟩ g1 _ _ (hM.dat (k := 1) rfl) n44 hv45 r20 hv21 _ hz57) ?_)
              rintro _ w58 ⟨rfl, hM2⟩
              obtain ⟨hM, hx59, hup60⟩ := hM.back hM2
              dsimp only [List.cons_append, List.nil_append] at hM hup60
              clear hM2
              refine ⟨_, rfl, fun a hf => ?_⟩
              refine pl_l hf rfl rfl rfl (w_slice hf hM (K := byteRep) (xs := ([y56] : Str)) (os := [.tmp 27]) Try.underlying63 ei_5 rfl rfl rfl rfl rfl ⟨⟨[vB (y56)], rfl, rfl⟩, trivial⟩ rfl fun b61 w62 hx63 hM a hf => ?_)
              obtain ⟨xs64, hz65, h53⟩ := bind_some h53
              refine pl_l hf rfl rfl rfl (w_append hf hM Try.underlying63 ei_5 rfl rfl rfl (k := 1) rfl (hM.srcRow (k := 0) rfl) hz65 fun A66 c67 w68 hM a hf => ?_)
              dsimp only [List.set] at hM
              refine q_ hf rfl rfl rfl (e_assign hf rfl) fun a hf => ?_
              refine pl_nil ?_
              refine blk_n ?_
              refine then_n ?_
              refine region_pl ?_
              refine q_ hf rfl rfl rfl (e_move hf rfl) fun a hf => ?_
              obtain ⟨z71, hz72, h53⟩ := bind_some h53
              refine q_ hf rfl rfl rfl (e_add hf rfl rfl hz72) fun a hf => ?_
              refine q_ hf rfl rfl rfl (e_assign hf rfl) fun a hf => ?_
              refine pl_nil ?_
              obtain rfl := some_inj h53
              refine then_n ⟨_, rfl, ?_⟩
              exact ⟨xs64, z71, A66, c67, rfl, hf.keep ⟨rfl, rfl, rfl, rfl, rfl, trivial⟩, (hM.drop (.cons _ (.cons_cons _ (.cons_cons _ .slnil)))).pick [0, 1] rfl, (chk_R hz72)⟩
            · refine cond_f hf rfl hc55 ?_
              refine wp_exit ?_
              refine then_x ?_
              obtain rfl := some_inj h53
              obtain rfl := hd54 _ rfl
              try dsimp only at h40
              refine then_x ?_
              refine exit_hit ?_
              refine blk_n ?_
              obtain rfl := some_inj h40
              refine then_n ?_
              exact ⟨xs41, A42, c43, rfl, hf.keep ⟨rfl, rfl, rfl, rfl, trivial⟩, hM.pick [0, 1] rfl⟩
        · rintro a w78 ⟨xs36, A37, c38, rfl, hf, hM⟩
          try dsimp only at h29
          refine region_pl ?_
          refine q_ hf rfl rfl rfl (e_move hf rfl) fun a hf => ?_
          obtain ⟨z79, hz80, h29⟩ := bind_some h29
          refine q_ hf rfl rfl rfl (e_add hf rfl rfl hz80) fun a hf => ?_
          refine q_ hf rfl rfl rfl (e_assign hf rfl) fun a hf => ?_
          refine pl_nil ?_
          obtain rfl := some_inj h29
          refine then_n ⟨_, rfl, ?_⟩
          exact ⟨xs36, z79, A37, c38, rfl, hf.keep ⟨rfl, rfl, rfl, rfl, trivial⟩, hM.pick [1] rfl, (chk_R hz80)⟩
      · refine cond_f hf rfl hc35 ?_
        refine wp_exit ?_
        refine then_x ?_
        obtain rfl := some_inj h29
        obtain rfl := hd30 _ rfl
        try dsimp only at h16
        refine then_x ?_
        refine exit_hit ?_
        obtain rfl := some_inj h16
        refine then_n ?_
        exact ⟨xs17, A18, c19, rfl, hf.keep ⟨rfl, rfl, rfl, trivial⟩, hM.pick [1] rfl⟩
  · rintro a w86 ⟨xs12, A13, c14, rfl, hf, hM⟩
    try dsimp only at h
    refine wp_seq ?_
    obtain ⟨w87, hw⟩ : ∃ x, x = w86.drew := ⟨_, rfl⟩
    refine region_pi (.q 0 (.q 1 (.q 2 (.q 3 (.q 4 (.q 5 (.q 6 (.q 7 (.q 8 (.q 9 (.q 10 (.l 11 (.nil))))))))))))) (Ext w87) rfl (by kernel_rfl) ?_
    have hM := hM.drew
    rw [← hw] at hM ⊢
    clear hw
    refine pi_q hf rfl rfl rfl rfl (Ext.refl _) (e_move hf rfl) fun a hf => ?_
    refine pi_q hf rfl rfl rfl rfl (Ext.refl _) (e_nil hf rfl) fun a hf => ?_
    obtain ⟨_, hr88, hM⟩ := hM.deref (hM.dat (k := 0) rfl)
    obtain ⟨rfl, hv89, hv90, hv91⟩ := GridRep_open hr88
    refine pi_q hf rfl rfl rfl rfl (Ext.refl _) (e_field hf rfl Try.underlying27 rfl Try.sizeOf2 (o' := o3 + 1) rfl) fun a hf => ?_
    refine pi_q hf rfl rfl rfl rfl (Ext.refl _) (e_load1 hf rfl Try.isAgg2 (hM.litCell (k := 0) (j := 1) rfl rfl rfl)) fun a hf => ?_
    refine pi_q hf rfl rfl rfl rfl (Ext.refl _) (e_move hf rfl) fun a hf => ?_
    refine pi_q hf rfl rfl rfl rfl (Ext.refl _) (e_nil hf rfl) fun a hf => ?_
    refine pi_q hf rfl rfl rfl rfl (Ext.refl _) (e_field hf rfl Try.underlying27 rfl Try.sizeOf2 (o' := o3 + 0) rfl) fun a hf => ?_
    refine pi_q hf rfl rfl rfl rfl (Ext.refl _) (e_load1 hf rfl Try.isAgg2 (hM.litCell (k := 0) (j := 0) rfl rfl rfl)) fun a hf => ?_
    refine pi_q hf rfl rfl rfl rfl (Ext.refl _) (e_move hf rfl) fun a hf => ?_
    have hl92 := row_len (hM.ownAt (k := 0) rfl)
    refine pi_q hf rfl rfl rfl rfl (Ext.refl _) (e_bytesStr hf (xs := xs12) rfl Try.underlying63 Try.underlying5 Try.underlying9 (hM.lendRow (k := 0) rfl)) fun a hf => ?_
    refine pi_q hf rfl rfl rfl rfl (Ext.refl _) (e_build hf Try.zeroValue27 Try.underlying27 (bp_27 _ Try.underlying27.symm) rfl (cs := #[vI (g1.Cols), vI (g1.Rows), vS (xs12)]) (by kernel_rfl)) fun a hf => ?_
    refine pi_one ?_
    refine pi_z0 hf rfl rfl rfl (by kernel_rfl) (w_store hf hM (us := [vI (g1.Cols), vI (g1.Rows), vS (xs12)]) (cs' := [vI (g1.Cols), vI (g1.Rows), vS (xs12)]) rfl rfl (k := 1) rfl rfl Try.sizeOf27 rfl rfl rfl fun w93 hM => ?_)
    dsimp only [List.set] at hM
    refine pi_nil ?_
    refine then_n ?_
    refine wp_ret ?_
    obtain rfl := some_inj h
    have hres96 := leaveV1 (P := Try.prog) Try.results84 (res_agg hf rfl ⟨Try.isAgg27, Try.sizeOf27⟩ (us := [vI (g1.Cols), vI (g1.Rows), vS (xs12)]) rfl (hM.boxSub (k := 1) (o := 0) rfl rfl))
    have hM := hM.outs (own' := []) 0 rfl
    exact bodyPost_ret hres96 hf.defers ⟨rfl, hM.fin, hv90, hv89, hl92⟩

set_option maxRecDepth 100000 in
set_option maxHeartbeats 4000000 in
theorem r_spec_l25Slots (C : Cx) (g1 : Grid) (b2 : Nat) (o3 : Nat) (hp4 : (ptrRep GridRep).R C.w0 C.S0 g1 [vP b2 o3]) (r : (List Slot)) (h : m_spec_l25Slots g1 = some r) :
    Calls Try.prog 50 #[vP b2 (o3)] C.w0 fun e w => ∃ (A_1 : Option Addr), ∃ (c_1 : Nat), e = .returned (vL A_1 (r) c_1) ∧ Mem C w [.row SlotRep A_1 c_1 75 r true] [] := by
  have hM := Mem.begin C [.dat (ptrRep GridRep) g1 [vP b2 o3]] ⟨hp4, trivial⟩
  refine enter Try.func50 rfl Try.ntmps50 rfl fun a hf => ?_
  unfold m_spec_l25Slots at h
  refine wp_seq ?_
  refine region_pl ?_
  refine q_ hf rfl rfl rfl (e_assign hf rfl) fun a hf => ?_
  refine pl_nil ?_
  refine then_n ?_
  refine wp_seq ?_
  refine region_pl ?_
  refine q_ hf rfl rfl rfl (e_move hf rfl) fun a hf => ?_
  obtain ⟨y5, hz6, h⟩ := bind_some h
  refine pl_l hf rfl rfl rfl (w_call hf Try.call83 rfl (r_spec_l25Across ⟨_, Sh C _ _, none_, hM.sh_lt, none_not, C.G, hM.g_lt, g_none, hM.tabs⟩ g1 _ _ (hM.dat (k := 0) rfl) _ hz6) ?_)
  rintro _ w9 ⟨A7, c8, rfl, hM2⟩
  obtain ⟨hM, hx10, hup11⟩ := hM.back hM2
  dsimp only [List.cons_append, List.nil_append] at hM hup11
  clear hM2
  refine ⟨_, rfl, fun a hf => ?_⟩
  refine q_ hf rfl rfl rfl (e_assign hf rfl) fun a hf => ?_
  refine pl_nil ?_
  refine then_n ?_
  refine wp_seq ?_
  refine region_pl ?_
  refine q_ hf rfl rfl rfl (e_move hf rfl) fun a hf => ?_
  obtain ⟨y12, hz13, h⟩ := bind_some h
  refine pl_l hf rfl rfl rfl (w_call hf Try.call84 rfl (r_spec_l25Turn ⟨_, Sh C _ _, none_, hM.sh_lt, none_not, C.G, hM.g_lt, g_none, hM.tabs⟩ g1 _ _ (hM.dat (k := 0) rfl) _ hz13) ?_)
  rintro _ w17 ⟨rfl, hM2, hv14, hv15, hv16⟩
  obtain ⟨hM, hx18, hup19⟩ := hM.back hM2
  dsimp only [List.cons_append, List.nil_append] at hM hup19
  clear hM2
  refine ⟨_, rfl, fun a hf => ?_⟩
  refine pl_l hf rfl rfl rfl (w_alloc hM (cs := [vI (0), vI (0), vS (([] : Str))]) Try.zeroValue27 rfl fun b20 w21 hx22 hM a hf => ?_)
  refine pl_0 hf rfl rfl (w_store hf hM (us := [vI (y12.Rows), vI (y12.Cols), vS (y12.Cells)]) (cs' := [vI (y12.Rows), vI (y12.Cols), vS (y12.Cells)]) rfl rfl (k := 0) rfl rfl Try.sizeOf27 rfl rfl rfl fun w24 hM => ?_)
  dsimp only [List.set] at hM
  refine pl_nil ?_
  refine then_n ?_
  refine wp_seq ?_
  refine region_pl ?_
  obtain ⟨y27, hz28, h⟩ := bind_some h
  refine pl_l hf rfl rfl rfl (w_call hf Try.call83 rfl (r_spec_l25Across ⟨_, All C _ _, none_, hM.all_lt, none_not, C.G, hM.g_lt, g_none, hM.tabs⟩ y12 _ _ (hM.lendBox (k := 0) rfl (GridRep_mk (x := y12) hv14 hv15 hv16)) _ hz28) ?_)
  rintro _ w31 ⟨A29, c30, rfl, hM2⟩
  obtain ⟨hM, hx32⟩ := hM.backAF SlotRep_flat hM2
  clear hM2
  refine ⟨_, rfl, fun a hf => ?_⟩
  refine q_ hf rfl rfl rfl (e_assign hf rfl) fun a hf => ?_
  refine pl_nil ?_
  refine then_n ?_
  obtain ⟨x37, h38, h⟩ := bind_some h
  refine seq_join (fun a w => ∃ (xs34 : (List Slot)) (A35 : Option Addr) (c36 : Nat), xs34 = x37 ∧ Has 38 a [(3, vL A35 (xs34) c36)] ∧ Mem C w [.row SlotRep A29 c30 75 y27 true, .box b20 [vI (y12.Rows), vI (y12.Cols), vS (y12.Cells)] 27, .row SlotRep A35 c36 75 xs34 true] [.dat (ptrRep GridRep) g1 [vP b2 o3]]) ?_ ?_
  · refine wp_seq ?_
    refine region_pl ?_
    refine q_ hf rfl rfl rfl (e_assign hf rfl) fun a hf => ?_
    refine pl_nil ?_
    refine then_n ?_
    refine wp_block ?_
    obtain ⟨x48, h49, h38⟩ := bind_some h38
    refine wp_loopM h49 (fun s a w => ∃ (xs39 : (List Slot)) (n42 : Int) (A40 : Option Addr) (c41 : Nat), (xs39, n42) = s ∧ Has 38 a [(3, vL A40 (xs39) c41), (5, vL A29 (y27) c30), (6, vI (n42))] ∧ Mem C w [.row SlotRep A29 c30 75 y27 true, .box b20 [vI (y12.Rows), vI (y12.Cols), vS (y12.Cells)] 27, .row SlotRep A40 c41 75 xs39 true] [.dat (ptrRep GridRep) g1 [vP b2 o3]] ∧ R64 n42) ?_ ?_
    · exact ⟨y5, 0, A7, c8, rfl, hf.keep ⟨rfl, rfl, rfl, trivial⟩, hM.pick [0] rfl, (R64_lit rfl)⟩
    · rintro s o50 a w44 ⟨xs39, n42, A40, c41, rfl, hf, hM, hv43⟩ h51 hd52
      replace h51 : m_spec_l25Slots_l1 y27 xs39 n42 = some o50 := h51
      unfold m_spec_l25Slots_l1 at h51
      refine wp_seq ?_
      refine wp_seq ?_
      refine region_pl ?_
      refine q_ hf rfl rfl rfl (e_move hf rfl) fun a hf => ?_
      refine q_ hf rfl rfl rfl (e_move hf rfl) fun a hf => ?_
      have hl53 := row_len (hM.ownAt (k := 0) rfl)
      refine q_ hf rfl rfl rfl (e_lenL hf (x := y27) rfl Try.underlying30) fun a hf => ?_
      refine q_ hf rfl rfl rfl (e_lt hf (x := n42) (y := (y27.length : Int)) rfl rfl) fun a hf => ?_
      refine pl_nil ?_
      refine then_n ?_
      rcases cond_some h51 with ⟨hc54, h51⟩ | ⟨hc54, h51⟩
      · refine cond_t hf rfl hc54 ?_
        refine wp_skip ?_
        refine then_n ?_
        refine wp_seq ?_
        refine wp_block ?_
        obtain ⟨w55, hw⟩ : ∃ x, x = w44.drew := ⟨_, rfl⟩
        refine region_pi (.q 0 (.q 1 (.q 2 (.q 3 (.q 4 (.q 5 (.q 6 (.q 7 (.q 8 (.q 9 (.q 10 (.q 11 (.q 12 (.q 13 (.q 14 (.q 15 (.q 16 (.l 17 (.l 18 (.q 19 (.nil))))))))))))))))))))) (Ext w55) rfl (by kernel_rfl) ?_
        have hM := hM.drew
        rw [← hw] at hM ⊢
        clear hw
        refine pi_q hf rfl rfl rfl rfl (Ext.refl _) (e_move hf rfl) fun a hf => ?_
        refine pi_q hf rfl rfl rfl rfl (Ext.refl _) (e_move hf rfl) fun a hf => ?_
        refine pi_q hf rfl rfl rfl rfl (Ext.refl _) (e_move hf rfl) fun a hf => ?_
        obtain ⟨e56, hz57, h51⟩ := bind_some h51
        obtain ⟨b62, _, hA63, h58, h59, hr60, hcell61⟩ := hM.rowElemN (k := 0) rfl (n := 4) rfl hz57
        obtain ⟨rfl, hv64, hv65, hv66⟩ := SlotRep_open hr60
        refine pi_q hf rfl rfl rfl rfl (Ext.refl _) (e_indexAddr (A := A29) (b := b62) (o := 0) (xs := y27) (i := n42) hf hA63 rfl rfl Try.underlying30 Try.sizeOf75 h58 h59) fun a hf => ?_
        refine pi_q hf rfl rfl rfl rfl (Ext.refl _) (e_field hf rfl Try.underlying75 rfl Try.sizeOf2 (o' := (0 + (n42 : Int).toNat * 4) + 1) rfl) fun a hf => ?_
        refine pi_q hf rfl rfl rfl rfl (Ext.refl _) (e_load1 hf rfl Try.isAgg2 (hcell61 1 _ rfl)) fun a hf => ?_
        refine pi_q hf rfl rfl rfl rfl (Ext.refl _) (e_move hf rfl) fun a hf => ?_
        refine pi_q hf rfl rfl rfl rfl (Ext.refl _) (e_move hf rfl) fun a hf => ?_
        obtain ⟨e67, hz68, h51⟩ := bind_some h51
        obtain ⟨b73, _, hA74, h69, h70, hr71, hcell72⟩ := hM.rowElemN (k := 0) rfl (n := 4) rfl hz68
        obtain ⟨rfl, hv75, hv76, hv77⟩ := SlotRep_open hr71
        refine pi_q hf rfl rfl rfl rfl (Ext.refl _) (e_indexAddr (A := A29) (b := b73) (o := 0) (xs := y27) (i := n42) hf hA74 rfl rfl Try.underlying30 Try.sizeOf75 h69 h70) fun a hf => ?_
        refine pi_q hf rfl rfl rfl rfl (Ext.refl _) (e_field hf rfl Try.underlying75 rfl Try.sizeOf2 (o' := (0 + (n42 : Int).toNat * 4) + 0) rfl) fun a hf => ?_
        refine pi_q hf rfl rfl rfl rfl (Ext.refl _) (e_load1 hf rfl Try.isAgg2 (hcell72 0 _ rfl)) fun a hf => ?_
        refine pi_q hf rfl rfl rfl rfl (Ext.refl _) (e_move hf rfl) fun a hf => ?_
        refine pi_q hf rfl rfl rfl rfl (Ext.refl _) (e_move hf rfl) fun a hf => ?_
        obtain ⟨e78, hz79, h51⟩ := bind_some h51
        obtain ⟨b84, _, hA85, h80, h81, hr82, hcell83⟩ := hM.rowElemN (k := 0) rfl (n := 4) rfl hz79
        obtain ⟨rfl, hv86, hv87, hv88⟩ := SlotRep_open hr82
        refine pi_q hf rfl rfl rfl rfl (Ext.refl _) (e_indexAddr (A := A29) (b := b84) (o := 0) (xs := y27) (i := n42) hf hA85 rfl rfl Try.underlying30 Try.sizeOf75 h80 h81) fun a hf => ?_
        refine pi_q hf rfl rfl rfl rfl (Ext.refl _) (e_field hf rfl Try.underlying75 rfl Try.sizeOf2 (o' := (0 + (n42 : Int).toNat * 4) + 3) rfl) fun a hf => ?_
        refine pi_q hf rfl rfl rfl rfl (Ext.refl _) (e_load1 hf rfl Try.isAgg2 (hcell83 3 _ rfl)) fun a hf => ?_
        refine pi_q hf rfl rfl rfl rfl (Ext.refl _) (e_build hf Try.zeroValue75 Try.underlying75 (bp_75 _ Try.underlying75.symm) rfl (cs := #[vI (e56.Col), vI (e67.Row), .bool (true), vI (e78.Length)]) (by kernel_rfl)) fun a hf => ?_
        refine pi_one ?_
        refine pi_l hf rfl rfl rfl rfl (w_slice hf hM (K := SlotRep) (xs := ([(⟨e56.Col, e67.Row, true, e78.Length⟩ : Slot)] : (List Slot))) (os := [.tmp 34]) Try.underlying30 ei_75 rfl rfl rfl rfl rfl ⟨⟨[vI (e56.Col), vI (e67.Row), .bool (true), vI (e78.Length)], rfl, (SlotRep_mk (x := (⟨e56.Col, e67.Row, true, e78.Length⟩ : Slot)) hv65 hv75 hv88)⟩, trivial⟩ rfl fun b89 w90 hx91 hM => ⟨Ext w90, fun _ h => Ext.trans hx91 h, Ext.refl _, fun a hf => ?_⟩)
        refine pi_one ?_
        obtain ⟨xs92, hz93, h51⟩ := bind_some h51
        refine pi_z hf rfl rfl rfl rfl (by kernel_rfl) (w_append hf hM Try.underlying30 ei_75 rfl rfl rfl (k := 3) rfl (hM.srcRow (k := 0) rfl) hz93 fun A94 c95 w96 hM a hf => ?_)
        dsimp only [List.set] at hM
        refine pi_q hf rfl rfl rfl rfl (Ext.refl _) (e_assign hf rfl) fun a hf => ?_
        refine pi_nil ?_
        refine blk_n ?_
        refine then_n ?_
        refine region_pl ?_
        refine q_ hf rfl rfl rfl (e_move hf rfl) fun a hf => ?_
        obtain ⟨z99, hz100, h51⟩ := bind_some h51
        refine q_ hf rfl rfl rfl (e_add hf rfl rfl hz100) fun a hf => ?_
        refine q_ hf rfl rfl rfl (e_assign hf rfl) fun a hf => ?_
        refine pl_nil ?_
        obtain rfl := some_inj h51
        refine then_n ⟨_, rfl, ?_⟩
        exact ⟨xs92, z99, A94, c95, rfl, hf.keep ⟨rfl, rfl, rfl, trivial⟩, (hM.drop (.cons _ (.cons_cons _ (.cons_cons _ (.cons_cons _ .slnil))))).pick [0] rfl, (chk_R hz100)⟩
      · refine cond_f hf rfl hc54 ?_
        refine wp_exit ?_
        refine then_x ?_
        obtain rfl := some_inj h51
        obtain rfl := hd52 _ rfl
        try dsimp only at h38
        refine then_x ?_
        refine exit_hit ?_
        obtain rfl := some_inj h38
        refine then_n ?_
        exact ⟨xs39, A40, c41, rfl, hf.keep ⟨rfl, trivial⟩, hM.pick [0] rfl⟩
  · rintro a w106 ⟨xs34, A35, c36, rfl, hf, hM⟩
    try dsimp only at h
    refine wp_seq ?_
    refine region_pl ?_
    refine q_ hf rfl rfl rfl (e_move hf rfl) fun a hf => ?_
    refine q_ hf rfl rfl rfl (e_assign hf rfl) fun a hf => ?_
    refine pl_nil ?_
    refine then_n ?_
    refine wp_ret ?_
    obtain rfl := some_inj h
    have hM := hM.front (k := 2) rfl
    dsimp only [List.eraseIdx] at hM
    have hM := hM.outs (own' := [.row SlotRep A35 c36 75 xs34 true]) 1 rfl
    exact leave1 hf rfl rfl ⟨A35, c36, rfl, hM.fin⟩

set_option maxRecDepth 100000 in
set_option maxHeartbeats 4000000 in
theorem r_spec_l25Square (C : Cx) (g1 : Grid) (b2 : Nat) (o3 : Nat) (hp4 : (ptrRep GridRep).R C.w0 C.S0 g1 [vP b2 o3]) (s5 : Slot) (b6 : Nat) (o7 : Nat) (hp8 : (ptrRep SlotRep).R C.w0 C.S0 s5 [vP b6 o7]) (k9 : Int) (hp10 : R64 k9) (r : Int) (h : m_spec_l25Square g1 s5 k9 = some r) :
    Calls Try.prog 85 #[vP b2 (o3), vP b6 (o7), vI (k9)] C.w0 fun e w => e = .returned (vI (r)) ∧ Mem C w [] [] ∧ R64 r := by
  have hM := Mem.begin C [.dat (ptrRep SlotRep) s5 [vP b6 o7], .dat (ptrRep GridRep) g1 [vP b2 o3]] ⟨hp8, hp4, trivial⟩
  refine enter Try.func85 rfl Try.ntmps85 rfl fun a hf => ?_
  unfold m_spec_l25Square at h
  refine wp_seq ?_
  refine region_pl ?_
  refine q_ hf rfl rfl rfl (e_assign hf rfl) fun a hf => ?_
  refine pl_nil ?_
  refine then_n ?_
  refine wp_seq ?_
  refine wp_seq ?_
  refine region_pl ?_
  refine q_ hf rfl rfl rfl (e_move hf rfl) fun a hf => ?_
  refine q_ hf rfl rfl rfl (e_nil hf rfl) fun a hf => ?_
  obtain ⟨_, hr11, hM⟩ := hM.deref (hM.dat (k := 0) rfl)
  obtain ⟨rfl, hv12, hv13, hv14⟩ := SlotRep_open hr11
  refine q_ hf rfl rfl rfl (e_field hf rfl Try.underlying75 rfl Try.sizeOf4 (o' := o7 + 2) rfl) fun a hf => ?_
  refine q_ hf rfl rfl rfl (e_load1 hf rfl Try.isAgg4 (hM.litCell (k := 0) (j := 2) rfl rfl rfl)) fun a hf => ?_
  refine pl_nil ?_
  refine then_n ?_
  rcases cond_some h with ⟨hc15, h⟩ | ⟨hc15, h⟩
  · refine cond_t hf rfl hc15 ?_
    refine wp_seq ?_
    obtain ⟨w16, hw⟩ : ∃ x, x = C.w0.drew := ⟨_, rfl⟩
    refine region_pi (.q 0 (.q 1 (.q 2 (.q 3 (.q 4 (.q 5 (.q 6 (.q 7 (.q 8 (.q 9 (.q 10 (.q 11 (.q 12 (.q 13 (.q 14 (.q 15 (.q 16 (.nil)))))))))))))))))) (Ext w16) rfl (by kernel_rfl) ?_
    have hM := hM.drew
    rw [← hw] at hM ⊢
    clear hw
    refine pi_q hf rfl rfl rfl rfl (Ext.refl _) (e_move hf rfl) fun a hf => ?_
    refine pi_q hf rfl rfl rfl rfl (Ext.refl _) (e_nil hf rfl) fun a hf => ?_
    refine pi_q hf rfl rfl rfl rfl (Ext.refl _) (e_field hf rfl Try.underlying75 rfl Try.sizeOf2 (o' := o7 + 0) rfl) fun a hf => ?_
    refine pi_q hf rfl rfl rfl rfl (Ext.refl _) (e_load1 hf rfl Try.isAgg2 (hM.litCell (k := 0) (j := 0) rfl rfl rfl)) fun a hf => ?_
    refine pi_q hf rfl rfl rfl rfl (Ext.refl _) (e_move hf rfl) fun a hf => ?_
    obtain ⟨z17, hz18, h⟩ := bind_some h
    refine pi_q hf rfl rfl rfl rfl (Ext.refl _) (e_add hf rfl rfl hz18) fun a hf => ?_
    refine pi_q hf rfl rfl rfl rfl (Ext.refl _) (e_move hf rfl) fun a hf => ?_
    refine pi_q hf rfl rfl rfl rfl (Ext.refl _) (e_nil hf rfl) fun a hf => ?_
    obtain ⟨_, hr19, hM⟩ := hM.deref (hM.dat (k := 2) rfl)
    obtain ⟨rfl, hv20, hv21, hv22⟩ := GridRep_open hr19
    refine pi_q hf rfl rfl rfl rfl (Ext.refl _) (e_field hf rfl Try.underlying27 rfl Try.sizeOf2 (o' := o3 + 1) rfl) fun a hf => ?_
    refine pi_q hf rfl rfl rfl rfl (Ext.refl _) (e_load1 hf rfl Try.isAgg2 (hM.litCell (k := 0) (j := 1) rfl rfl rfl)) fun a hf => ?_
    obtain ⟨z23, hz24, h⟩ := bind_some h
    refine pi_q hf rfl rfl rfl rfl (Ext.refl _) (e_mul hf rfl rfl hz24) fun a hf => ?_
    refine pi_q hf rfl rfl rfl rfl (Ext.refl _) (e_move hf rfl) fun a hf => ?_
    refine pi_q hf rfl rfl rfl rfl (Ext.refl _) (e_nil hf rfl) fun a hf => ?_
    refine pi_q hf rfl rfl rfl rfl (Ext.refl _) (e_field hf rfl Try.underlying75 rfl Try.sizeOf2 (o' := o7 + 1) rfl) fun a hf => ?_
    refine pi_q hf rfl rfl rfl rfl (Ext.refl _) (e_load1 hf rfl Try.isAgg2 (hM.litCell (k := 1) (j := 1) rfl rfl rfl)) fun a hf => ?_
    obtain ⟨z25, hz26, h⟩ := bind_some h
    refine pi_q hf rfl rfl rfl rfl (Ext.refl _) (e_add hf rfl rfl hz26) fun a hf => ?_
    refine pi_q hf rfl rfl rfl rfl (Ext.refl _) (e_assign hf rfl) fun a hf => ?_
    refine pi_nil ?_
    refine then_n ?_
    refine wp_ret ?_
    refine then_r ?_
    obtain rfl := some_inj h
    exact leave1 hf rfl rfl ⟨rfl, hM.fin, (chk_R hz26)⟩
  · refine cond_f hf rfl hc15 ?_
    refine wp_skip ?_
    refine then_n ?_
    refine wp_seq ?_
    obtain ⟨w27, hw⟩ : ∃ x, x = C.w0.drew := ⟨_, rfl⟩
    refine region_pi (.q 0 (.q 1 (.q 2 (.q 3 (.q 4 (.q 5 (.q 6 (.q 7 (.q 8 (.q 9 (.q 10 (.q 11 (.q 12 (.q 13 (.q 14 (.q 15 (.q 16 (.nil)))))))))))))))))) (Ext w27) rfl (by kernel_rfl) ?_
    have hM := hM.drew
    rw [← hw] at hM ⊢
    clear hw
    refine pi_q hf rfl rfl rfl rfl (Ext.refl _) (e_move hf rfl) fun a hf => ?_
    refine pi_q hf rfl rfl rfl rfl (Ext.refl _) (e_nil hf rfl) fun a hf => ?_
    refine pi_q hf rfl rfl rfl rfl (Ext.refl _) (e_field hf rfl Try.underlying75 rfl Try.sizeOf2 (o' := o7 + 0) rfl) fun a hf => ?_
    refine pi_q hf rfl rfl rfl rfl (Ext.refl _) (e_load1 hf rfl Try.isAgg2 (hM.litCell (k := 0) (j := 0) rfl rfl rfl)) fun a hf => ?_
    refine pi_q hf rfl rfl rfl rfl (Ext.refl _) (e_move hf rfl) fun a hf => ?_
    refine pi_q hf rfl rfl rfl rfl (Ext.refl _) (e_nil hf rfl) fun a hf => ?_
    obtain ⟨_, hr28, hM⟩ := hM.deref (hM.dat (k := 2) rfl)
    obtain ⟨rfl, hv29, hv30, hv31⟩ := GridRep_open hr28
    refine pi_q hf rfl rfl rfl rfl (Ext.refl _) (e_field hf rfl Try.underlying27 rfl Try.sizeOf2 (o' := o3 + 1) rfl) fun a hf => ?_
    refine pi_q hf rfl rfl rfl rfl (Ext.refl _) (e_load1 hf rfl Try.isAgg2 (hM.litCell (k := 0) (j := 1) rfl rfl rfl)) fun a hf => ?_
    obtain ⟨z32, hz33, h⟩ := bind_some h
    refine pi_q hf rfl rfl rfl rfl (Ext.refl _) (e_mul hf rfl rfl hz33) fun a hf => ?_
    refine pi_q hf rfl rfl rfl rfl (Ext.refl _) (e_move hf rfl) fun a hf => ?_
    refine pi_q hf rfl rfl rfl rfl (Ext.refl _) (e_nil hf rfl) fun a hf => ?_
    refine pi_q hf rfl rfl rfl rfl (Ext.refl _) (e_field hf rfl Try.underlying75 rfl Try.sizeOf2 (o' := o7 + 1) rfl) fun a hf => ?_
    refine pi_q hf rfl rfl rfl rfl (Ext.refl _) (e_load1 hf rfl Try.isAgg2 (hM.litCell (k := 1) (j := 1) rfl rfl rfl)) fun a hf => ?_
    obtain ⟨z34, hz35, h⟩ := bind_some h
    refine pi_q hf rfl rfl rfl rfl (Ext.refl _) (e_add hf rfl rfl hz35) fun a hf => ?_
    refine pi_q hf rfl rfl rfl rfl (Ext.refl _) (e_move hf rfl) fun a hf => ?_
    obtain ⟨z36, hz37, h⟩ := bind_some h
    refine pi_q hf rfl rfl rfl rfl (Ext.refl _) (e_add hf rfl rfl hz37) fun a hf => ?_
    refine pi_q hf rfl rfl rfl rfl (Ext.refl _) (e_assign hf rfl) fun a hf => ?_
    refine pi_nil ?_
    refine then_n ?_
    refine wp_ret ?_
    obtain rfl := some_inj h
    exact leave1 hf rfl rfl ⟨rfl, hM.fin, (chk_R hz37)⟩

end Go.Proofs.Ytgmikhdealhlfaa
