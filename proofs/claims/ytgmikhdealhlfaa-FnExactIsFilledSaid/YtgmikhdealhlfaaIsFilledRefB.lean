/- The functions that this law reaches do what their models say. Printed by gen.py. -/
import Derived.Test.YtgmikhdealhlfaaMod
import Derived.Test.YtgmikhdealhlfaaIsFilledRef
namespace Go.Proofs.Ytgmikhdealhlfaa
open Go Go.RowKit
set_option linter.unusedSimpArgs false
set_option linter.unusedVariables false

set_option maxRecDepth 100000 in
set_option maxHeartbeats 4000000 in
theorem r_impl_Grid_slots (C : Cx) (g1 : Grid) (hp2 : R64 g1.Rows) (hp3 : R64 g1.Cols) (hp4 : g1.Cells.length ≤ maxLen) (r : (List Slot)) (h : m_impl_Grid_slots g1 = some r) :
    Calls Try.prog 55 #[.agg #[vI (g1.Rows), vI (g1.Cols), vS (g1.Cells)]] C.w0 fun e w => ∃ (A_1 : Option Addr), ∃ (c_1 : Nat), e = .returned (vL A_1 (r) c_1) ∧ Mem C w [.row SlotRep A_1 c_1 75 r true] [] := by
  have hM := Mem.begin C [] trivial
  refine enter Try.func55 rfl Try.ntmps55 rfl fun a hf => ?_
  unfold m_impl_Grid_slots at h
  refine wp_seq ?_
  refine region_pl ?_
  refine pl_l hf rfl rfl rfl (w_box hf hM (cs := [vI (g1.Rows), vI (g1.Cols), vS (g1.Cells)]) rfl rfl fun b5 w6 hx7 hM a hf => ?_)
  refine q_ hf rfl rfl rfl (e_assign hf rfl) fun a hf => ?_
  refine pl_nil ?_
  refine then_n ?_
  refine wp_seq ?_
  refine region_pl ?_
  refine q_ hf rfl rfl rfl (e_loadA hf (us := [vI (g1.Rows), vI (g1.Cols), vS (g1.Cells)]) rfl ⟨Try.isAgg27, Try.sizeOf27⟩ rfl (hM.boxSub (k := 0) (us := [vI (g1.Rows), vI (g1.Cols), vS (g1.Cells)]) (o := 0) rfl rfl)) fun a hf => ?_
  obtain ⟨y9, hz10, h⟩ := bind_some h
  refine pl_l hf rfl rfl rfl (w_call hf Try.call88 rfl (r_impl_Grid_across ⟨_, Sh C _ _, none_, hM.sh_lt, none_not, C.G, hM.g_lt, g_none, hM.tabs⟩ g1 hp2 hp3 hp4 _ hz10) ?_)
  rintro _ w13 ⟨A11, c12, rfl, hM2⟩
  obtain ⟨hM, hx14, hup15⟩ := hM.back hM2
  dsimp only [List.cons_append, List.nil_append] at hM hup15
  clear hM2
  refine ⟨_, rfl, fun a hf => ?_⟩
  refine q_ hf rfl rfl rfl (e_assign hf rfl) fun a hf => ?_
  refine pl_nil ?_
  refine then_n ?_
  obtain ⟨x19, h20, h⟩ := bind_some h
  refine seq_join (fun a w => ∃ (xs16 : (List Slot)) (A17 : Option Addr) (c18 : Nat), xs16 = x19 ∧ Has 28 a [(3, vL A17 (xs16) c18)] ∧ Mem C w [.row SlotRep A17 c18 75 xs16 true, .box b5 [vI (g1.Rows), vI (g1.Cols), vS (g1.Cells)] 27] []) ?_ ?_
  · refine wp_seq ?_
    refine region_pl ?_
    refine q_ hf rfl rfl rfl (e_loadA hf (us := [vI (g1.Rows), vI (g1.Cols), vS (g1.Cells)]) rfl ⟨Try.isAgg27, Try.sizeOf27⟩ rfl (hM.boxSub (k := 1) (us := [vI (g1.Rows), vI (g1.Cols), vS (g1.Cells)]) (o := 0) rfl rfl)) fun a hf => ?_
    obtain ⟨y21, hz22, h20⟩ := bind_some h20
    refine pl_l hf rfl rfl rfl (w_call hf Try.call81 rfl (r_impl_Grid_turned ⟨_, Sh C _ _, none_, hM.sh_lt, none_not, C.G, hM.g_lt, g_none, hM.tabs⟩ g1 hp2 hp3 hp4 _ hz22) ?_)
    rintro _ w26 ⟨rfl, hM2, hv23, hv24, hv25⟩
    obtain ⟨hM, hx27, hup28⟩ := hM.back hM2
    dsimp only [List.cons_append, List.nil_append] at hM hup28
    clear hM2
    refine ⟨_, rfl, fun a hf => ?_⟩
    obtain ⟨y29, hz30, h20⟩ := bind_some h20
    refine pl_l hf rfl rfl rfl (w_call hf Try.call88 rfl (r_impl_Grid_across ⟨_, Sh C _ _, none_, hM.sh_lt, none_not, C.G, hM.g_lt, g_none, hM.tabs⟩ y21 hv23 hv24 hv25 _ hz30) ?_)
    rintro _ w33 ⟨A31, c32, rfl, hM2⟩
    obtain ⟨hM, hx34, hup35⟩ := hM.back hM2
    dsimp only [List.cons_append, List.nil_append] at hM hup35
    clear hM2
    refine ⟨_, rfl, fun a hf => ?_⟩
    have hl36 := row_len (hM.ownAt (k := 0) rfl)
    refine q_ hf rfl rfl rfl (e_lenL hf (x := y29) rfl Try.underlying30) fun a hf => ?_
    refine q_ hf rfl rfl rfl (e_move hf rfl) fun a hf => ?_
    refine pl_nil ?_
    refine then_n ?_
    refine wp_block ?_
    obtain ⟨x46, h47, h20⟩ := bind_some h20
    refine wp_loopM h47 (fun s a w => ∃ (xs37 : (List Slot)) (n40 : Int) (A38 : Option Addr) (c39 : Nat), (xs37, n40) = s ∧ Has 28 a [(3, vL A38 (xs37) c39), (10, vL A31 (y29) c32), (11, vI ((y29.length : Int))), (12, vI (n40))] ∧ Mem C w [.row SlotRep A31 c32 75 y29 true, .row SlotRep A38 c39 75 xs37 true, .box b5 [vI (g1.Rows), vI (g1.Cols), vS (g1.Cells)] 27] [] ∧ R64 n40) ?_ ?_
    · exact ⟨y9, 0, A11, c12, rfl, hf.keep ⟨rfl, rfl, rfl, rfl, trivial⟩, hM.pick [] rfl, (R64_lit rfl)⟩
    · rintro s o48 a w42 ⟨xs37, n40, A38, c39, rfl, hf, hM, hv41⟩ h49 hd50
      replace h49 : m_impl_Grid_slots_l1 y29 xs37 n40 = some o48 := h49
      unfold m_impl_Grid_slots_l1 at h49
      refine wp_seq ?_
      refine region_pl ?_
      refine q_ hf rfl rfl rfl (e_lt hf (x := n40) (y := (y29.length : Int)) rfl rfl) fun a hf => ?_
      refine pl_nil ?_
      refine then_n ?_
      refine wp_seq ?_
      rcases cond_some h49 with ⟨hc51, h49⟩ | ⟨hc51, h49⟩
      · refine cond_t hf rfl hc51 ?_
        refine wp_skip ?_
        refine then_n ?_
        refine wp_seq ?_
        refine wp_block ?_
        refine wp_seq ?_
        refine region_pl ?_
        obtain ⟨e52, hz53, h49⟩ := bind_some h49
        obtain ⟨b58, _, hA59, h54, h55, hr56, hcell57⟩ := hM.rowElemN (k := 0) rfl (n := 4) rfl hz53
        obtain ⟨rfl, hv60, hv61, hv62⟩ := SlotRep_open hr56
        refine q_ hf rfl rfl rfl (e_indexAddr (A := A31) (b := b58) (o := 0) (xs := y29) (i := n40) hf hA59 rfl rfl Try.underlying30 Try.sizeOf75 h54 h55) fun a hf => ?_
        refine q_ hf rfl rfl rfl (e_loadA hf (us := [vI (e52.Row), vI (e52.Col), .bool (e52.Down), vI (e52.Length)]) rfl ⟨Try.isAgg75, Try.sizeOf75⟩ rfl hcell57) fun a hf => ?_
        refine pl_l hf rfl rfl rfl (w_alloc hM (cs := [vI (0), vI (0), .bool (false), vI (0)]) Try.zeroValue75 rfl fun b63 w64 hx65 hM a hf => ?_)
        refine pl_0 hf rfl rfl (w_store hf hM (us := [vI (e52.Row), vI (e52.Col), .bool (e52.Down), vI (e52.Length)]) (cs' := [vI (e52.Row), vI (e52.Col), .bool (e52.Down), vI (e52.Length)]) rfl rfl (k := 0) rfl rfl Try.sizeOf75 rfl rfl rfl fun w67 hM => ?_)
        dsimp only [List.set] at hM
        refine pl_nil ?_
        refine then_n ?_
        refine region_pl ?_
        refine q_ hf rfl rfl rfl (e_move hf rfl) fun a hf => ?_
        refine q_ hf rfl rfl rfl (e_field hf rfl Try.underlying75 rfl Try.sizeOf2 (o' := 1) rfl) fun a hf => ?_
        refine q_ hf rfl rfl rfl (e_load1 hf rfl Try.isAgg2 (hM.boxCell (k := 0) rfl rfl)) fun a hf => ?_
        refine q_ hf rfl rfl rfl (e_field hf rfl Try.underlying75 rfl Try.sizeOf2 (o' := 0) rfl) fun a hf => ?_
        refine q_ hf rfl rfl rfl (e_load1 hf rfl Try.isAgg2 (hM.boxCell (k := 0) rfl rfl)) fun a hf => ?_
        refine q_ hf rfl rfl rfl (e_field hf rfl Try.underlying75 rfl Try.sizeOf2 (o' := 3) rfl) fun a hf => ?_
        refine q_ hf rfl rfl rfl (e_load1 hf rfl Try.isAgg2 (hM.boxCell (k := 0) rfl rfl)) fun a hf => ?_
        refine q_ hf rfl rfl rfl (e_build hf Try.zeroValue75 Try.underlying75 (bp_75 _ Try.underlying75.symm) rfl (cs := #[vI (e52.Col), vI (e52.Row), .bool (true), vI (e52.Length)]) (by kernel_rfl)) fun a hf => ?_
        refine pl_l hf rfl rfl rfl (w_slice hf hM (K := SlotRep) (xs := ([(⟨e52.Col, e52.Row, true, e52.Length⟩ : Slot)] : (List Slot))) (os := [.tmp 23]) Try.underlying30 ei_75 rfl rfl rfl rfl rfl ⟨⟨[vI (e52.Col), vI (e52.Row), .bool (true), vI (e52.Length)], rfl, (SlotRep_mk (x := (⟨e52.Col, e52.Row, true, e52.Length⟩ : Slot)) hv61 hv60 hv62)⟩, trivial⟩ rfl fun b70 w71 hx72 hM a hf => ?_)
        obtain ⟨xs73, hz74, h49⟩ := bind_some h49
        refine pl_l hf rfl rfl rfl (w_append hf hM Try.underlying30 ei_75 rfl rfl rfl (k := 3) rfl (hM.srcRow (k := 0) rfl) hz74 fun A75 c76 w77 hM a hf => ?_)
        dsimp only [List.set] at hM
        refine q_ hf rfl rfl rfl (e_assign hf rfl) fun a hf => ?_
        refine pl_nil ?_
        refine blk_n ?_
        refine then_n ?_
        refine region_pl ?_
        obtain ⟨z80, hz81, h49⟩ := bind_some h49
        refine q_ hf rfl rfl rfl (e_add hf rfl rfl hz81) fun a hf => ?_
        refine q_ hf rfl rfl rfl (e_move hf rfl) fun a hf => ?_
        refine pl_nil ?_
        obtain rfl := some_inj h49
        refine then_n ⟨_, rfl, ?_⟩
        exact ⟨xs73, z80, A75, c76, rfl, hf.keep ⟨rfl, rfl, rfl, rfl, trivial⟩, (hM.drop (.cons _ (.cons _ (.cons_cons _ (.cons_cons _ (.cons_cons _ .slnil)))))).pick [] rfl, (chk_R hz81)⟩
      · refine cond_f hf rfl hc51 ?_
        refine wp_exit ?_
        refine then_x ?_
        obtain rfl := some_inj h49
        obtain rfl := hd50 _ rfl
        try dsimp only at h20
        refine then_x ?_
        refine exit_hit ?_
        obtain rfl := some_inj h20
        refine then_n ?_
        exact ⟨xs37, A38, c39, rfl, hf.keep ⟨rfl, trivial⟩, (hM.drop (.cons _ (.cons_cons _ (.cons_cons _ .slnil)))).pick [] rfl⟩
  · rintro a w87 ⟨xs16, A17, c18, rfl, hf, hM⟩
    try dsimp only at h
    refine wp_seq ?_
    refine region_pl ?_
    refine q_ hf rfl rfl rfl (e_move hf rfl) fun a hf => ?_
    refine q_ hf rfl rfl rfl (e_assign hf rfl) fun a hf => ?_
    refine pl_nil ?_
    refine then_n ?_
    refine wp_ret ?_
    obtain rfl := some_inj h
    have hM := hM.outs (own' := [.row SlotRep A17 c18 75 xs16 true]) 1 rfl
    exact leave1 hf rfl rfl ⟨A17, c18, rfl, hM.fin⟩

set_option maxRecDepth 100000 in
set_option maxHeartbeats 4000000 in
theorem r_impl_Grid_index (C : Cx) (g1 : Grid) (hp2 : R64 g1.Rows) (hp3 : R64 g1.Cols) (hp4 : g1.Cells.length ≤ maxLen) (s5 : Slot) (hp6 : R64 s5.Row) (hp7 : R64 s5.Col) (hp8 : R64 s5.Length) (n9 : Int) (hp10 : R64 n9) (r : Int) (h : m_impl_Grid_index g1 s5 n9 = some r) :
    Calls Try.prog 86 #[.agg #[vI (g1.Rows), vI (g1.Cols), vS (g1.Cells)], .agg #[vI (s5.Row), vI (s5.Col), .bool (s5.Down), vI (s5.Length)], vI (n9)] C.w0 fun e w => e = .returned (vI (r)) ∧ Mem C w [] [] ∧ R64 r := by
  have hM := Mem.begin C [] trivial
  refine enter Try.func86 rfl Try.ntmps86 rfl fun a hf => ?_
  unfold m_impl_Grid_index at h
  refine wp_seq ?_
  refine region_pl ?_
  refine pl_l hf rfl rfl rfl (w_box hf hM (cs := [vI (g1.Rows), vI (g1.Cols), vS (g1.Cells)]) rfl rfl fun b11 w12 hx13 hM a hf => ?_)
  refine pl_l hf rfl rfl rfl (w_box hf hM (cs := [vI (s5.Row), vI (s5.Col), .bool (s5.Down), vI (s5.Length)]) rfl rfl fun b15 w16 hx17 hM a hf => ?_)
  refine q_ hf rfl rfl rfl (e_assign hf rfl) fun a hf => ?_
  refine pl_nil ?_
  refine then_n ?_
  refine wp_seq ?_
  refine wp_seq ?_
  refine region_pl ?_
  refine q_ hf rfl rfl rfl (e_field hf rfl Try.underlying75 rfl Try.sizeOf4 (o' := 2) rfl) fun a hf => ?_
  refine q_ hf rfl rfl rfl (e_load1 hf rfl Try.isAgg4 (hM.boxCell (k := 0) rfl rfl)) fun a hf => ?_
  refine pl_nil ?_
  refine then_n ?_
  rcases cond_some h with ⟨hc19, h⟩ | ⟨hc19, h⟩
  · refine cond_t hf rfl hc19 ?_
    refine wp_seq ?_
    refine region_pl ?_
    refine q_ hf rfl rfl rfl (e_field hf rfl Try.underlying75 rfl Try.sizeOf2 (o' := 0) rfl) fun a hf => ?_
    refine q_ hf rfl rfl rfl (e_load1 hf rfl Try.isAgg2 (hM.boxCell (k := 0) rfl rfl)) fun a hf => ?_
    refine q_ hf rfl rfl rfl (e_move hf rfl) fun a hf => ?_
    obtain ⟨z20, hz21, h⟩ := bind_some h
    refine q_ hf rfl rfl rfl (e_add hf rfl rfl hz21) fun a hf => ?_
    refine q_ hf rfl rfl rfl (e_field hf rfl Try.underlying27 rfl Try.sizeOf2 (o' := 1) rfl) fun a hf => ?_
    refine q_ hf rfl rfl rfl (e_load1 hf rfl Try.isAgg2 (hM.boxCell (k := 1) rfl rfl)) fun a hf => ?_
    obtain ⟨z22, hz23, h⟩ := bind_some h
    refine q_ hf rfl rfl rfl (e_mul hf rfl rfl hz23) fun a hf => ?_
    refine q_ hf rfl rfl rfl (e_field hf rfl Try.underlying75 rfl Try.sizeOf2 (o' := 1) rfl) fun a hf => ?_
    refine q_ hf rfl rfl rfl (e_load1 hf rfl Try.isAgg2 (hM.boxCell (k := 0) rfl rfl)) fun a hf => ?_
    obtain ⟨z24, hz25, h⟩ := bind_some h
    refine q_ hf rfl rfl rfl (e_add hf rfl rfl hz25) fun a hf => ?_
    refine q_ hf rfl rfl rfl (e_assign hf rfl) fun a hf => ?_
    refine pl_nil ?_
    refine then_n ?_
    refine wp_ret ?_
    refine then_r ?_
    obtain rfl := some_inj h
    have hM := hM.outs (own' := []) 0 rfl
    exact leave1 hf rfl rfl ⟨rfl, hM.fin, (chk_R hz25)⟩
  · refine cond_f hf rfl hc19 ?_
    refine wp_skip ?_
    refine then_n ?_
    refine wp_seq ?_
    refine region_pl ?_
    refine q_ hf rfl rfl rfl (e_field hf rfl Try.underlying75 rfl Try.sizeOf2 (o' := 0) rfl) fun a hf => ?_
    refine q_ hf rfl rfl rfl (e_load1 hf rfl Try.isAgg2 (hM.boxCell (k := 0) rfl rfl)) fun a hf => ?_
    refine q_ hf rfl rfl rfl (e_field hf rfl Try.underlying27 rfl Try.sizeOf2 (o' := 1) rfl) fun a hf => ?_
    refine q_ hf rfl rfl rfl (e_load1 hf rfl Try.isAgg2 (hM.boxCell (k := 1) rfl rfl)) fun a hf => ?_
    obtain ⟨z26, hz27, h⟩ := bind_some h
    refine q_ hf rfl rfl rfl (e_mul hf rfl rfl hz27) fun a hf => ?_
    refine q_ hf rfl rfl rfl (e_field hf rfl Try.underlying75 rfl Try.sizeOf2 (o' := 1) rfl) fun a hf => ?_
    refine q_ hf rfl rfl rfl (e_load1 hf rfl Try.isAgg2 (hM.boxCell (k := 0) rfl rfl)) fun a hf => ?_
    obtain ⟨z28, hz29, h⟩ := bind_some h
    refine q_ hf rfl rfl rfl (e_add hf rfl rfl hz29) fun a hf => ?_
    refine q_ hf rfl rfl rfl (e_move hf rfl) fun a hf => ?_
    obtain ⟨z30, hz31, h⟩ := bind_some h
    refine q_ hf rfl rfl rfl (e_add hf rfl rfl hz31) fun a hf => ?_
    refine q_ hf rfl rfl rfl (e_assign hf rfl) fun a hf => ?_
    refine pl_nil ?_
    refine then_n ?_
    refine wp_ret ?_
    obtain rfl := some_inj h
    have hM := hM.outs (own' := []) 0 rfl
    exact leave1 hf rfl rfl ⟨rfl, hM.fin, (chk_R hz31)⟩

set_option maxRecDepth 100000 in
set_option maxHeartbeats 4000000 in
theorem r_impl_Grid_pattern (C : Cx) (g1 : Grid) (hp2 : R64 g1.Rows) (hp3 : R64 g1.Cols) (hp4 : g1.Cells.length ≤ maxLen) (s5 : Slot) (hp6 : R64 s5.Row) (hp7 : R64 s5.Col) (hp8 : R64 s5.Length) (r : Str) (h : m_impl_Grid_pattern g1 s5 = some r) :
    Calls Try.prog 53 #[.agg #[vI (g1.Rows), vI (g1.Cols), vS (g1.Cells)], .agg #[vI (s5.Row), vI (s5.Col), .bool (s5.Down), vI (s5.Length)]] C.w0 fun e w => e = .returned (vS (r)) ∧ Mem C w [] [] ∧ r.length ≤ maxLen := by
  have hM := Mem.begin C [] trivial
  refine enter Try.func53 rfl Try.ntmps53 rfl fun a hf => ?_
  unfold m_impl_Grid_pattern at h
  refine wp_seq ?_
  refine region_pl ?_
  refine pl_l hf rfl rfl rfl (w_box hf hM (cs := [vI (g1.Rows), vI (g1.Cols), vS (g1.Cells)]) rfl rfl fun b9 w10 hx11 hM a hf => ?_)
  refine pl_l hf rfl rfl rfl (w_box hf hM (cs := [vI (s5.Row), vI (s5.Col), .bool (s5.Down), vI (s5.Length)]) rfl rfl fun b13 w14 hx15 hM a hf => ?_)
  refine q_ hf rfl rfl rfl (e_assign hf rfl) fun a hf => ?_
  refine pl_nil ?_
  refine then_n ?_
  refine wp_seq ?_
  refine region_pl ?_
  refine pl_l hf rfl rfl rfl (w_slice0 (K := byteRep) hM Try.underlying63 ei_5 fun b17 w18 hx19 hM a hf => ?_)
  refine q_ hf rfl rfl rfl (e_assign hf rfl) fun a hf => ?_
  refine pl_nil ?_
  refine then_n ?_
  obtain ⟨x23, h24, h⟩ := bind_some h
  refine seq_join (fun a w => ∃ (xs20 : Str) (A21 : Option Addr) (c22 : Nat), xs20 = x23 ∧ Has 26 a [(5, vL A21 (xs20) c22)] ∧ Mem C w [.row byteRep A21 c22 5 xs20 true, .box b13 [vI (s5.Row), vI (s5.Col), .bool (s5.Down), vI (s5.Length)] 75, .box b9 [vI (g1.Rows), vI (g1.Cols), vS (g1.Cells)] 27] []) ?_ ?_
  · refine wp_seq ?_
    refine region_pl ?_
    refine q_ hf rfl rfl rfl (e_assign hf rfl) fun a hf => ?_
    refine pl_nil ?_
    refine then_n ?_
    refine wp_block ?_
    obtain ⟨x34, h35, h24⟩ := bind_some h24
    refine wp_loopM h35 (fun s a w => ∃ (xs25 : Str) (n28 : Int) (A26 : Option Addr) (c27 : Nat), (xs25, n28) = s ∧ Has 26 a [(2, vP b9 (0)), (3, vP b13 (0)), (5, vL A26 (xs25) c27), (6, vI (n28))] ∧ Mem C w [.row byteRep A26 c27 5 xs25 true, .box b13 [vI (s5.Row), vI (s5.Col), .bool (s5.Down), vI (s5.Length)] 75, .box b9 [vI (g1.Rows), vI (g1.Cols), vS (g1.Cells)] 27] [] ∧ R64 n28) ?_ ?_
    · exact ⟨([] : Str), 0, (some ⟨b17, 0, none⟩), 0, rfl, hf.keep ⟨rfl, rfl, rfl, rfl, trivial⟩, hM.pick [] rfl, (R64_lit rfl)⟩
    · rintro s o36 a w30 ⟨xs25, n28, A26, c27, rfl, hf, hM, hv29⟩ h37 hd38
      replace h37 : m_impl_Grid_pattern_l1 s5 g1 xs25 n28 = some o36 := h37
      unfold m_impl_Grid_pattern_l1 at h37
      refine wp_seq ?_
      refine wp_seq ?_
      refine region_pl ?_
      refine q_ hf rfl rfl rfl (e_move hf rfl) fun a hf => ?_
      refine q_ hf rfl rfl rfl (e_field hf rfl Try.underlying75 rfl Try.sizeOf2 (o' := 3) rfl) fun a hf => ?_
      refine q_ hf rfl rfl rfl (e_load1 hf rfl Try.isAgg2 (hM.boxCell (k := 1) rfl rfl)) fun a hf => ?_
      refine q_ hf rfl rfl rfl (e_lt hf (x := n28) (y := s5.Length) rfl rfl) fun a hf => ?_
      refine pl_nil ?_
      refine then_n ?_
      rcases cond_some h37 with ⟨hc39, h37⟩ | ⟨hc39, h37⟩
      · refine cond_t hf rfl hc39 ?_
        refine wp_skip ?_
        refine then_n ?_
        refine wp_seq ?_
        refine wp_block ?_
        obtain ⟨w40, hw⟩ : ∃ x, x = w30.drew := ⟨_, rfl⟩
        refine region_pi (.q 0 (.q 1 (.q 2 (.q 3 (.q 4 (.q 5 (.l 6 (.q 7 (.l 8 (.l 9 (.q 10 (.nil)))))))))))) (Ext w40) rfl (by kernel_rfl) ?_
        have hM := hM.drew
        rw [← hw] at hM ⊢
        clear hw
        refine pi_q hf rfl rfl rfl rfl (Ext.refl _) (e_move hf rfl) fun a hf => ?_
        refine pi_q hf rfl rfl rfl rfl (Ext.refl _) (e_field hf rfl Try.underlying27 rfl Try.sizeOf9 (o' := 2) rfl) fun a hf => ?_
        refine pi_q hf rfl rfl rfl rfl (Ext.refl _) (e_load1 hf rfl Try.isAgg9 (hM.boxCell (k := 2) rfl rfl)) fun a hf => ?_
        refine pi_q hf rfl rfl rfl rfl (Ext.refl _) (e_loadA hf (us := [vI (g1.Rows), vI (g1.Cols), vS (g1.Cells)]) rfl ⟨Try.isAgg27, Try.sizeOf27⟩ rfl (hM.boxSub (k := 2) (us := [vI (g1.Rows), vI (g1.Cols), vS (g1.Cells)]) (o := 0) rfl rfl)) fun a hf => ?_
        refine pi_q hf rfl rfl rfl rfl (Ext.refl _) (e_loadA hf (us := [vI (s5.Row), vI (s5.Col), .bool (s5.Down), vI (s5.Length)]) rfl ⟨Try.isAgg75, Try.sizeOf75⟩ rfl (hM.boxSub (k := 1) (us := [vI (s5.Row), vI (s5.Col), .bool (s5.Down), vI (s5.Length)]) (o := 0) rfl rfl)) fun a hf => ?_
        refine pi_q hf rfl rfl rfl rfl (Ext.refl _) (e_move hf rfl) fun a hf => ?_
        refine pi_one ?_
        obtain ⟨y41, hz42, h37⟩ := bind_some h37
        refine pi_l hf rfl rfl rfl rfl (w_call hf Try.call86 rfl (r_impl_Grid_index ⟨_, Sh C _ _, none_, hM.sh_lt, none_not, C.G, hM.g_lt, g_none, hM.tabs⟩ g1 hp2 hp3 hp4 s5 hp6 hp7 hp8 n28 hv29 _ hz42) ?_)
        rintro _ w44 ⟨rfl, hM2, hv43⟩
        obtain ⟨hM, hx45, hup46⟩ := hM.back hM2
        dsimp only [List.cons_append, List.nil_append] at hM hup46
        clear hM2
        refine ⟨_, rfl, Ext w44, fun _ h => Ext.trans hx45 h, Ext.refl _, fun a hf => ?_⟩
        obtain ⟨c47, hz48, h37⟩ := bind_some h37
        refine pi_q hf rfl rfl rfl rfl (Ext.refl _) (e_indexS hf (x := g1.Cells) rfl rfl Try.underlying9 hz48) fun a hf => ?_
        refine pi_one ?_
        refine pi_l hf rfl rfl rfl rfl (w_slice hf hM (K := byteRep) (xs := ([c47] : Str)) (os := [.tmp 21]) Try.underlying63 ei_5 rfl rfl rfl rfl rfl ⟨⟨[vB (c47)], rfl, rfl⟩, trivial⟩ rfl fun b49 w50 hx51 hM => ⟨Ext w50, fun _ h => Ext.trans hx51 h, Ext.refl _, fun a hf => ?_⟩)
        refine pi_one ?_
        obtain ⟨xs52, hz53, h37⟩ := bind_some h37
        refine pi_z hf rfl rfl rfl rfl (by kernel_rfl) (w_append hf hM Try.underlying63 ei_5 rfl rfl rfl (k := 1) rfl (hM.srcRow (k := 0) rfl) hz53 fun A54 c55 w56 hM a hf => ?_)
        dsimp only [List.set] at hM
        refine pi_q hf rfl rfl rfl rfl (Ext.refl _) (e_assign hf rfl) fun a hf => ?_
        refine pi_nil ?_
        refine blk_n ?_
        refine then_n ?_
        refine region_pl ?_
        refine q_ hf rfl rfl rfl (e_move hf rfl) fun a hf => ?_
        obtain ⟨z59, hz60, h37⟩ := bind_some h37
        refine q_ hf rfl rfl rfl (e_add hf rfl rfl hz60) fun a hf => ?_
        refine q_ hf rfl rfl rfl (e_assign hf rfl) fun a hf => ?_
        refine pl_nil ?_
        obtain rfl := some_inj h37
        refine then_n ⟨_, rfl, ?_⟩
        exact ⟨xs52, z59, A54, c55, rfl, hf.keep ⟨rfl, rfl, rfl, rfl, trivial⟩, (hM.drop (.cons _ (.cons_cons _ (.cons_cons _ (.cons_cons _ .slnil))))).pick [] rfl, (chk_R hz60)⟩
      · refine cond_f hf rfl hc39 ?_
        refine wp_exit ?_
        refine then_x ?_
        obtain rfl := some_inj h37
        obtain rfl := hd38 _ rfl
        try dsimp only at h24
        refine then_x ?_
        refine exit_hit ?_
        obtain rfl := some_inj h24
        refine then_n ?_
        exact ⟨xs25, A26, c27, rfl, hf.keep ⟨rfl, trivial⟩, hM.pick [] rfl⟩
  · rintro a w66 ⟨xs20, A21, c22, rfl, hf, hM⟩
    try dsimp only at h
    refine wp_seq ?_
    refine region_pl ?_
    refine q_ hf rfl rfl rfl (e_move hf rfl) fun a hf => ?_
    have hl67 := row_len (hM.ownAt (k := 0) rfl)
    refine q_ hf rfl rfl rfl (e_bytesStr hf (xs := xs20) rfl Try.underlying63 Try.underlying5 Try.underlying9 (hM.lendRow (k := 0) rfl)) fun a hf => ?_
    refine q_ hf rfl rfl rfl (e_assign hf rfl) fun a hf => ?_
    refine pl_nil ?_
    refine then_n ?_
    refine wp_ret ?_
    obtain rfl := some_inj h
    have hM := hM.outs (own' := []) 0 rfl
    exact leave1 hf rfl rfl ⟨rfl, hM.fin, hl67⟩

set_option maxRecDepth 100000 in
set_option maxHeartbeats 4000000 in
theorem r_cmp_isNaN_string (C : Cx) (x1 : Str) (hp2 : x1.length ≤ maxLen) (r : Bool) (h : m_cmp_isNaN_string x1 = some r) :
    Calls Try.prog 125 #[vS (x1)] C.w0 fun e w => e = .returned (.bool (r)) ∧ Mem C w [] [] := by
  have hM := Mem.begin C [] trivial
  refine enter Try.func125 rfl Try.ntmps125 rfl fun a hf => ?_
  unfold m_cmp_isNaN_string at h
  refine wp_seq ?_
  refine region_pl ?_
  refine q_ hf rfl rfl rfl (e_assign hf rfl) fun a hf => ?_
  refine pl_nil ?_
  refine then_n ?_
  refine wp_seq ?_
  refine region_pl ?_
  refine q_ hf rfl rfl rfl (e_move hf rfl) fun a hf => ?_
  refine q_ hf rfl rfl rfl (e_move hf rfl) fun a hf => ?_
  refine q_ hf rfl rfl rfl (e_neS hf (x := x1) (y := x1) rfl rfl) fun a hf => ?_
  refine q_ hf rfl rfl rfl (e_assign hf rfl) fun a hf => ?_
  refine pl_nil ?_
  refine then_n ?_
  refine wp_ret ?_
  obtain rfl := some_inj h
  exact leave1 hf rfl rfl ⟨rfl, hM.fin⟩

set_option maxRecDepth 100000 in
set_option maxHeartbeats 4000000 in
theorem r_cmp_Less_string (C : Cx) (x1 : Str) (hp2 : x1.length ≤ maxLen) (y3 : Str) (hp4 : y3.length ≤ maxLen) (r : Bool) (h : m_cmp_Less_string x1 y3 = some r) :
    Calls Try.prog 109 #[vS (x1), vS (y3)] C.w0 fun e w => e = .returned (.bool (r)) ∧ Mem C w [] [] := by
  have hM := Mem.begin C [] trivial
  refine enter Try.func109 rfl Try.ntmps109 rfl fun a hf => ?_
  unfold m_cmp_Less_string at h
  refine wp_seq ?_
  refine region_pl ?_
  refine q_ hf rfl rfl rfl (e_assign hf rfl) fun a hf => ?_
  refine pl_nil ?_
  refine then_n ?_
  obtain ⟨x7, h8, h⟩ := bind_some h
  refine seq_join (fun a w => ∃ (t5 : Bool), t5 = x7 ∧ Has 17 a [(4, .bool (t5))] ∧ Mem C w [] []) ?_ ?_
  · refine region_pl ?_
    refine q_ hf rfl rfl rfl (e_move hf rfl) fun a hf => ?_
    obtain ⟨y9, hz10, h8⟩ := bind_some h8
    refine pl_l hf rfl rfl rfl (w_call hf Try.call125 rfl (r_cmp_isNaN_string ⟨_, Sh C _ _, none_, hM.sh_lt, none_not, C.G, hM.g_lt, g_none, hM.tabs⟩ x1 hp2 _ hz10) ?_)
    rintro _ w11 ⟨rfl, hM2⟩
    obtain ⟨hM, hx12, hup13⟩ := hM.back hM2
    dsimp only [List.cons_append, List.nil_append] at hM hup13
    clear hM2
    refine ⟨_, rfl, fun a hf => ?_⟩
    refine q_ hf rfl rfl rfl (e_move hf rfl) fun a hf => ?_
    rcases cond_some h8 with ⟨hc14, h8⟩ | ⟨hc14, h8⟩
    · refine gq (wanted_t hf rfl rfl rfl rfl hc14) hf rfl rfl (e_move hf rfl) fun a hf => ?_
      obtain ⟨y15, hz16, h8⟩ := bind_some h8
      refine pl_gl (wanted_t hf rfl rfl rfl rfl hc14) hf rfl rfl (w_call hf Try.call125 rfl (r_cmp_isNaN_string ⟨_, Sh C _ _, none_, hM.sh_lt, none_not, C.G, hM.g_lt, g_none, hM.tabs⟩ y3 hp4 _ hz16) ?_)
      rintro _ w17 ⟨rfl, hM2⟩
      obtain ⟨hM, hx18, hup19⟩ := hM.back hM2
      dsimp only [List.cons_append, List.nil_append] at hM hup19
      clear hM2
      refine ⟨_, rfl, fun a hf => ?_⟩
      refine gq (wanted_t hf rfl rfl rfl rfl hc14) hf rfl rfl (e_not hf rfl) fun a hf => ?_
      refine q_ hf rfl rfl rfl (e_pick_t hf rfl hc14 rfl) fun a hf => ?_
      refine q_ hf rfl rfl rfl (e_move hf rfl) fun a hf => ?_
      rcases cond_some h8 with ⟨hc20, h8⟩ | ⟨hc20, h8⟩
      · refine pl_gs (wanted_f hf rfl rfl rfl rfl hc20) hf rfl rfl fun a hf => ?_
        refine pl_gs (wanted_f hf rfl rfl rfl rfl hc20) hf rfl rfl fun a hf => ?_
        refine pl_gs (wanted_f hf rfl rfl rfl rfl hc20) hf rfl rfl fun a hf => ?_
        refine q_ hf rfl rfl rfl (e_pick_t hf rfl hc20 rfl) fun a hf => ?_
        refine q_ hf rfl rfl rfl (e_assign hf rfl) fun a hf => ?_
        refine pl_nil ?_
        obtain rfl := some_inj h8
        refine then_n ?_
        exact ⟨true, rfl, hf.keep ⟨rfl, trivial⟩, hM.pick [] rfl⟩
      · refine gq (wanted_t hf rfl rfl rfl rfl hc20) hf rfl rfl (e_move hf rfl) fun a hf => ?_
        refine gq (wanted_t hf rfl rfl rfl rfl hc20) hf rfl rfl (e_move hf rfl) fun a hf => ?_
        refine gq (wanted_t hf rfl rfl rfl rfl hc20) hf rfl rfl (e_ltS hf (x := x1) (y := y3) rfl rfl) fun a hf => ?_
        refine q_ hf rfl rfl rfl (e_pick_f hf rfl hc20 rfl) fun a hf => ?_
        refine q_ hf rfl rfl rfl (e_assign hf rfl) fun a hf => ?_
        refine pl_nil ?_
        obtain rfl := some_inj h8
        refine then_n ?_
        exact ⟨(ltS x1 y3), rfl, hf.keep ⟨rfl, trivial⟩, hM.pick [] rfl⟩
    · refine pl_gs (wanted_f hf rfl rfl rfl rfl hc14) hf rfl rfl fun a hf => ?_
      refine pl_gs (wanted_f hf rfl rfl rfl rfl hc14) hf rfl rfl fun a hf => ?_
      refine pl_gs (wanted_f hf rfl rfl rfl rfl hc14) hf rfl rfl fun a hf => ?_
      refine q_ hf rfl rfl rfl (e_pick_f hf rfl hc14 rfl) fun a hf => ?_
      refine q_ hf rfl rfl rfl (e_move hf rfl) fun a hf => ?_
      refine gq (wanted_t hf rfl rfl rfl rfl rfl) hf rfl rfl (e_move hf rfl) fun a hf => ?_
      refine gq (wanted_t hf rfl rfl rfl rfl rfl) hf rfl rfl (e_move hf rfl) fun a hf => ?_
      refine gq (wanted_t hf rfl rfl rfl rfl rfl) hf rfl rfl (e_ltS hf (x := x1) (y := y3) rfl rfl) fun a hf => ?_
      refine q_ hf rfl rfl rfl (e_pick_f hf rfl rfl rfl) fun a hf => ?_
      refine q_ hf rfl rfl rfl (e_assign hf rfl) fun a hf => ?_
      refine pl_nil ?_
      obtain rfl := some_inj h8
      refine then_n ?_
      exact ⟨(ltS x1 y3), rfl, hf.keep ⟨rfl, trivial⟩, hM.pick [] rfl⟩
  · rintro a w24 ⟨t5, rfl, hf, hM⟩
    try dsimp only at h
    refine wp_ret ?_
    obtain rfl := some_inj h
    exact leave1 hf rfl rfl ⟨rfl, hM.fin⟩

set_option maxRecDepth 100000 in
set_option maxHeartbeats 4000000 in
theorem r_slices_isNaN_string (C : Cx) (x1 : Str) (hp2 : x1.length ≤ maxLen) (r : Bool) (h : m_slices_isNaN_string x1 = some r) :
    Calls Try.prog 110 #[vS (x1)] C.w0 fun e w => e = .returned (.bool (r)) ∧ Mem C w [] [] := by
  have hM := Mem.begin C [] trivial
  refine enter Try.func110 rfl Try.ntmps110 rfl fun a hf => ?_
  unfold m_slices_isNaN_string at h
  refine wp_seq ?_
  refine region_pl ?_
  refine q_ hf rfl rfl rfl (e_assign hf rfl) fun a hf => ?_
  refine pl_nil ?_
  refine then_n ?_
  refine wp_seq ?_
  refine region_pl ?_
  refine q_ hf rfl rfl rfl (e_move hf rfl) fun a hf => ?_
  refine q_ hf rfl rfl rfl (e_move hf rfl) fun a hf => ?_
  refine q_ hf rfl rfl rfl (e_neS hf (x := x1) (y := x1) rfl rfl) fun a hf => ?_
  refine q_ hf rfl rfl rfl (e_assign hf rfl) fun a hf => ?_
  refine pl_nil ?_
  refine then_n ?_
  refine wp_ret ?_
  obtain rfl := some_inj h
  exact leave1 hf rfl rfl ⟨rfl, hM.fin⟩

set_option maxRecDepth 100000 in
set_option maxHeartbeats 4000000 in
theorem r_slices_BinarySearch_string_string (C : Cx) (x1 : (List Str)) (A2 : Option Addr) (c3 : Nat) (hp4 : (sliceRep strRep).R C.w0 C.S0 x1 [vL A2 x1 c3]) (target5 : Str) (hp6 : target5.length ≤ maxLen) (r : (Int × Bool)) (h : m_slices_BinarySearch_string_string x1 target5 = some r) :
    Calls Try.prog 94 #[vL A2 (x1) c3, vS (target5)] C.w0 fun e w => e = .returned (.tuple #[vI (r.1), .bool (r.2)]) ∧ Mem C w [] [] ∧ R64 r.1 := by
  have hM := Mem.begin C [.dat (sliceRep strRep) x1 [vL A2 x1 c3]] ⟨hp4, trivial⟩
  refine enter Try.func94 rfl Try.ntmps94 rfl fun a hf => ?_
  unfold m_slices_BinarySearch_string_string at h
  refine wp_seq ?_
  refine region_pl ?_
  refine q_ hf rfl rfl rfl (e_assign hf rfl) fun a hf => ?_
  refine q_ hf rfl rfl rfl (e_assign hf rfl) fun a hf => ?_
  refine pl_nil ?_
  refine then_n ?_
  refine wp_seq ?_
  refine region_pl ?_
  refine q_ hf rfl rfl rfl (e_move hf rfl) fun a hf => ?_
  have hl7 := slice_len (hM.dat (k := 0) rfl)
  refine q_ hf rfl rfl rfl (e_lenL hf (x := x1) rfl Try.underlying40) fun a hf => ?_
  refine q_ hf rfl rfl rfl (e_assign hf rfl) fun a hf => ?_
  refine pl_nil ?_
  refine then_n ?_
  refine wp_seq ?_
  refine region_pl ?_
  refine q_ hf rfl rfl rfl (e_move hf rfl) fun a hf => ?_
  refine q_ hf rfl rfl rfl (e_assign hf rfl) fun a hf => ?_
  refine q_ hf rfl rfl rfl (e_assign hf rfl) fun a hf => ?_
  refine pl_nil ?_
  refine then_n ?_
  obtain ⟨x10, h11, h⟩ := bind_some h
  refine seq_join (fun a w => ∃ (h8 : Int), h8 = x10 ∧ Has 54 a [(0, vL A2 (x1) c3), (1, vS (target5)), (6, vI ((x1.length : Int))), (7, vI (h8))] ∧ Mem C w [] [.dat (sliceRep strRep) x1 [vL A2 x1 c3]] ∧ R64 h8) ?_ ?_
  · refine wp_block ?_
    obtain ⟨x19, h20, h11⟩ := bind_some h11
    refine wp_loopM h20 (fun s a w => ∃ (h12 : Int) (n14 : Int), (h12, n14) = s ∧ Has 54 a [(0, vL A2 (x1) c3), (1, vS (target5)), (6, vI ((x1.length : Int))), (7, vI (h12)), (8, vI (n14))] ∧ Mem C w [] [.dat (sliceRep strRep) x1 [vL A2 x1 c3]] ∧ R64 h12 ∧ R64 n14) ?_ ?_
    · exact ⟨0, (x1.length : Int), rfl, hf.keep ⟨rfl, rfl, rfl, rfl, rfl, trivial⟩, hM.pick [0] rfl, (R64_lit rfl), (R64_len hl7)⟩
    · rintro s o21 a w16 ⟨h12, n14, rfl, hf, hM, hv13, hv15⟩ h22 hd23
      replace h22 : m_slices_BinarySearch_string_string_l1 x1 target5 h12 n14 = some o21 := h22
      unfold m_slices_BinarySearch_string_string_l1 at h22
      refine wp_seq ?_
      refine wp_seq ?_
      refine region_pl ?_
      refine q_ hf rfl rfl rfl (e_move hf rfl) fun a hf => ?_
      refine q_ hf rfl rfl rfl (e_move hf rfl) fun a hf => ?_
      refine q_ hf rfl rfl rfl (e_lt hf (x := h12) (y := n14) rfl rfl) fun a hf => ?_
      refine pl_nil ?_
      refine then_n ?_
      rcases cond_some h22 with ⟨hc24, h22⟩ | ⟨hc24, h22⟩
      · refine cond_t hf rfl hc24 ?_
        refine wp_skip ?_
        refine then_n ?_
        refine wp_block ?_
        refine wp_seq ?_
        refine region_pl ?_
        refine q_ hf rfl rfl rfl (e_move hf rfl) fun a hf => ?_
        refine q_ hf rfl rfl rfl (e_move hf rfl) fun a hf => ?_
        obtain ⟨z25, hz26, h22⟩ := bind_some h22
        refine q_ hf rfl rfl rfl (e_add hf rfl rfl hz26) fun a hf => ?_
        refine q_ hf rfl rfl rfl (e_convIW hf rfl Try.underlying3 Try.underlying129) fun a hf => ?_
        refine q_ hf rfl rfl rfl (e_shrW hf (k := 1) rfl rfl rfl rfl (m := 2) rfl (U64_mod _)) fun a hf => ?_
        obtain ⟨z27, hz28, h22⟩ := bind_some h22
        refine q_ hf rfl rfl rfl (e_convWI hf rfl Try.underlying129 Try.underlying3 hz28) fun a hf => ?_
        refine q_ hf rfl rfl rfl (e_assign hf rfl) fun a hf => ?_
        refine pl_nil ?_
        refine then_n ?_
        refine wp_seq ?_
        refine region_pl ?_
        refine q_ hf rfl rfl rfl (e_move hf rfl) fun a hf => ?_
        refine q_ hf rfl rfl rfl (e_move hf rfl) fun a hf => ?_
        obtain ⟨e29, hz30, h22⟩ := bind_some h22
        obtain ⟨b34, o35, _, hA36, h31, h32, hr33, hM⟩ := hM.elem (hM.dat (k := 0) rfl) (n := 1) rfl hz30
        obtain ⟨rfl, hv37⟩ := hr33
        refine q_ hf rfl rfl rfl (e_indexAddr (A := A2) (b := b34) (o := o35) (xs := x1) (i := z27) hf hA36 rfl rfl Try.underlying40 Try.sizeOf9 h31 h32) fun a hf => ?_
        refine q_ hf rfl rfl rfl (e_load1 hf rfl Try.isAgg9 (hM.litCell (k := 0) (j := 0) rfl rfl rfl)) fun a hf => ?_
        refine q_ hf rfl rfl rfl (e_move hf rfl) fun a hf => ?_
        obtain ⟨y38, hz39, h22⟩ := bind_some h22
        refine pl_l hf rfl rfl rfl (w_call hf Try.call109 rfl (r_cmp_Less_string ⟨_, Sh C _ _, none_, hM.sh_lt, none_not, C.G, hM.g_lt, g_none, hM.tabs⟩ e29 hv37 target5 hp6 _ hz39) ?_)
        rintro _ w40 ⟨rfl, hM2⟩
        obtain ⟨hM, hx41, hup42⟩ := hM.back hM2
        dsimp only [List.cons_append, List.nil_append] at hM hup42
        clear hM2
        refine ⟨_, rfl, fun a hf => ?_⟩
        refine pl_nil ?_
        refine then_n ?_
        rcases cond_some h22 with ⟨hc43, h22⟩ | ⟨hc43, h22⟩
        · refine cond_t hf rfl hc43 ?_
          refine region_pl ?_
          refine q_ hf rfl rfl rfl (e_move hf rfl) fun a hf => ?_
          obtain ⟨z44, hz45, h22⟩ := bind_some h22
          refine q_ hf rfl rfl rfl (e_add hf rfl rfl hz45) fun a hf => ?_
          refine q_ hf rfl rfl rfl (e_assign hf rfl) fun a hf => ?_
          refine pl_nil ?_
          refine blk_n ?_
          obtain rfl := some_inj h22
          refine then_n ⟨_, rfl, ?_⟩
          exact ⟨z44, n14, rfl, hf.keep ⟨rfl, rfl, rfl, rfl, rfl, trivial⟩, hM.pick [1] rfl, (chk_R hz45), hv15⟩
        · refine cond_f hf rfl hc43 ?_
          refine region_pl ?_
          refine q_ hf rfl rfl rfl (e_move hf rfl) fun a hf => ?_
          refine q_ hf rfl rfl rfl (e_assign hf rfl) fun a hf => ?_
          refine pl_nil ?_
          refine blk_n ?_
          obtain rfl := some_inj h22
          refine then_n ⟨_, rfl, ?_⟩
          exact ⟨h12, z27, rfl, hf.keep ⟨rfl, rfl, rfl, rfl, rfl, trivial⟩, hM.pick [1] rfl, hv13, (chk_R hz28)⟩
      · refine cond_f hf rfl hc24 ?_
        refine wp_exit ?_
        refine then_x ?_
        obtain rfl := some_inj h22
        obtain rfl := hd23 _ rfl
        try dsimp only at h11
        refine then_x ?_
        refine exit_hit ?_
        obtain rfl := some_inj h11
        refine then_n ?_
        exact ⟨h12, rfl, hf.keep ⟨rfl, rfl, rfl, rfl, trivial⟩, hM.pick [0] rfl, hv13⟩
  · rintro a w52 ⟨h8, rfl, hf, hM, hv9⟩
    try dsimp only at h
    obtain ⟨x57, h58, h⟩ := bind_some h
    refine seq_join (fun a w => ∃ (n53 : Int) (i55 : Bool), (n53, i55) = x57 ∧ Has 54 a [(4, vI (n53)), (5, .bool (i55))] ∧ Mem C w [] [.dat (sliceRep strRep) x1 [vL A2 x1 c3]] ∧ R64 n53) ?_ ?_
    · refine region_pl ?_
      refine q_ hf rfl rfl rfl (e_move hf rfl) fun a hf => ?_
      refine q_ hf rfl rfl rfl (e_move hf rfl) fun a hf => ?_
      refine q_ hf rfl rfl rfl (e_move hf rfl) fun a hf => ?_
      refine q_ hf rfl rfl rfl (e_lt hf (x := h8) (y := (x1.length : Int)) rfl rfl) fun a hf => ?_
      refine q_ hf rfl rfl rfl (e_move hf rfl) fun a hf => ?_
      rcases cond_some h58 with ⟨hc59, h58⟩ | ⟨hc59, h58⟩
      · refine gq (wanted_t hf rfl rfl rfl rfl hc59) hf rfl rfl (e_move hf rfl) fun a hf => ?_
        refine gq (wanted_t hf rfl rfl rfl rfl hc59) hf rfl rfl (e_move hf rfl) fun a hf => ?_
        obtain ⟨e60, hz61, h58⟩ := bind_some h58
        obtain ⟨b65, o66, _, hA67, h62, h63, hr64, hM⟩ := hM.elem (hM.dat (k := 0) rfl) (n := 1) rfl hz61
        obtain ⟨rfl, hv68⟩ := hr64
        refine gq (wanted_t hf rfl rfl rfl rfl hc59) hf rfl rfl (e_indexAddr (A := A2) (b := b65) (o := o66) (xs := x1) (i := h8) hf hA67 rfl rfl Try.underlying40 Try.sizeOf9 h62 h63) fun a hf => ?_
        refine gq (wanted_t hf rfl rfl rfl rfl hc59) hf rfl rfl (e_load1 hf rfl Try.isAgg9 (hM.litCell (k := 0) (j := 0) rfl rfl rfl)) fun a hf => ?_
        refine gq (wanted_t hf rfl rfl rfl rfl hc59) hf rfl rfl (e_move hf rfl) fun a hf => ?_
        refine gq (wanted_t hf rfl rfl rfl rfl hc59) hf rfl rfl (e_eqS hf (x := e60) (y := target5) rfl rfl) fun a hf => ?_
        refine gq (wanted_t hf rfl rfl rfl rfl hc59) hf rfl rfl (e_move hf rfl) fun a hf => ?_
        rcases cond_some h58 with ⟨hc69, h58⟩ | ⟨hc69, h58⟩
        · refine pl_gs (wanted_f hf rfl rfl rfl rfl hc69) hf rfl rfl fun a hf => ?_
          refine pl_gs (wanted_f hf rfl rfl rfl rfl hc69) hf rfl rfl fun a hf => ?_
          refine pl_gs (wanted_f hf rfl rfl rfl rfl hc69) hf rfl rfl fun a hf => ?_
          refine pl_gs (wanted_f hf rfl rfl rfl rfl hc69) hf rfl rfl fun a hf => ?_
          refine pl_gs (wanted_f hf rfl rfl rfl rfl hc69) hf rfl rfl fun a hf => ?_
          refine pl_gs (wanted_f hf rfl rfl rfl rfl hc69) hf rfl rfl fun a hf => ?_
          refine pl_gs (wanted_u hf rfl rfl rfl rfl) hf rfl rfl fun a hf => ?_
          refine pl_gs (wanted_u hf rfl rfl rfl rfl) hf rfl rfl fun a hf => ?_
          refine pl_gs (wanted_f hf rfl rfl rfl rfl hc69) hf rfl rfl fun a hf => ?_
          refine gq (wanted_t hf rfl rfl rfl rfl hc59) hf rfl rfl (e_pick_t hf rfl hc69 rfl) fun a hf => ?_
          refine q_ hf rfl rfl rfl (e_pick_t hf rfl hc59 rfl) fun a hf => ?_
          refine q_ hf rfl rfl rfl (e_assign hf rfl) fun a hf => ?_
          refine q_ hf rfl rfl rfl (e_assign hf rfl) fun a hf => ?_
          refine pl_nil ?_
          obtain rfl := some_inj h58
          refine then_n ?_
          exact ⟨h8, true, rfl, hf.keep ⟨rfl, rfl, trivial⟩, hM.pick [1] rfl, hv9⟩
        · refine gq (wanted_t hf rfl rfl rfl rfl hc69) hf rfl rfl (e_move hf rfl) fun a hf => ?_
          refine gq (wanted_t hf rfl rfl rfl rfl hc69) hf rfl rfl (e_move hf rfl) fun a hf => ?_
          obtain ⟨e71, hz72, h58⟩ := bind_some h58
          obtain ⟨b76, o77, _, hA78, h73, h74, hr75, hM⟩ := hM.elem (hM.dat (k := 1) rfl) (n := 1) rfl hz72
          obtain ⟨rfl, hv79⟩ := hr75
          refine gq (wanted_t hf rfl rfl rfl rfl hc69) hf rfl rfl (e_indexAddr (A := A2) (b := b76) (o := o77) (xs := x1) (i := h8) hf hA78 rfl rfl Try.underlying40 Try.sizeOf9 h73 h74) fun a hf => ?_
          refine gq (wanted_t hf rfl rfl rfl rfl hc69) hf rfl rfl (e_load1 hf rfl Try.isAgg9 (hM.litCell (k := 0) (j := 0) rfl rfl rfl)) fun a hf => ?_
          obtain ⟨y80, hz81, h58⟩ := bind_some h58
          refine pl_gl (wanted_t hf rfl rfl rfl rfl hc69) hf rfl rfl (w_call hf Try.call110 rfl (r_slices_isNaN_string ⟨_, Sh C _ _, none_, hM.sh_lt, none_not, C.G, hM.g_lt, g_none, hM.tabs⟩ e71 hv79 _ hz81) ?_)
          rintro _ w82 ⟨rfl, hM2⟩
          obtain ⟨hM, hx83, hup84⟩ := hM.back hM2
          dsimp only [List.cons_append, List.nil_append] at hM hup84
          clear hM2
          refine ⟨_, rfl, fun a hf => ?_⟩
          refine gq (wanted_t hf rfl rfl rfl rfl hc69) hf rfl rfl (e_move hf rfl) fun a hf => ?_
          rcases cond_some h58 with ⟨hc85, h58⟩ | ⟨hc85, h58⟩
          · refine gq (wanted_t hf rfl rfl rfl rfl hc85) hf rfl rfl (e_move hf rfl) fun a hf => ?_
            obtain ⟨y86, hz87, h58⟩ := bind_some h58
            refine pl_gl (wanted_t hf rfl rfl rfl rfl hc85) hf rfl rfl (w_call hf Try.call110 rfl (r_slices_isNaN_string ⟨_, Sh C _ _, none_, hM.sh_lt, none_not, C.G, hM.g_lt, g_none, hM.tabs⟩ target5 hp6 _ hz87) ?_)
            rintro _ w88 ⟨rfl, hM2⟩
            obtain ⟨hM, hx89, hup90⟩ := hM.back hM2
            dsimp only [List.cons_append, List.nil_append] at hM hup90
            clear hM2
            refine ⟨_, rfl, fun a hf => ?_⟩
            refine gq (wanted_t hf rfl rfl rfl rfl hc69) hf rfl rfl (e_pick_t hf rfl hc85 rfl) fun a hf => ?_
            refine gq (wanted_t hf rfl rfl rfl rfl hc59) hf rfl rfl (e_pick_f hf rfl hc69 rfl) fun a hf => ?_
            refine q_ hf rfl rfl rfl (e_pick_t hf rfl hc59 rfl) fun a hf => ?_
            refine q_ hf rfl rfl rfl (e_assign hf rfl) fun a hf => ?_
            refine q_ hf rfl rfl rfl (e_assign hf rfl) fun a hf => ?_
            refine pl_nil ?_
            obtain rfl := some_inj h58
            refine then_n ?_
            exact ⟨h8, y86, rfl, hf.keep ⟨rfl, rfl, trivial⟩, hM.pick [2] rfl, hv9⟩
          · refine pl_gs (wanted_f hf rfl rfl rfl rfl hc85) hf rfl rfl fun a hf => ?_
            refine pl_gs (wanted_f hf rfl rfl rfl rfl hc85) hf rfl rfl fun a hf => ?_
            refine gq (wanted_t hf rfl rfl rfl rfl hc69) hf rfl rfl (e_pick_f hf rfl hc85 rfl) fun a hf => ?_
            refine gq (wanted_t hf rfl rfl rfl rfl hc59) hf rfl rfl (e_pick_f hf rfl hc69 rfl) fun a hf => ?_
            refine q_ hf rfl rfl rfl (e_pick_t hf rfl hc59 rfl) fun a hf => ?_
            refine q_ hf rfl rfl rfl (e_assign hf rfl) fun a hf => ?_
            refine q_ hf rfl rfl rfl (e_assign hf rfl) fun a hf => ?_
            refine pl_nil ?_
            obtain rfl := some_inj h58
            refine then_n ?_
            exact ⟨h8, false, rfl, hf.keep ⟨rfl, rfl, trivial⟩, hM.pick [2] rfl, hv9⟩
      · refine pl_gs (wanted_f hf rfl rfl rfl rfl hc59) hf rfl rfl fun a hf => ?_
        refine pl_gs (wanted_f hf rfl rfl rfl rfl hc59) hf rfl rfl fun a hf => ?_
        refine pl_gs (wanted_f hf rfl rfl rfl rfl hc59) hf rfl rfl fun a hf => ?_
        refine pl_gs (wanted_f hf rfl rfl rfl rfl hc59) hf rfl rfl fun a hf => ?_
        refine pl_gs (wanted_f hf rfl rfl rfl rfl hc59) hf rfl rfl fun a hf => ?_
        refine pl_gs (wanted_f hf rfl rfl rfl rfl hc59) hf rfl rfl fun a hf => ?_
        refine pl_gs (wanted_f hf rfl rfl rfl rfl hc59) hf rfl rfl fun a hf => ?_
        refine pl_gs (wanted_u hf rfl rfl rfl rfl) hf rfl rfl fun a hf => ?_
        refine pl_gs (wanted_u hf rfl rfl rfl rfl) hf rfl rfl fun a hf => ?_
        refine pl_gs (wanted_u hf rfl rfl rfl rfl) hf rfl rfl fun a hf => ?_
        refine pl_gs (wanted_u hf rfl rfl rfl rfl) hf rfl rfl fun a hf => ?_
        refine pl_gs (wanted_u hf rfl rfl rfl rfl) hf rfl rfl fun a hf => ?_
        refine pl_gs (wanted_u hf rfl rfl rfl rfl) hf rfl rfl fun a hf => ?_
        refine pl_gs (wanted_u hf rfl rfl rfl rfl) hf rfl rfl fun a hf => ?_
        refine pl_gs (wanted_u hf rfl rfl rfl rfl) hf rfl rfl fun a hf => ?_
        refine pl_gs (wanted_u hf rfl rfl rfl rfl) hf rfl rfl fun a hf => ?_
        refine pl_gs (wanted_f hf rfl rfl rfl rfl hc59) hf rfl rfl fun a hf => ?_
        refine q_ hf rfl rfl rfl (e_pick_f hf rfl hc59 rfl) fun a hf => ?_
        refine q_ hf rfl rfl rfl (e_assign hf rfl) fun a hf => ?_
        refine q_ hf rfl rfl rfl (e_assign hf rfl) fun a hf => ?_
        refine pl_nil ?_
        obtain rfl := some_inj h58
        refine then_n ?_
        exact ⟨h8, false, rfl, hf.keep ⟨rfl, rfl, trivial⟩, hM.pick [0] rfl, hv9⟩
    · rintro a w94 ⟨n53, i55, rfl, hf, hM, hv54⟩
      try dsimp only at h
      refine wp_ret ?_
      obtain rfl := some_inj h
      exact leave2 hf rfl rfl rfl ⟨rfl, hM.fin, hv54⟩

set_option maxRecDepth 100000 in
set_option maxHeartbeats 4000000 in
theorem r_impl_Lexicon_has (C : Cx) (l1 : Lexicon) (A2 : Option Addr) (c3 : Nat) (hp4 : (sliceRep strRep).R C.w0 C.S0 l1.Words [vL A2 l1.Words c3]) (word5 : Str) (hp6 : word5.length ≤ maxLen) (r : Bool) (h : m_impl_Lexicon_has l1 word5 = some r) :
    Calls Try.prog 68 #[.agg #[vL A2 (l1.Words) c3], vS (word5)] C.w0 fun e w => e = .returned (.bool (r)) ∧ Mem C w [] [] := by
  have hM := Mem.begin C [.dat (sliceRep strRep) l1.Words [vL A2 l1.Words c3]] ⟨hp4, trivial⟩
  refine enter Try.func68 rfl Try.ntmps68 rfl fun a hf => ?_
  unfold m_impl_Lexicon_has at h
  refine wp_seq ?_
  refine region_pl ?_
  refine pl_l hf rfl rfl rfl (w_box hf hM (cs := [vL A2 (l1.Words) c3]) rfl rfl fun b7 w8 hx9 hM a hf => ?_)
  refine q_ hf rfl rfl rfl (e_assign hf rfl) fun a hf => ?_
  refine pl_nil ?_
  refine then_n ?_
  refine wp_seq ?_
  refine region_pl ?_
  refine q_ hf rfl rfl rfl (e_field hf rfl Try.underlying45 rfl Try.sizeOf40 (o' := 0) rfl) fun a hf => ?_
  refine q_ hf rfl rfl rfl (e_load1 hf rfl Try.isAgg40 (hM.boxCell (k := 0) rfl rfl)) fun a hf => ?_
  refine q_ hf rfl rfl rfl (e_move hf rfl) fun a hf => ?_
  obtain ⟨y11, hz12, h⟩ := bind_some h
  refine pl_l hf rfl rfl rfl (w_call hf Try.call94 rfl (r_slices_BinarySearch_string_string ⟨_, Sh C _ _, none_, hM.sh_lt, none_not, C.G, hM.g_lt, g_none, hM.tabs⟩ l1.Words _ _ (hM.dat (k := 0) rfl) word5 hp6 _ hz12) ?_)
  rintro _ w14 ⟨rfl, hM2, hv13⟩
  obtain ⟨hM, hx15, hup16⟩ := hM.back hM2
  dsimp only [List.cons_append, List.nil_append] at hM hup16
  clear hM2
  refine ⟨_, rfl, fun a hf => ?_⟩
  refine q_ hf rfl rfl rfl (e_move hf rfl) fun a hf => ?_
  refine q_ hf rfl rfl rfl (e_extract hf rfl rfl) fun a hf => ?_
  refine q_ hf rfl rfl rfl (e_extract hf rfl rfl) fun a hf => ?_
  refine q_ hf rfl rfl rfl (e_assign hf rfl) fun a hf => ?_
  refine q_ hf rfl rfl rfl (e_assign hf rfl) fun a hf => ?_
  refine pl_nil ?_
  refine then_n ?_
  refine wp_seq ?_
  refine region_pl ?_
  refine q_ hf rfl rfl rfl (e_move hf rfl) fun a hf => ?_
  refine q_ hf rfl rfl rfl (e_assign hf rfl) fun a hf => ?_
  refine pl_nil ?_
  refine then_n ?_
  refine wp_ret ?_
  obtain rfl := some_inj h
  have hM := hM.outs (own' := []) 0 rfl
  exact leave1 hf rfl rfl ⟨rfl, hM.fin⟩

set_option maxRecDepth 100000 in
set_option maxHeartbeats 4000000 in
theorem r_impl_IsFilled (C : Cx) (g1 : Grid) (hp2 : R64 g1.Rows) (hp3 : R64 g1.Cols) (hp4 : g1.Cells.length ≤ maxLen) (l5 : Lexicon) (A6 : Option Addr) (c7 : Nat) (hp8 : (sliceRep strRep).R C.w0 C.S0 l5.Words [vL A6 l5.Words c7]) (r : Bool) (h : m_impl_IsFilled g1 l5 = some r) :
    Calls Try.prog 27 #[.agg #[vI (g1.Rows), vI (g1.Cols), vS (g1.Cells)], .agg #[vL A6 (l5.Words) c7]] C.w0 fun e w => e = .returned (.bool (r)) ∧ Mem C w [] [] := by
  have hM := Mem.begin C [.dat (sliceRep strRep) l5.Words [vL A6 l5.Words c7]] ⟨hp8, trivial⟩
  refine enter Try.func27 rfl Try.ntmps27 rfl fun a hf => ?_
  unfold m_impl_IsFilled at h
  refine wp_seq ?_
  refine region_pl ?_
  refine pl_l hf rfl rfl rfl (w_box hf hM (cs := [vI (g1.Rows), vI (g1.Cols), vS (g1.Cells)]) rfl rfl fun b9 w10 hx11 hM a hf => ?_)
  refine pl_l hf rfl rfl rfl (w_box hf hM (cs := [vL A6 (l5.Words) c7]) rfl rfl fun b13 w14 hx15 hM a hf => ?_)
  refine q_ hf rfl rfl rfl (e_assign hf rfl) fun a hf => ?_
  refine pl_nil ?_
  refine then_n ?_
  refine wp_seq ?_
  obtain ⟨x19, h20, h⟩ := bind_some h
  refine seq_join (fun a w => ∃ (t17 : Bool), t17 = x19 ∧ Has 29 a [(2, vP b9 (0)), (3, vP b13 (0)), (14, .bool (t17))] ∧ Mem C w [.box b13 [vL A6 (l5.Words) c7] 45, .box b9 [vI (g1.Rows), vI (g1.Cols), vS (g1.Cells)] 27] [.dat (sliceRep strRep) l5.Words [vL A6 l5.Words c7]]) ?_ ?_
  · refine region_pl ?_
    refine q_ hf rfl rfl rfl (e_loadA hf (us := [vI (g1.Rows), vI (g1.Cols), vS (g1.Cells)]) rfl ⟨Try.isAgg27, Try.sizeOf27⟩ rfl (hM.boxSub (k := 1) (us := [vI (g1.Rows), vI (g1.Cols), vS (g1.Cells)]) (o := 0) rfl rfl)) fun a hf => ?_
    obtain ⟨y21, hz22, h20⟩ := bind_some h20
    refine pl_l hf rfl rfl rfl (w_call hf Try.call46 rfl (r_impl_ValidGrid ⟨_, Sh C _ _, none_, hM.sh_lt, none_not, C.G, hM.g_lt, g_none, hM.tabs⟩ g1 hp2 hp3 hp4 _ hz22) ?_)
    rintro _ w23 ⟨rfl, hM2⟩
    obtain ⟨hM, hx24, hup25⟩ := hM.back hM2
    dsimp only [List.cons_append, List.nil_append] at hM hup25
    clear hM2
    refine ⟨_, rfl, fun a hf => ?_⟩
    refine q_ hf rfl rfl rfl (e_not hf rfl) fun a hf => ?_
    refine q_ hf rfl rfl rfl (e_move hf rfl) fun a hf => ?_
    rcases cond_some h20 with ⟨hc26, h20⟩ | ⟨hc26, h20⟩
    · refine pl_gs (wanted_f hf rfl rfl rfl rfl hc26) hf rfl rfl fun a hf => ?_
      refine pl_gs (wanted_f hf rfl rfl rfl rfl hc26) hf rfl rfl fun a hf => ?_
      refine pl_gs (wanted_f hf rfl rfl rfl rfl hc26) hf rfl rfl fun a hf => ?_
      refine q_ hf rfl rfl rfl (e_pick_t hf rfl hc26 rfl) fun a hf => ?_
      refine pl_nil ?_
      obtain rfl := some_inj h20
      refine then_n ?_
      exact ⟨true, rfl, hf.keep ⟨rfl, rfl, rfl, trivial⟩, hM.pick [0] rfl⟩
    · refine gq (wanted_t hf rfl rfl rfl rfl hc26) hf rfl rfl (e_loadA hf (us := [vL A6 (l5.Words) c7]) rfl ⟨Try.isAgg45, Try.sizeOf45⟩ rfl (hM.boxSub (k := 0) (us := [vL A6 (l5.Words) c7]) (o := 0) rfl rfl)) fun a hf => ?_
      obtain ⟨y28, hz29, h20⟩ := bind_some h20
      refine pl_gl (wanted_t hf rfl rfl rfl rfl hc26) hf rfl rfl (w_call hf Try.call67 rfl (r_impl_ValidLexicon ⟨_, Sh C _ _, none_, hM.sh_lt, none_not, C.G, hM.g_lt, g_none, hM.tabs⟩ l5 _ _ (hM.dat (k := 0) rfl) _ hz29) ?_)
      rintro _ w30 ⟨rfl, hM2⟩
      obtain ⟨hM, hx31, hup32⟩ := hM.back hM2
      dsimp only [List.cons_append, List.nil_append] at hM hup32
      clear hM2
      refine ⟨_, rfl, fun a hf => ?_⟩
      refine gq (wanted_t hf rfl rfl rfl rfl hc26) hf rfl rfl (e_not hf rfl) fun a hf => ?_
      refine q_ hf rfl rfl rfl (e_pick_f hf rfl hc26 rfl) fun a hf => ?_
      refine pl_nil ?_
      obtain rfl := some_inj h20
      refine then_n ?_
      exact ⟨(!y28), rfl, hf.keep ⟨rfl, rfl, rfl, trivial⟩, hM.pick [0] rfl⟩
  · rintro a w34 ⟨t17, rfl, hf, hM⟩
    try dsimp only at h
    rcases cond_some h with ⟨hc35, h⟩ | ⟨hc35, h⟩
    · refine cond_t hf rfl hc35 ?_
      refine wp_seq ?_
      refine region_pl ?_
      refine q_ hf rfl rfl rfl (e_assign hf rfl) fun a hf => ?_
      refine pl_nil ?_
      refine then_n ?_
      refine wp_ret ?_
      refine then_r ?_
      obtain rfl := some_inj h
      have hM := hM.outs (own' := []) 0 rfl
      exact leave1 hf rfl rfl ⟨rfl, hM.fin⟩
    · refine cond_f hf rfl hc35 ?_
      refine wp_skip ?_
      refine then_n ?_
      obtain ⟨x36, h37, h⟩ := bind_some h
      refine seq_join (fun a w => (.inl ()) = x36 ∧ Has 29 a [] ∧ Mem C w [.box b13 [vL A6 (l5.Words) c7] 45, .box b9 [vI (g1.Rows), vI (g1.Cols), vS (g1.Cells)] 27] [.dat (sliceRep strRep) l5.Words [vL A6 l5.Words c7]]) ?_ ?_
      · refine wp_seq ?_
        refine region_pl ?_
        refine q_ hf rfl rfl rfl (e_loadA hf (us := [vI (g1.Rows), vI (g1.Cols), vS (g1.Cells)]) rfl ⟨Try.isAgg27, Try.sizeOf27⟩ rfl (hM.boxSub (k := 1) (us := [vI (g1.Rows), vI (g1.Cols), vS (g1.Cells)]) (o := 0) rfl rfl)) fun a hf => ?_
        obtain ⟨y38, hz39, h37⟩ := bind_some h37
        refine pl_l hf rfl rfl rfl (w_call hf Try.call55 rfl (r_impl_Grid_slots ⟨_, Sh C _ _, none_, hM.sh_lt, none_not, C.G, hM.g_lt, g_none, hM.tabs⟩ g1 hp2 hp3 hp4 _ hz39) ?_)
        rintro _ w42 ⟨A40, c41, rfl, hM2⟩
        obtain ⟨hM, hx43, hup44⟩ := hM.back hM2
        dsimp only [List.cons_append, List.nil_append] at hM hup44
        clear hM2
        refine ⟨_, rfl, fun a hf => ?_⟩
        have hl45 := row_len (hM.ownAt (k := 0) rfl)
        refine q_ hf rfl rfl rfl (e_lenL hf (x := y38) rfl Try.underlying30) fun a hf => ?_
        refine q_ hf rfl rfl rfl (e_move hf rfl) fun a hf => ?_
        refine pl_nil ?_
        refine then_n ?_
        refine wp_block ?_
        obtain ⟨x49, h50, h37⟩ := bind_some h37
        refine wp_loopM h50 (fun s a w => ∃ (n46 : Int), n46 = s ∧ Has 29 a [(2, vP b9 (0)), (3, vP b13 (0)), (16, vL A40 (y38) c41), (17, vI ((y38.length : Int))), (18, vI (n46))] ∧ Mem C w [.row SlotRep A40 c41 75 y38 true, .box b13 [vL A6 (l5.Words) c7] 45, .box b9 [vI (g1.Rows), vI (g1.Cols), vS (g1.Cells)] 27] [.dat (sliceRep strRep) l5.Words [vL A6 l5.Words c7]] ∧ R64 n46) ?_ ?_
        · exact ⟨0, rfl, hf.keep ⟨rfl, rfl, rfl, rfl, rfl, trivial⟩, hM.pick [0] rfl, (R64_lit rfl)⟩
        · rintro s o51 a w48 ⟨n46, rfl, hf, hM, hv47⟩ h52 hd53
          replace h52 : m_impl_IsFilled_l1 y38 g1 l5 n46 = some o51 := h52
          unfold m_impl_IsFilled_l1 at h52
          refine wp_seq ?_
          refine region_pl ?_
          refine q_ hf rfl rfl rfl (e_lt hf (x := n46) (y := (y38.length : Int)) rfl rfl) fun a hf => ?_
          refine pl_nil ?_
          refine then_n ?_
          refine wp_seq ?_
          rcases cond_some h52 with ⟨hc54, h52⟩ | ⟨hc54, h52⟩
          · refine cond_t hf rfl hc54 ?_
            refine wp_skip ?_
            refine then_n ?_
            refine wp_seq ?_
            refine wp_block ?_
            refine wp_seq ?_
            refine region_pl ?_
            obtain ⟨e55, hz56, h52⟩ := bind_some h52
            obtain ⟨b61, _, hA62, h57, h58, hr59, hcell60⟩ := hM.rowElemN (k := 0) rfl (n := 4) rfl hz56
            obtain ⟨rfl, hv63, hv64, hv65⟩ := SlotRep_open hr59
            refine q_ hf rfl rfl rfl (e_indexAddr (A := A40) (b := b61) (o := 0) (xs := y38) (i := n46) hf hA62 rfl rfl Try.underlying30 Try.sizeOf75 h57 h58) fun a hf => ?_
            refine q_ hf rfl rfl rfl (e_loadA hf (us := [vI (e55.Row), vI (e55.Col), .bool (e55.Down), vI (e55.Length)]) rfl ⟨Try.isAgg75, Try.sizeOf75⟩ rfl hcell60) fun a hf => ?_
            refine pl_l hf rfl rfl rfl (w_alloc hM (cs := [vI (0), vI (0), .bool (false), vI (0)]) Try.zeroValue75 rfl fun b66 w67 hx68 hM a hf => ?_)
            refine pl_0 hf rfl rfl (w_store hf hM (us := [vI (e55.Row), vI (e55.Col), .bool (e55.Down), vI (e55.Length)]) (cs' := [vI (e55.Row), vI (e55.Col), .bool (e55.Down), vI (e55.Length)]) rfl rfl (k := 0) rfl rfl Try.sizeOf75 rfl rfl rfl fun w70 hM => ?_)
            dsimp only [List.set] at hM
            refine pl_nil ?_
            refine then_n ?_
            refine wp_seq ?_
            obtain ⟨w73, hw⟩ : ∃ x, x = w70.drew := ⟨_, rfl⟩
            refine region_pi (.q 0 (.q 1 (.q 2 (.l 3 (.l 4 (.q 5 (.nil))))))) (Ext w73) rfl (by kernel_rfl) ?_
            have hM := hM.drew
            rw [← hw] at hM ⊢
            clear hw
            refine pi_q hf rfl rfl rfl rfl (Ext.refl _) (e_loadA hf (us := [vL A6 (l5.Words) c7]) rfl ⟨Try.isAgg45, Try.sizeOf45⟩ rfl (hM.boxSub (k := 2) (us := [vL A6 (l5.Words) c7]) (o := 0) rfl rfl)) fun a hf => ?_
            refine pi_q hf rfl rfl rfl rfl (Ext.refl _) (e_loadA hf (us := [vI (g1.Rows), vI (g1.Cols), vS (g1.Cells)]) rfl ⟨Try.isAgg27, Try.sizeOf27⟩ rfl (hM.boxSub (k := 3) (us := [vI (g1.Rows), vI (g1.Cols), vS (g1.Cells)]) (o := 0) rfl rfl)) fun a hf => ?_
            refine pi_q hf rfl rfl rfl rfl (Ext.refl _) (e_loadA hf (us := [vI (e55.Row), vI (e55.Col), .bool (e55.Down), vI (e55.Length)]) rfl ⟨Try.isAgg75, Try.sizeOf75⟩ rfl (hM.boxSub (k := 0) (us := [vI (e55.Row), vI (e55.Col), .bool (e55.Down), vI (e55.Length)]) (o := 0) rfl rfl)) fun a hf => ?_
            refine pi_one ?_
            obtain ⟨y74, hz75, h52⟩ := bind_some h52
            refine pi_l hf rfl rfl rfl rfl (w_call hf Try.call53 rfl (r_impl_Grid_pattern ⟨_, Sh C _ _, none_, hM.sh_lt, none_not, C.G, hM.g_lt, g_none, hM.tabs⟩ g1 hp2 hp3 hp4 e55 hv63 hv64 hv65 _ hz75) ?_)
            rintro _ w77 ⟨rfl, hM2, hv76⟩
            obtain ⟨hM, hx78, hup79⟩ := hM.back hM2
            dsimp only [List.cons_append, List.nil_append] at hM hup79
            clear hM2
            refine ⟨_, rfl, Ext w77, fun _ h => Ext.trans hx78 h, Ext.refl _, fun a hf => ?_⟩
            refine pi_one ?_
            obtain ⟨y80, hz81, h52⟩ := bind_some h52
            refine pi_l hf rfl rfl rfl rfl (w_call hf Try.call68 rfl (r_impl_Lexicon_has ⟨_, Sh C _ _, none_, hM.sh_lt, none_not, C.G, hM.g_lt, g_none, hM.tabs⟩ l5 _ _ (hM.dat (k := 0) rfl) y74 hv76 _ hz81) ?_)
            rintro _ w82 ⟨rfl, hM2⟩
            obtain ⟨hM, hx83, hup84⟩ := hM.back hM2
            dsimp only [List.cons_append, List.nil_append] at hM hup84
            clear hM2
            refine ⟨_, rfl, Ext w82, fun _ h => Ext.trans hx83 h, Ext.refl _, fun a hf => ?_⟩
            refine pi_q hf rfl rfl rfl rfl (Ext.refl _) (e_not hf rfl) fun a hf => ?_
            refine pi_nil ?_
            refine then_n ?_
            rcases cond_some h52 with ⟨hc85, h52⟩ | ⟨hc85, h52⟩
            · refine cond_t hf rfl hc85 ?_
              refine wp_seq ?_
              refine region_pl ?_
              refine q_ hf rfl rfl rfl (e_assign hf rfl) fun a hf => ?_
              refine pl_nil ?_
              refine then_n ?_
              refine wp_ret ?_
              refine blk_r ?_
              refine then_r ?_
              obtain rfl := some_inj h52
              obtain rfl := hd53 _ rfl
              try dsimp only at h37
              refine then_r ?_
              refine blk_r ?_
              obtain rfl := some_inj h37
              try dsimp only at h
              refine then_r ?_
              obtain rfl := some_inj h
              have hM := hM.outs (own' := []) 0 rfl
              exact leave1 hf rfl rfl ⟨rfl, hM.fin⟩
            · refine cond_f hf rfl hc85 ?_
              refine wp_skip ?_
              refine blk_n ?_
              refine then_n ?_
              refine region_pl ?_
              obtain ⟨z86, hz87, h52⟩ := bind_some h52
              refine q_ hf rfl rfl rfl (e_add hf rfl rfl hz87) fun a hf => ?_
              refine q_ hf rfl rfl rfl (e_move hf rfl) fun a hf => ?_
              refine pl_nil ?_
              obtain rfl := some_inj h52
              refine then_n ⟨_, rfl, ?_⟩
              exact ⟨z86, rfl, hf.keep ⟨rfl, rfl, rfl, rfl, rfl, trivial⟩, (hM.drop (.cons _ (.cons_cons _ (.cons_cons _ (.cons_cons _ .slnil))))).pick [0] rfl, (chk_R hz87)⟩
          · refine cond_f hf rfl hc54 ?_
            refine wp_exit ?_
            refine then_x ?_
            obtain rfl := some_inj h52
            obtain rfl := hd53 _ rfl
            try dsimp only at h37
            refine then_x ?_
            refine exit_hit ?_
            obtain rfl := some_inj h37
            refine then_n ?_
            exact ⟨rfl, hf.keep trivial, (hM.drop (.cons _ (.cons_cons _ (.cons_cons _ .slnil)))).pick [0] rfl⟩
      · rintro a w94 ⟨rfl, hf, hM⟩
        try dsimp only at h
        refine wp_seq ?_
        refine region_pl ?_
        refine q_ hf rfl rfl rfl (e_assign hf rfl) fun a hf => ?_
        refine pl_nil ?_
        refine then_n ?_
        refine wp_ret ?_
        obtain rfl := some_inj h
        have hM := hM.outs (own' := []) 0 rfl
        exact leave1 hf rfl rfl ⟨rfl, hM.fin⟩

set_option maxRecDepth 100000 in
set_option maxHeartbeats 4000000 in
theorem r_laws_eqStringS (C : Cx) (a1 : (List Str)) (A2 : Option Addr) (c3 : Nat) (hp4 : (sliceRep strRep).R C.w0 C.S0 a1 [vL A2 a1 c3]) (b5 : (List Str)) (A6 : Option Addr) (c7 : Nat) (hp8 : (sliceRep strRep).R C.w0 C.S0 b5 [vL A6 b5 c7]) (r : Bool) (h : m_laws_eqStringS a1 b5 = some r) :
    Calls Try.prog 31 #[vL A2 (a1) c3, vL A6 (b5) c7] C.w0 fun e w => e = .returned (.bool (r)) ∧ Mem C w [] [] := by
  have hM := Mem.begin C [.dat (sliceRep strRep) b5 [vL A6 b5 c7], .dat (sliceRep strRep) a1 [vL A2 a1 c3]] ⟨hp8, hp4, trivial⟩
  refine enter Try.func31 rfl Try.ntmps31 rfl fun a hf => ?_
  unfold m_laws_eqStringS at h
  refine wp_seq ?_
  refine region_pl ?_
  refine q_ hf rfl rfl rfl (e_assign hf rfl) fun a hf => ?_
  refine pl_nil ?_
  refine then_n ?_
  refine wp_seq ?_
  refine wp_seq ?_
  refine region_pl ?_
  refine q_ hf rfl rfl rfl (e_move hf rfl) fun a hf => ?_
  have hl9 := slice_len (hM.dat (k := 1) rfl)
  refine q_ hf rfl rfl rfl (e_lenL hf (x := a1) rfl Try.underlying40) fun a hf => ?_
  refine q_ hf rfl rfl rfl (e_move hf rfl) fun a hf => ?_
  have hl10 := slice_len (hM.dat (k := 0) rfl)
  refine q_ hf rfl rfl rfl (e_lenL hf (x := b5) rfl Try.underlying40) fun a hf => ?_
  refine q_ hf rfl rfl rfl (e_ne hf (x := (a1.length : Int)) (y := (b5.length : Int)) rfl rfl) fun a hf => ?_
  refine pl_nil ?_
  refine then_n ?_
  rcases cond_some h with ⟨hc11, h⟩ | ⟨hc11, h⟩
  · refine cond_t hf rfl hc11 ?_
    refine wp_seq ?_
    refine region_pl ?_
    refine q_ hf rfl rfl rfl (e_assign hf rfl) fun a hf => ?_
    refine pl_nil ?_
    refine then_n ?_
    refine wp_ret ?_
    refine then_r ?_
    obtain rfl := some_inj h
    exact leave1 hf rfl rfl ⟨rfl, hM.fin⟩
  · refine cond_f hf rfl hc11 ?_
    refine wp_skip ?_
    refine then_n ?_
    obtain ⟨x12, h13, h⟩ := bind_some h
    refine seq_join (fun a w => (.inl ()) = x12 ∧ Has 26 a [] ∧ Mem C w [] [.dat (sliceRep strRep) b5 [vL A6 b5 c7], .dat (sliceRep strRep) a1 [vL A2 a1 c3]]) ?_ ?_
    · refine wp_seq ?_
      refine region_pl ?_
      refine q_ hf rfl rfl rfl (e_assign hf rfl) fun a hf => ?_
      refine pl_nil ?_
      refine then_n ?_
      refine wp_block ?_
      obtain ⟨x17, h18, h13⟩ := bind_some h13
      refine wp_loopM h18 (fun s a w => ∃ (n14 : Int), n14 = s ∧ Has 26 a [(0, vL A2 (a1) c3), (1, vL A6 (b5) c7), (5, vI (n14))] ∧ Mem C w [] [.dat (sliceRep strRep) b5 [vL A6 b5 c7], .dat (sliceRep strRep) a1 [vL A2 a1 c3]] ∧ R64 n14) ?_ ?_
      · exact ⟨0, rfl, hf.keep ⟨rfl, rfl, rfl, trivial⟩, hM.pick [0, 1] rfl, (R64_lit rfl)⟩
      · rintro s o19 a w16 ⟨n14, rfl, hf, hM, hv15⟩ h20 hd21
        replace h20 : m_laws_eqStringS_l1 a1 b5 n14 = some o19 := h20
        unfold m_laws_eqStringS_l1 at h20
        refine wp_seq ?_
        refine wp_seq ?_
        refine region_pl ?_
        refine q_ hf rfl rfl rfl (e_move hf rfl) fun a hf => ?_
        refine q_ hf rfl rfl rfl (e_move hf rfl) fun a hf => ?_
        have hl22 := slice_len (hM.dat (k := 1) rfl)
        refine q_ hf rfl rfl rfl (e_lenL hf (x := a1) rfl Try.underlying40) fun a hf => ?_
        refine q_ hf rfl rfl rfl (e_lt hf (x := n14) (y := (a1.length : Int)) rfl rfl) fun a hf => ?_
        refine pl_nil ?_
        refine then_n ?_
        rcases cond_some h20 with ⟨hc23, h20⟩ | ⟨hc23, h20⟩
        · refine cond_t hf rfl hc23 ?_
          refine wp_skip ?_
          refine then_n ?_
          refine wp_seq ?_
          refine wp_block ?_
          refine wp_seq ?_
          obtain ⟨w24, hw⟩ : ∃ x, x = w16.drew := ⟨_, rfl⟩
          refine region_pi (.q 0 (.q 1 (.q 2 (.q 3 (.q 4 (.q 5 (.q 6 (.q 7 (.q 8 (.nil)))))))))) (Ext w24) rfl (by kernel_rfl) ?_
          have hM := hM.drew
          rw [← hw] at hM ⊢
          clear hw
          refine pi_q hf rfl rfl rfl rfl (Ext.refl _) (e_move hf rfl) fun a hf => ?_
          refine pi_q hf rfl rfl rfl rfl (Ext.refl _) (e_move hf rfl) fun a hf => ?_
          obtain ⟨e25, hz26, h20⟩ := bind_some h20
          obtain ⟨b30, o31, _, hA32, h27, h28, hr29, hM⟩ := hM.elem (hM.dat (k := 1) rfl) (n := 1) rfl hz26
          obtain ⟨rfl, hv33⟩ := hr29
          refine pi_q hf rfl rfl rfl rfl (Ext.refl _) (e_indexAddr (A := A2) (b := b30) (o := o31) (xs := a1) (i := n14) hf hA32 rfl rfl Try.underlying40 Try.sizeOf9 h27 h28) fun a hf => ?_
          refine pi_q hf rfl rfl rfl rfl (Ext.refl _) (e_load1 hf rfl Try.isAgg9 (hM.litCell (k := 0) (j := 0) rfl rfl rfl)) fun a hf => ?_
          refine pi_q hf rfl rfl rfl rfl (Ext.refl _) (e_move hf rfl) fun a hf => ?_
          refine pi_q hf rfl rfl rfl rfl (Ext.refl _) (e_move hf rfl) fun a hf => ?_
          obtain ⟨e34, hz35, h20⟩ := bind_some h20
          obtain ⟨b39, o40, _, hA41, h36, h37, hr38, hM⟩ := hM.elem (hM.dat (k := 1) rfl) (n := 1) rfl hz35
          obtain ⟨rfl, hv42⟩ := hr38
          refine pi_q hf rfl rfl rfl rfl (Ext.refl _) (e_indexAddr (A := A6) (b := b39) (o := o40) (xs := b5) (i := n14) hf hA41 rfl rfl Try.underlying40 Try.sizeOf9 h36 h37) fun a hf => ?_
          refine pi_q hf rfl rfl rfl rfl (Ext.refl _) (e_load1 hf rfl Try.isAgg9 (hM.litCell (k := 0) (j := 0) rfl rfl rfl)) fun a hf => ?_
          refine pi_q hf rfl rfl rfl rfl (Ext.refl _) (e_neS hf (x := e25) (y := e34) rfl rfl) fun a hf => ?_
          refine pi_nil ?_
          refine then_n ?_
          rcases cond_some h20 with ⟨hc43, h20⟩ | ⟨hc43, h20⟩
          · refine cond_t hf rfl hc43 ?_
            refine wp_seq ?_
            refine region_pl ?_
            refine q_ hf rfl rfl rfl (e_assign hf rfl) fun a hf => ?_
            refine pl_nil ?_
            refine then_n ?_
            refine wp_ret ?_
            refine blk_r ?_
            refine then_r ?_
            obtain rfl := some_inj h20
            obtain rfl := hd21 _ rfl
            try dsimp only at h13
            refine then_r ?_
            refine blk_r ?_
            obtain rfl := some_inj h13
            try dsimp only at h
            refine then_r ?_
            obtain rfl := some_inj h
            exact leave1 hf rfl rfl ⟨rfl, hM.fin⟩
          · refine cond_f hf rfl hc43 ?_
            refine wp_skip ?_
            refine blk_n ?_
            refine then_n ?_
            refine region_pl ?_
            refine q_ hf rfl rfl rfl (e_move hf rfl) fun a hf => ?_
            obtain ⟨z44, hz45, h20⟩ := bind_some h20
            refine q_ hf rfl rfl rfl (e_add hf rfl rfl hz45) fun a hf => ?_
            refine q_ hf rfl rfl rfl (e_assign hf rfl) fun a hf => ?_
            refine pl_nil ?_
            obtain rfl := some_inj h20
            refine then_n ⟨_, rfl, ?_⟩
            exact ⟨z44, rfl, hf.keep ⟨rfl, rfl, rfl, trivial⟩, hM.pick [2, 3] rfl, (chk_R hz45)⟩
        · refine cond_f hf rfl hc23 ?_
          refine wp_exit ?_
          refine then_x ?_
          obtain rfl := some_inj h20
          obtain rfl := hd21 _ rfl
          try dsimp only at h13
          refine then_x ?_
          refine exit_hit ?_
          obtain rfl := some_inj h13
          refine then_n ?_
          exact ⟨rfl, hf.keep trivial, hM.pick [0, 1] rfl⟩
    · rintro a w52 ⟨rfl, hf, hM⟩
      try dsimp only at h
      refine wp_seq ?_
      refine region_pl ?_
      refine q_ hf rfl rfl rfl (e_assign hf rfl) fun a hf => ?_
      refine pl_nil ?_
      refine then_n ?_
      refine wp_ret ?_
      obtain rfl := some_inj h
      exact leave1 hf rfl rfl ⟨rfl, hM.fin⟩

set_option maxRecDepth 100000 in
set_option maxHeartbeats 4000000 in
theorem r_laws_eqLexicon (C : Cx) (a1 : Lexicon) (A2 : Option Addr) (c3 : Nat) (hp4 : (sliceRep strRep).R C.w0 C.S0 a1.Words [vL A2 a1.Words c3]) (b5 : Lexicon) (A6 : Option Addr) (c7 : Nat) (hp8 : (sliceRep strRep).R C.w0 C.S0 b5.Words [vL A6 b5.Words c7]) (r : Bool) (h : m_laws_eqLexicon a1 b5 = some r) :
    Calls Try.prog 28 #[.agg #[vL A2 (a1.Words) c3], .agg #[vL A6 (b5.Words) c7]] C.w0 fun e w => e = .returned (.bool (r)) ∧ Mem C w [] [] := by
  have hM := Mem.begin C [.dat (sliceRep strRep) b5.Words [vL A6 b5.Words c7], .dat (sliceRep strRep) a1.Words [vL A2 a1.Words c3]] ⟨hp8, hp4, trivial⟩
  refine enter Try.func28 rfl Try.ntmps28 rfl fun a hf => ?_
  unfold m_laws_eqLexicon at h
  refine wp_seq ?_
  refine region_pl ?_
  refine pl_l hf rfl rfl rfl (w_box hf hM (cs := [vL A2 (a1.Words) c3]) rfl rfl fun b9 w10 hx11 hM a hf => ?_)
  refine pl_l hf rfl rfl rfl (w_box hf hM (cs := [vL A6 (b5.Words) c7]) rfl rfl fun b13 w14 hx15 hM a hf => ?_)
  refine q_ hf rfl rfl rfl (e_assign hf rfl) fun a hf => ?_
  refine pl_nil ?_
  refine then_n ?_
  refine wp_seq ?_
  refine wp_seq ?_
  refine region_pl ?_
  refine q_ hf rfl rfl rfl (e_field hf rfl Try.underlying45 rfl Try.sizeOf40 (o' := 0) rfl) fun a hf => ?_
  refine q_ hf rfl rfl rfl (e_load1 hf rfl Try.isAgg40 (hM.boxCell (k := 1) rfl rfl)) fun a hf => ?_
  refine q_ hf rfl rfl rfl (e_field hf rfl Try.underlying45 rfl Try.sizeOf40 (o' := 0) rfl) fun a hf => ?_
  refine q_ hf rfl rfl rfl (e_load1 hf rfl Try.isAgg40 (hM.boxCell (k := 0) rfl rfl)) fun a hf => ?_
  obtain ⟨y17, hz18, h⟩ := bind_some h
  refine pl_l hf rfl rfl rfl (w_call hf Try.call31 rfl (r_laws_eqStringS ⟨_, Sh C _ _, none_, hM.sh_lt, none_not, C.G, hM.g_lt, g_none, hM.tabs⟩ a1.Words _ _ (hM.dat (k := 1) rfl) b5.Words _ _ (hM.dat (k := 0) rfl) _ hz18) ?_)
  rintro _ w19 ⟨rfl, hM2⟩
  obtain ⟨hM, hx20, hup21⟩ := hM.back hM2
  dsimp only [List.cons_append, List.nil_append] at hM hup21
  clear hM2
  refine ⟨_, rfl, fun a hf => ?_⟩
  refine q_ hf rfl rfl rfl (e_not hf rfl) fun a hf => ?_
  refine pl_nil ?_
  refine then_n ?_
  rcases cond_some h with ⟨hc22, h⟩ | ⟨hc22, h⟩
  · refine cond_t hf rfl hc22 ?_
    refine wp_seq ?_
    refine region_pl ?_
    refine q_ hf rfl rfl rfl (e_assign hf rfl) fun a hf => ?_
    refine pl_nil ?_
    refine then_n ?_
    refine wp_ret ?_
    refine then_r ?_
    obtain rfl := some_inj h
    have hM := hM.outs (own' := []) 0 rfl
    exact leave1 hf rfl rfl ⟨rfl, hM.fin⟩
  · refine cond_f hf rfl hc22 ?_
    refine wp_skip ?_
    refine then_n ?_
    refine wp_seq ?_
    refine region_pl ?_
    refine q_ hf rfl rfl rfl (e_assign hf rfl) fun a hf => ?_
    refine pl_nil ?_
    refine then_n ?_
    refine wp_ret ?_
    obtain rfl := some_inj h
    have hM := hM.outs (own' := []) 0 rfl
    exact leave1 hf rfl rfl ⟨rfl, hM.fin⟩

set_option maxRecDepth 100000 in
set_option maxHeartbeats 4000000 in
theorem r_laws_FnExactIsFilled (C : Cx) (aG1 : Grid) (hp2 : R64 aG1.Rows) (hp3 : R64 aG1.Cols) (hp4 : aG1.Cells.length ≤ maxLen) (aL5 : Lexicon) (A6 : Option Addr) (c7 : Nat) (hp8 : (sliceRep strRep).R C.w0 C.S0 aL5.Words [vL A6 aL5.Words c7]) (r : Bool) (h : m_laws_FnExactIsFilled aG1 aL5 = some r) :
    Calls Try.prog 6 #[.agg #[vI (aG1.Rows), vI (aG1.Cols), vS (aG1.Cells)], .agg #[vL A6 (aL5.Words) c7]] C.w0 fun e w => e = .returned (.bool (r)) ∧ Mem C w [] [] := by
  have hM := Mem.begin C [.dat (sliceRep strRep) aL5.Words [vL A6 aL5.Words c7]] ⟨hp8, trivial⟩
  refine enter Try.func6 rfl Try.ntmps6 rfl fun a hf => ?_
  unfold m_laws_FnExactIsFilled at h
  refine wp_seq ?_
  refine region_pl ?_
  refine pl_l hf rfl rfl rfl (w_box hf hM (cs := [vI (aG1.Rows), vI (aG1.Cols), vS (aG1.Cells)]) rfl rfl fun b9 w10 hx11 hM a hf => ?_)
  refine pl_l hf rfl rfl rfl (w_box hf hM (cs := [vL A6 (aL5.Words) c7]) rfl rfl fun b13 w14 hx15 hM a hf => ?_)
  refine q_ hf rfl rfl rfl (e_assign hf rfl) fun a hf => ?_
  refine pl_nil ?_
  refine then_n ?_
  refine wp_seq ?_
  refine region_pl ?_
  refine q_ hf rfl rfl rfl (e_assign hf rfl) fun a hf => ?_
  refine pl_nil ?_
  refine then_n ?_
  refine wp_seq ?_
  refine region_pl ?_
  refine q_ hf rfl rfl rfl (e_loadA hf (us := [vI (aG1.Rows), vI (aG1.Cols), vS (aG1.Cells)]) rfl ⟨Try.isAgg23, Try.sizeOf23⟩ rfl (hM.boxSub (k := 1) (us := [vI (aG1.Rows), vI (aG1.Cols), vS (aG1.Cells)]) (o := 0) rfl rfl)) fun a hf => ?_
  refine q_ hf rfl rfl rfl (e_move hf rfl) fun a hf => ?_
  obtain ⟨y17, hz18, h⟩ := bind_some h
  refine pl_l hf rfl rfl rfl (w_call hf Try.call12 rfl (r_laws_szGrid ⟨_, Sh C _ _, none_, hM.sh_lt, none_not, C.G, hM.g_lt, g_none, hM.tabs⟩ aG1 hp2 hp3 hp4 1048576 (R64_lit rfl) _ hz18) ?_)
  rintro _ w20 ⟨rfl, hM2, hv19⟩
  obtain ⟨hM, hx21, hup22⟩ := hM.back hM2
  dsimp only [List.cons_append, List.nil_append] at hM hup22
  clear hM2
  refine ⟨_, rfl, fun a hf => ?_⟩
  refine q_ hf rfl rfl rfl (e_assign hf rfl) fun a hf => ?_
  refine pl_nil ?_
  refine then_n ?_
  refine wp_seq ?_
  refine wp_seq ?_
  refine region_pl ?_
  refine q_ hf rfl rfl rfl (e_move hf rfl) fun a hf => ?_
  refine q_ hf rfl rfl rfl (e_lt hf (x := y17) (y := 0) rfl rfl) fun a hf => ?_
  refine pl_nil ?_
  refine then_n ?_
  rcases cond_some h with ⟨hc23, h⟩ | ⟨hc23, h⟩
  · refine cond_t hf rfl hc23 ?_
    refine wp_seq ?_
    refine region_pl ?_
    refine q_ hf rfl rfl rfl (e_assign hf rfl) fun a hf => ?_
    refine pl_nil ?_
    refine then_n ?_
    refine wp_ret ?_
    refine then_r ?_
    obtain rfl := some_inj h
    have hM := hM.outs (own' := []) 0 rfl
    exact leave1 hf rfl rfl ⟨rfl, hM.fin⟩
  · refine cond_f hf rfl hc23 ?_
    refine wp_skip ?_
    refine then_n ?_
    refine wp_seq ?_
    refine region_pl ?_
    refine q_ hf rfl rfl rfl (e_loadA hf (us := [vL A6 (aL5.Words) c7]) rfl ⟨Try.isAgg42, Try.sizeOf42⟩ rfl (hM.boxSub (k := 0) (us := [vL A6 (aL5.Words) c7]) (o := 0) rfl rfl)) fun a hf => ?_
    refine q_ hf rfl rfl rfl (e_move hf rfl) fun a hf => ?_
    obtain ⟨y24, hz25, h⟩ := bind_some h
    refine pl_l hf rfl rfl rfl (w_call hf Try.call24 rfl (r_laws_szLexicon ⟨_, Sh C _ _, none_, hM.sh_lt, none_not, C.G, hM.g_lt, g_none, hM.tabs⟩ aL5 _ _ (hM.dat (k := 0) rfl) y17 hv19 _ hz25) ?_)
    rintro _ w27 ⟨rfl, hM2, hv26⟩
    obtain ⟨hM, hx28, hup29⟩ := hM.back hM2
    dsimp only [List.cons_append, List.nil_append] at hM hup29
    clear hM2
    refine ⟨_, rfl, fun a hf => ?_⟩
    refine q_ hf rfl rfl rfl (e_assign hf rfl) fun a hf => ?_
    refine pl_nil ?_
    refine then_n ?_
    refine wp_seq ?_
    refine wp_seq ?_
    refine region_pl ?_
    refine q_ hf rfl rfl rfl (e_move hf rfl) fun a hf => ?_
    refine q_ hf rfl rfl rfl (e_lt hf (x := y24) (y := 0) rfl rfl) fun a hf => ?_
    refine pl_nil ?_
    refine then_n ?_
    rcases cond_some h with ⟨hc30, h⟩ | ⟨hc30, h⟩
    · refine cond_t hf rfl hc30 ?_
      refine wp_seq ?_
      refine region_pl ?_
      refine q_ hf rfl rfl rfl (e_assign hf rfl) fun a hf => ?_
      refine pl_nil ?_
      refine then_n ?_
      refine wp_ret ?_
      refine then_r ?_
      obtain rfl := some_inj h
      have hM := hM.outs (own' := []) 0 rfl
      exact leave1 hf rfl rfl ⟨rfl, hM.fin⟩
    · refine cond_f hf rfl hc30 ?_
      refine wp_skip ?_
      refine then_n ?_
      refine wp_seq ?_
      obtain ⟨w31, hw⟩ : ∃ x, x = w27.drew := ⟨_, rfl⟩
      refine region_pi (.q 0 (.q 2 (.l 1 (.l 3 (.l 4 (.q 5 (.nil))))))) (Ext w31) rfl (by kernel_rfl) ?_
      have hM := hM.drew
      rw [← hw] at hM ⊢
      clear hw
      refine pi_q hf rfl rfl rfl rfl (Ext.refl _) (e_loadA hf (us := [vI (aG1.Rows), vI (aG1.Cols), vS (aG1.Cells)]) rfl ⟨Try.isAgg23, Try.sizeOf23⟩ rfl (hM.boxSub (k := 1) (us := [vI (aG1.Rows), vI (aG1.Cols), vS (aG1.Cells)]) (o := 0) rfl rfl)) fun a hf => ?_
      refine pi_q hf rfl rfl rfl rfl (Ext.refl _) (e_loadA hf (us := [vL A6 (aL5.Words) c7]) rfl ⟨Try.isAgg42, Try.sizeOf42⟩ rfl (hM.boxSub (k := 0) (us := [vL A6 (aL5.Words) c7]) (o := 0) rfl rfl)) fun a hf => ?_
      refine pi_one ?_
      obtain ⟨y32, hz33, h⟩ := bind_some h
      refine pi_l hf rfl rfl rfl rfl (w_call hf Try.call14 rfl (r_laws_toGrid ⟨_, Sh C _ _, none_, hM.sh_lt, none_not, C.G, hM.g_lt, g_none, hM.tabs⟩ aG1 hp2 hp3 hp4 _ hz33) ?_)
      rintro _ w37 ⟨rfl, hM2, hv34, hv35, hv36⟩
      obtain ⟨hM, hx38, hup39⟩ := hM.back hM2
      dsimp only [List.cons_append, List.nil_append] at hM hup39
      clear hM2
      refine ⟨_, rfl, Ext w37, fun _ h => Ext.trans hx38 h, Ext.refl _, fun a hf => ?_⟩
      refine pi_one ?_
      obtain ⟨y40, hz41, h⟩ := bind_some h
      refine pi_l hf rfl rfl rfl rfl (w_call hf Try.call26 rfl (r_laws_toLexicon ⟨_, Sh C _ _, none_, hM.sh_lt, none_not, C.G, hM.g_lt, g_none, hM.tabs⟩ aL5 _ _ (hM.dat (k := 0) rfl) _ hz41) ?_)
      rintro _ w44 ⟨A42, c43, rfl, hM2⟩
      obtain ⟨hM, hx45, hup46⟩ := hM.back hM2
      dsimp only [List.cons_append, List.nil_append] at hM hup46
      clear hM2
      refine ⟨_, rfl, Ext w44, fun _ h => Ext.trans hx45 h, Ext.refl _, fun a hf => ?_⟩
      refine pi_one ?_
      obtain ⟨y47, hz48, h⟩ := bind_some h
      refine pi_l hf rfl rfl rfl rfl (w_call hf Try.call25 rfl (r_spec_IsFilled ⟨_, All C _ _, none_, hM.all_lt, none_not, C.G, hM.g_lt, g_none, hM.tabs⟩ y32 hv34 hv35 hv36 y40 _ _ (hM.lendRow (k := 0) rfl) _ hz48) ?_)
      rintro _ w49 ⟨rfl, hM2⟩
      obtain ⟨hM, hx50⟩ := hM.backA hM2
      clear hM2
      refine ⟨_, rfl, Ext w49, fun _ h => Ext.trans hx50 h, Ext.refl _, fun a hf => ?_⟩
      refine pi_q hf rfl rfl rfl rfl (Ext.refl _) (e_assign hf rfl) fun a hf => ?_
      refine pi_nil ?_
      refine then_n ?_
      refine wp_seq ?_
      refine region_pl ?_
      refine q_ hf rfl rfl rfl (e_loadA hf (us := [vL A6 (aL5.Words) c7]) rfl ⟨Try.isAgg42, Try.sizeOf42⟩ rfl (hM.boxSub (k := 1) (us := [vL A6 (aL5.Words) c7]) (o := 0) rfl rfl)) fun a hf => ?_
      obtain ⟨y52, hz53, h⟩ := bind_some h
      refine pl_l hf rfl rfl rfl (w_call hf Try.call26 rfl (r_laws_toLexicon ⟨_, Sh C _ _, none_, hM.sh_lt, none_not, C.G, hM.g_lt, g_none, hM.tabs⟩ aL5 _ _ (hM.dat (k := 0) rfl) _ hz53) ?_)
      rintro _ w56 ⟨A54, c55, rfl, hM2⟩
      obtain ⟨hM, hx57, hup58⟩ := hM.back hM2
      dsimp only [List.cons_append, List.nil_append] at hM hup58
      clear hM2
      refine ⟨_, rfl, fun a hf => ?_⟩
      refine pl_l hf rfl rfl rfl (w_alloc hM (cs := [vL none (([] : (List Str))) 0]) Try.zeroValue45 rfl fun b59 w60 hx61 hM a hf => ?_)
      refine pl_0 hf rfl rfl (w_store hf hM (us := [vL A54 (y52.Words) c55]) (cs' := [vL A54 (y52.Words) c55]) rfl rfl (k := 0) rfl rfl Try.sizeOf45 rfl rfl rfl fun w63 hM => ?_)
      dsimp only [List.set] at hM
      refine pl_nil ?_
      refine then_n ?_
      refine wp_seq ?_
      obtain ⟨w66, hw⟩ : ∃ x, x = w63.drew := ⟨_, rfl⟩
      refine region_pi (.q 0 (.q 2 (.l 1 (.l 3 (.q 4 (.nil)))))) (Ext w66) rfl (by kernel_rfl) ?_
      have hM := hM.drew
      rw [← hw] at hM ⊢
      clear hw
      refine pi_q hf rfl rfl rfl rfl (Ext.refl _) (e_loadA hf (us := [vI (aG1.Rows), vI (aG1.Cols), vS (aG1.Cells)]) rfl ⟨Try.isAgg23, Try.sizeOf23⟩ rfl (hM.boxSub (k := 4) (us := [vI (aG1.Rows), vI (aG1.Cols), vS (aG1.Cells)]) (o := 0) rfl rfl)) fun a hf => ?_
      refine pi_q hf rfl rfl rfl rfl (Ext.refl _) (e_loadA hf (us := [vL A54 (y52.Words) c55]) rfl ⟨Try.isAgg45, Try.sizeOf45⟩ rfl (hM.boxSub (k := 0) (us := [vL A54 (y52.Words) c55]) (o := 0) rfl rfl)) fun a hf => ?_
      refine pi_one ?_
      obtain ⟨y67, hz68, h⟩ := bind_some h
      refine pi_l hf rfl rfl rfl rfl (w_call hf Try.call14 rfl (r_laws_toGrid ⟨_, Sh C _ _, none_, hM.sh_lt, none_not, C.G, hM.g_lt, g_none, hM.tabs⟩ aG1 hp2 hp3 hp4 _ hz68) ?_)
      rintro _ w72 ⟨rfl, hM2, hv69, hv70, hv71⟩
      obtain ⟨hM, hx73, hup74⟩ := hM.back hM2
      dsimp only [List.cons_append, List.nil_append] at hM hup74
      clear hM2
      refine ⟨_, rfl, Ext w72, fun _ h => Ext.trans hx73 h, Ext.refl _, fun a hf => ?_⟩
      refine pi_one ?_
      obtain ⟨y75, hz76, h⟩ := bind_some h
      refine pi_l hf rfl rfl rfl rfl (w_call hf Try.call27 rfl (r_impl_IsFilled ⟨_, All C _ _, none_, hM.all_lt, none_not, C.G, hM.g_lt, g_none, hM.tabs⟩ y67 hv69 hv70 hv71 y52 _ _ (hM.lendRow (k := 1) rfl) _ hz76) ?_)
      rintro _ w77 ⟨rfl, hM2⟩
      obtain ⟨hM, hx78⟩ := hM.backA hM2
      clear hM2
      refine ⟨_, rfl, Ext w77, fun _ h => Ext.trans hx78 h, Ext.refl _, fun a hf => ?_⟩
      refine pi_q hf rfl rfl rfl rfl (Ext.refl _) (e_assign hf rfl) fun a hf => ?_
      refine pi_nil ?_
      refine then_n ?_
      refine wp_seq ?_
      refine wp_seq ?_
      refine region_pl ?_
      refine q_ hf rfl rfl rfl (e_move hf rfl) fun a hf => ?_
      refine q_ hf rfl rfl rfl (e_move hf rfl) fun a hf => ?_
      refine q_ hf rfl rfl rfl (e_neT hf rfl rfl Try.underlying4) fun a hf => ?_
      refine pl_nil ?_
      refine then_n ?_
      rcases cond_some h with ⟨hc80, h⟩ | ⟨hc80, h⟩
      · refine cond_t hf rfl hc80 ?_
        refine wp_seq ?_
        refine region_pl ?_
        refine q_ hf rfl rfl rfl (e_assign hf rfl) fun a hf => ?_
        refine pl_nil ?_
        refine then_n ?_
        refine wp_ret ?_
        refine then_r ?_
        obtain rfl := some_inj h
        have hM := hM.outs (own' := []) 0 rfl
        exact leave1 hf rfl rfl ⟨rfl, hM.fin⟩
      · refine cond_f hf rfl hc80 ?_
        refine wp_skip ?_
        refine then_n ?_
        refine wp_seq ?_
        refine wp_seq ?_
        obtain ⟨w81, hw⟩ : ∃ x, x = w77.drew := ⟨_, rfl⟩
        refine region_pi (.q 0 (.q 1 (.l 2 (.l 3 (.q 4 (.nil)))))) (Ext w81) rfl (by kernel_rfl) ?_
        have hM := hM.drew
        rw [← hw] at hM ⊢
        clear hw
        refine pi_q hf rfl rfl rfl rfl (Ext.refl _) (e_loadA hf (us := [vL A54 (y52.Words) c55]) rfl ⟨Try.isAgg45, Try.sizeOf45⟩ rfl (hM.boxSub (k := 0) (us := [vL A54 (y52.Words) c55]) (o := 0) rfl rfl)) fun a hf => ?_
        refine pi_q hf rfl rfl rfl rfl (Ext.refl _) (e_loadA hf (us := [vL A6 (aL5.Words) c7]) rfl ⟨Try.isAgg42, Try.sizeOf42⟩ rfl (hM.boxSub (k := 3) (us := [vL A6 (aL5.Words) c7]) (o := 0) rfl rfl)) fun a hf => ?_
        refine pi_one ?_
        obtain ⟨y82, hz83, h⟩ := bind_some h
        refine pi_l hf rfl rfl rfl rfl (w_call hf Try.call26 rfl (r_laws_toLexicon ⟨_, Sh C _ _, none_, hM.sh_lt, none_not, C.G, hM.g_lt, g_none, hM.tabs⟩ aL5 _ _ (hM.dat (k := 0) rfl) _ hz83) ?_)
        rintro _ w86 ⟨A84, c85, rfl, hM2⟩
        obtain ⟨hM, hx87, hup88⟩ := hM.back hM2
        dsimp only [List.cons_append, List.nil_append] at hM hup88
        clear hM2
        refine ⟨_, rfl, Ext w86, fun _ h => Ext.trans hx87 h, Ext.refl _, fun a hf => ?_⟩
        refine pi_one ?_
        obtain ⟨y89, hz90, h⟩ := bind_some h
        refine pi_l hf rfl rfl rfl rfl (w_call hf Try.call28 rfl (r_laws_eqLexicon ⟨_, All C _ _, none_, hM.all_lt, none_not, C.G, hM.g_lt, g_none, hM.tabs⟩ y52 _ _ (hM.lendRow (k := 2) rfl) y82 _ _ (hM.lendRow (k := 0) rfl) _ hz90) ?_)
        rintro _ w91 ⟨rfl, hM2⟩
        obtain ⟨hM, hx92⟩ := hM.backA hM2
        clear hM2
        refine ⟨_, rfl, Ext w91, fun _ h => Ext.trans hx92 h, Ext.refl _, fun a hf => ?_⟩
        refine pi_q hf rfl rfl rfl rfl (Ext.refl _) (e_not hf rfl) fun a hf => ?_
        refine pi_nil ?_
        refine then_n ?_
        rcases cond_some h with ⟨hc94, h⟩ | ⟨hc94, h⟩
        · refine cond_t hf rfl hc94 ?_
          refine wp_seq ?_
          refine region_pl ?_
          refine q_ hf rfl rfl rfl (e_assign hf rfl) fun a hf => ?_
          refine pl_nil ?_
          refine then_n ?_
          refine wp_ret ?_
          refine then_r ?_
          obtain rfl := some_inj h
          have hM := hM.outs (own' := []) 0 rfl
          exact leave1 hf rfl rfl ⟨rfl, hM.fin⟩
        · refine cond_f hf rfl hc94 ?_
          refine wp_skip ?_
          refine then_n ?_
          refine wp_seq ?_
          refine region_pl ?_
          refine q_ hf rfl rfl rfl (e_assign hf rfl) fun a hf => ?_
          refine pl_nil ?_
          refine then_n ?_
          refine wp_ret ?_
          obtain rfl := some_inj h
          have hM := hM.outs (own' := []) 0 rfl
          exact leave1 hf rfl rfl ⟨rfl, hM.fin⟩

end Go.Proofs.Ytgmikhdealhlfaa
