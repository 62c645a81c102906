/- The functions that this law reaches do what their models say. Printed by gen.py. -/
import Derived.Test.YtgmbcolpchckbaaDoorMod
import Derived.Test.YtgmbcolpchckbaaDoorLib
namespace Go.Proofs.YtgmbcolpchckbaaDoor
open Go Go.RowKit
set_option linter.unusedSimpArgs false
set_option linter.unusedVariables false

theorem ei_5 : ElemInfo Tryd.prog 5 1 := elemInfo (by kernel_rfl)

set_option maxRecDepth 100000 in
set_option maxHeartbeats 4000000 in
theorem r_laws_szCase (C : Cx) (a1 : Case) (hp2 : a1.Tile.length ≤ maxLen) (hp3 : R64 a1.Ways) (hp4 : R64 a1.Value) (left5 : Int) (hp6 : R64 left5) (r : Int) (h : m_laws_szCase a1 left5 = some r) :
    Calls Tryd.prog 7 #[.agg #[vS (a1.Tile), vI (a1.Ways), vI (a1.Value)], vI (left5)] C.w0 fun e w => e = .returned (vI (r)) ∧ Mem C w [] [] ∧ R64 r := by
  have hM := Mem.begin C [] trivial
  refine enter Tryd.func7 rfl Tryd.ntmps7 rfl fun a hf => ?_
  unfold m_laws_szCase at h
  refine wp_seq ?_
  refine region_pl ?_
  refine pl_l hf rfl rfl rfl (w_box hf hM (cs := [vS (a1.Tile), vI (a1.Ways), vI (a1.Value)]) rfl rfl fun b7 w8 hx9 hM a hf => ?_)
  refine q_ hf rfl rfl rfl (e_assign hf rfl) fun a hf => ?_
  refine pl_nil ?_
  refine then_n ?_
  refine wp_seq ?_
  refine region_pl ?_
  refine q_ hf rfl rfl rfl (e_move hf rfl) fun a hf => ?_
  refine q_ hf rfl rfl rfl (e_field hf rfl Tryd.underlying23 rfl Tryd.sizeOf9 (o' := 0) rfl) fun a hf => ?_
  refine q_ hf rfl rfl rfl (e_load1 hf rfl Tryd.isAgg9 (hM.boxCell (k := 0) rfl rfl)) fun a hf => ?_
  refine q_ hf rfl rfl rfl (e_lenS hf (x := a1.Tile) rfl Tryd.underlying9) fun a hf => ?_
  obtain ⟨z11, hz12, h⟩ := bind_some h
  refine q_ hf rfl rfl rfl (e_sub hf rfl rfl hz12) fun a hf => ?_
  refine q_ hf rfl rfl rfl (e_assign hf rfl) fun a hf => ?_
  refine pl_nil ?_
  refine then_n ?_
  refine wp_seq ?_
  refine wp_seq ?_
  refine region_pl ?_
  refine q_ hf rfl rfl rfl (e_move hf rfl) fun a hf => ?_
  refine q_ hf rfl rfl rfl (e_lt hf (x := z11) (y := 0) rfl rfl) fun a hf => ?_
  refine pl_nil ?_
  refine then_n ?_
  rcases cond_some h with ⟨hc13, h⟩ | ⟨hc13, h⟩
  · refine cond_t hf rfl hc13 ?_
    refine wp_seq ?_
    refine region_pl ?_
    refine q_ hf rfl rfl rfl (e_assign hf rfl) fun a hf => ?_
    refine pl_nil ?_
    refine then_n ?_
    refine wp_ret ?_
    refine then_r ?_
    obtain rfl := some_inj h
    have hM := hM.outs (own' := []) 0 rfl
    exact leave1 hf rfl rfl ⟨rfl, hM.fin, (R64_lit rfl)⟩
  · refine cond_f hf rfl hc13 ?_
    refine wp_skip ?_
    refine then_n ?_
    refine wp_seq ?_
    refine region_pl ?_
    refine q_ hf rfl rfl rfl (e_move hf rfl) fun a hf => ?_
    refine q_ hf rfl rfl rfl (e_assign hf rfl) fun a hf => ?_
    refine pl_nil ?_
    refine then_n ?_
    refine wp_ret ?_
    obtain rfl := some_inj h
    have hM := hM.outs (own' := []) 0 rfl
    exact leave1 hf rfl rfl ⟨rfl, hM.fin, (chk_R hz12)⟩

set_option maxRecDepth 100000 in
set_option maxHeartbeats 4000000 in
theorem r_laws_toCase (C : Cx) (a1 : Case) (hp2 : a1.Tile.length ≤ maxLen) (hp3 : R64 a1.Ways) (hp4 : R64 a1.Value) (r : Case) (h : m_laws_toCase a1 = some r) :
    Calls Tryd.prog 9 #[.agg #[vS (a1.Tile), vI (a1.Ways), vI (a1.Value)]] C.w0 fun e w => e = .returned (.agg #[vS (r.Tile), vI (r.Ways), vI (r.Value)]) ∧ Mem C w [] [] ∧ r.Tile.length ≤ maxLen ∧ R64 r.Ways ∧ R64 r.Value := by
  have hM := Mem.begin C [] trivial
  refine enter Tryd.func9 rfl Tryd.ntmps9 rfl fun a hf => ?_
  unfold m_laws_toCase at h
  refine wp_seq ?_
  refine region_pl ?_
  refine pl_l hf rfl rfl rfl (w_box hf hM (cs := [vS (a1.Tile), vI (a1.Ways), vI (a1.Value)]) rfl rfl fun b5 w6 hx7 hM a hf => ?_)
  refine pl_l hf rfl rfl rfl (w_alloc hM (cs := [vS (([] : Str)), vI (0), vI (0)]) Tryd.zeroValue26 rfl fun b9 w10 hx11 hM a hf => ?_)
  refine pl_nil ?_
  refine then_n ?_
  refine wp_seq ?_
  refine region_pl ?_
  refine pl_l hf rfl rfl rfl (w_alloc hM (cs := [vS (([] : Str)), vI (0), vI (0)]) Tryd.zeroValue26 rfl fun b13 w14 hx15 hM a hf => ?_)
  refine pl_nil ?_
  refine then_n ?_
  refine wp_seq ?_
  refine region_pl ?_
  refine q_ hf rfl rfl rfl (e_field hf rfl Tryd.underlying23 rfl Tryd.sizeOf9 (o' := 0) rfl) fun a hf => ?_
  refine q_ hf rfl rfl rfl (e_load1 hf rfl Tryd.isAgg9 (hM.boxCell (k := 2) rfl rfl)) fun a hf => ?_
  refine q_ hf rfl rfl rfl (e_field hf rfl Tryd.underlying26 rfl Tryd.sizeOf9 (o' := 0) rfl) fun a hf => ?_
  refine pl_0 hf rfl rfl (w_store hf hM (us := [vS (a1.Tile)]) (cs' := [vS (a1.Tile), vI (0), vI (0)]) rfl rfl (k := 0) rfl rfl Tryd.sizeOf9 rfl rfl rfl fun w17 hM => ?_)
  dsimp only [List.set] at hM
  refine pl_nil ?_
  refine then_n ?_
  refine wp_seq ?_
  refine region_pl ?_
  refine q_ hf rfl rfl rfl (e_field hf rfl Tryd.underlying23 rfl Tryd.sizeOf2 (o' := 1) rfl) fun a hf => ?_
  refine q_ hf rfl rfl rfl (e_load1 hf rfl Tryd.isAgg2 (hM.boxCell (k := 2) rfl rfl)) fun a hf => ?_
  refine q_ hf rfl rfl rfl (e_field hf rfl Tryd.underlying26 rfl Tryd.sizeOf2 (o' := 1) rfl) fun a hf => ?_
  refine pl_0 hf rfl rfl (w_store hf hM (us := [vI (a1.Ways)]) (cs' := [vS (a1.Tile), vI (a1.Ways), vI (0)]) rfl rfl (k := 0) rfl rfl Tryd.sizeOf2 rfl rfl rfl fun w20 hM => ?_)
  dsimp only [List.set] at hM
  refine pl_nil ?_
  refine then_n ?_
  refine wp_seq ?_
  refine region_pl ?_
  refine q_ hf rfl rfl rfl (e_field hf rfl Tryd.underlying23 rfl Tryd.sizeOf2 (o' := 2) rfl) fun a hf => ?_
  refine q_ hf rfl rfl rfl (e_load1 hf rfl Tryd.isAgg2 (hM.boxCell (k := 2) rfl rfl)) fun a hf => ?_
  refine q_ hf rfl rfl rfl (e_field hf rfl Tryd.underlying26 rfl Tryd.sizeOf2 (o' := 2) rfl) fun a hf => ?_
  refine pl_0 hf rfl rfl (w_store hf hM (us := [vI (a1.Value)]) (cs' := [vS (a1.Tile), vI (a1.Ways), vI (a1.Value)]) rfl rfl (k := 0) rfl rfl Tryd.sizeOf2 rfl rfl rfl fun w23 hM => ?_)
  dsimp only [List.set] at hM
  refine pl_nil ?_
  refine then_n ?_
  refine wp_seq ?_
  refine region_pl ?_
  refine q_ hf rfl rfl rfl (e_loadA hf (us := [vS (a1.Tile), vI (a1.Ways), vI (a1.Value)]) rfl ⟨Tryd.isAgg26, Tryd.sizeOf26⟩ rfl (hM.boxSub (k := 0) (us := [vS (a1.Tile), vI (a1.Ways), vI (a1.Value)]) (o := 0) rfl rfl)) fun a hf => ?_
  refine pl_0 hf rfl rfl (w_store hf hM (us := [vS (a1.Tile), vI (a1.Ways), vI (a1.Value)]) (cs' := [vS (a1.Tile), vI (a1.Ways), vI (a1.Value)]) rfl rfl (k := 1) rfl rfl Tryd.sizeOf26 rfl rfl rfl fun w26 hM => ?_)
  dsimp only [List.set] at hM
  refine pl_nil ?_
  refine then_n ?_
  refine wp_ret ?_
  obtain rfl := some_inj h
  have hres29 := leaveV1 (P := Tryd.prog) Tryd.results9 (res_agg hf rfl ⟨Tryd.isAgg26, Tryd.sizeOf26⟩ (us := [vS (a1.Tile), vI (a1.Ways), vI (a1.Value)]) rfl (hM.boxSub (k := 1) (o := 0) rfl rfl))
  have hM := hM.outs (own' := []) 0 rfl
  exact bodyPost_ret hres29 hf.defers ⟨rfl, hM.fin, hp2, hp3, hp4⟩

set_option maxRecDepth 100000 in
set_option maxHeartbeats 4000000 in
theorem r_spec_l01Dec (C : Cx) (n1 : Int) (hp2 : R64 n1) (r : Str) (h : m_spec_l01Dec n1 = some r) :
    Calls Tryd.prog 22 #[vI (n1)] C.w0 fun e w => e = .returned (vS (r)) ∧ Mem C w [] [] ∧ r.length ≤ maxLen := by
  have hM := Mem.begin C [] trivial
  refine enter Tryd.func22 rfl Tryd.ntmps22 rfl fun a hf => ?_
  unfold m_spec_l01Dec at h
  refine wp_seq ?_
  refine region_pl ?_
  refine q_ hf rfl rfl rfl (e_assign hf rfl) fun a hf => ?_
  refine pl_nil ?_
  refine then_n ?_
  refine wp_seq ?_
  refine region_pl ?_
  refine pl_l hf rfl rfl rfl (w_slice0 (K := byteRep) hM Tryd.underlying67 ei_5 fun b3 w4 hx5 hM a hf => ?_)
  refine q_ hf rfl rfl rfl (e_assign hf rfl) fun a hf => ?_
  refine pl_nil ?_
  refine then_n ?_
  obtain ⟨x9, h10, h⟩ := bind_some h
  refine seq_join (fun a w => ∃ (xs6 : Str) (A7 : Option Addr) (c8 : Nat), xs6 = x9 ∧ Has 34 a [(0, vI (n1)), (3, vL A7 (xs6) c8)] ∧ Mem C w [.row byteRep A7 c8 5 xs6 true] []) ?_ ?_
  · refine wp_seq ?_
    refine region_pl ?_
    refine q_ hf rfl rfl rfl (e_move hf rfl) fun a hf => ?_
    refine q_ hf rfl rfl rfl (e_assign hf rfl) fun a hf => ?_
    refine pl_nil ?_
    refine then_n ?_
    refine wp_block ?_
    obtain ⟨x20, h21, h10⟩ := bind_some h10
    refine wp_loopM h21 (fun s a w => ∃ (xs11 : Str) (d14 : Int) (A12 : Option Addr) (c13 : Nat), (xs11, d14) = s ∧ Has 34 a [(0, vI (n1)), (3, vL A12 (xs11) c13), (4, vI (d14))] ∧ Mem C w [.row byteRep A12 c13 5 xs11 true] [] ∧ R64 d14) ?_ ?_
    · exact ⟨([] : Str), n1, (some ⟨b3, 0, none⟩), 0, rfl, hf.keep ⟨rfl, rfl, rfl, trivial⟩, hM.pick [] rfl, hp2⟩
    · rintro s o22 a w16 ⟨xs11, d14, A12, c13, rfl, hf, hM, hv15⟩ h23 hd24
      replace h23 : m_spec_l01Dec_l1 xs11 d14 = some o22 := h23
      unfold m_spec_l01Dec_l1 at h23
      refine wp_seq ?_
      refine wp_seq ?_
      refine region_pl ?_
      refine q_ hf rfl rfl rfl (e_move hf rfl) fun a hf => ?_
      refine q_ hf rfl rfl rfl (e_ne hf (x := d14) (y := 0) rfl rfl) fun a hf => ?_
      refine pl_nil ?_
      refine then_n ?_
      rcases cond_some h23 with ⟨hc25, h23⟩ | ⟨hc25, h23⟩
      · refine cond_t hf rfl hc25 ?_
        refine wp_skip ?_
        refine then_n ?_
        refine wp_seq ?_
        refine wp_block ?_
        refine wp_seq ?_
        refine region_pl ?_
        refine q_ hf rfl rfl rfl (e_move hf rfl) fun a hf => ?_
        obtain ⟨z26, hz27, h23⟩ := bind_some h23
        refine q_ hf rfl rfl rfl (e_rem hf rfl rfl hz27) fun a hf => ?_
        refine q_ hf rfl rfl rfl (e_assign hf rfl) fun a hf => ?_
        refine pl_nil ?_
        refine then_n ?_
        obtain ⟨x30, h31, h23⟩ := bind_some h23
        refine seq_join (fun a w => ∃ (n28 : Int), n28 = x30 ∧ Has 34 a [(0, vI (n1)), (3, vL A12 (xs11) c13), (4, vI (d14)), (5, vI (n28))] ∧ Mem C w [.row byteRep A12 c13 5 xs11 true] [] ∧ R64 n28) ?_ ?_
        · refine wp_seq ?_
          refine region_pl ?_
          refine q_ hf rfl rfl rfl (e_move hf rfl) fun a hf => ?_
          refine q_ hf rfl rfl rfl (e_lt hf (x := z26) (y := 0) rfl rfl) fun a hf => ?_
          refine pl_nil ?_
          refine then_n ?_
          rcases cond_some h31 with ⟨hc32, h31⟩ | ⟨hc32, h31⟩
          · refine cond_t hf rfl hc32 ?_
            refine region_pl ?_
            refine q_ hf rfl rfl rfl (e_move hf rfl) fun a hf => ?_
            obtain ⟨z33, hz34, h31⟩ := bind_some h31
            refine q_ hf rfl rfl rfl (e_neg hf rfl hz34) fun a hf => ?_
            refine q_ hf rfl rfl rfl (e_assign hf rfl) fun a hf => ?_
            refine pl_nil ?_
            obtain rfl := some_inj h31
            refine then_n ?_
            exact ⟨z33, rfl, hf.keep ⟨rfl, rfl, rfl, rfl, trivial⟩, hM.pick [] rfl, (chk_R hz34)⟩
          · refine cond_f hf rfl hc32 ?_
            refine wp_skip ?_
            obtain rfl := some_inj h31
            refine then_n ?_
            exact ⟨z26, rfl, hf.keep ⟨rfl, rfl, rfl, rfl, trivial⟩, hM.pick [] rfl, (remI_R hz27 hv15)⟩
        · rintro a w37 ⟨n28, rfl, hf, hM, hv29⟩
          try dsimp only at h23
          refine region_pl ?_
          refine q_ hf rfl rfl rfl (e_move hf rfl) fun a hf => ?_
          obtain ⟨z38, hz39, h23⟩ := bind_some h23
          refine q_ hf rfl rfl rfl (e_add hf rfl rfl hz39) fun a hf => ?_
          refine q_ hf rfl rfl rfl (e_convIB hf rfl Tryd.underlying2 Tryd.underlying5) fun a hf => ?_
          refine pl_l hf rfl rfl rfl (w_slice hf hM (K := byteRep) (xs := ([UInt8.ofNat (z38 % 256).toNat] : Str)) (os := [.tmp 20]) Tryd.underlying67 ei_5 rfl rfl rfl rfl rfl ⟨⟨[vB (UInt8.ofNat (z38 % 256).toNat)], rfl, rfl⟩, trivial⟩ rfl fun b40 w41 hx42 hM a hf => ?_)
          refine q_ hf rfl rfl rfl (e_move hf rfl) fun a hf => ?_
          have hM := hM.freezeRow (k := 1) rfl rfl
          dsimp only [List.eraseIdx] at hM
          obtain ⟨xs43, hz44, h23⟩ := bind_some h23
          refine pl_l hf rfl rfl rfl (w_appendD hf hM Tryd.underlying67 ei_5 rfl rfl rfl (k := 0) rfl (hM.dat (k := 0) rfl) hz44 fun A45 c46 w47 hM a hf => ?_)
          dsimp only [List.set] at hM
          refine q_ hf rfl rfl rfl (e_assign hf rfl) fun a hf => ?_
          refine pl_nil ?_
          refine blk_n ?_
          refine then_n ?_
          refine region_pl ?_
          refine q_ hf rfl rfl rfl (e_move hf rfl) fun a hf => ?_
          obtain ⟨z50, hz51, h23⟩ := bind_some h23
          refine q_ hf rfl rfl rfl (e_quo hf rfl rfl hz51) fun a hf => ?_
          refine q_ hf rfl rfl rfl (e_assign hf rfl) fun a hf => ?_
          refine pl_nil ?_
          obtain rfl := some_inj h23
          refine then_n ⟨_, rfl, ?_⟩
          exact ⟨xs43, z50, A45, c46, rfl, hf.keep ⟨rfl, rfl, rfl, trivial⟩, hM.pick [] rfl, (quoI_R hz51)⟩
      · refine cond_f hf rfl hc25 ?_
        refine wp_exit ?_
        refine then_x ?_
        obtain rfl := some_inj h23
        obtain rfl := hd24 _ rfl
        try dsimp only at h10
        refine then_x ?_
        refine exit_hit ?_
        obtain rfl := some_inj h10
        refine then_n ?_
        exact ⟨xs11, A12, c13, rfl, hf.keep ⟨rfl, rfl, trivial⟩, hM.pick [] rfl⟩
  · rintro a w57 ⟨xs6, A7, c8, rfl, hf, hM⟩
    try dsimp only at h
    refine wp_seq ?_
    refine wp_seq ?_
    refine region_pl ?_
    refine q_ hf rfl rfl rfl (e_move hf rfl) fun a hf => ?_
    have hl58 := row_len (hM.ownAt (k := 0) rfl)
    refine q_ hf rfl rfl rfl (e_lenL hf (x := xs6) rfl Tryd.underlying67) fun a hf => ?_
    refine q_ hf rfl rfl rfl (e_eq hf (x := (xs6.length : Int)) (y := 0) rfl rfl) fun a hf => ?_
    refine pl_nil ?_
    refine then_n ?_
    rcases cond_some h with ⟨hc59, h⟩ | ⟨hc59, h⟩
    · refine cond_t hf rfl hc59 ?_
      refine wp_seq ?_
      refine region_pl ?_
      refine q_ hf rfl rfl rfl (e_assign hf rfl) fun a hf => ?_
      refine pl_nil ?_
      refine then_n ?_
      refine wp_ret ?_
      refine then_r ?_
      obtain rfl := some_inj h
      have hM := hM.outs (own' := []) 0 rfl
      exact leave1 hf rfl rfl ⟨rfl, hM.fin, (lit_len rfl)⟩
    · refine cond_f hf rfl hc59 ?_
      refine wp_skip ?_
      refine then_n ?_
      refine wp_seq ?_
      refine wp_seq ?_
      refine region_pl ?_
      refine q_ hf rfl rfl rfl (e_move hf rfl) fun a hf => ?_
      refine q_ hf rfl rfl rfl (e_lt hf (x := n1) (y := 0) rfl rfl) fun a hf => ?_
      refine pl_nil ?_
      refine then_n ?_
      rcases cond_some h with ⟨hc60, h⟩ | ⟨hc60, h⟩
      · refine cond_t hf rfl hc60 ?_
        refine wp_seq ?_
        refine region_pl ?_
        refine q_ hf rfl rfl rfl (e_move hf rfl) fun a hf => ?_
        have hl61 := row_len (hM.ownAt (k := 0) rfl)
        refine q_ hf rfl rfl rfl (e_bytesStr hf (xs := xs6) rfl Tryd.underlying67 Tryd.underlying5 Tryd.underlying9 (hM.lendRow (k := 0) rfl)) fun a hf => ?_
        obtain ⟨s62, hz63, h⟩ := bind_some h
        refine q_ hf rfl rfl rfl (e_cat hf (x := ([45] : Str)) (y := xs6) rfl rfl hz63) fun a hf => ?_
        refine q_ hf rfl rfl rfl (e_assign hf rfl) fun a hf => ?_
        refine pl_nil ?_
        refine then_n ?_
        refine wp_ret ?_
        refine then_r ?_
        obtain rfl := some_inj h
        have hM := hM.outs (own' := []) 0 rfl
        exact leave1 hf rfl rfl ⟨rfl, hM.fin, (cat_len hz63)⟩
      · refine cond_f hf rfl hc60 ?_
        refine wp_skip ?_
        refine then_n ?_
        refine wp_seq ?_
        refine region_pl ?_
        refine q_ hf rfl rfl rfl (e_move hf rfl) fun a hf => ?_
        have hl64 := row_len (hM.ownAt (k := 0) rfl)
        refine q_ hf rfl rfl rfl (e_bytesStr hf (xs := xs6) rfl Tryd.underlying67 Tryd.underlying5 Tryd.underlying9 (hM.lendRow (k := 0) rfl)) fun a hf => ?_
        refine q_ hf rfl rfl rfl (e_assign hf rfl) fun a hf => ?_
        refine pl_nil ?_
        refine then_n ?_
        refine wp_ret ?_
        obtain rfl := some_inj h
        have hM := hM.outs (own' := []) 0 rfl
        exact leave1 hf rfl rfl ⟨rfl, hM.fin, hl64⟩

set_option maxRecDepth 100000 in
set_option maxHeartbeats 4000000 in
theorem r_spec_CaseText (C : Cx) (c1 : Case) (hp2 : c1.Tile.length ≤ maxLen) (hp3 : R64 c1.Ways) (hp4 : R64 c1.Value) (r : Str) (h : m_spec_CaseText c1 = some r) :
    Calls Tryd.prog 8 #[.agg #[vS (c1.Tile), vI (c1.Ways), vI (c1.Value)]] C.w0 fun e w => e = .returned (vS (r)) ∧ Mem C w [] [] ∧ r.length ≤ maxLen := by
  have hM := Mem.begin C [] trivial
  refine enter Tryd.func8 rfl Tryd.ntmps8 rfl fun a hf => ?_
  unfold m_spec_CaseText at h
  refine wp_seq ?_
  refine region_pl ?_
  refine pl_l hf rfl rfl rfl (w_box hf hM (cs := [vS (c1.Tile), vI (c1.Ways), vI (c1.Value)]) rfl rfl fun b5 w6 hx7 hM a hf => ?_)
  refine q_ hf rfl rfl rfl (e_assign hf rfl) fun a hf => ?_
  refine pl_nil ?_
  refine then_n ?_
  refine wp_seq ?_
  obtain ⟨w9, hw⟩ : ∃ x, x = w6.drew := ⟨_, rfl⟩
  refine region_pi (.q 0 (.q 1 (.q 2 (.q 3 (.q 4 (.q 8 (.q 9 (.l 5 (.q 6 (.q 7 (.l 10 (.q 11 (.q 12 (.nil)))))))))))))) (Ext w9) rfl (by kernel_rfl) ?_
  have hM := hM.drew
  rw [← hw] at hM ⊢
  clear hw
  refine pi_q hf rfl rfl rfl rfl (Ext.refl _) (e_field hf rfl Tryd.underlying26 rfl Tryd.sizeOf9 (o' := 0) rfl) fun a hf => ?_
  refine pi_q hf rfl rfl rfl rfl (Ext.refl _) (e_load1 hf rfl Tryd.isAgg9 (hM.boxCell (k := 0) rfl rfl)) fun a hf => ?_
  obtain ⟨s10, hz11, h⟩ := bind_some h
  refine pi_q hf rfl rfl rfl rfl (Ext.refl _) (e_cat hf (x := c1.Tile) (y := ([120] : Str)) rfl rfl hz11) fun a hf => ?_
  refine pi_q hf rfl rfl rfl rfl (Ext.refl _) (e_field hf rfl Tryd.underlying26 rfl Tryd.sizeOf2 (o' := 1) rfl) fun a hf => ?_
  refine pi_q hf rfl rfl rfl rfl (Ext.refl _) (e_load1 hf rfl Tryd.isAgg2 (hM.boxCell (k := 0) rfl rfl)) fun a hf => ?_
  refine pi_q hf rfl rfl rfl rfl (Ext.refl _) (e_field hf rfl Tryd.underlying26 rfl Tryd.sizeOf2 (o' := 2) rfl) fun a hf => ?_
  refine pi_q hf rfl rfl rfl rfl (Ext.refl _) (e_load1 hf rfl Tryd.isAgg2 (hM.boxCell (k := 0) rfl rfl)) fun a hf => ?_
  refine pi_one ?_
  obtain ⟨y12, hz13, h⟩ := bind_some h
  refine pi_l hf rfl rfl rfl rfl (w_call hf Tryd.call22 rfl (r_spec_l01Dec ⟨_, Sh C _ _, none_, hM.sh_lt, none_not, C.G, hM.g_lt, g_none, hM.tabs⟩ c1.Ways hp3 _ hz13) ?_)
  rintro _ w15 ⟨rfl, hM2, hv14⟩
  obtain ⟨hM, hx16, hup17⟩ := hM.back hM2
  dsimp only [List.cons_append, List.nil_append] at hM hup17
  clear hM2
  refine ⟨_, rfl, Ext w15, fun _ h => Ext.trans hx16 h, Ext.refl _, fun a hf => ?_⟩
  obtain ⟨s18, hz19, h⟩ := bind_some h
  refine pi_q hf rfl rfl rfl rfl (Ext.refl _) (e_cat hf (x := s10) (y := y12) rfl rfl hz19) fun a hf => ?_
  obtain ⟨s20, hz21, h⟩ := bind_some h
  refine pi_q hf rfl rfl rfl rfl (Ext.refl _) (e_cat hf (x := s18) (y := ([32] : Str)) rfl rfl hz21) fun a hf => ?_
  refine pi_one ?_
  obtain ⟨y22, hz23, h⟩ := bind_some h
  refine pi_l hf rfl rfl rfl rfl (w_call hf Tryd.call22 rfl (r_spec_l01Dec ⟨_, Sh C _ _, none_, hM.sh_lt, none_not, C.G, hM.g_lt, g_none, hM.tabs⟩ c1.Value hp4 _ hz23) ?_)
  rintro _ w25 ⟨rfl, hM2, hv24⟩
  obtain ⟨hM, hx26, hup27⟩ := hM.back hM2
  dsimp only [List.cons_append, List.nil_append] at hM hup27
  clear hM2
  refine ⟨_, rfl, Ext w25, fun _ h => Ext.trans hx26 h, Ext.refl _, fun a hf => ?_⟩
  obtain ⟨s28, hz29, h⟩ := bind_some h
  refine pi_q hf rfl rfl rfl rfl (Ext.refl _) (e_cat hf (x := s20) (y := y22) rfl rfl hz29) fun a hf => ?_
  refine pi_q hf rfl rfl rfl rfl (Ext.refl _) (e_assign hf rfl) fun a hf => ?_
  refine pi_nil ?_
  refine then_n ?_
  refine wp_ret ?_
  obtain rfl := some_inj h
  have hM := hM.outs (own' := []) 0 rfl
  exact leave1 hf rfl rfl ⟨rfl, hM.fin, (cat_len hz29)⟩

set_option maxRecDepth 100000 in
set_option maxHeartbeats 4000000 in
theorem r_impl_Decimal (C : Cx) (n1 : Int) (hp2 : R64 n1) (r : Str) (h : m_impl_Decimal n1 = some r) :
    Calls Tryd.prog 23 #[vI (n1)] C.w0 fun e w => e = .returned (vS (r)) ∧ Mem C w [] [] ∧ r.length ≤ maxLen := by
  have hM := Mem.begin C [] trivial
  refine enter Tryd.func23 rfl Tryd.ntmps23 rfl fun a hf => ?_
  unfold m_impl_Decimal at h
  refine wp_seq ?_
  refine region_pl ?_
  refine q_ hf rfl rfl rfl (e_assign hf rfl) fun a hf => ?_
  refine pl_nil ?_
  refine then_n ?_
  refine wp_seq ?_
  refine region_pl ?_
  refine q_ hf rfl rfl rfl (e_move hf rfl) fun a hf => ?_
  obtain ⟨y3, hz4, h⟩ := bind_some h
  refine pl_l hf rfl rfl rfl (w_call hf Tryd.call33 rfl (r_strconv_FormatInt ⟨_, Sh C _ _, none_, hM.sh_lt, none_not, C.G, hM.g_lt, g_none, hM.tabs⟩ n1 hp2 10 (R64_lit rfl) _ hz4) ?_)
  rintro _ w6 ⟨rfl, hM2, hv5⟩
  obtain ⟨hM, hx7, hup8⟩ := hM.back hM2
  dsimp only [List.cons_append, List.nil_append] at hM hup8
  clear hM2
  refine ⟨_, rfl, fun a hf => ?_⟩
  refine q_ hf rfl rfl rfl (e_assign hf rfl) fun a hf => ?_
  refine pl_nil ?_
  refine then_n ?_
  refine wp_ret ?_
  obtain rfl := some_inj h
  exact leave1 hf rfl rfl ⟨rfl, hM.fin, hv5⟩

set_option maxRecDepth 100000 in
set_option maxHeartbeats 4000000 in
theorem r_impl_CaseText (C : Cx) (c1 : Case) (hp2 : c1.Tile.length ≤ maxLen) (hp3 : R64 c1.Ways) (hp4 : R64 c1.Value) (r : Str) (h : m_impl_CaseText c1 = some r) :
    Calls Tryd.prog 10 #[.agg #[vS (c1.Tile), vI (c1.Ways), vI (c1.Value)]] C.w0 fun e w => e = .returned (vS (r)) ∧ Mem C w [] [] ∧ r.length ≤ maxLen := by
  have hM := Mem.begin C [] trivial
  refine enter Tryd.func10 rfl Tryd.ntmps10 rfl fun a hf => ?_
  unfold m_impl_CaseText at h
  refine wp_seq ?_
  refine region_pl ?_
  refine pl_l hf rfl rfl rfl (w_box hf hM (cs := [vS (c1.Tile), vI (c1.Ways), vI (c1.Value)]) rfl rfl fun b5 w6 hx7 hM a hf => ?_)
  refine q_ hf rfl rfl rfl (e_assign hf rfl) fun a hf => ?_
  refine pl_nil ?_
  refine then_n ?_
  refine wp_seq ?_
  obtain ⟨w9, hw⟩ : ∃ x, x = w6.drew := ⟨_, rfl⟩
  refine region_pi (.q 0 (.q 1 (.q 2 (.q 3 (.q 4 (.q 8 (.q 9 (.l 5 (.q 6 (.q 7 (.l 10 (.q 11 (.q 12 (.nil)))))))))))))) (Ext w9) rfl (by kernel_rfl) ?_
  have hM := hM.drew
  rw [← hw] at hM ⊢
  clear hw
  refine pi_q hf rfl rfl rfl rfl (Ext.refl _) (e_field hf rfl Tryd.underlying26 rfl Tryd.sizeOf9 (o' := 0) rfl) fun a hf => ?_
  refine pi_q hf rfl rfl rfl rfl (Ext.refl _) (e_load1 hf rfl Tryd.isAgg9 (hM.boxCell (k := 0) rfl rfl)) fun a hf => ?_
  obtain ⟨s10, hz11, h⟩ := bind_some h
  refine pi_q hf rfl rfl rfl rfl (Ext.refl _) (e_cat hf (x := c1.Tile) (y := ([120] : Str)) rfl rfl hz11) fun a hf => ?_
  refine pi_q hf rfl rfl rfl rfl (Ext.refl _) (e_field hf rfl Tryd.underlying26 rfl Tryd.sizeOf2 (o' := 1) rfl) fun a hf => ?_
  refine pi_q hf rfl rfl rfl rfl (Ext.refl _) (e_load1 hf rfl Tryd.isAgg2 (hM.boxCell (k := 0) rfl rfl)) fun a hf => ?_
  refine pi_q hf rfl rfl rfl rfl (Ext.refl _) (e_field hf rfl Tryd.underlying26 rfl Tryd.sizeOf2 (o' := 2) rfl) fun a hf => ?_
  refine pi_q hf rfl rfl rfl rfl (Ext.refl _) (e_load1 hf rfl Tryd.isAgg2 (hM.boxCell (k := 0) rfl rfl)) fun a hf => ?_
  refine pi_one ?_
  obtain ⟨y12, hz13, h⟩ := bind_some h
  refine pi_l hf rfl rfl rfl rfl (w_call hf Tryd.call23 rfl (r_impl_Decimal ⟨_, Sh C _ _, none_, hM.sh_lt, none_not, C.G, hM.g_lt, g_none, hM.tabs⟩ c1.Ways hp3 _ hz13) ?_)
  rintro _ w15 ⟨rfl, hM2, hv14⟩
  obtain ⟨hM, hx16, hup17⟩ := hM.back hM2
  dsimp only [List.cons_append, List.nil_append] at hM hup17
  clear hM2
  refine ⟨_, rfl, Ext w15, fun _ h => Ext.trans hx16 h, Ext.refl _, fun a hf => ?_⟩
  obtain ⟨s18, hz19, h⟩ := bind_some h
  refine pi_q hf rfl rfl rfl rfl (Ext.refl _) (e_cat hf (x := s10) (y := y12) rfl rfl hz19) fun a hf => ?_
  obtain ⟨s20, hz21, h⟩ := bind_some h
  refine pi_q hf rfl rfl rfl rfl (Ext.refl _) (e_cat hf (x := s18) (y := ([32] : Str)) rfl rfl hz21) fun a hf => ?_
  refine pi_one ?_
  obtain ⟨y22, hz23, h⟩ := bind_some h
  refine pi_l hf rfl rfl rfl rfl (w_call hf Tryd.call23 rfl (r_impl_Decimal ⟨_, Sh C _ _, none_, hM.sh_lt, none_not, C.G, hM.g_lt, g_none, hM.tabs⟩ c1.Value hp4 _ hz23) ?_)
  rintro _ w25 ⟨rfl, hM2, hv24⟩
  obtain ⟨hM, hx26, hup27⟩ := hM.back hM2
  dsimp only [List.cons_append, List.nil_append] at hM hup27
  clear hM2
  refine ⟨_, rfl, Ext w25, fun _ h => Ext.trans hx26 h, Ext.refl _, fun a hf => ?_⟩
  obtain ⟨s28, hz29, h⟩ := bind_some h
  refine pi_q hf rfl rfl rfl rfl (Ext.refl _) (e_cat hf (x := s20) (y := y22) rfl rfl hz29) fun a hf => ?_
  refine pi_q hf rfl rfl rfl rfl (Ext.refl _) (e_assign hf rfl) fun a hf => ?_
  refine pi_nil ?_
  refine then_n ?_
  refine wp_ret ?_
  obtain rfl := some_inj h
  have hM := hM.outs (own' := []) 0 rfl
  exact leave1 hf rfl rfl ⟨rfl, hM.fin, (cat_len hz29)⟩

set_option maxRecDepth 100000 in
set_option maxHeartbeats 4000000 in
theorem r_laws_FnExactCaseText (C : Cx) (aC1 : Case) (hp2 : aC1.Tile.length ≤ maxLen) (hp3 : R64 aC1.Ways) (hp4 : R64 aC1.Value) (r : Bool) (h : m_laws_FnExactCaseText aC1 = some r) :
    Calls Tryd.prog 3 #[.agg #[vS (aC1.Tile), vI (aC1.Ways), vI (aC1.Value)]] C.w0 fun e w => e = .returned (.bool (r)) ∧ Mem C w [] [] := by
  have hM := Mem.begin C [] trivial
  refine enter Tryd.func3 rfl Tryd.ntmps3 rfl fun a hf => ?_
  unfold m_laws_FnExactCaseText at h
  refine wp_seq ?_
  refine region_pl ?_
  refine pl_l hf rfl rfl rfl (w_box hf hM (cs := [vS (aC1.Tile), vI (aC1.Ways), vI (aC1.Value)]) rfl rfl fun b5 w6 hx7 hM a hf => ?_)
  refine q_ hf rfl rfl rfl (e_assign hf rfl) fun a hf => ?_
  refine pl_nil ?_
  refine then_n ?_
  refine wp_seq ?_
  refine region_pl ?_
  refine q_ hf rfl rfl rfl (e_assign hf rfl) fun a hf => ?_
  refine pl_nil ?_
  refine then_n ?_
  refine wp_seq ?_
  refine region_pl ?_
  refine q_ hf rfl rfl rfl (e_loadA hf (us := [vS (aC1.Tile), vI (aC1.Ways), vI (aC1.Value)]) rfl ⟨Tryd.isAgg23, Tryd.sizeOf23⟩ rfl (hM.boxSub (k := 0) (us := [vS (aC1.Tile), vI (aC1.Ways), vI (aC1.Value)]) (o := 0) rfl rfl)) fun a hf => ?_
  refine q_ hf rfl rfl rfl (e_move hf rfl) fun a hf => ?_
  obtain ⟨y9, hz10, h⟩ := bind_some h
  refine pl_l hf rfl rfl rfl (w_call hf Tryd.call7 rfl (r_laws_szCase ⟨_, Sh C _ _, none_, hM.sh_lt, none_not, C.G, hM.g_lt, g_none, hM.tabs⟩ aC1 hp2 hp3 hp4 1048576 (R64_lit rfl) _ hz10) ?_)
  rintro _ w12 ⟨rfl, hM2, hv11⟩
  obtain ⟨hM, hx13, hup14⟩ := hM.back hM2
  dsimp only [List.cons_append, List.nil_append] at hM hup14
  clear hM2
  refine ⟨_, rfl, fun a hf => ?_⟩
  refine q_ hf rfl rfl rfl (e_assign hf rfl) fun a hf => ?_
  refine pl_nil ?_
  refine then_n ?_
  refine wp_seq ?_
  refine wp_seq ?_
  refine region_pl ?_
  refine q_ hf rfl rfl rfl (e_move hf rfl) fun a hf => ?_
  refine q_ hf rfl rfl rfl (e_lt hf (x := y9) (y := 0) rfl rfl) fun a hf => ?_
  refine pl_nil ?_
  refine then_n ?_
  rcases cond_some h with ⟨hc15, h⟩ | ⟨hc15, h⟩
  · refine cond_t hf rfl hc15 ?_
    refine wp_seq ?_
    refine region_pl ?_
    refine q_ hf rfl rfl rfl (e_assign hf rfl) fun a hf => ?_
    refine pl_nil ?_
    refine then_n ?_
    refine wp_ret ?_
    refine then_r ?_
    obtain rfl := some_inj h
    have hM := hM.outs (own' := []) 0 rfl
    exact leave1 hf rfl rfl ⟨rfl, hM.fin⟩
  · refine cond_f hf rfl hc15 ?_
    refine wp_skip ?_
    refine then_n ?_
    refine wp_seq ?_
    refine region_pl ?_
    refine q_ hf rfl rfl rfl (e_loadA hf (us := [vS (aC1.Tile), vI (aC1.Ways), vI (aC1.Value)]) rfl ⟨Tryd.isAgg23, Tryd.sizeOf23⟩ rfl (hM.boxSub (k := 0) (us := [vS (aC1.Tile), vI (aC1.Ways), vI (aC1.Value)]) (o := 0) rfl rfl)) fun a hf => ?_
    obtain ⟨y16, hz17, h⟩ := bind_some h
    refine pl_l hf rfl rfl rfl (w_call hf Tryd.call9 rfl (r_laws_toCase ⟨_, Sh C _ _, none_, hM.sh_lt, none_not, C.G, hM.g_lt, g_none, hM.tabs⟩ aC1 hp2 hp3 hp4 _ hz17) ?_)
    rintro _ w21 ⟨rfl, hM2, hv18, hv19, hv20⟩
    obtain ⟨hM, hx22, hup23⟩ := hM.back hM2
    dsimp only [List.cons_append, List.nil_append] at hM hup23
    clear hM2
    refine ⟨_, rfl, fun a hf => ?_⟩
    obtain ⟨y24, hz25, h⟩ := bind_some h
    refine pl_l hf rfl rfl rfl (w_call hf Tryd.call8 rfl (r_spec_CaseText ⟨_, Sh C _ _, none_, hM.sh_lt, none_not, C.G, hM.g_lt, g_none, hM.tabs⟩ y16 hv18 hv19 hv20 _ hz25) ?_)
    rintro _ w27 ⟨rfl, hM2, hv26⟩
    obtain ⟨hM, hx28, hup29⟩ := hM.back hM2
    dsimp only [List.cons_append, List.nil_append] at hM hup29
    clear hM2
    refine ⟨_, rfl, fun a hf => ?_⟩
    refine q_ hf rfl rfl rfl (e_assign hf rfl) fun a hf => ?_
    refine pl_nil ?_
    refine then_n ?_
    refine wp_seq ?_
    refine region_pl ?_
    refine q_ hf rfl rfl rfl (e_loadA hf (us := [vS (aC1.Tile), vI (aC1.Ways), vI (aC1.Value)]) rfl ⟨Tryd.isAgg23, Tryd.sizeOf23⟩ rfl (hM.boxSub (k := 0) (us := [vS (aC1.Tile), vI (aC1.Ways), vI (aC1.Value)]) (o := 0) rfl rfl)) fun a hf => ?_
    obtain ⟨y30, hz31, h⟩ := bind_some h
    refine pl_l hf rfl rfl rfl (w_call hf Tryd.call9 rfl (r_laws_toCase ⟨_, Sh C _ _, none_, hM.sh_lt, none_not, C.G, hM.g_lt, g_none, hM.tabs⟩ aC1 hp2 hp3 hp4 _ hz31) ?_)
    rintro _ w35 ⟨rfl, hM2, hv32, hv33, hv34⟩
    obtain ⟨hM, hx36, hup37⟩ := hM.back hM2
    dsimp only [List.cons_append, List.nil_append] at hM hup37
    clear hM2
    refine ⟨_, rfl, fun a hf => ?_⟩
    obtain ⟨y38, hz39, h⟩ := bind_some h
    refine pl_l hf rfl rfl rfl (w_call hf Tryd.call10 rfl (r_impl_CaseText ⟨_, Sh C _ _, none_, hM.sh_lt, none_not, C.G, hM.g_lt, g_none, hM.tabs⟩ y30 hv32 hv33 hv34 _ hz39) ?_)
    rintro _ w41 ⟨rfl, hM2, hv40⟩
    obtain ⟨hM, hx42, hup43⟩ := hM.back hM2
    dsimp only [List.cons_append, List.nil_append] at hM hup43
    clear hM2
    refine ⟨_, rfl, fun a hf => ?_⟩
    refine q_ hf rfl rfl rfl (e_assign hf rfl) fun a hf => ?_
    refine pl_nil ?_
    refine then_n ?_
    refine wp_seq ?_
    refine wp_seq ?_
    refine region_pl ?_
    refine q_ hf rfl rfl rfl (e_move hf rfl) fun a hf => ?_
    refine q_ hf rfl rfl rfl (e_move hf rfl) fun a hf => ?_
    refine q_ hf rfl rfl rfl (e_neS hf (x := y38) (y := y24) rfl rfl) fun a hf => ?_
    refine pl_nil ?_
    refine then_n ?_
    rcases cond_some h with ⟨hc44, h⟩ | ⟨hc44, h⟩
    · refine cond_t hf rfl hc44 ?_
      refine wp_seq ?_
      refine region_pl ?_
      refine q_ hf rfl rfl rfl (e_assign hf rfl) fun a hf => ?_
      refine pl_nil ?_
      refine then_n ?_
      refine wp_ret ?_
      refine then_r ?_
      obtain rfl := some_inj h
      have hM := hM.outs (own' := []) 0 rfl
      exact leave1 hf rfl rfl ⟨rfl, hM.fin⟩
    · refine cond_f hf rfl hc44 ?_
      refine wp_skip ?_
      refine then_n ?_
      refine wp_seq ?_
      refine region_pl ?_
      refine q_ hf rfl rfl rfl (e_assign hf rfl) fun a hf => ?_
      refine pl_nil ?_
      refine then_n ?_
      refine wp_ret ?_
      obtain rfl := some_inj h
      have hM := hM.outs (own' := []) 0 rfl
      exact leave1 hf rfl rfl ⟨rfl, hM.fin⟩

end Go.Proofs.YtgmbcolpchckbaaDoor
