/- The functions that this law reaches do what their models say. Printed by gen.py. -/
import Derived.Test.YtgmbcolpchckbaaMod
import Derived.Test.YtgmbcolpchckbaaLib
namespace Go.Proofs.Ytgmbcolpchckbaa
open Go Go.RowKit
set_option linter.unusedSimpArgs false
set_option linter.unusedVariables false

theorem ei_2 : ElemInfo Try.prog 2 1 := elemInfo (by kernel_rfl)

set_option maxRecDepth 100000 in
set_option maxHeartbeats 4000000 in
theorem r_laws_szInt64S (C : Cx) (a1 : (List Int)) (A2 : Option Addr) (c3 : Nat) (hp4 : (sliceRep intRep).R C.w0 C.S0 a1 [vL A2 a1 c3]) (left5 : Int) (hp6 : R64 left5) (r : Int) (h : m_laws_szInt64S a1 left5 = some r) :
    Calls Try.prog 27 #[vL A2 (a1) c3, vI (left5)] C.w0 fun e w => e = .returned (vI (r)) ∧ Mem C w [] [] ∧ R64 r := by
  have hM := Mem.begin C [.dat (sliceRep intRep) a1 [vL A2 a1 c3]] ⟨hp4, trivial⟩
  refine enter Try.func27 rfl Try.ntmps27 rfl fun a hf => ?_
  unfold m_laws_szInt64S at h
  refine wp_seq ?_
  refine region_pl ?_
  refine q_ hf rfl rfl rfl (e_assign hf rfl) fun a hf => ?_
  refine pl_nil ?_
  refine then_n ?_
  refine wp_seq ?_
  refine region_pl ?_
  refine q_ hf rfl rfl rfl (e_move hf rfl) fun a hf => ?_
  refine q_ hf rfl rfl rfl (e_move hf rfl) fun a hf => ?_
  have hl7 := slice_len (hM.dat (k := 0) rfl)
  refine q_ hf rfl rfl rfl (e_lenL hf (x := a1) rfl Try.underlying22) fun a hf => ?_
  obtain ⟨z8, hz9, h⟩ := bind_some h
  refine q_ hf rfl rfl rfl (e_sub hf rfl rfl hz9) fun a hf => ?_
  refine q_ hf rfl rfl rfl (e_assign hf rfl) fun a hf => ?_
  refine pl_nil ?_
  refine then_n ?_
  refine wp_seq ?_
  refine wp_seq ?_
  refine region_pl ?_
  refine q_ hf rfl rfl rfl (e_move hf rfl) fun a hf => ?_
  refine q_ hf rfl rfl rfl (e_lt hf (x := z8) (y := 0) rfl rfl) fun a hf => ?_
  refine pl_nil ?_
  refine then_n ?_
  rcases cond_some h with ⟨hc10, h⟩ | ⟨hc10, h⟩
  · refine cond_t hf rfl hc10 ?_
    refine wp_seq ?_
    refine region_pl ?_
    refine q_ hf rfl rfl rfl (e_assign hf rfl) fun a hf => ?_
    refine pl_nil ?_
    refine then_n ?_
    refine wp_ret ?_
    refine then_r ?_
    obtain rfl := some_inj h
    exact leave1 hf rfl rfl ⟨rfl, hM.fin, (R64_lit rfl)⟩
  · refine cond_f hf rfl hc10 ?_
    refine wp_skip ?_
    refine then_n ?_
    refine wp_seq ?_
    refine region_pl ?_
    refine q_ hf rfl rfl rfl (e_move hf rfl) fun a hf => ?_
    refine q_ hf rfl rfl rfl (e_assign hf rfl) fun a hf => ?_
    refine pl_nil ?_
    refine then_n ?_
    refine wp_ret ?_
    obtain rfl := some_inj h
    exact leave1 hf rfl rfl ⟨rfl, hM.fin, (chk_R hz9)⟩

set_option maxRecDepth 100000 in
set_option maxHeartbeats 4000000 in
theorem r_laws_szTileSet (C : Cx) (a1 : TileSet) (hp2 : a1.Letters.length ≤ maxLen) (A3 : Option Addr) (c4 : Nat) (hp5 : (sliceRep intRep).R C.w0 C.S0 a1.Values [vL A3 a1.Values c4]) (A6 : Option Addr) (c7 : Nat) (hp8 : (sliceRep intRep).R C.w0 C.S0 a1.Counts [vL A6 a1.Counts c7]) (hp9 : R64 a1.Blanks) (left10 : Int) (hp11 : R64 left10) (r : Int) (h : m_laws_szTileSet a1 left10 = some r) :
    Calls Try.prog 8 #[.agg #[vS (a1.Letters), vL A3 (a1.Values) c4, vL A6 (a1.Counts) c7, vI (a1.Blanks)], vI (left10)] C.w0 fun e w => e = .returned (vI (r)) ∧ Mem C w [] [] ∧ R64 r := by
  have hM := Mem.begin C [.dat (sliceRep intRep) a1.Counts [vL A6 a1.Counts c7], .dat (sliceRep intRep) a1.Values [vL A3 a1.Values c4]] ⟨hp8, hp5, trivial⟩
  refine enter Try.func8 rfl Try.ntmps8 rfl fun a hf => ?_
  unfold m_laws_szTileSet at h
  refine wp_seq ?_
  refine region_pl ?_
  refine pl_l hf rfl rfl rfl (w_box hf hM (cs := [vS (a1.Letters), vL A3 (a1.Values) c4, vL A6 (a1.Counts) c7, vI (a1.Blanks)]) rfl rfl fun b12 w13 hx14 hM a hf => ?_)
  refine q_ hf rfl rfl rfl (e_assign hf rfl) fun a hf => ?_
  refine pl_nil ?_
  refine then_n ?_
  refine wp_seq ?_
  refine region_pl ?_
  refine q_ hf rfl rfl rfl (e_move hf rfl) fun a hf => ?_
  refine q_ hf rfl rfl rfl (e_field hf rfl Try.underlying24 rfl Try.sizeOf9 (o' := 0) rfl) fun a hf => ?_
  refine q_ hf rfl rfl rfl (e_load1 hf rfl Try.isAgg9 (hM.boxCell (k := 0) rfl rfl)) fun a hf => ?_
  refine q_ hf rfl rfl rfl (e_lenS hf (x := a1.Letters) rfl Try.underlying9) fun a hf => ?_
  obtain ⟨z16, hz17, h⟩ := bind_some h
  refine q_ hf rfl rfl rfl (e_sub hf rfl rfl hz17) fun a hf => ?_
  refine q_ hf rfl rfl rfl (e_assign hf rfl) fun a hf => ?_
  refine pl_nil ?_
  refine then_n ?_
  refine wp_seq ?_
  refine wp_seq ?_
  refine region_pl ?_
  refine q_ hf rfl rfl rfl (e_move hf rfl) fun a hf => ?_
  refine q_ hf rfl rfl rfl (e_lt hf (x := z16) (y := 0) rfl rfl) fun a hf => ?_
  refine pl_nil ?_
  refine then_n ?_
  rcases cond_some h with ⟨hc18, h⟩ | ⟨hc18, h⟩
  · refine cond_t hf rfl hc18 ?_
    refine wp_seq ?_
    refine region_pl ?_
    refine q_ hf rfl rfl rfl (e_assign hf rfl) fun a hf => ?_
    refine pl_nil ?_
    refine then_n ?_
    refine wp_ret ?_
    refine then_r ?_
    obtain rfl := some_inj h
    have hM := hM.outs (own' := []) 0 rfl
    exact leave1 hf rfl rfl ⟨rfl, hM.fin, (R64_lit rfl)⟩
  · refine cond_f hf rfl hc18 ?_
    refine wp_skip ?_
    refine then_n ?_
    refine wp_seq ?_
    refine region_pl ?_
    refine q_ hf rfl rfl rfl (e_field hf rfl Try.underlying24 rfl Try.sizeOf22 (o' := 1) rfl) fun a hf => ?_
    refine q_ hf rfl rfl rfl (e_load1 hf rfl Try.isAgg22 (hM.boxCell (k := 0) rfl rfl)) fun a hf => ?_
    refine q_ hf rfl rfl rfl (e_move hf rfl) fun a hf => ?_
    obtain ⟨y19, hz20, h⟩ := bind_some h
    refine pl_l hf rfl rfl rfl (w_call hf Try.call27 rfl (r_laws_szInt64S ⟨_, Sh C _ _, none_, hM.sh_lt, none_not⟩ a1.Values _ _ (hM.dat (k := 1) rfl) z16 (chk_R hz17) _ hz20) ?_)
    rintro _ w22 ⟨rfl, hM2, hv21⟩
    obtain ⟨hM, hx23, hup24⟩ := hM.back hM2
    dsimp only [List.cons_append, List.nil_append] at hM hup24
    clear hM2
    refine ⟨_, rfl, fun a hf => ?_⟩
    refine q_ hf rfl rfl rfl (e_assign hf rfl) fun a hf => ?_
    refine pl_nil ?_
    refine then_n ?_
    refine wp_seq ?_
    refine wp_seq ?_
    refine region_pl ?_
    refine q_ hf rfl rfl rfl (e_move hf rfl) fun a hf => ?_
    refine q_ hf rfl rfl rfl (e_lt hf (x := y19) (y := 0) rfl rfl) fun a hf => ?_
    refine pl_nil ?_
    refine then_n ?_
    rcases cond_some h with ⟨hc25, h⟩ | ⟨hc25, h⟩
    · refine cond_t hf rfl hc25 ?_
      refine wp_seq ?_
      refine region_pl ?_
      refine q_ hf rfl rfl rfl (e_assign hf rfl) fun a hf => ?_
      refine pl_nil ?_
      refine then_n ?_
      refine wp_ret ?_
      refine then_r ?_
      obtain rfl := some_inj h
      have hM := hM.outs (own' := []) 0 rfl
      exact leave1 hf rfl rfl ⟨rfl, hM.fin, (R64_lit rfl)⟩
    · refine cond_f hf rfl hc25 ?_
      refine wp_skip ?_
      refine then_n ?_
      refine wp_seq ?_
      refine region_pl ?_
      refine q_ hf rfl rfl rfl (e_field hf rfl Try.underlying24 rfl Try.sizeOf22 (o' := 2) rfl) fun a hf => ?_
      refine q_ hf rfl rfl rfl (e_load1 hf rfl Try.isAgg22 (hM.boxCell (k := 0) rfl rfl)) fun a hf => ?_
      refine q_ hf rfl rfl rfl (e_move hf rfl) fun a hf => ?_
      obtain ⟨y26, hz27, h⟩ := bind_some h
      refine pl_l hf rfl rfl rfl (w_call hf Try.call27 rfl (r_laws_szInt64S ⟨_, Sh C _ _, none_, hM.sh_lt, none_not⟩ a1.Counts _ _ (hM.dat (k := 0) rfl) y19 hv21 _ hz27) ?_)
      rintro _ w29 ⟨rfl, hM2, hv28⟩
      obtain ⟨hM, hx30, hup31⟩ := hM.back hM2
      dsimp only [List.cons_append, List.nil_append] at hM hup31
      clear hM2
      refine ⟨_, rfl, fun a hf => ?_⟩
      refine q_ hf rfl rfl rfl (e_assign hf rfl) fun a hf => ?_
      refine pl_nil ?_
      refine then_n ?_
      refine wp_seq ?_
      refine wp_seq ?_
      refine region_pl ?_
      refine q_ hf rfl rfl rfl (e_move hf rfl) fun a hf => ?_
      refine q_ hf rfl rfl rfl (e_lt hf (x := y26) (y := 0) rfl rfl) fun a hf => ?_
      refine pl_nil ?_
      refine then_n ?_
      rcases cond_some h with ⟨hc32, h⟩ | ⟨hc32, h⟩
      · refine cond_t hf rfl hc32 ?_
        refine wp_seq ?_
        refine region_pl ?_
        refine q_ hf rfl rfl rfl (e_assign hf rfl) fun a hf => ?_
        refine pl_nil ?_
        refine then_n ?_
        refine wp_ret ?_
        refine then_r ?_
        obtain rfl := some_inj h
        have hM := hM.outs (own' := []) 0 rfl
        exact leave1 hf rfl rfl ⟨rfl, hM.fin, (R64_lit rfl)⟩
      · refine cond_f hf rfl hc32 ?_
        refine wp_skip ?_
        refine then_n ?_
        refine wp_seq ?_
        refine region_pl ?_
        refine q_ hf rfl rfl rfl (e_move hf rfl) fun a hf => ?_
        refine q_ hf rfl rfl rfl (e_assign hf rfl) fun a hf => ?_
        refine pl_nil ?_
        refine then_n ?_
        refine wp_ret ?_
        obtain rfl := some_inj h
        have hM := hM.outs (own' := []) 0 rfl
        exact leave1 hf rfl rfl ⟨rfl, hM.fin, hv28⟩

set_option maxRecDepth 100000 in
set_option maxHeartbeats 4000000 in
theorem r_laws_toInt64S (C : Cx) (a1 : (List Int)) (A2 : Option Addr) (c3 : Nat) (hp4 : (sliceRep intRep).R C.w0 C.S0 a1 [vL A2 a1 c3]) (r : (List Int)) (h : m_laws_toInt64S a1 = some r) :
    Calls Try.prog 31 #[vL A2 (a1) c3] C.w0 fun e w => ∃ (A_1 : Option Addr), ∃ (c_1 : Nat), e = .returned (vL A_1 (r) c_1) ∧ Mem C w [.row intRep A_1 c_1 2 r true] [] := by
  have hM := Mem.begin C [.dat (sliceRep intRep) a1 [vL A2 a1 c3]] ⟨hp4, trivial⟩
  refine enter Try.func31 rfl Try.ntmps31 rfl fun a hf => ?_
  unfold m_laws_toInt64S at h
  refine wp_seq ?_
  refine region_pl ?_
  refine q_ hf rfl rfl rfl (e_assign hf rfl) fun a hf => ?_
  refine pl_nil ?_
  refine then_n ?_
  refine wp_seq ?_
  refine region_pl ?_
  refine q_ hf rfl rfl rfl (e_move hf rfl) fun a hf => ?_
  have hl5 := slice_len (hM.dat (k := 0) rfl)
  refine q_ hf rfl rfl rfl (e_lenL hf (x := a1) rfl Try.underlying22) fun a hf => ?_
  obtain ⟨xs6, hz7, h⟩ := bind_some h
  refine pl_l hf rfl rfl rfl (w_make hf hM (K := intRep) Try.underlying22 ei_2 Try.zeroValue2 rfl rfl rfl ⟨rfl, (R64_lit rfl)⟩ hz7 fun b8 w9 hx10 hM a hf => ?_)
  refine q_ hf rfl rfl rfl (e_assign hf rfl) fun a hf => ?_
  refine pl_nil ?_
  refine then_n ?_
  obtain ⟨x12, h13, h⟩ := bind_some h
  refine seq_join (fun a w => ∃ (xs11 : (List Int)), xs11 = x12 ∧ Has 22 a [(3, vL (some ⟨b8, 0, none⟩) (xs11) (((a1.length : Int) : Int).toNat))] ∧ Mem C w [.row intRep (some ⟨b8, 0, none⟩) (((a1.length : Int) : Int).toNat) 2 xs11 true] [.dat (sliceRep intRep) a1 [vL A2 a1 c3]]) ?_ ?_
  · refine wp_seq ?_
    refine region_pl ?_
    refine q_ hf rfl rfl rfl (e_assign hf rfl) fun a hf => ?_
    refine pl_nil ?_
    refine then_n ?_
    refine wp_block ?_
    obtain ⟨x19, h20, h13⟩ := bind_some h13
    refine wp_loopM h20 (fun s a w => ∃ (xs14 : (List Int)) (n15 : Int), (xs14, n15) = s ∧ Has 22 a [(0, vL A2 (a1) c3), (3, vL (some ⟨b8, 0, none⟩) (xs14) (((a1.length : Int) : Int).toNat)), (4, vI (n15))] ∧ Mem C w [.row intRep (some ⟨b8, 0, none⟩) (((a1.length : Int) : Int).toNat) 2 xs14 true] [.dat (sliceRep intRep) a1 [vL A2 a1 c3]] ∧ R64 n15) ?_ ?_
    · exact ⟨xs6, 0, rfl, hf.keep ⟨rfl, rfl, rfl, trivial⟩, hM.pick [0] rfl, (R64_lit rfl)⟩
    · rintro s o21 a w17 ⟨xs14, n15, rfl, hf, hM, hv16⟩ h22 hd23
      replace h22 : m_laws_toInt64S_l1 a1 xs14 n15 = some o21 := h22
      unfold m_laws_toInt64S_l1 at h22
      refine wp_seq ?_
      refine wp_seq ?_
      refine region_pl ?_
      refine q_ hf rfl rfl rfl (e_move hf rfl) fun a hf => ?_
      refine q_ hf rfl rfl rfl (e_move hf rfl) fun a hf => ?_
      have hl24 := slice_len (hM.dat (k := 0) rfl)
      refine q_ hf rfl rfl rfl (e_lenL hf (x := a1) rfl Try.underlying22) fun a hf => ?_
      refine q_ hf rfl rfl rfl (e_lt hf (x := n15) (y := (a1.length : Int)) rfl rfl) fun a hf => ?_
      refine pl_nil ?_
      refine then_n ?_
      rcases cond_some h22 with ⟨hc25, h22⟩ | ⟨hc25, h22⟩
      · refine cond_t hf rfl hc25 ?_
        refine wp_skip ?_
        refine then_n ?_
        refine wp_seq ?_
        refine wp_block ?_
        refine region_pl ?_
        refine q_ hf rfl rfl rfl (e_move hf rfl) fun a hf => ?_
        refine q_ hf rfl rfl rfl (e_move hf rfl) fun a hf => ?_
        refine q_ hf rfl rfl rfl (e_move hf rfl) fun a hf => ?_
        refine q_ hf rfl rfl rfl (e_move hf rfl) fun a hf => ?_
        obtain ⟨e26, hz27, h22⟩ := bind_some h22
        obtain ⟨b31, o32, _, hA33, h28, h29, hr30, hM⟩ := hM.elem (hM.dat (k := 0) rfl) (n := 1) rfl hz27
        obtain ⟨rfl, hv34⟩ := hr30
        refine q_ hf rfl rfl rfl (e_indexAddr (A := A2) (b := b31) (o := o32) (xs := a1) (i := n15) hf hA33 rfl rfl Try.underlying22 Try.sizeOf2 h28 h29) fun a hf => ?_
        refine q_ hf rfl rfl rfl (e_load1 hf rfl Try.isAgg2 (hM.litCell (k := 0) (j := 0) rfl rfl rfl)) fun a hf => ?_
        obtain ⟨e35, hz36, h22⟩ := bind_some h22
        obtain ⟨_, h37, h38, hr39, hcell40⟩ := hM.rowElem' (k := 0) rfl (n := 1) rfl hz36
        obtain ⟨rfl, hv41⟩ := hr39
        refine q_ hf rfl rfl rfl (e_indexAddr (A := (some ⟨b8, 0, none⟩)) (b := b8) (o := 0) (xs := xs14) (i := n15) hf rfl rfl rfl Try.underlying22 Try.sizeOf2 h37 h38) fun a hf => ?_
        obtain ⟨xs43, hz44, h22⟩ := bind_some h22
        refine pl_0 hf rfl rfl (w_storeElem hf hM (x := e26) (row := [vI (e26)]) (i := n15) rfl rfl rfl rfl (k := 0) rfl rfl Try.sizeOf2 ⟨rfl, hv34⟩ hz44 fun w42 hM => ?_)
        dsimp only [List.set] at hM
        have hf := hf.alter (d := 3) (v := vL (some ⟨b8, 0, none⟩) (xs43) (((a1.length : Int) : Int).toNat)) rfl (vL_len (setL_len hz44))
        have hf := hf.alter (d := 14) (v := vL (some ⟨b8, 0, none⟩) (xs43) (((a1.length : Int) : Int).toNat)) rfl (vL_len (setL_len hz44))
        refine pl_nil ?_
        refine blk_n ?_
        refine then_n ?_
        refine region_pl ?_
        refine q_ hf rfl rfl rfl (e_move hf rfl) fun a hf => ?_
        obtain ⟨z45, hz46, h22⟩ := bind_some h22
        refine q_ hf rfl rfl rfl (e_add hf rfl rfl hz46) fun a hf => ?_
        refine q_ hf rfl rfl rfl (e_assign hf rfl) fun a hf => ?_
        refine pl_nil ?_
        obtain rfl := some_inj h22
        refine then_n ⟨_, rfl, ?_⟩
        exact ⟨xs43, z45, rfl, hf.keep ⟨rfl, rfl, rfl, trivial⟩, hM.pick [1] rfl, (chk_R hz46)⟩
      · refine cond_f hf rfl hc25 ?_
        refine wp_exit ?_
        refine then_x ?_
        obtain rfl := some_inj h22
        obtain rfl := hd23 _ rfl
        try dsimp only at h13
        refine then_x ?_
        refine exit_hit ?_
        obtain rfl := some_inj h13
        refine then_n ?_
        exact ⟨xs14, rfl, hf.keep ⟨rfl, trivial⟩, hM.pick [0] rfl⟩
  · rintro a w52 ⟨xs11, rfl, hf, hM⟩
    try dsimp only at h
    refine wp_seq ?_
    refine region_pl ?_
    refine q_ hf rfl rfl rfl (e_move hf rfl) fun a hf => ?_
    refine q_ hf rfl rfl rfl (e_assign hf rfl) fun a hf => ?_
    refine pl_nil ?_
    refine then_n ?_
    refine wp_ret ?_
    obtain rfl := some_inj h
    exact leave1 hf rfl rfl ⟨(some ⟨b8, 0, none⟩), (((a1.length : Int) : Int).toNat), rfl, hM.fin⟩

set_option maxRecDepth 100000 in
set_option maxHeartbeats 4000000 in
theorem r_laws_toTileSet (C : Cx) (a1 : TileSet) (hp2 : a1.Letters.length ≤ maxLen) (A3 : Option Addr) (c4 : Nat) (hp5 : (sliceRep intRep).R C.w0 C.S0 a1.Values [vL A3 a1.Values c4]) (A6 : Option Addr) (c7 : Nat) (hp8 : (sliceRep intRep).R C.w0 C.S0 a1.Counts [vL A6 a1.Counts c7]) (hp9 : R64 a1.Blanks) (r : TileSet) (h : m_laws_toTileSet a1 = some r) :
    Calls Try.prog 10 #[.agg #[vS (a1.Letters), vL A3 (a1.Values) c4, vL A6 (a1.Counts) c7, vI (a1.Blanks)]] C.w0 fun e w => ∃ (A_1 : Option Addr), ∃ (c_1 : Nat), ∃ (A_2 : Option Addr), ∃ (c_2 : Nat), e = .returned (.agg #[vS (r.Letters), vL A_1 (r.Values) c_1, vL A_2 (r.Counts) c_2, vI (r.Blanks)]) ∧ Mem C w [.row intRep A_1 c_1 2 r.Values true, .row intRep A_2 c_2 2 r.Counts true] [] ∧ r.Letters.length ≤ maxLen ∧ R64 r.Blanks := by
  have hM := Mem.begin C [.dat (sliceRep intRep) a1.Counts [vL A6 a1.Counts c7], .dat (sliceRep intRep) a1.Values [vL A3 a1.Values c4]] ⟨hp8, hp5, trivial⟩
  refine enter Try.func10 rfl Try.ntmps10 rfl fun a hf => ?_
  unfold m_laws_toTileSet at h
  refine wp_seq ?_
  refine region_pl ?_
  refine pl_l hf rfl rfl rfl (w_box hf hM (cs := [vS (a1.Letters), vL A3 (a1.Values) c4, vL A6 (a1.Counts) c7, vI (a1.Blanks)]) rfl rfl fun b10 w11 hx12 hM a hf => ?_)
  refine pl_l hf rfl rfl rfl (w_alloc hM (cs := [vS (([] : Str)), vL none (([] : (List Int))) 0, vL none (([] : (List Int))) 0, vI (0)]) Try.zeroValue28 rfl fun b14 w15 hx16 hM a hf => ?_)
  refine pl_nil ?_
  refine then_n ?_
  refine wp_seq ?_
  refine region_pl ?_
  refine pl_l hf rfl rfl rfl (w_alloc hM (cs := [vS (([] : Str)), vL none (([] : (List Int))) 0, vL none (([] : (List Int))) 0, vI (0)]) Try.zeroValue28 rfl fun b18 w19 hx20 hM a hf => ?_)
  refine pl_nil ?_
  refine then_n ?_
  refine wp_seq ?_
  refine region_pl ?_
  refine q_ hf rfl rfl rfl (e_field hf rfl Try.underlying24 rfl Try.sizeOf9 (o' := 0) rfl) fun a hf => ?_
  refine q_ hf rfl rfl rfl (e_load1 hf rfl Try.isAgg9 (hM.boxCell (k := 2) rfl rfl)) fun a hf => ?_
  refine q_ hf rfl rfl rfl (e_field hf rfl Try.underlying28 rfl Try.sizeOf9 (o' := 0) rfl) fun a hf => ?_
  refine pl_0 hf rfl rfl (w_store hf hM (us := [vS (a1.Letters)]) (cs' := [vS (a1.Letters), vL none (([] : (List Int))) 0, vL none (([] : (List Int))) 0, vI (0)]) rfl rfl (k := 0) rfl rfl Try.sizeOf9 rfl rfl rfl fun w22 hM => ?_)
  dsimp only [List.set] at hM
  refine pl_nil ?_
  refine then_n ?_
  refine wp_seq ?_
  refine region_pl ?_
  refine q_ hf rfl rfl rfl (e_field hf rfl Try.underlying24 rfl Try.sizeOf22 (o' := 1) rfl) fun a hf => ?_
  refine q_ hf rfl rfl rfl (e_load1 hf rfl Try.isAgg22 (hM.boxCell (k := 2) rfl rfl)) fun a hf => ?_
  obtain ⟨y25, hz26, h⟩ := bind_some h
  refine pl_l hf rfl rfl rfl (w_call hf Try.call31 rfl (r_laws_toInt64S ⟨_, Sh C _ _, none_, hM.sh_lt, none_not⟩ a1.Values _ _ (hM.dat (k := 1) rfl) _ hz26) ?_)
  rintro _ w29 ⟨A27, c28, rfl, hM2⟩
  obtain ⟨hM, hx30, hup31⟩ := hM.back hM2
  dsimp only [List.cons_append, List.nil_append] at hM hup31
  clear hM2
  refine ⟨_, rfl, fun a hf => ?_⟩
  refine q_ hf rfl rfl rfl (e_field hf rfl Try.underlying28 rfl Try.sizeOf22 (o' := 1) rfl) fun a hf => ?_
  refine pl_0 hf rfl rfl (w_store hf hM (us := [vL A27 (y25) c28]) (cs' := [vS (a1.Letters), vL A27 (y25) c28, vL none (([] : (List Int))) 0, vI (0)]) rfl rfl (k := 1) rfl rfl Try.sizeOf22 rfl rfl rfl fun w32 hM => ?_)
  dsimp only [List.set] at hM
  refine pl_nil ?_
  refine then_n ?_
  refine wp_seq ?_
  refine region_pl ?_
  refine q_ hf rfl rfl rfl (e_field hf rfl Try.underlying24 rfl Try.sizeOf22 (o' := 2) rfl) fun a hf => ?_
  refine q_ hf rfl rfl rfl (e_load1 hf rfl Try.isAgg22 (hM.boxCell (k := 3) rfl rfl)) fun a hf => ?_
  obtain ⟨y35, hz36, h⟩ := bind_some h
  refine pl_l hf rfl rfl rfl (w_call hf Try.call31 rfl (r_laws_toInt64S ⟨_, Sh C _ _, none_, hM.sh_lt, none_not⟩ a1.Counts _ _ (hM.dat (k := 0) rfl) _ hz36) ?_)
  rintro _ w39 ⟨A37, c38, rfl, hM2⟩
  obtain ⟨hM, hx40, hup41⟩ := hM.back hM2
  dsimp only [List.cons_append, List.nil_append] at hM hup41
  clear hM2
  refine ⟨_, rfl, fun a hf => ?_⟩
  refine q_ hf rfl rfl rfl (e_field hf rfl Try.underlying28 rfl Try.sizeOf22 (o' := 2) rfl) fun a hf => ?_
  refine pl_0 hf rfl rfl (w_store hf hM (us := [vL A37 (y35) c38]) (cs' := [vS (a1.Letters), vL A27 (y25) c28, vL A37 (y35) c38, vI (0)]) rfl rfl (k := 2) rfl rfl Try.sizeOf22 rfl rfl rfl fun w42 hM => ?_)
  dsimp only [List.set] at hM
  refine pl_nil ?_
  refine then_n ?_
  refine wp_seq ?_
  refine region_pl ?_
  refine q_ hf rfl rfl rfl (e_field hf rfl Try.underlying24 rfl Try.sizeOf2 (o' := 3) rfl) fun a hf => ?_
  refine q_ hf rfl rfl rfl (e_load1 hf rfl Try.isAgg2 (hM.boxCell (k := 4) rfl rfl)) fun a hf => ?_
  refine q_ hf rfl rfl rfl (e_field hf rfl Try.underlying28 rfl Try.sizeOf2 (o' := 3) rfl) fun a hf => ?_
  refine pl_0 hf rfl rfl (w_store hf hM (us := [vI (a1.Blanks)]) (cs' := [vS (a1.Letters), vL A27 (y25) c28, vL A37 (y35) c38, vI (a1.Blanks)]) rfl rfl (k := 2) rfl rfl Try.sizeOf2 rfl rfl rfl fun w45 hM => ?_)
  dsimp only [List.set] at hM
  refine pl_nil ?_
  refine then_n ?_
  refine wp_seq ?_
  refine region_pl ?_
  refine q_ hf rfl rfl rfl (e_loadA hf (us := [vS (a1.Letters), vL A27 (y25) c28, vL A37 (y35) c38, vI (a1.Blanks)]) rfl ⟨Try.isAgg28, Try.sizeOf28⟩ rfl (hM.boxSub (k := 2) (us := [vS (a1.Letters), vL A27 (y25) c28, vL A37 (y35) c38, vI (a1.Blanks)]) (o := 0) rfl rfl)) fun a hf => ?_
  refine pl_0 hf rfl rfl (w_store hf hM (us := [vS (a1.Letters), vL A27 (y25) c28, vL A37 (y35) c38, vI (a1.Blanks)]) (cs' := [vS (a1.Letters), vL A27 (y25) c28, vL A37 (y35) c38, vI (a1.Blanks)]) rfl rfl (k := 3) rfl rfl Try.sizeOf28 rfl rfl rfl fun w48 hM => ?_)
  dsimp only [List.set] at hM
  refine pl_nil ?_
  refine then_n ?_
  refine wp_ret ?_
  obtain rfl := some_inj h
  have hres51 := leaveV1 (P := Try.prog) Try.results10 (res_agg hf rfl ⟨Try.isAgg28, Try.sizeOf28⟩ (us := [vS (a1.Letters), vL A27 (y25) c28, vL A37 (y35) c38, vI (a1.Blanks)]) rfl (hM.boxSub (k := 3) (o := 0) rfl rfl))
  have hM := hM.front (k := 0) rfl
  dsimp only [List.eraseIdx] at hM
  have hM := hM.front (k := 1) rfl
  dsimp only [List.eraseIdx] at hM
  have hM := hM.outs (own' := [.row intRep A27 c28 2 y25 true, .row intRep A37 c38 2 y35 true]) 2 rfl
  exact bodyPost_ret hres51 hf.defers ⟨A27, c28, A37, c38, rfl, hM.fin, hp2, hp9⟩

set_option maxRecDepth 100000 in
set_option maxHeartbeats 4000000 in
theorem r_spec_l00In (C : Cx) (n1 : Int) (hp2 : R64 n1) (low3 : Int) (hp4 : R64 low3) (high5 : Int) (hp6 : R64 high5) (r : Bool) (h : m_spec_l00In n1 low3 high5 = some r) :
    Calls Try.prog 56 #[vI (n1), vI (low3), vI (high5)] C.w0 fun e w => e = .returned (.bool (r)) ∧ Mem C w [] [] := by
  have hM := Mem.begin C [] trivial
  refine enter Try.func56 rfl Try.ntmps56 rfl fun a hf => ?_
  unfold m_spec_l00In at h
  refine wp_seq ?_
  refine region_pl ?_
  refine q_ hf rfl rfl rfl (e_assign hf rfl) fun a hf => ?_
  refine pl_nil ?_
  refine then_n ?_
  obtain ⟨x9, h10, h⟩ := bind_some h
  refine seq_join (fun a w => ∃ (t7 : Bool), t7 = x9 ∧ Has 15 a [(6, .bool (t7))] ∧ Mem C w [] []) ?_ ?_
  · refine region_pl ?_
    refine q_ hf rfl rfl rfl (e_move hf rfl) fun a hf => ?_
    refine q_ hf rfl rfl rfl (e_move hf rfl) fun a hf => ?_
    refine q_ hf rfl rfl rfl (e_ge hf (x := n1) (y := low3) rfl rfl) fun a hf => ?_
    refine q_ hf rfl rfl rfl (e_move hf rfl) fun a hf => ?_
    rcases cond_some h10 with ⟨hc11, h10⟩ | ⟨hc11, h10⟩
    · refine gq (wanted_t hf rfl rfl rfl rfl hc11) hf rfl rfl (e_move hf rfl) fun a hf => ?_
      refine gq (wanted_t hf rfl rfl rfl rfl hc11) hf rfl rfl (e_move hf rfl) fun a hf => ?_
      refine gq (wanted_t hf rfl rfl rfl rfl hc11) hf rfl rfl (e_le hf (x := n1) (y := high5) rfl rfl) fun a hf => ?_
      refine q_ hf rfl rfl rfl (e_pick_t hf rfl hc11 rfl) fun a hf => ?_
      refine q_ hf rfl rfl rfl (e_assign hf rfl) fun a hf => ?_
      refine pl_nil ?_
      obtain rfl := some_inj h10
      refine then_n ?_
      exact ⟨(decide (n1 ≤ high5)), rfl, hf.keep ⟨rfl, trivial⟩, hM.pick [] rfl⟩
    · refine pl_gs (wanted_f hf rfl rfl rfl rfl hc11) hf rfl rfl fun a hf => ?_
      refine pl_gs (wanted_f hf rfl rfl rfl rfl hc11) hf rfl rfl fun a hf => ?_
      refine pl_gs (wanted_f hf rfl rfl rfl rfl hc11) hf rfl rfl fun a hf => ?_
      refine q_ hf rfl rfl rfl (e_pick_f hf rfl hc11 rfl) fun a hf => ?_
      refine q_ hf rfl rfl rfl (e_assign hf rfl) fun a hf => ?_
      refine pl_nil ?_
      obtain rfl := some_inj h10
      refine then_n ?_
      exact ⟨false, rfl, hf.keep ⟨rfl, trivial⟩, hM.pick [] rfl⟩
  · rintro a w14 ⟨t7, rfl, hf, hM⟩
    try dsimp only at h
    refine wp_ret ?_
    obtain rfl := some_inj h
    exact leave1 hf rfl rfl ⟨rfl, hM.fin⟩

set_option maxRecDepth 100000 in
set_option maxHeartbeats 4000000 in
theorem r_spec_l01Small (C : Cx) (c1 : UInt8) (r : Bool) (h : m_spec_l01Small c1 = some r) :
    Calls Try.prog 57 #[vB (c1)] C.w0 fun e w => e = .returned (.bool (r)) ∧ Mem C w [] [] := by
  have hM := Mem.begin C [] trivial
  refine enter Try.func57 rfl Try.ntmps57 rfl fun a hf => ?_
  unfold m_spec_l01Small at h
  refine wp_seq ?_
  refine region_pl ?_
  refine q_ hf rfl rfl rfl (e_assign hf rfl) fun a hf => ?_
  refine pl_nil ?_
  refine then_n ?_
  obtain ⟨x4, h5, h⟩ := bind_some h
  refine seq_join (fun a w => ∃ (t2 : Bool), t2 = x4 ∧ Has 9 a [(2, .bool (t2))] ∧ Mem C w [] []) ?_ ?_
  · refine region_pl ?_
    refine q_ hf rfl rfl rfl (e_move hf rfl) fun a hf => ?_
    refine q_ hf rfl rfl rfl (e_geB hf (x := c1) (y := 97) rfl rfl) fun a hf => ?_
    refine q_ hf rfl rfl rfl (e_move hf rfl) fun a hf => ?_
    rcases cond_some h5 with ⟨hc6, h5⟩ | ⟨hc6, h5⟩
    · refine gq (wanted_t hf rfl rfl rfl rfl hc6) hf rfl rfl (e_move hf rfl) fun a hf => ?_
      refine gq (wanted_t hf rfl rfl rfl rfl hc6) hf rfl rfl (e_leB hf (x := c1) (y := 122) rfl rfl) fun a hf => ?_
      refine q_ hf rfl rfl rfl (e_pick_t hf rfl hc6 rfl) fun a hf => ?_
      refine q_ hf rfl rfl rfl (e_assign hf rfl) fun a hf => ?_
      refine pl_nil ?_
      obtain rfl := some_inj h5
      refine then_n ?_
      exact ⟨(decide (c1 ≤ 122)), rfl, hf.keep ⟨rfl, trivial⟩, hM.pick [] rfl⟩
    · refine pl_gs (wanted_f hf rfl rfl rfl rfl hc6) hf rfl rfl fun a hf => ?_
      refine pl_gs (wanted_f hf rfl rfl rfl rfl hc6) hf rfl rfl fun a hf => ?_
      refine q_ hf rfl rfl rfl (e_pick_f hf rfl hc6 rfl) fun a hf => ?_
      refine q_ hf rfl rfl rfl (e_assign hf rfl) fun a hf => ?_
      refine pl_nil ?_
      obtain rfl := some_inj h5
      refine then_n ?_
      exact ⟨false, rfl, hf.keep ⟨rfl, trivial⟩, hM.pick [] rfl⟩
  · rintro a w9 ⟨t2, rfl, hf, hM⟩
    try dsimp only at h
    refine wp_ret ?_
    obtain rfl := some_inj h
    exact leave1 hf rfl rfl ⟨rfl, hM.fin⟩

set_option maxRecDepth 100000 in
set_option maxHeartbeats 4000000 in
theorem r_spec_l02Ok (C : Cx) (t1 : TileSet) (b2 : Nat) (o3 : Nat) (hp4 : (ptrRep TileSetRep).R C.w0 C.S0 t1 [vP b2 o3]) (r : Bool) (h : m_spec_l02Ok t1 = some r) :
    Calls Try.prog 28 #[vP b2 (o3)] C.w0 fun e w => e = .returned (.bool (r)) ∧ Mem C w [] [] := by
  have hM := Mem.begin C [.dat (ptrRep TileSetRep) t1 [vP b2 o3]] ⟨hp4, trivial⟩
  refine enter Try.func28 rfl Try.ntmps28 rfl fun a hf => ?_
  unfold m_spec_l02Ok at h
  refine wp_seq ?_
  refine region_pl ?_
  refine q_ hf rfl rfl rfl (e_assign hf rfl) fun a hf => ?_
  refine pl_nil ?_
  refine then_n ?_
  refine wp_seq ?_
  refine region_pl ?_
  refine q_ hf rfl rfl rfl (e_move hf rfl) fun a hf => ?_
  refine q_ hf rfl rfl rfl (e_nil hf rfl) fun a hf => ?_
  obtain ⟨_, hr5, hM⟩ := hM.deref (hM.dat (k := 0) rfl)
  obtain ⟨A7, c8, A10, c11, rfl, hv6, hv9, hv12, hv13⟩ := TileSetRep_open hr5
  have hM := hM.add (y := .dat (sliceRep intRep) t1.Values [vL A7 t1.Values c8]) hv9
  have hM := hM.add (y := .dat (sliceRep intRep) t1.Counts [vL A10 t1.Counts c11]) hv12
  refine q_ hf rfl rfl rfl (e_field hf rfl Try.underlying28 rfl Try.sizeOf9 (o' := o3 + 0) rfl) fun a hf => ?_
  refine q_ hf rfl rfl rfl (e_load1 hf rfl Try.isAgg9 (hM.litCell (k := 2) (j := 0) rfl rfl rfl)) fun a hf => ?_
  refine q_ hf rfl rfl rfl (e_lenS hf (x := t1.Letters) rfl Try.underlying9) fun a hf => ?_
  refine q_ hf rfl rfl rfl (e_assign hf rfl) fun a hf => ?_
  refine pl_nil ?_
  refine then_n ?_
  refine wp_seq ?_
  obtain ⟨x16, h17, h⟩ := bind_some h
  refine seq_join (fun a w => ∃ (t14 : Bool), t14 = x16 ∧ Has 110 a [(0, vP b2 (o3)), (3, vI ((t1.Letters.length : Int))), (39, .bool (t14))] ∧ Mem C w [] [.dat (sliceRep intRep) t1.Counts [vL A10 t1.Counts c11], .dat (sliceRep intRep) t1.Values [vL A7 t1.Values c8], .lit b2 (o3) [vS (t1.Letters), vL A7 (t1.Values) c8, vL A10 (t1.Counts) c11, vI (t1.Blanks)], .dat (ptrRep TileSetRep) t1 [vP b2 o3]]) ?_ ?_
  · refine region_pl ?_
    refine q_ hf rfl rfl rfl (e_move hf rfl) fun a hf => ?_
    obtain ⟨y18, hz19, h17⟩ := bind_some h17
    refine pl_l hf rfl rfl rfl (w_call hf Try.call56 rfl (r_spec_l00In ⟨_, Sh C _ _, none_, hM.sh_lt, none_not⟩ (t1.Letters.length : Int) (R64_len hv6) 1 (R64_lit rfl) 26 (R64_lit rfl) _ hz19) ?_)
    rintro _ w20 ⟨rfl, hM2⟩
    obtain ⟨hM, hx21, hup22⟩ := hM.back hM2
    dsimp only [List.cons_append, List.nil_append] at hM hup22
    clear hM2
    refine ⟨_, rfl, fun a hf => ?_⟩
    refine q_ hf rfl rfl rfl (e_not hf rfl) fun a hf => ?_
    refine q_ hf rfl rfl rfl (e_move hf rfl) fun a hf => ?_
    rcases cond_some h17 with ⟨hc23, h17⟩ | ⟨hc23, h17⟩
    · refine pl_gs (wanted_f hf rfl rfl rfl rfl hc23) hf rfl rfl fun a hf => ?_
      refine pl_gs (wanted_f hf rfl rfl rfl rfl hc23) hf rfl rfl fun a hf => ?_
      refine pl_gs (wanted_f hf rfl rfl rfl rfl hc23) hf rfl rfl fun a hf => ?_
      refine pl_gs (wanted_f hf rfl rfl rfl rfl hc23) hf rfl rfl fun a hf => ?_
      refine pl_gs (wanted_f hf rfl rfl rfl rfl hc23) hf rfl rfl fun a hf => ?_
      refine pl_gs (wanted_f hf rfl rfl rfl rfl hc23) hf rfl rfl fun a hf => ?_
      refine pl_gs (wanted_f hf rfl rfl rfl rfl hc23) hf rfl rfl fun a hf => ?_
      refine q_ hf rfl rfl rfl (e_pick_t hf rfl hc23 rfl) fun a hf => ?_
      refine q_ hf rfl rfl rfl (e_move hf rfl) fun a hf => ?_
      refine pl_gs (wanted_f hf rfl rfl rfl rfl rfl) hf rfl rfl fun a hf => ?_
      refine pl_gs (wanted_f hf rfl rfl rfl rfl rfl) hf rfl rfl fun a hf => ?_
      refine pl_gs (wanted_f hf rfl rfl rfl rfl rfl) hf rfl rfl fun a hf => ?_
      refine pl_gs (wanted_f hf rfl rfl rfl rfl rfl) hf rfl rfl fun a hf => ?_
      refine pl_gs (wanted_f hf rfl rfl rfl rfl rfl) hf rfl rfl fun a hf => ?_
      refine pl_gs (wanted_f hf rfl rfl rfl rfl rfl) hf rfl rfl fun a hf => ?_
      refine pl_gs (wanted_f hf rfl rfl rfl rfl rfl) hf rfl rfl fun a hf => ?_
      refine q_ hf rfl rfl rfl (e_pick_t hf rfl rfl rfl) fun a hf => ?_
      refine q_ hf rfl rfl rfl (e_move hf rfl) fun a hf => ?_
      refine pl_gs (wanted_f hf rfl rfl rfl rfl rfl) hf rfl rfl fun a hf => ?_
      refine pl_gs (wanted_f hf rfl rfl rfl rfl rfl) hf rfl rfl fun a hf => ?_
      refine pl_gs (wanted_f hf rfl rfl rfl rfl rfl) hf rfl rfl fun a hf => ?_
      refine pl_gs (wanted_f hf rfl rfl rfl rfl rfl) hf rfl rfl fun a hf => ?_
      refine pl_gs (wanted_f hf rfl rfl rfl rfl rfl) hf rfl rfl fun a hf => ?_
      refine pl_gs (wanted_f hf rfl rfl rfl rfl rfl) hf rfl rfl fun a hf => ?_
      refine q_ hf rfl rfl rfl (e_pick_t hf rfl rfl rfl) fun a hf => ?_
      refine pl_nil ?_
      obtain rfl := some_inj h17
      refine then_n ?_
      exact ⟨true, rfl, hf.keep ⟨rfl, rfl, rfl, trivial⟩, hM.pick [0, 1, 2, 3] rfl⟩
    · refine gq (wanted_t hf rfl rfl rfl rfl hc23) hf rfl rfl (e_move hf rfl) fun a hf => ?_
      refine gq (wanted_t hf rfl rfl rfl rfl hc23) hf rfl rfl (e_nil hf rfl) fun a hf => ?_
      refine gq (wanted_t hf rfl rfl rfl rfl hc23) hf rfl rfl (e_field hf rfl Try.underlying28 rfl Try.sizeOf22 (o' := o3 + 1) rfl) fun a hf => ?_
      refine gq (wanted_t hf rfl rfl rfl rfl hc23) hf rfl rfl (e_load1 hf rfl Try.isAgg22 (hM.litCell (k := 2) (j := 1) rfl rfl rfl)) fun a hf => ?_
      have hl25 := slice_len (hM.dat (k := 1) rfl)
      refine gq (wanted_t hf rfl rfl rfl rfl hc23) hf rfl rfl (e_lenL hf (x := t1.Values) rfl Try.underlying22) fun a hf => ?_
      refine gq (wanted_t hf rfl rfl rfl rfl hc23) hf rfl rfl (e_move hf rfl) fun a hf => ?_
      refine gq (wanted_t hf rfl rfl rfl rfl hc23) hf rfl rfl (e_ne hf (x := (t1.Values.length : Int)) (y := (t1.Letters.length : Int)) rfl rfl) fun a hf => ?_
      refine q_ hf rfl rfl rfl (e_pick_f hf rfl hc23 rfl) fun a hf => ?_
      refine q_ hf rfl rfl rfl (e_move hf rfl) fun a hf => ?_
      rcases cond_some h17 with ⟨hc26, h17⟩ | ⟨hc26, h17⟩
      · refine pl_gs (wanted_f hf rfl rfl rfl rfl hc26) hf rfl rfl fun a hf => ?_
        refine pl_gs (wanted_f hf rfl rfl rfl rfl hc26) hf rfl rfl fun a hf => ?_
        refine pl_gs (wanted_f hf rfl rfl rfl rfl hc26) hf rfl rfl fun a hf => ?_
        refine pl_gs (wanted_f hf rfl rfl rfl rfl hc26) hf rfl rfl fun a hf => ?_
        refine pl_gs (wanted_f hf rfl rfl rfl rfl hc26) hf rfl rfl fun a hf => ?_
        refine pl_gs (wanted_f hf rfl rfl rfl rfl hc26) hf rfl rfl fun a hf => ?_
        refine pl_gs (wanted_f hf rfl rfl rfl rfl hc26) hf rfl rfl fun a hf => ?_
        refine q_ hf rfl rfl rfl (e_pick_t hf rfl hc26 rfl) fun a hf => ?_
        refine q_ hf rfl rfl rfl (e_move hf rfl) fun a hf => ?_
        refine pl_gs (wanted_f hf rfl rfl rfl rfl rfl) hf rfl rfl fun a hf => ?_
        refine pl_gs (wanted_f hf rfl rfl rfl rfl rfl) hf rfl rfl fun a hf => ?_
        refine pl_gs (wanted_f hf rfl rfl rfl rfl rfl) hf rfl rfl fun a hf => ?_
        refine pl_gs (wanted_f hf rfl rfl rfl rfl rfl) hf rfl rfl fun a hf => ?_
        refine pl_gs (wanted_f hf rfl rfl rfl rfl rfl) hf rfl rfl fun a hf => ?_
        refine pl_gs (wanted_f hf rfl rfl rfl rfl rfl) hf rfl rfl fun a hf => ?_
        refine q_ hf rfl rfl rfl (e_pick_t hf rfl rfl rfl) fun a hf => ?_
        refine pl_nil ?_
        obtain rfl := some_inj h17
        refine then_n ?_
        exact ⟨true, rfl, hf.keep ⟨rfl, rfl, rfl, trivial⟩, hM.pick [0, 1, 2, 3] rfl⟩
      · refine gq (wanted_t hf rfl rfl rfl rfl hc26) hf rfl rfl (e_move hf rfl) fun a hf => ?_
        refine gq (wanted_t hf rfl rfl rfl rfl hc26) hf rfl rfl (e_nil hf rfl) fun a hf => ?_
        refine gq (wanted_t hf rfl rfl rfl rfl hc26) hf rfl rfl (e_field hf rfl Try.underlying28 rfl Try.sizeOf22 (o' := o3 + 2) rfl) fun a hf => ?_
        refine gq (wanted_t hf rfl rfl rfl rfl hc26) hf rfl rfl (e_load1 hf rfl Try.isAgg22 (hM.litCell (k := 2) (j := 2) rfl rfl rfl)) fun a hf => ?_
        have hl28 := slice_len (hM.dat (k := 0) rfl)
        refine gq (wanted_t hf rfl rfl rfl rfl hc26) hf rfl rfl (e_lenL hf (x := t1.Counts) rfl Try.underlying22) fun a hf => ?_
        refine gq (wanted_t hf rfl rfl rfl rfl hc26) hf rfl rfl (e_move hf rfl) fun a hf => ?_
        refine gq (wanted_t hf rfl rfl rfl rfl hc26) hf rfl rfl (e_ne hf (x := (t1.Counts.length : Int)) (y := (t1.Letters.length : Int)) rfl rfl) fun a hf => ?_
        refine q_ hf rfl rfl rfl (e_pick_f hf rfl hc26 rfl) fun a hf => ?_
        refine q_ hf rfl rfl rfl (e_move hf rfl) fun a hf => ?_
        rcases cond_some h17 with ⟨hc29, h17⟩ | ⟨hc29, h17⟩
        · refine pl_gs (wanted_f hf rfl rfl rfl rfl hc29) hf rfl rfl fun a hf => ?_
          refine pl_gs (wanted_f hf rfl rfl rfl rfl hc29) hf rfl rfl fun a hf => ?_
          refine pl_gs (wanted_f hf rfl rfl rfl rfl hc29) hf rfl rfl fun a hf => ?_
          refine pl_gs (wanted_f hf rfl rfl rfl rfl hc29) hf rfl rfl fun a hf => ?_
          refine pl_gs (wanted_f hf rfl rfl rfl rfl hc29) hf rfl rfl fun a hf => ?_
          refine pl_gs (wanted_f hf rfl rfl rfl rfl hc29) hf rfl rfl fun a hf => ?_
          refine q_ hf rfl rfl rfl (e_pick_t hf rfl hc29 rfl) fun a hf => ?_
          refine pl_nil ?_
          obtain rfl := some_inj h17
          refine then_n ?_
          exact ⟨true, rfl, hf.keep ⟨rfl, rfl, rfl, trivial⟩, hM.pick [0, 1, 2, 3] rfl⟩
        · refine gq (wanted_t hf rfl rfl rfl rfl hc29) hf rfl rfl (e_move hf rfl) fun a hf => ?_
          refine gq (wanted_t hf rfl rfl rfl rfl hc29) hf rfl rfl (e_nil hf rfl) fun a hf => ?_
          refine gq (wanted_t hf rfl rfl rfl rfl hc29) hf rfl rfl (e_field hf rfl Try.underlying28 rfl Try.sizeOf2 (o' := o3 + 3) rfl) fun a hf => ?_
          refine gq (wanted_t hf rfl rfl rfl rfl hc29) hf rfl rfl (e_load1 hf rfl Try.isAgg2 (hM.litCell (k := 2) (j := 3) rfl rfl rfl)) fun a hf => ?_
          obtain ⟨y31, hz32, h17⟩ := bind_some h17
          refine pl_gl (wanted_t hf rfl rfl rfl rfl hc29) hf rfl rfl (w_call hf Try.call56 rfl (r_spec_l00In ⟨_, Sh C _ _, none_, hM.sh_lt, none_not⟩ t1.Blanks hv13 0 (R64_lit rfl) 4 (R64_lit rfl) _ hz32) ?_)
          rintro _ w33 ⟨rfl, hM2⟩
          obtain ⟨hM, hx34, hup35⟩ := hM.back hM2
          dsimp only [List.cons_append, List.nil_append] at hM hup35
          clear hM2
          refine ⟨_, rfl, fun a hf => ?_⟩
          refine gq (wanted_t hf rfl rfl rfl rfl hc29) hf rfl rfl (e_not hf rfl) fun a hf => ?_
          refine q_ hf rfl rfl rfl (e_pick_f hf rfl hc29 rfl) fun a hf => ?_
          refine pl_nil ?_
          obtain rfl := some_inj h17
          refine then_n ?_
          exact ⟨(!y31), rfl, hf.keep ⟨rfl, rfl, rfl, trivial⟩, hM.pick [0, 1, 2, 3] rfl⟩
  · rintro a w37 ⟨t14, rfl, hf, hM⟩
    try dsimp only at h
    rcases cond_some h with ⟨hc38, h⟩ | ⟨hc38, h⟩
    · refine cond_t hf rfl hc38 ?_
      refine wp_seq ?_
      refine region_pl ?_
      refine q_ hf rfl rfl rfl (e_assign hf rfl) fun a hf => ?_
      refine pl_nil ?_
      refine then_n ?_
      refine wp_ret ?_
      refine then_r ?_
      obtain rfl := some_inj h
      exact leave1 hf rfl rfl ⟨rfl, hM.fin⟩
    · refine cond_f hf rfl hc38 ?_
      refine wp_skip ?_
      refine then_n ?_
      refine wp_seq ?_
      refine region_pl ?_
      refine q_ hf rfl rfl rfl (e_move hf rfl) fun a hf => ?_
      refine q_ hf rfl rfl rfl (e_nil hf rfl) fun a hf => ?_
      refine q_ hf rfl rfl rfl (e_field hf rfl Try.underlying28 rfl Try.sizeOf2 (o' := o3 + 3) rfl) fun a hf => ?_
      refine q_ hf rfl rfl rfl (e_load1 hf rfl Try.isAgg2 (hM.litCell (k := 2) (j := 3) rfl rfl rfl)) fun a hf => ?_
      refine q_ hf rfl rfl rfl (e_assign hf rfl) fun a hf => ?_
      refine pl_nil ?_
      refine then_n ?_
      obtain ⟨x41, h42, h⟩ := bind_some h
      refine seq_join (fun a w => ∃ (i39 : Int), (.inl i39) = x41 ∧ Has 110 a [(4, vI (i39))] ∧ Mem C w [] [.dat (sliceRep intRep) t1.Counts [vL A10 t1.Counts c11], .dat (sliceRep intRep) t1.Values [vL A7 t1.Values c8], .lit b2 (o3) [vS (t1.Letters), vL A7 (t1.Values) c8, vL A10 (t1.Counts) c11, vI (t1.Blanks)], .dat (ptrRep TileSetRep) t1 [vP b2 o3]] ∧ R64 i39) ?_ ?_
      · refine wp_seq ?_
        refine region_pl ?_
        refine q_ hf rfl rfl rfl (e_assign hf rfl) fun a hf => ?_
        refine pl_nil ?_
        refine then_n ?_
        refine wp_block ?_
        obtain ⟨x50, h51, h42⟩ := bind_some h42
        refine wp_loopM h51 (fun s a w => ∃ (i43 : Int) (n45 : Int), (i43, n45) = s ∧ Has 110 a [(0, vP b2 (o3)), (3, vI ((t1.Letters.length : Int))), (4, vI (i43)), (5, vI (n45))] ∧ Mem C w [] [.dat (sliceRep intRep) t1.Counts [vL A10 t1.Counts c11], .dat (sliceRep intRep) t1.Values [vL A7 t1.Values c8], .lit b2 (o3) [vS (t1.Letters), vL A7 (t1.Values) c8, vL A10 (t1.Counts) c11, vI (t1.Blanks)], .dat (ptrRep TileSetRep) t1 [vP b2 o3]] ∧ R64 i43 ∧ R64 n45) ?_ ?_
        · exact ⟨t1.Blanks, 0, rfl, hf.keep ⟨rfl, rfl, rfl, rfl, trivial⟩, hM.pick [0, 1, 2, 3] rfl, hv13, (R64_lit rfl)⟩
        · rintro s o52 a w47 ⟨i43, n45, rfl, hf, hM, hv44, hv46⟩ h53 hd54
          replace h53 : m_spec_l02Ok_l1 t1 i43 n45 = some o52 := h53
          unfold m_spec_l02Ok_l1 at h53
          refine wp_seq ?_
          refine wp_seq ?_
          refine region_pl ?_
          refine q_ hf rfl rfl rfl (e_move hf rfl) fun a hf => ?_
          refine q_ hf rfl rfl rfl (e_move hf rfl) fun a hf => ?_
          refine q_ hf rfl rfl rfl (e_lt hf (x := n45) (y := (t1.Letters.length : Int)) rfl rfl) fun a hf => ?_
          refine pl_nil ?_
          refine then_n ?_
          rcases cond_some h53 with ⟨hc55, h53⟩ | ⟨hc55, h53⟩
          · refine cond_t hf rfl hc55 ?_
            refine wp_skip ?_
            refine then_n ?_
            refine wp_seq ?_
            refine wp_block ?_
            refine wp_seq ?_
            obtain ⟨x58, h59, h53⟩ := bind_some h53
            refine seq_join (fun a w => ∃ (t56 : Bool), t56 = x58 ∧ Has 110 a [(0, vP b2 (o3)), (3, vI ((t1.Letters.length : Int))), (4, vI (i43)), (5, vI (n45)), (98, .bool (t56))] ∧ Mem C w [] [.dat (sliceRep intRep) t1.Counts [vL A10 t1.Counts c11], .dat (sliceRep intRep) t1.Values [vL A7 t1.Values c8], .lit b2 (o3) [vS (t1.Letters), vL A7 (t1.Values) c8, vL A10 (t1.Counts) c11, vI (t1.Blanks)], .dat (ptrRep TileSetRep) t1 [vP b2 o3]]) ?_ ?_
            · obtain ⟨w60, hw⟩ : ∃ x, x = w47.drew := ⟨_, rfl⟩
              refine region_pi (.q 0 (.q 1 (.q 2 (.q 3 (.q 4 (.q 5 (.l 6 (.q 7 (.q 8 (.q 9 (.q 10 (.q 11 (.q 12 (.q 13 (.q 14 (.q 15 (.q 16 (.q 17 (.q 18 (.q 19 (.q 20 (.q 21 (.q 22 (.q 23 (.q 24 (.q 25 (.q 26 (.q 27 (.q 28 (.q 29 (.q 30 (.q 31 (.q 32 (.q 33 (.q 34 (.q 35 (.l 36 (.q 37 (.q 38 (.q 39 (.q 40 (.q 41 (.q 42 (.q 43 (.q 44 (.q 45 (.q 46 (.l 47 (.q 48 (.q 49 (.nil))))))))))))))))))))))))))))))))))))))))))))))))))) (Ext w60) rfl (by kernel_rfl) ?_
              have hM := hM.drew
              rw [← hw] at hM ⊢
              clear hw
              refine pi_q hf rfl rfl rfl rfl (Ext.refl _) (e_move hf rfl) fun a hf => ?_
              refine pi_q hf rfl rfl rfl rfl (Ext.refl _) (e_nil hf rfl) fun a hf => ?_
              refine pi_q hf rfl rfl rfl rfl (Ext.refl _) (e_field hf rfl Try.underlying28 rfl Try.sizeOf9 (o' := o3 + 0) rfl) fun a hf => ?_
              refine pi_q hf rfl rfl rfl rfl (Ext.refl _) (e_load1 hf rfl Try.isAgg9 (hM.litCell (k := 2) (j := 0) rfl rfl rfl)) fun a hf => ?_
              refine pi_q hf rfl rfl rfl rfl (Ext.refl _) (e_move hf rfl) fun a hf => ?_
              obtain ⟨c61, hz62, h59⟩ := bind_some h59
              refine pi_q hf rfl rfl rfl rfl (Ext.refl _) (e_indexS hf (x := t1.Letters) rfl rfl Try.underlying9 hz62) fun a hf => ?_
              refine pi_one ?_
              obtain ⟨y63, hz64, h59⟩ := bind_some h59
              refine pi_l hf rfl rfl rfl rfl (w_call hf Try.call57 rfl (r_spec_l01Small ⟨_, Sh C _ _, none_, hM.sh_lt, none_not⟩ c61 _ hz64) ?_)
              rintro _ w65 ⟨rfl, hM2⟩
              obtain ⟨hM, hx66, hup67⟩ := hM.back hM2
              dsimp only [List.cons_append, List.nil_append] at hM hup67
              clear hM2
              refine ⟨_, rfl, Ext w65, fun _ h => Ext.trans hx66 h, Ext.refl _, fun a hf => ?_⟩
              refine pi_q hf rfl rfl rfl rfl (Ext.refl _) (e_not hf rfl) fun a hf => ?_
              refine pi_q hf rfl rfl rfl rfl (Ext.refl _) (e_move hf rfl) fun a hf => ?_
              rcases cond_some h59 with ⟨hc68, h59⟩ | ⟨hc68, h59⟩
              · refine pi_gs hf rfl (wanted_f hf rfl rfl rfl rfl hc68) rfl rfl (Ext.refl _) fun a hf => ?_
                refine pi_gs hf rfl (wanted_f hf rfl rfl rfl rfl hc68) rfl rfl (Ext.refl _) fun a hf => ?_
                refine pi_gs hf rfl (wanted_f hf rfl rfl rfl rfl hc68) rfl rfl (Ext.refl _) fun a hf => ?_
                refine pi_gs hf rfl (wanted_u hf rfl rfl rfl rfl) rfl rfl (Ext.refl _) fun a hf => ?_
                refine pi_gs hf rfl (wanted_u hf rfl rfl rfl rfl) rfl rfl (Ext.refl _) fun a hf => ?_
                refine pi_gs hf rfl (wanted_u hf rfl rfl rfl rfl) rfl rfl (Ext.refl _) fun a hf => ?_
                refine pi_gs hf rfl (wanted_u hf rfl rfl rfl rfl) rfl rfl (Ext.refl _) fun a hf => ?_
                refine pi_gs hf rfl (wanted_u hf rfl rfl rfl rfl) rfl rfl (Ext.refl _) fun a hf => ?_
                refine pi_gs hf rfl (wanted_u hf rfl rfl rfl rfl) rfl rfl (Ext.refl _) fun a hf => ?_
                refine pi_gs hf rfl (wanted_u hf rfl rfl rfl rfl) rfl rfl (Ext.refl _) fun a hf => ?_
                refine pi_gs hf rfl (wanted_u hf rfl rfl rfl rfl) rfl rfl (Ext.refl _) fun a hf => ?_
                refine pi_gs hf rfl (wanted_u hf rfl rfl rfl rfl) rfl rfl (Ext.refl _) fun a hf => ?_
                refine pi_gs hf rfl (wanted_u hf rfl rfl rfl rfl) rfl rfl (Ext.refl _) fun a hf => ?_
                refine pi_gs hf rfl (wanted_u hf rfl rfl rfl rfl) rfl rfl (Ext.refl _) fun a hf => ?_
                refine pi_gs hf rfl (wanted_u hf rfl rfl rfl rfl) rfl rfl (Ext.refl _) fun a hf => ?_
                refine pi_gs hf rfl (wanted_u hf rfl rfl rfl rfl) rfl rfl (Ext.refl _) fun a hf => ?_
                refine pi_gs hf rfl (wanted_u hf rfl rfl rfl rfl) rfl rfl (Ext.refl _) fun a hf => ?_
                refine pi_gs hf rfl (wanted_f hf rfl rfl rfl rfl hc68) rfl rfl (Ext.refl _) fun a hf => ?_
                refine pi_q hf rfl rfl rfl rfl (Ext.refl _) (e_pick_t hf rfl hc68 rfl) fun a hf => ?_
                refine pi_q hf rfl rfl rfl rfl (Ext.refl _) (e_move hf rfl) fun a hf => ?_
                refine pi_gs hf rfl (wanted_f hf rfl rfl rfl rfl rfl) rfl rfl (Ext.refl _) fun a hf => ?_
                refine pi_gs hf rfl (wanted_f hf rfl rfl rfl rfl rfl) rfl rfl (Ext.refl _) fun a hf => ?_
                refine pi_gs hf rfl (wanted_f hf rfl rfl rfl rfl rfl) rfl rfl (Ext.refl _) fun a hf => ?_
                refine pi_gs hf rfl (wanted_f hf rfl rfl rfl rfl rfl) rfl rfl (Ext.refl _) fun a hf => ?_
                refine pi_gs hf rfl (wanted_f hf rfl rfl rfl rfl rfl) rfl rfl (Ext.refl _) fun a hf => ?_
                refine pi_gs hf rfl (wanted_f hf rfl rfl rfl rfl rfl) rfl rfl (Ext.refl _) fun a hf => ?_
                refine pi_gs hf rfl (wanted_f hf rfl rfl rfl rfl rfl) rfl rfl (Ext.refl _) fun a hf => ?_
                refine pi_one ?_
                refine pi_ls hf rfl (wanted_f hf rfl rfl rfl rfl rfl) rfl rfl (Ext.refl _) fun a hf => ?_
                refine pi_gs hf rfl (wanted_f hf rfl rfl rfl rfl rfl) rfl rfl (Ext.refl _) fun a hf => ?_
                refine pi_q hf rfl rfl rfl rfl (Ext.refl _) (e_pick_t hf rfl rfl rfl) fun a hf => ?_
                refine pi_q hf rfl rfl rfl rfl (Ext.refl _) (e_move hf rfl) fun a hf => ?_
                refine pi_gs hf rfl (wanted_f hf rfl rfl rfl rfl rfl) rfl rfl (Ext.refl _) fun a hf => ?_
                refine pi_gs hf rfl (wanted_f hf rfl rfl rfl rfl rfl) rfl rfl (Ext.refl _) fun a hf => ?_
                refine pi_gs hf rfl (wanted_f hf rfl rfl rfl rfl rfl) rfl rfl (Ext.refl _) fun a hf => ?_
                refine pi_gs hf rfl (wanted_f hf rfl rfl rfl rfl rfl) rfl rfl (Ext.refl _) fun a hf => ?_
                refine pi_gs hf rfl (wanted_f hf rfl rfl rfl rfl rfl) rfl rfl (Ext.refl _) fun a hf => ?_
                refine pi_gs hf rfl (wanted_f hf rfl rfl rfl rfl rfl) rfl rfl (Ext.refl _) fun a hf => ?_
                refine pi_gs hf rfl (wanted_f hf rfl rfl rfl rfl rfl) rfl rfl (Ext.refl _) fun a hf => ?_
                refine pi_one ?_
                refine pi_ls hf rfl (wanted_f hf rfl rfl rfl rfl rfl) rfl rfl (Ext.refl _) fun a hf => ?_
                refine pi_gs hf rfl (wanted_f hf rfl rfl rfl rfl rfl) rfl rfl (Ext.refl _) fun a hf => ?_
                refine pi_q hf rfl rfl rfl rfl (Ext.refl _) (e_pick_t hf rfl rfl rfl) fun a hf => ?_
                refine pi_nil ?_
                obtain rfl := some_inj h59
                refine then_n ?_
                exact ⟨true, rfl, hf.keep ⟨rfl, rfl, rfl, rfl, rfl, trivial⟩, hM.pick [0, 1, 2, 3] rfl⟩
              · refine pi_gq hf rfl (wanted_t hf rfl rfl rfl rfl hc68) rfl rfl (Ext.refl _) (e_move hf rfl) fun a hf => ?_
                refine pi_gq hf rfl (wanted_t hf rfl rfl rfl rfl hc68) rfl rfl (Ext.refl _) (e_gt hf (x := n45) (y := 0) rfl rfl) fun a hf => ?_
                refine pi_gq hf rfl (wanted_t hf rfl rfl rfl rfl hc68) rfl rfl (Ext.refl _) (e_move hf rfl) fun a hf => ?_
                rcases cond_some h59 with ⟨hc70, h59⟩ | ⟨hc70, h59⟩
                · refine pi_gq hf rfl (wanted_t hf rfl rfl rfl rfl hc70) rfl rfl (Ext.refl _) (e_move hf rfl) fun a hf => ?_
                  refine pi_gq hf rfl (wanted_t hf rfl rfl rfl rfl hc70) rfl rfl (Ext.refl _) (e_nil hf rfl) fun a hf => ?_
                  refine pi_gq hf rfl (wanted_t hf rfl rfl rfl rfl hc70) rfl rfl (Ext.refl _) (e_field hf rfl Try.underlying28 rfl Try.sizeOf9 (o' := o3 + 0) rfl) fun a hf => ?_
                  refine pi_gq hf rfl (wanted_t hf rfl rfl rfl rfl hc70) rfl rfl (Ext.refl _) (e_load1 hf rfl Try.isAgg9 (hM.litCell (k := 2) (j := 0) rfl rfl rfl)) fun a hf => ?_
                  refine pi_gq hf rfl (wanted_t hf rfl rfl rfl rfl hc70) rfl rfl (Ext.refl _) (e_move hf rfl) fun a hf => ?_
                  obtain ⟨c71, hz72, h59⟩ := bind_some h59
                  refine pi_gq hf rfl (wanted_t hf rfl rfl rfl rfl hc70) rfl rfl (Ext.refl _) (e_indexS hf (x := t1.Letters) rfl rfl Try.underlying9 hz72) fun a hf => ?_
                  refine pi_gq hf rfl (wanted_t hf rfl rfl rfl rfl hc70) rfl rfl (Ext.refl _) (e_move hf rfl) fun a hf => ?_
                  refine pi_gq hf rfl (wanted_t hf rfl rfl rfl rfl hc70) rfl rfl (Ext.refl _) (e_nil hf rfl) fun a hf => ?_
                  refine pi_gq hf rfl (wanted_t hf rfl rfl rfl rfl hc70) rfl rfl (Ext.refl _) (e_field hf rfl Try.underlying28 rfl Try.sizeOf9 (o' := o3 + 0) rfl) fun a hf => ?_
                  refine pi_gq hf rfl (wanted_t hf rfl rfl rfl rfl hc70) rfl rfl (Ext.refl _) (e_load1 hf rfl Try.isAgg9 (hM.litCell (k := 2) (j := 0) rfl rfl rfl)) fun a hf => ?_
                  refine pi_gq hf rfl (wanted_t hf rfl rfl rfl rfl hc70) rfl rfl (Ext.refl _) (e_move hf rfl) fun a hf => ?_
                  obtain ⟨z73, hz74, h59⟩ := bind_some h59
                  refine pi_gq hf rfl (wanted_t hf rfl rfl rfl rfl hc70) rfl rfl (Ext.refl _) (e_sub hf rfl rfl hz74) fun a hf => ?_
                  obtain ⟨c75, hz76, h59⟩ := bind_some h59
                  refine pi_gq hf rfl (wanted_t hf rfl rfl rfl rfl hc70) rfl rfl (Ext.refl _) (e_indexS hf (x := t1.Letters) rfl rfl Try.underlying9 hz76) fun a hf => ?_
                  refine pi_gq hf rfl (wanted_t hf rfl rfl rfl rfl hc70) rfl rfl (Ext.refl _) (e_leB hf (x := c71) (y := c75) rfl rfl) fun a hf => ?_
                  refine pi_gq hf rfl (wanted_t hf rfl rfl rfl rfl hc68) rfl rfl (Ext.refl _) (e_pick_t hf rfl hc70 rfl) fun a hf => ?_
                  refine pi_q hf rfl rfl rfl rfl (Ext.refl _) (e_pick_f hf rfl hc68 rfl) fun a hf => ?_
                  refine pi_q hf rfl rfl rfl rfl (Ext.refl _) (e_move hf rfl) fun a hf => ?_
                  rcases cond_some h59 with ⟨hc77, h59⟩ | ⟨hc77, h59⟩
                  · refine pi_gs hf rfl (wanted_f hf rfl rfl rfl rfl hc77) rfl rfl (Ext.refl _) fun a hf => ?_
                    refine pi_gs hf rfl (wanted_f hf rfl rfl rfl rfl hc77) rfl rfl (Ext.refl _) fun a hf => ?_
                    refine pi_gs hf rfl (wanted_f hf rfl rfl rfl rfl hc77) rfl rfl (Ext.refl _) fun a hf => ?_
                    refine pi_gs hf rfl (wanted_f hf rfl rfl rfl rfl hc77) rfl rfl (Ext.refl _) fun a hf => ?_
                    refine pi_gs hf rfl (wanted_f hf rfl rfl rfl rfl hc77) rfl rfl (Ext.refl _) fun a hf => ?_
                    refine pi_gs hf rfl (wanted_f hf rfl rfl rfl rfl hc77) rfl rfl (Ext.refl _) fun a hf => ?_
                    refine pi_gs hf rfl (wanted_f hf rfl rfl rfl rfl hc77) rfl rfl (Ext.refl _) fun a hf => ?_
                    refine pi_one ?_
                    refine pi_ls hf rfl (wanted_f hf rfl rfl rfl rfl hc77) rfl rfl (Ext.refl _) fun a hf => ?_
                    refine pi_gs hf rfl (wanted_f hf rfl rfl rfl rfl hc77) rfl rfl (Ext.refl _) fun a hf => ?_
                    refine pi_q hf rfl rfl rfl rfl (Ext.refl _) (e_pick_t hf rfl hc77 rfl) fun a hf => ?_
                    refine pi_q hf rfl rfl rfl rfl (Ext.refl _) (e_move hf rfl) fun a hf => ?_
                    refine pi_gs hf rfl (wanted_f hf rfl rfl rfl rfl rfl) rfl rfl (Ext.refl _) fun a hf => ?_
                    refine pi_gs hf rfl (wanted_f hf rfl rfl rfl rfl rfl) rfl rfl (Ext.refl _) fun a hf => ?_
                    refine pi_gs hf rfl (wanted_f hf rfl rfl rfl rfl rfl) rfl rfl (Ext.refl _) fun a hf => ?_
                    refine pi_gs hf rfl (wanted_f hf rfl rfl rfl rfl rfl) rfl rfl (Ext.refl _) fun a hf => ?_
                    refine pi_gs hf rfl (wanted_f hf rfl rfl rfl rfl rfl) rfl rfl (Ext.refl _) fun a hf => ?_
                    refine pi_gs hf rfl (wanted_f hf rfl rfl rfl rfl rfl) rfl rfl (Ext.refl _) fun a hf => ?_
                    refine pi_gs hf rfl (wanted_f hf rfl rfl rfl rfl rfl) rfl rfl (Ext.refl _) fun a hf => ?_
                    refine pi_one ?_
                    refine pi_ls hf rfl (wanted_f hf rfl rfl rfl rfl rfl) rfl rfl (Ext.refl _) fun a hf => ?_
                    refine pi_gs hf rfl (wanted_f hf rfl rfl rfl rfl rfl) rfl rfl (Ext.refl _) fun a hf => ?_
                    refine pi_q hf rfl rfl rfl rfl (Ext.refl _) (e_pick_t hf rfl rfl rfl) fun a hf => ?_
                    refine pi_nil ?_
                    obtain rfl := some_inj h59
                    refine then_n ?_
                    exact ⟨true, rfl, hf.keep ⟨rfl, rfl, rfl, rfl, rfl, trivial⟩, hM.pick [0, 1, 2, 3] rfl⟩
                  · refine pi_gq hf rfl (wanted_t hf rfl rfl rfl rfl hc77) rfl rfl (Ext.refl _) (e_move hf rfl) fun a hf => ?_
                    refine pi_gq hf rfl (wanted_t hf rfl rfl rfl rfl hc77) rfl rfl (Ext.refl _) (e_nil hf rfl) fun a hf => ?_
                    refine pi_gq hf rfl (wanted_t hf rfl rfl rfl rfl hc77) rfl rfl (Ext.refl _) (e_field hf rfl Try.underlying28 rfl Try.sizeOf22 (o' := o3 + 1) rfl) fun a hf => ?_
                    refine pi_gq hf rfl (wanted_t hf rfl rfl rfl rfl hc77) rfl rfl (Ext.refl _) (e_load1 hf rfl Try.isAgg22 (hM.litCell (k := 2) (j := 1) rfl rfl rfl)) fun a hf => ?_
                    refine pi_gq hf rfl (wanted_t hf rfl rfl rfl rfl hc77) rfl rfl (Ext.refl _) (e_move hf rfl) fun a hf => ?_
                    obtain ⟨e79, hz80, h59⟩ := bind_some h59
                    obtain ⟨b84, o85, _, hA86, h81, h82, hr83, hM⟩ := hM.elem (hM.dat (k := 1) rfl) (n := 1) rfl hz80
                    obtain ⟨rfl, hv87⟩ := hr83
                    refine pi_gq hf rfl (wanted_t hf rfl rfl rfl rfl hc77) rfl rfl (Ext.refl _) (e_indexAddr (A := A7) (b := b84) (o := o85) (xs := t1.Values) (i := n45) hf hA86 rfl rfl Try.underlying22 Try.sizeOf2 h81 h82) fun a hf => ?_
                    refine pi_gq hf rfl (wanted_t hf rfl rfl rfl rfl hc77) rfl rfl (Ext.refl _) (e_load1 hf rfl Try.isAgg2 (hM.litCell (k := 0) (j := 0) rfl rfl rfl)) fun a hf => ?_
                    refine pi_one ?_
                    obtain ⟨y88, hz89, h59⟩ := bind_some h59
                    refine pi_gl hf rfl (wanted_t hf rfl rfl rfl rfl hc77) rfl rfl (w_call hf Try.call56 rfl (r_spec_l00In ⟨_, Sh C _ _, none_, hM.sh_lt, none_not⟩ e79 hv87 0 (R64_lit rfl) 20 (R64_lit rfl) _ hz89) ?_)
                    rintro _ w90 ⟨rfl, hM2⟩
                    obtain ⟨hM, hx91, hup92⟩ := hM.back hM2
                    dsimp only [List.cons_append, List.nil_append] at hM hup92
                    clear hM2
                    refine ⟨_, rfl, Ext w90, fun _ h => Ext.trans hx91 h, Ext.refl _, fun a hf => ?_⟩
                    refine pi_gq hf rfl (wanted_t hf rfl rfl rfl rfl hc77) rfl rfl (Ext.refl _) (e_not hf rfl) fun a hf => ?_
                    refine pi_q hf rfl rfl rfl rfl (Ext.refl _) (e_pick_f hf rfl hc77 rfl) fun a hf => ?_
                    refine pi_q hf rfl rfl rfl rfl (Ext.refl _) (e_move hf rfl) fun a hf => ?_
                    rcases cond_some h59 with ⟨hc93, h59⟩ | ⟨hc93, h59⟩
                    · refine pi_gs hf rfl (wanted_f hf rfl rfl rfl rfl hc93) rfl rfl (Ext.refl _) fun a hf => ?_
                      refine pi_gs hf rfl (wanted_f hf rfl rfl rfl rfl hc93) rfl rfl (Ext.refl _) fun a hf => ?_
                      refine pi_gs hf rfl (wanted_f hf rfl rfl rfl rfl hc93) rfl rfl (Ext.refl _) fun a hf => ?_
                      refine pi_gs hf rfl (wanted_f hf rfl rfl rfl rfl hc93) rfl rfl (Ext.refl _) fun a hf => ?_
                      refine pi_gs hf rfl (wanted_f hf rfl rfl rfl rfl hc93) rfl rfl (Ext.refl _) fun a hf => ?_
                      refine pi_gs hf rfl (wanted_f hf rfl rfl rfl rfl hc93) rfl rfl (Ext.refl _) fun a hf => ?_
                      refine pi_gs hf rfl (wanted_f hf rfl rfl rfl rfl hc93) rfl rfl (Ext.refl _) fun a hf => ?_
                      refine pi_one ?_
                      refine pi_ls hf rfl (wanted_f hf rfl rfl rfl rfl hc93) rfl rfl (Ext.refl _) fun a hf => ?_
                      refine pi_gs hf rfl (wanted_f hf rfl rfl rfl rfl hc93) rfl rfl (Ext.refl _) fun a hf => ?_
                      refine pi_q hf rfl rfl rfl rfl (Ext.refl _) (e_pick_t hf rfl hc93 rfl) fun a hf => ?_
                      refine pi_nil ?_
                      obtain rfl := some_inj h59
                      refine then_n ?_
                      exact ⟨true, rfl, hf.keep ⟨rfl, rfl, rfl, rfl, rfl, trivial⟩, hM.pick [1, 2, 3, 4] rfl⟩
                    · refine pi_gq hf rfl (wanted_t hf rfl rfl rfl rfl hc93) rfl rfl (Ext.refl _) (e_move hf rfl) fun a hf => ?_
                      refine pi_gq hf rfl (wanted_t hf rfl rfl rfl rfl hc93) rfl rfl (Ext.refl _) (e_nil hf rfl) fun a hf => ?_
                      refine pi_gq hf rfl (wanted_t hf rfl rfl rfl rfl hc93) rfl rfl (Ext.refl _) (e_field hf rfl Try.underlying28 rfl Try.sizeOf22 (o' := o3 + 2) rfl) fun a hf => ?_
                      refine pi_gq hf rfl (wanted_t hf rfl rfl rfl rfl hc93) rfl rfl (Ext.refl _) (e_load1 hf rfl Try.isAgg22 (hM.litCell (k := 3) (j := 2) rfl rfl rfl)) fun a hf => ?_
                      refine pi_gq hf rfl (wanted_t hf rfl rfl rfl rfl hc93) rfl rfl (Ext.refl _) (e_move hf rfl) fun a hf => ?_
                      obtain ⟨e95, hz96, h59⟩ := bind_some h59
                      obtain ⟨b100, o101, _, hA102, h97, h98, hr99, hM⟩ := hM.elem (hM.dat (k := 1) rfl) (n := 1) rfl hz96
                      obtain ⟨rfl, hv103⟩ := hr99
                      refine pi_gq hf rfl (wanted_t hf rfl rfl rfl rfl hc93) rfl rfl (Ext.refl _) (e_indexAddr (A := A10) (b := b100) (o := o101) (xs := t1.Counts) (i := n45) hf hA102 rfl rfl Try.underlying22 Try.sizeOf2 h97 h98) fun a hf => ?_
                      refine pi_gq hf rfl (wanted_t hf rfl rfl rfl rfl hc93) rfl rfl (Ext.refl _) (e_load1 hf rfl Try.isAgg2 (hM.litCell (k := 0) (j := 0) rfl rfl rfl)) fun a hf => ?_
                      refine pi_one ?_
                      obtain ⟨y104, hz105, h59⟩ := bind_some h59
                      refine pi_gl hf rfl (wanted_t hf rfl rfl rfl rfl hc93) rfl rfl (w_call hf Try.call56 rfl (r_spec_l00In ⟨_, Sh C _ _, none_, hM.sh_lt, none_not⟩ e95 hv103 1 (R64_lit rfl) 20 (R64_lit rfl) _ hz105) ?_)
                      rintro _ w106 ⟨rfl, hM2⟩
                      obtain ⟨hM, hx107, hup108⟩ := hM.back hM2
                      dsimp only [List.cons_append, List.nil_append] at hM hup108
                      clear hM2
                      refine ⟨_, rfl, Ext w106, fun _ h => Ext.trans hx107 h, Ext.refl _, fun a hf => ?_⟩
                      refine pi_gq hf rfl (wanted_t hf rfl rfl rfl rfl hc93) rfl rfl (Ext.refl _) (e_not hf rfl) fun a hf => ?_
                      refine pi_q hf rfl rfl rfl rfl (Ext.refl _) (e_pick_f hf rfl hc93 rfl) fun a hf => ?_
                      refine pi_nil ?_
                      obtain rfl := some_inj h59
                      refine then_n ?_
                      exact ⟨(!y104), rfl, hf.keep ⟨rfl, rfl, rfl, rfl, rfl, trivial⟩, hM.pick [2, 3, 4, 5] rfl⟩
                · refine pi_gs hf rfl (wanted_f hf rfl rfl rfl rfl hc70) rfl rfl (Ext.refl _) fun a hf => ?_
                  refine pi_gs hf rfl (wanted_f hf rfl rfl rfl rfl hc70) rfl rfl (Ext.refl _) fun a hf => ?_
                  refine pi_gs hf rfl (wanted_f hf rfl rfl rfl rfl hc70) rfl rfl (Ext.refl _) fun a hf => ?_
                  refine pi_gs hf rfl (wanted_f hf rfl rfl rfl rfl hc70) rfl rfl (Ext.refl _) fun a hf => ?_
                  refine pi_gs hf rfl (wanted_f hf rfl rfl rfl rfl hc70) rfl rfl (Ext.refl _) fun a hf => ?_
                  refine pi_gs hf rfl (wanted_f hf rfl rfl rfl rfl hc70) rfl rfl (Ext.refl _) fun a hf => ?_
                  refine pi_gs hf rfl (wanted_f hf rfl rfl rfl rfl hc70) rfl rfl (Ext.refl _) fun a hf => ?_
                  refine pi_gs hf rfl (wanted_f hf rfl rfl rfl rfl hc70) rfl rfl (Ext.refl _) fun a hf => ?_
                  refine pi_gs hf rfl (wanted_f hf rfl rfl rfl rfl hc70) rfl rfl (Ext.refl _) fun a hf => ?_
                  refine pi_gs hf rfl (wanted_f hf rfl rfl rfl rfl hc70) rfl rfl (Ext.refl _) fun a hf => ?_
                  refine pi_gs hf rfl (wanted_f hf rfl rfl rfl rfl hc70) rfl rfl (Ext.refl _) fun a hf => ?_
                  refine pi_gs hf rfl (wanted_f hf rfl rfl rfl rfl hc70) rfl rfl (Ext.refl _) fun a hf => ?_
                  refine pi_gs hf rfl (wanted_f hf rfl rfl rfl rfl hc70) rfl rfl (Ext.refl _) fun a hf => ?_
                  refine pi_gs hf rfl (wanted_f hf rfl rfl rfl rfl hc70) rfl rfl (Ext.refl _) fun a hf => ?_
                  refine pi_gq hf rfl (wanted_t hf rfl rfl rfl rfl hc68) rfl rfl (Ext.refl _) (e_pick_f hf rfl hc70 rfl) fun a hf => ?_
                  refine pi_q hf rfl rfl rfl rfl (Ext.refl _) (e_pick_f hf rfl hc68 rfl) fun a hf => ?_
                  refine pi_q hf rfl rfl rfl rfl (Ext.refl _) (e_move hf rfl) fun a hf => ?_
                  refine pi_gq hf rfl (wanted_t hf rfl rfl rfl rfl rfl) rfl rfl (Ext.refl _) (e_move hf rfl) fun a hf => ?_
                  refine pi_gq hf rfl (wanted_t hf rfl rfl rfl rfl rfl) rfl rfl (Ext.refl _) (e_nil hf rfl) fun a hf => ?_
                  refine pi_gq hf rfl (wanted_t hf rfl rfl rfl rfl rfl) rfl rfl (Ext.refl _) (e_field hf rfl Try.underlying28 rfl Try.sizeOf22 (o' := o3 + 1) rfl) fun a hf => ?_
                  refine pi_gq hf rfl (wanted_t hf rfl rfl rfl rfl rfl) rfl rfl (Ext.refl _) (e_load1 hf rfl Try.isAgg22 (hM.litCell (k := 2) (j := 1) rfl rfl rfl)) fun a hf => ?_
                  refine pi_gq hf rfl (wanted_t hf rfl rfl rfl rfl rfl) rfl rfl (Ext.refl _) (e_move hf rfl) fun a hf => ?_
                  obtain ⟨e110, hz111, h59⟩ := bind_some h59
                  obtain ⟨b115, o116, _, hA117, h112, h113, hr114, hM⟩ := hM.elem (hM.dat (k := 1) rfl) (n := 1) rfl hz111
                  obtain ⟨rfl, hv118⟩ := hr114
                  refine pi_gq hf rfl (wanted_t hf rfl rfl rfl rfl rfl) rfl rfl (Ext.refl _) (e_indexAddr (A := A7) (b := b115) (o := o116) (xs := t1.Values) (i := n45) hf hA117 rfl rfl Try.underlying22 Try.sizeOf2 h112 h113) fun a hf => ?_
                  refine pi_gq hf rfl (wanted_t hf rfl rfl rfl rfl rfl) rfl rfl (Ext.refl _) (e_load1 hf rfl Try.isAgg2 (hM.litCell (k := 0) (j := 0) rfl rfl rfl)) fun a hf => ?_
                  refine pi_one ?_
                  obtain ⟨y119, hz120, h59⟩ := bind_some h59
                  refine pi_gl hf rfl (wanted_t hf rfl rfl rfl rfl rfl) rfl rfl (w_call hf Try.call56 rfl (r_spec_l00In ⟨_, Sh C _ _, none_, hM.sh_lt, none_not⟩ e110 hv118 0 (R64_lit rfl) 20 (R64_lit rfl) _ hz120) ?_)
                  rintro _ w121 ⟨rfl, hM2⟩
                  obtain ⟨hM, hx122, hup123⟩ := hM.back hM2
                  dsimp only [List.cons_append, List.nil_append] at hM hup123
                  clear hM2
                  refine ⟨_, rfl, Ext w121, fun _ h => Ext.trans hx122 h, Ext.refl _, fun a hf => ?_⟩
                  refine pi_gq hf rfl (wanted_t hf rfl rfl rfl rfl rfl) rfl rfl (Ext.refl _) (e_not hf rfl) fun a hf => ?_
                  refine pi_q hf rfl rfl rfl rfl (Ext.refl _) (e_pick_f hf rfl rfl rfl) fun a hf => ?_
                  refine pi_q hf rfl rfl rfl rfl (Ext.refl _) (e_move hf rfl) fun a hf => ?_
                  rcases cond_some h59 with ⟨hc124, h59⟩ | ⟨hc124, h59⟩
                  · refine pi_gs hf rfl (wanted_f hf rfl rfl rfl rfl hc124) rfl rfl (Ext.refl _) fun a hf => ?_
                    refine pi_gs hf rfl (wanted_f hf rfl rfl rfl rfl hc124) rfl rfl (Ext.refl _) fun a hf => ?_
                    refine pi_gs hf rfl (wanted_f hf rfl rfl rfl rfl hc124) rfl rfl (Ext.refl _) fun a hf => ?_
                    refine pi_gs hf rfl (wanted_f hf rfl rfl rfl rfl hc124) rfl rfl (Ext.refl _) fun a hf => ?_
                    refine pi_gs hf rfl (wanted_f hf rfl rfl rfl rfl hc124) rfl rfl (Ext.refl _) fun a hf => ?_
                    refine pi_gs hf rfl (wanted_f hf rfl rfl rfl rfl hc124) rfl rfl (Ext.refl _) fun a hf => ?_
                    refine pi_gs hf rfl (wanted_f hf rfl rfl rfl rfl hc124) rfl rfl (Ext.refl _) fun a hf => ?_
                    refine pi_one ?_
                    refine pi_ls hf rfl (wanted_f hf rfl rfl rfl rfl hc124) rfl rfl (Ext.refl _) fun a hf => ?_
                    refine pi_gs hf rfl (wanted_f hf rfl rfl rfl rfl hc124) rfl rfl (Ext.refl _) fun a hf => ?_
                    refine pi_q hf rfl rfl rfl rfl (Ext.refl _) (e_pick_t hf rfl hc124 rfl) fun a hf => ?_
                    refine pi_nil ?_
                    obtain rfl := some_inj h59
                    refine then_n ?_
                    exact ⟨true, rfl, hf.keep ⟨rfl, rfl, rfl, rfl, rfl, trivial⟩, hM.pick [1, 2, 3, 4] rfl⟩
                  · refine pi_gq hf rfl (wanted_t hf rfl rfl rfl rfl hc124) rfl rfl (Ext.refl _) (e_move hf rfl) fun a hf => ?_
                    refine pi_gq hf rfl (wanted_t hf rfl rfl rfl rfl hc124) rfl rfl (Ext.refl _) (e_nil hf rfl) fun a hf => ?_
                    refine pi_gq hf rfl (wanted_t hf rfl rfl rfl rfl hc124) rfl rfl (Ext.refl _) (e_field hf rfl Try.underlying28 rfl Try.sizeOf22 (o' := o3 + 2) rfl) fun a hf => ?_
                    refine pi_gq hf rfl (wanted_t hf rfl rfl rfl rfl hc124) rfl rfl (Ext.refl _) (e_load1 hf rfl Try.isAgg22 (hM.litCell (k := 3) (j := 2) rfl rfl rfl)) fun a hf => ?_
                    refine pi_gq hf rfl (wanted_t hf rfl rfl rfl rfl hc124) rfl rfl (Ext.refl _) (e_move hf rfl) fun a hf => ?_
                    obtain ⟨e126, hz127, h59⟩ := bind_some h59
                    obtain ⟨b131, o132, _, hA133, h128, h129, hr130, hM⟩ := hM.elem (hM.dat (k := 1) rfl) (n := 1) rfl hz127
                    obtain ⟨rfl, hv134⟩ := hr130
                    refine pi_gq hf rfl (wanted_t hf rfl rfl rfl rfl hc124) rfl rfl (Ext.refl _) (e_indexAddr (A := A10) (b := b131) (o := o132) (xs := t1.Counts) (i := n45) hf hA133 rfl rfl Try.underlying22 Try.sizeOf2 h128 h129) fun a hf => ?_
                    refine pi_gq hf rfl (wanted_t hf rfl rfl rfl rfl hc124) rfl rfl (Ext.refl _) (e_load1 hf rfl Try.isAgg2 (hM.litCell (k := 0) (j := 0) rfl rfl rfl)) fun a hf => ?_
                    refine pi_one ?_
                    obtain ⟨y135, hz136, h59⟩ := bind_some h59
                    refine pi_gl hf rfl (wanted_t hf rfl rfl rfl rfl hc124) rfl rfl (w_call hf Try.call56 rfl (r_spec_l00In ⟨_, Sh C _ _, none_, hM.sh_lt, none_not⟩ e126 hv134 1 (R64_lit rfl) 20 (R64_lit rfl) _ hz136) ?_)
                    rintro _ w137 ⟨rfl, hM2⟩
                    obtain ⟨hM, hx138, hup139⟩ := hM.back hM2
                    dsimp only [List.cons_append, List.nil_append] at hM hup139
                    clear hM2
                    refine ⟨_, rfl, Ext w137, fun _ h => Ext.trans hx138 h, Ext.refl _, fun a hf => ?_⟩
                    refine pi_gq hf rfl (wanted_t hf rfl rfl rfl rfl hc124) rfl rfl (Ext.refl _) (e_not hf rfl) fun a hf => ?_
                    refine pi_q hf rfl rfl rfl rfl (Ext.refl _) (e_pick_f hf rfl hc124 rfl) fun a hf => ?_
                    refine pi_nil ?_
                    obtain rfl := some_inj h59
                    refine then_n ?_
                    exact ⟨(!y135), rfl, hf.keep ⟨rfl, rfl, rfl, rfl, rfl, trivial⟩, hM.pick [2, 3, 4, 5] rfl⟩
            · rintro a w141 ⟨t56, rfl, hf, hM⟩
              try dsimp only at h53
              rcases cond_some h53 with ⟨hc142, h53⟩ | ⟨hc142, h53⟩
              · refine cond_t hf rfl hc142 ?_
                refine wp_seq ?_
                refine region_pl ?_
                refine q_ hf rfl rfl rfl (e_assign hf rfl) fun a hf => ?_
                refine pl_nil ?_
                refine then_n ?_
                refine wp_ret ?_
                refine then_r ?_
                refine blk_r ?_
                refine then_r ?_
                obtain rfl := some_inj h53
                obtain rfl := hd54 _ rfl
                try dsimp only at h42
                refine then_r ?_
                refine blk_r ?_
                obtain rfl := some_inj h42
                try dsimp only at h
                refine then_r ?_
                obtain rfl := some_inj h
                exact leave1 hf rfl rfl ⟨rfl, hM.fin⟩
              · refine cond_f hf rfl hc142 ?_
                refine wp_skip ?_
                refine then_n ?_
                refine region_pl ?_
                refine q_ hf rfl rfl rfl (e_move hf rfl) fun a hf => ?_
                refine q_ hf rfl rfl rfl (e_move hf rfl) fun a hf => ?_
                refine q_ hf rfl rfl rfl (e_nil hf rfl) fun a hf => ?_
                refine q_ hf rfl rfl rfl (e_field hf rfl Try.underlying28 rfl Try.sizeOf22 (o' := o3 + 2) rfl) fun a hf => ?_
                refine q_ hf rfl rfl rfl (e_load1 hf rfl Try.isAgg22 (hM.litCell (k := 2) (j := 2) rfl rfl rfl)) fun a hf => ?_
                refine q_ hf rfl rfl rfl (e_move hf rfl) fun a hf => ?_
                obtain ⟨e143, hz144, h53⟩ := bind_some h53
                obtain ⟨b148, o149, _, hA150, h145, h146, hr147, hM⟩ := hM.elem (hM.dat (k := 0) rfl) (n := 1) rfl hz144
                obtain ⟨rfl, hv151⟩ := hr147
                refine q_ hf rfl rfl rfl (e_indexAddr (A := A10) (b := b148) (o := o149) (xs := t1.Counts) (i := n45) hf hA150 rfl rfl Try.underlying22 Try.sizeOf2 h145 h146) fun a hf => ?_
                refine q_ hf rfl rfl rfl (e_load1 hf rfl Try.isAgg2 (hM.litCell (k := 0) (j := 0) rfl rfl rfl)) fun a hf => ?_
                obtain ⟨z152, hz153, h53⟩ := bind_some h53
                refine q_ hf rfl rfl rfl (e_add hf rfl rfl hz153) fun a hf => ?_
                refine q_ hf rfl rfl rfl (e_assign hf rfl) fun a hf => ?_
                refine pl_nil ?_
                refine blk_n ?_
                refine then_n ?_
                refine region_pl ?_
                refine q_ hf rfl rfl rfl (e_move hf rfl) fun a hf => ?_
                obtain ⟨z154, hz155, h53⟩ := bind_some h53
                refine q_ hf rfl rfl rfl (e_add hf rfl rfl hz155) fun a hf => ?_
                refine q_ hf rfl rfl rfl (e_assign hf rfl) fun a hf => ?_
                refine pl_nil ?_
                obtain rfl := some_inj h53
                refine then_n ⟨_, rfl, ?_⟩
                exact ⟨z152, z154, rfl, hf.keep ⟨rfl, rfl, rfl, rfl, trivial⟩, hM.pick [1, 2, 3, 4] rfl, (chk_R hz153), (chk_R hz155)⟩
          · refine cond_f hf rfl hc55 ?_
            refine wp_exit ?_
            refine then_x ?_
            obtain rfl := some_inj h53
            obtain rfl := hd54 _ rfl
            try dsimp only at h42
            refine then_x ?_
            refine exit_hit ?_
            obtain rfl := some_inj h42
            refine then_n ?_
            exact ⟨i43, rfl, hf.keep ⟨rfl, trivial⟩, hM.pick [0, 1, 2, 3] rfl, hv44⟩
      · rintro a w162 ⟨i39, rfl, hf, hM, hv40⟩
        try dsimp only at h
        refine wp_seq ?_
        refine region_pl ?_
        refine q_ hf rfl rfl rfl (e_move hf rfl) fun a hf => ?_
        refine q_ hf rfl rfl rfl (e_le hf (x := i39) (y := 120) rfl rfl) fun a hf => ?_
        refine q_ hf rfl rfl rfl (e_assign hf rfl) fun a hf => ?_
        refine pl_nil ?_
        refine then_n ?_
        refine wp_ret ?_
        obtain rfl := some_inj h
        exact leave1 hf rfl rfl ⟨rfl, hM.fin⟩

set_option maxRecDepth 100000 in
set_option maxHeartbeats 4000000 in
theorem r_spec_l03Tile (C : Cx) (c1 : UInt8) (r : Bool) (h : m_spec_l03Tile c1 = some r) :
    Calls Try.prog 73 #[vB (c1)] C.w0 fun e w => e = .returned (.bool (r)) ∧ Mem C w [] [] := by
  have hM := Mem.begin C [] trivial
  refine enter Try.func73 rfl Try.ntmps73 rfl fun a hf => ?_
  unfold m_spec_l03Tile at h
  refine wp_seq ?_
  refine region_pl ?_
  refine q_ hf rfl rfl rfl (e_assign hf rfl) fun a hf => ?_
  refine pl_nil ?_
  refine then_n ?_
  obtain ⟨x4, h5, h⟩ := bind_some h
  refine seq_join (fun a w => ∃ (t2 : Bool), t2 = x4 ∧ Has 9 a [(2, .bool (t2))] ∧ Mem C w [] []) ?_ ?_
  · refine region_pl ?_
    refine q_ hf rfl rfl rfl (e_move hf rfl) fun a hf => ?_
    refine q_ hf rfl rfl rfl (e_eqB hf (x := c1) (y := 63) rfl rfl) fun a hf => ?_
    refine q_ hf rfl rfl rfl (e_move hf rfl) fun a hf => ?_
    rcases cond_some h5 with ⟨hc6, h5⟩ | ⟨hc6, h5⟩
    · refine pl_gs (wanted_f hf rfl rfl rfl rfl hc6) hf rfl rfl fun a hf => ?_
      refine pl_gs (wanted_f hf rfl rfl rfl rfl hc6) hf rfl rfl fun a hf => ?_
      refine q_ hf rfl rfl rfl (e_pick_t hf rfl hc6 rfl) fun a hf => ?_
      refine q_ hf rfl rfl rfl (e_assign hf rfl) fun a hf => ?_
      refine pl_nil ?_
      obtain rfl := some_inj h5
      refine then_n ?_
      exact ⟨true, rfl, hf.keep ⟨rfl, trivial⟩, hM.pick [] rfl⟩
    · refine gq (wanted_t hf rfl rfl rfl rfl hc6) hf rfl rfl (e_move hf rfl) fun a hf => ?_
      obtain ⟨y8, hz9, h5⟩ := bind_some h5
      refine pl_gl (wanted_t hf rfl rfl rfl rfl hc6) hf rfl rfl (w_call hf Try.call57 rfl (r_spec_l01Small ⟨_, Sh C _ _, none_, hM.sh_lt, none_not⟩ c1 _ hz9) ?_)
      rintro _ w10 ⟨rfl, hM2⟩
      obtain ⟨hM, hx11, hup12⟩ := hM.back hM2
      dsimp only [List.cons_append, List.nil_append] at hM hup12
      clear hM2
      refine ⟨_, rfl, fun a hf => ?_⟩
      refine q_ hf rfl rfl rfl (e_pick_f hf rfl hc6 rfl) fun a hf => ?_
      refine q_ hf rfl rfl rfl (e_assign hf rfl) fun a hf => ?_
      refine pl_nil ?_
      obtain rfl := some_inj h5
      refine then_n ?_
      exact ⟨y8, rfl, hf.keep ⟨rfl, trivial⟩, hM.pick [] rfl⟩
  · rintro a w14 ⟨t2, rfl, hf, hM⟩
    try dsimp only at h
    refine wp_ret ?_
    obtain rfl := some_inj h
    exact leave1 hf rfl rfl ⟨rfl, hM.fin⟩

set_option maxRecDepth 100000 in
set_option maxHeartbeats 4000000 in
theorem r_spec_l03Pile (C : Cx) (s1 : Str) (hp2 : s1.length ≤ maxLen) (r : Bool) (h : m_spec_l03Pile s1 = some r) :
    Calls Try.prog 52 #[vS (s1)] C.w0 fun e w => e = .returned (.bool (r)) ∧ Mem C w [] [] := by
  have hM := Mem.begin C [] trivial
  refine enter Try.func52 rfl Try.ntmps52 rfl fun a hf => ?_
  unfold m_spec_l03Pile at h
  refine wp_seq ?_
  refine region_pl ?_
  refine q_ hf rfl rfl rfl (e_assign hf rfl) fun a hf => ?_
  refine pl_nil ?_
  refine then_n ?_
  obtain ⟨x3, h4, h⟩ := bind_some h
  refine seq_join (fun a w => (.inl ()) = x3 ∧ Has 32 a [(0, vS (s1))] ∧ Mem C w [] []) ?_ ?_
  · refine wp_seq ?_
    refine region_pl ?_
    refine q_ hf rfl rfl rfl (e_assign hf rfl) fun a hf => ?_
    refine pl_nil ?_
    refine then_n ?_
    refine wp_block ?_
    obtain ⟨x8, h9, h4⟩ := bind_some h4
    refine wp_loopM h9 (fun s a w => ∃ (n5 : Int), n5 = s ∧ Has 32 a [(0, vS (s1)), (3, vI (n5))] ∧ Mem C w [] [] ∧ R64 n5) ?_ ?_
    · exact ⟨0, rfl, hf.keep ⟨rfl, rfl, trivial⟩, hM.pick [] rfl, (R64_lit rfl)⟩
    · rintro s o10 a w7 ⟨n5, rfl, hf, hM, hv6⟩ h11 hd12
      replace h11 : m_spec_l03Pile_l1 s1 n5 = some o10 := h11
      unfold m_spec_l03Pile_l1 at h11
      refine wp_seq ?_
      refine wp_seq ?_
      refine region_pl ?_
      refine q_ hf rfl rfl rfl (e_move hf rfl) fun a hf => ?_
      refine q_ hf rfl rfl rfl (e_move hf rfl) fun a hf => ?_
      refine q_ hf rfl rfl rfl (e_lenS hf (x := s1) rfl Try.underlying9) fun a hf => ?_
      refine q_ hf rfl rfl rfl (e_lt hf (x := n5) (y := (s1.length : Int)) rfl rfl) fun a hf => ?_
      refine pl_nil ?_
      refine then_n ?_
      rcases cond_some h11 with ⟨hc13, h11⟩ | ⟨hc13, h11⟩
      · refine cond_t hf rfl hc13 ?_
        refine wp_skip ?_
        refine then_n ?_
        refine wp_seq ?_
        refine wp_block ?_
        obtain ⟨x16, h17, h11⟩ := bind_some h11
        refine seq_join (fun a w => ∃ (t14 : Bool), t14 = x16 ∧ Has 32 a [(0, vS (s1)), (3, vI (n5)), (28, .bool (t14))] ∧ Mem C w [] []) ?_ ?_
        · obtain ⟨w18, hw⟩ : ∃ x, x = w7.drew := ⟨_, rfl⟩
          refine region_pi (.q 0 (.q 1 (.q 2 (.l 3 (.q 4 (.q 5 (.q 6 (.q 7 (.q 8 (.q 9 (.q 10 (.q 11 (.q 12 (.q 13 (.q 14 (.q 15 (.q 16 (.q 17 (.q 18 (.nil)))))))))))))))))))) (Ext w18) rfl (by kernel_rfl) ?_
          have hM := hM.drew
          rw [← hw] at hM ⊢
          clear hw
          refine pi_q hf rfl rfl rfl rfl (Ext.refl _) (e_move hf rfl) fun a hf => ?_
          refine pi_q hf rfl rfl rfl rfl (Ext.refl _) (e_move hf rfl) fun a hf => ?_
          obtain ⟨c19, hz20, h17⟩ := bind_some h17
          refine pi_q hf rfl rfl rfl rfl (Ext.refl _) (e_indexS hf (x := s1) rfl rfl Try.underlying9 hz20) fun a hf => ?_
          refine pi_one ?_
          obtain ⟨y21, hz22, h17⟩ := bind_some h17
          refine pi_l hf rfl rfl rfl rfl (w_call hf Try.call73 rfl (r_spec_l03Tile ⟨_, Sh C _ _, none_, hM.sh_lt, none_not⟩ c19 _ hz22) ?_)
          rintro _ w23 ⟨rfl, hM2⟩
          obtain ⟨hM, hx24, hup25⟩ := hM.back hM2
          dsimp only [List.cons_append, List.nil_append] at hM hup25
          clear hM2
          refine ⟨_, rfl, Ext w23, fun _ h => Ext.trans hx24 h, Ext.refl _, fun a hf => ?_⟩
          refine pi_q hf rfl rfl rfl rfl (Ext.refl _) (e_not hf rfl) fun a hf => ?_
          refine pi_q hf rfl rfl rfl rfl (Ext.refl _) (e_move hf rfl) fun a hf => ?_
          rcases cond_some h17 with ⟨hc26, h17⟩ | ⟨hc26, h17⟩
          · refine pi_gs hf rfl (wanted_f hf rfl rfl rfl rfl hc26) rfl rfl (Ext.refl _) fun a hf => ?_
            refine pi_gs hf rfl (wanted_f hf rfl rfl rfl rfl hc26) rfl rfl (Ext.refl _) fun a hf => ?_
            refine pi_gs hf rfl (wanted_f hf rfl rfl rfl rfl hc26) rfl rfl (Ext.refl _) fun a hf => ?_
            refine pi_gs hf rfl (wanted_u hf rfl rfl rfl rfl) rfl rfl (Ext.refl _) fun a hf => ?_
            refine pi_gs hf rfl (wanted_u hf rfl rfl rfl rfl) rfl rfl (Ext.refl _) fun a hf => ?_
            refine pi_gs hf rfl (wanted_u hf rfl rfl rfl rfl) rfl rfl (Ext.refl _) fun a hf => ?_
            refine pi_gs hf rfl (wanted_u hf rfl rfl rfl rfl) rfl rfl (Ext.refl _) fun a hf => ?_
            refine pi_gs hf rfl (wanted_u hf rfl rfl rfl rfl) rfl rfl (Ext.refl _) fun a hf => ?_
            refine pi_gs hf rfl (wanted_u hf rfl rfl rfl rfl) rfl rfl (Ext.refl _) fun a hf => ?_
            refine pi_gs hf rfl (wanted_u hf rfl rfl rfl rfl) rfl rfl (Ext.refl _) fun a hf => ?_
            refine pi_gs hf rfl (wanted_u hf rfl rfl rfl rfl) rfl rfl (Ext.refl _) fun a hf => ?_
            refine pi_gs hf rfl (wanted_f hf rfl rfl rfl rfl hc26) rfl rfl (Ext.refl _) fun a hf => ?_
            refine pi_q hf rfl rfl rfl rfl (Ext.refl _) (e_pick_t hf rfl hc26 rfl) fun a hf => ?_
            refine pi_nil ?_
            obtain rfl := some_inj h17
            refine then_n ?_
            exact ⟨true, rfl, hf.keep ⟨rfl, rfl, rfl, trivial⟩, hM.pick [] rfl⟩
          · refine pi_gq hf rfl (wanted_t hf rfl rfl rfl rfl hc26) rfl rfl (Ext.refl _) (e_move hf rfl) fun a hf => ?_
            refine pi_gq hf rfl (wanted_t hf rfl rfl rfl rfl hc26) rfl rfl (Ext.refl _) (e_gt hf (x := n5) (y := 0) rfl rfl) fun a hf => ?_
            refine pi_gq hf rfl (wanted_t hf rfl rfl rfl rfl hc26) rfl rfl (Ext.refl _) (e_move hf rfl) fun a hf => ?_
            rcases cond_some h17 with ⟨hc28, h17⟩ | ⟨hc28, h17⟩
            · refine pi_gq hf rfl (wanted_t hf rfl rfl rfl rfl hc28) rfl rfl (Ext.refl _) (e_move hf rfl) fun a hf => ?_
              refine pi_gq hf rfl (wanted_t hf rfl rfl rfl rfl hc28) rfl rfl (Ext.refl _) (e_move hf rfl) fun a hf => ?_
              obtain ⟨c29, hz30, h17⟩ := bind_some h17
              refine pi_gq hf rfl (wanted_t hf rfl rfl rfl rfl hc28) rfl rfl (Ext.refl _) (e_indexS hf (x := s1) rfl rfl Try.underlying9 hz30) fun a hf => ?_
              refine pi_gq hf rfl (wanted_t hf rfl rfl rfl rfl hc28) rfl rfl (Ext.refl _) (e_move hf rfl) fun a hf => ?_
              refine pi_gq hf rfl (wanted_t hf rfl rfl rfl rfl hc28) rfl rfl (Ext.refl _) (e_move hf rfl) fun a hf => ?_
              obtain ⟨z31, hz32, h17⟩ := bind_some h17
              refine pi_gq hf rfl (wanted_t hf rfl rfl rfl rfl hc28) rfl rfl (Ext.refl _) (e_sub hf rfl rfl hz32) fun a hf => ?_
              obtain ⟨c33, hz34, h17⟩ := bind_some h17
              refine pi_gq hf rfl (wanted_t hf rfl rfl rfl rfl hc28) rfl rfl (Ext.refl _) (e_indexS hf (x := s1) rfl rfl Try.underlying9 hz34) fun a hf => ?_
              refine pi_gq hf rfl (wanted_t hf rfl rfl rfl rfl hc28) rfl rfl (Ext.refl _) (e_ltB hf (x := c29) (y := c33) rfl rfl) fun a hf => ?_
              refine pi_gq hf rfl (wanted_t hf rfl rfl rfl rfl hc26) rfl rfl (Ext.refl _) (e_pick_t hf rfl hc28 rfl) fun a hf => ?_
              refine pi_q hf rfl rfl rfl rfl (Ext.refl _) (e_pick_f hf rfl hc26 rfl) fun a hf => ?_
              refine pi_nil ?_
              obtain rfl := some_inj h17
              refine then_n ?_
              exact ⟨(decide (c29 < c33)), rfl, hf.keep ⟨rfl, rfl, rfl, trivial⟩, hM.pick [] rfl⟩
            · refine pi_gs hf rfl (wanted_f hf rfl rfl rfl rfl hc28) rfl rfl (Ext.refl _) fun a hf => ?_
              refine pi_gs hf rfl (wanted_f hf rfl rfl rfl rfl hc28) rfl rfl (Ext.refl _) fun a hf => ?_
              refine pi_gs hf rfl (wanted_f hf rfl rfl rfl rfl hc28) rfl rfl (Ext.refl _) fun a hf => ?_
              refine pi_gs hf rfl (wanted_f hf rfl rfl rfl rfl hc28) rfl rfl (Ext.refl _) fun a hf => ?_
              refine pi_gs hf rfl (wanted_f hf rfl rfl rfl rfl hc28) rfl rfl (Ext.refl _) fun a hf => ?_
              refine pi_gs hf rfl (wanted_f hf rfl rfl rfl rfl hc28) rfl rfl (Ext.refl _) fun a hf => ?_
              refine pi_gs hf rfl (wanted_f hf rfl rfl rfl rfl hc28) rfl rfl (Ext.refl _) fun a hf => ?_
              refine pi_gs hf rfl (wanted_f hf rfl rfl rfl rfl hc28) rfl rfl (Ext.refl _) fun a hf => ?_
              refine pi_gq hf rfl (wanted_t hf rfl rfl rfl rfl hc26) rfl rfl (Ext.refl _) (e_pick_f hf rfl hc28 rfl) fun a hf => ?_
              refine pi_q hf rfl rfl rfl rfl (Ext.refl _) (e_pick_f hf rfl hc26 rfl) fun a hf => ?_
              refine pi_nil ?_
              obtain rfl := some_inj h17
              refine then_n ?_
              exact ⟨false, rfl, hf.keep ⟨rfl, rfl, rfl, trivial⟩, hM.pick [] rfl⟩
        · rintro a w37 ⟨t14, rfl, hf, hM⟩
          try dsimp only at h11
          rcases cond_some h11 with ⟨hc38, h11⟩ | ⟨hc38, h11⟩
          · refine cond_t hf rfl hc38 ?_
            refine wp_seq ?_
            refine region_pl ?_
            refine q_ hf rfl rfl rfl (e_assign hf rfl) fun a hf => ?_
            refine pl_nil ?_
            refine then_n ?_
            refine wp_ret ?_
            refine blk_r ?_
            refine then_r ?_
            obtain rfl := some_inj h11
            obtain rfl := hd12 _ rfl
            try dsimp only at h4
            refine then_r ?_
            refine blk_r ?_
            obtain rfl := some_inj h4
            try dsimp only at h
            refine then_r ?_
            obtain rfl := some_inj h
            exact leave1 hf rfl rfl ⟨rfl, hM.fin⟩
          · refine cond_f hf rfl hc38 ?_
            refine wp_skip ?_
            refine blk_n ?_
            refine then_n ?_
            refine region_pl ?_
            refine q_ hf rfl rfl rfl (e_move hf rfl) fun a hf => ?_
            obtain ⟨z39, hz40, h11⟩ := bind_some h11
            refine q_ hf rfl rfl rfl (e_add hf rfl rfl hz40) fun a hf => ?_
            refine q_ hf rfl rfl rfl (e_assign hf rfl) fun a hf => ?_
            refine pl_nil ?_
            obtain rfl := some_inj h11
            refine then_n ⟨_, rfl, ?_⟩
            exact ⟨z39, rfl, hf.keep ⟨rfl, rfl, trivial⟩, hM.pick [] rfl, (chk_R hz40)⟩
      · refine cond_f hf rfl hc13 ?_
        refine wp_exit ?_
        refine then_x ?_
        obtain rfl := some_inj h11
        obtain rfl := hd12 _ rfl
        try dsimp only at h4
        refine then_x ?_
        refine exit_hit ?_
        obtain rfl := some_inj h4
        refine then_n ?_
        exact ⟨rfl, hf.keep ⟨rfl, trivial⟩, hM.pick [] rfl⟩
  · rintro a w47 ⟨rfl, hf, hM⟩
    try dsimp only at h
    refine wp_seq ?_
    refine region_pl ?_
    refine q_ hf rfl rfl rfl (e_move hf rfl) fun a hf => ?_
    refine q_ hf rfl rfl rfl (e_lenS hf (x := s1) rfl Try.underlying9) fun a hf => ?_
    refine q_ hf rfl rfl rfl (e_le hf (x := (s1.length : Int)) (y := 120) rfl rfl) fun a hf => ?_
    refine q_ hf rfl rfl rfl (e_assign hf rfl) fun a hf => ?_
    refine pl_nil ?_
    refine then_n ?_
    refine wp_ret ?_
    obtain rfl := some_inj h
    exact leave1 hf rfl rfl ⟨rfl, hM.fin⟩

set_option maxRecDepth 100000 in
set_option maxHeartbeats 4000000 in
theorem r_spec_l03Rack (C : Cx) (s1 : Str) (hp2 : s1.length ≤ maxLen) (r : Bool) (h : m_spec_l03Rack s1 = some r) :
    Calls Try.prog 29 #[vS (s1)] C.w0 fun e w => e = .returned (.bool (r)) ∧ Mem C w [] [] := by
  have hM := Mem.begin C [] trivial
  refine enter Try.func29 rfl Try.ntmps29 rfl fun a hf => ?_
  unfold m_spec_l03Rack at h
  refine wp_seq ?_
  refine region_pl ?_
  refine q_ hf rfl rfl rfl (e_assign hf rfl) fun a hf => ?_
  refine pl_nil ?_
  refine then_n ?_
  obtain ⟨x5, h6, h⟩ := bind_some h
  refine seq_join (fun a w => ∃ (t3 : Bool), t3 = x5 ∧ Has 10 a [(2, .bool (t3))] ∧ Mem C w [] []) ?_ ?_
  · refine region_pl ?_
    refine q_ hf rfl rfl rfl (e_move hf rfl) fun a hf => ?_
    obtain ⟨y7, hz8, h6⟩ := bind_some h6
    refine pl_l hf rfl rfl rfl (w_call hf Try.call52 rfl (r_spec_l03Pile ⟨_, Sh C _ _, none_, hM.sh_lt, none_not⟩ s1 hp2 _ hz8) ?_)
    rintro _ w9 ⟨rfl, hM2⟩
    obtain ⟨hM, hx10, hup11⟩ := hM.back hM2
    dsimp only [List.cons_append, List.nil_append] at hM hup11
    clear hM2
    refine ⟨_, rfl, fun a hf => ?_⟩
    refine q_ hf rfl rfl rfl (e_move hf rfl) fun a hf => ?_
    rcases cond_some h6 with ⟨hc12, h6⟩ | ⟨hc12, h6⟩
    · refine gq (wanted_t hf rfl rfl rfl rfl hc12) hf rfl rfl (e_move hf rfl) fun a hf => ?_
      refine gq (wanted_t hf rfl rfl rfl rfl hc12) hf rfl rfl (e_lenS hf (x := s1) rfl Try.underlying9) fun a hf => ?_
      refine gq (wanted_t hf rfl rfl rfl rfl hc12) hf rfl rfl (e_le hf (x := (s1.length : Int)) (y := 7) rfl rfl) fun a hf => ?_
      refine q_ hf rfl rfl rfl (e_pick_t hf rfl hc12 rfl) fun a hf => ?_
      refine q_ hf rfl rfl rfl (e_assign hf rfl) fun a hf => ?_
      refine pl_nil ?_
      obtain rfl := some_inj h6
      refine then_n ?_
      exact ⟨(decide ((s1.length : Int) ≤ 7)), rfl, hf.keep ⟨rfl, trivial⟩, hM.pick [] rfl⟩
    · refine pl_gs (wanted_f hf rfl rfl rfl rfl hc12) hf rfl rfl fun a hf => ?_
      refine pl_gs (wanted_f hf rfl rfl rfl rfl hc12) hf rfl rfl fun a hf => ?_
      refine pl_gs (wanted_f hf rfl rfl rfl rfl hc12) hf rfl rfl fun a hf => ?_
      refine q_ hf rfl rfl rfl (e_pick_f hf rfl hc12 rfl) fun a hf => ?_
      refine q_ hf rfl rfl rfl (e_assign hf rfl) fun a hf => ?_
      refine pl_nil ?_
      obtain rfl := some_inj h6
      refine then_n ?_
      exact ⟨false, rfl, hf.keep ⟨rfl, trivial⟩, hM.pick [] rfl⟩
  · rintro a w15 ⟨t3, rfl, hf, hM⟩
    try dsimp only at h
    refine wp_ret ?_
    obtain rfl := some_inj h
    exact leave1 hf rfl rfl ⟨rfl, hM.fin⟩

set_option maxRecDepth 100000 in
set_option maxHeartbeats 4000000 in
theorem r_spec_l02Find (C : Cx) (t1 : TileSet) (b2 : Nat) (o3 : Nat) (hp4 : (ptrRep TileSetRep).R C.w0 C.S0 t1 [vP b2 o3]) (letter5 : UInt8) (r : Int) (h : m_spec_l02Find t1 letter5 = some r) :
    Calls Try.prog 88 #[vP b2 (o3), vB (letter5)] C.w0 fun e w => e = .returned (vI (r)) ∧ Mem C w [] [] ∧ R64 r := by
  have hM := Mem.begin C [.dat (ptrRep TileSetRep) t1 [vP b2 o3]] ⟨hp4, trivial⟩
  refine enter Try.func88 rfl Try.ntmps88 rfl fun a hf => ?_
  unfold m_spec_l02Find at h
  refine wp_seq ?_
  refine region_pl ?_
  refine q_ hf rfl rfl rfl (e_assign hf rfl) fun a hf => ?_
  refine pl_nil ?_
  refine then_n ?_
  obtain ⟨x6, h7, h⟩ := bind_some h
  refine seq_join (fun a w => (.inl ()) = x6 ∧ Has 24 a [] ∧ Mem C w [] [.dat (ptrRep TileSetRep) t1 [vP b2 o3]]) ?_ ?_
  · refine wp_seq ?_
    refine region_pl ?_
    refine q_ hf rfl rfl rfl (e_assign hf rfl) fun a hf => ?_
    refine pl_nil ?_
    refine then_n ?_
    refine wp_block ?_
    obtain ⟨x11, h12, h7⟩ := bind_some h7
    refine wp_loopM h12 (fun s a w => ∃ (n8 : Int), n8 = s ∧ Has 24 a [(0, vP b2 (o3)), (1, vB (letter5)), (5, vI (n8))] ∧ Mem C w [] [.dat (ptrRep TileSetRep) t1 [vP b2 o3]] ∧ R64 n8) ?_ ?_
    · exact ⟨0, rfl, hf.keep ⟨rfl, rfl, rfl, trivial⟩, hM.pick [0] rfl, (R64_lit rfl)⟩
    · rintro s o13 a w10 ⟨n8, rfl, hf, hM, hv9⟩ h14 hd15
      replace h14 : m_spec_l02Find_l1 t1 letter5 n8 = some o13 := h14
      unfold m_spec_l02Find_l1 at h14
      refine wp_seq ?_
      refine wp_seq ?_
      refine region_pl ?_
      refine q_ hf rfl rfl rfl (e_move hf rfl) fun a hf => ?_
      refine q_ hf rfl rfl rfl (e_move hf rfl) fun a hf => ?_
      refine q_ hf rfl rfl rfl (e_nil hf rfl) fun a hf => ?_
      obtain ⟨_, hr16, hM⟩ := hM.deref (hM.dat (k := 0) rfl)
      obtain ⟨A18, c19, A21, c22, rfl, hv17, hv20, hv23, hv24⟩ := TileSetRep_open hr16
      have hM := hM.add (y := .dat (sliceRep intRep) t1.Values [vL A18 t1.Values c19]) hv20
      have hM := hM.add (y := .dat (sliceRep intRep) t1.Counts [vL A21 t1.Counts c22]) hv23
      refine q_ hf rfl rfl rfl (e_field hf rfl Try.underlying28 rfl Try.sizeOf9 (o' := o3 + 0) rfl) fun a hf => ?_
      refine q_ hf rfl rfl rfl (e_load1 hf rfl Try.isAgg9 (hM.litCell (k := 2) (j := 0) rfl rfl rfl)) fun a hf => ?_
      refine q_ hf rfl rfl rfl (e_lenS hf (x := t1.Letters) rfl Try.underlying9) fun a hf => ?_
      refine q_ hf rfl rfl rfl (e_lt hf (x := n8) (y := (t1.Letters.length : Int)) rfl rfl) fun a hf => ?_
      refine pl_nil ?_
      refine then_n ?_
      rcases cond_some h14 with ⟨hc25, h14⟩ | ⟨hc25, h14⟩
      · refine cond_t hf rfl hc25 ?_
        refine wp_skip ?_
        refine then_n ?_
        refine wp_seq ?_
        refine wp_block ?_
        refine wp_seq ?_
        refine region_pl ?_
        refine q_ hf rfl rfl rfl (e_move hf rfl) fun a hf => ?_
        refine q_ hf rfl rfl rfl (e_nil hf rfl) fun a hf => ?_
        refine q_ hf rfl rfl rfl (e_field hf rfl Try.underlying28 rfl Try.sizeOf9 (o' := o3 + 0) rfl) fun a hf => ?_
        refine q_ hf rfl rfl rfl (e_load1 hf rfl Try.isAgg9 (hM.litCell (k := 2) (j := 0) rfl rfl rfl)) fun a hf => ?_
        refine q_ hf rfl rfl rfl (e_move hf rfl) fun a hf => ?_
        obtain ⟨c26, hz27, h14⟩ := bind_some h14
        refine q_ hf rfl rfl rfl (e_indexS hf (x := t1.Letters) rfl rfl Try.underlying9 hz27) fun a hf => ?_
        refine q_ hf rfl rfl rfl (e_move hf rfl) fun a hf => ?_
        refine q_ hf rfl rfl rfl (e_eqB hf (x := c26) (y := letter5) rfl rfl) fun a hf => ?_
        refine pl_nil ?_
        refine then_n ?_
        rcases cond_some h14 with ⟨hc28, h14⟩ | ⟨hc28, h14⟩
        · refine cond_t hf rfl hc28 ?_
          refine wp_seq ?_
          refine region_pl ?_
          refine q_ hf rfl rfl rfl (e_move hf rfl) fun a hf => ?_
          refine q_ hf rfl rfl rfl (e_assign hf rfl) fun a hf => ?_
          refine pl_nil ?_
          refine then_n ?_
          refine wp_ret ?_
          refine blk_r ?_
          refine then_r ?_
          obtain rfl := some_inj h14
          obtain rfl := hd15 _ rfl
          try dsimp only at h7
          refine then_r ?_
          refine blk_r ?_
          obtain rfl := some_inj h7
          try dsimp only at h
          refine then_r ?_
          obtain rfl := some_inj h
          exact leave1 hf rfl rfl ⟨rfl, hM.fin, hv9⟩
        · refine cond_f hf rfl hc28 ?_
          refine wp_skip ?_
          refine blk_n ?_
          refine then_n ?_
          refine region_pl ?_
          refine q_ hf rfl rfl rfl (e_move hf rfl) fun a hf => ?_
          obtain ⟨z29, hz30, h14⟩ := bind_some h14
          refine q_ hf rfl rfl rfl (e_add hf rfl rfl hz30) fun a hf => ?_
          refine q_ hf rfl rfl rfl (e_assign hf rfl) fun a hf => ?_
          refine pl_nil ?_
          obtain rfl := some_inj h14
          refine then_n ⟨_, rfl, ?_⟩
          exact ⟨z29, rfl, hf.keep ⟨rfl, rfl, rfl, trivial⟩, hM.pick [3] rfl, (chk_R hz30)⟩
      · refine cond_f hf rfl hc25 ?_
        refine wp_exit ?_
        refine then_x ?_
        obtain rfl := some_inj h14
        obtain rfl := hd15 _ rfl
        try dsimp only at h7
        refine then_x ?_
        refine exit_hit ?_
        obtain rfl := some_inj h7
        refine then_n ?_
        exact ⟨rfl, hf.keep trivial, hM.pick [3] rfl⟩
  · rintro a w37 ⟨rfl, hf, hM⟩
    try dsimp only at h
    refine wp_seq ?_
    refine region_pl ?_
    refine q_ hf rfl rfl rfl (e_assign hf rfl) fun a hf => ?_
    refine pl_nil ?_
    refine then_n ?_
    refine wp_ret ?_
    obtain rfl := some_inj h
    exact leave1 hf rfl rfl ⟨rfl, hM.fin, (R64_lit rfl)⟩

set_option maxRecDepth 100000 in
set_option maxHeartbeats 4000000 in
theorem r_spec_l02Value (C : Cx) (t1 : TileSet) (b2 : Nat) (o3 : Nat) (hp4 : (ptrRep TileSetRep).R C.w0 C.S0 t1 [vP b2 o3]) (letter5 : UInt8) (r : Int) (h : m_spec_l02Value t1 letter5 = some r) :
    Calls Try.prog 75 #[vP b2 (o3), vB (letter5)] C.w0 fun e w => e = .returned (vI (r)) ∧ Mem C w [] [] ∧ R64 r := by
  have hM := Mem.begin C [.dat (ptrRep TileSetRep) t1 [vP b2 o3]] ⟨hp4, trivial⟩
  refine enter Try.func75 rfl Try.ntmps75 rfl fun a hf => ?_
  unfold m_spec_l02Value at h
  refine wp_seq ?_
  refine region_pl ?_
  refine q_ hf rfl rfl rfl (e_assign hf rfl) fun a hf => ?_
  refine pl_nil ?_
  refine then_n ?_
  refine wp_seq ?_
  refine region_pl ?_
  refine q_ hf rfl rfl rfl (e_move hf rfl) fun a hf => ?_
  refine q_ hf rfl rfl rfl (e_move hf rfl) fun a hf => ?_
  obtain ⟨y6, hz7, h⟩ := bind_some h
  refine pl_l hf rfl rfl rfl (w_call hf Try.call88 rfl (r_spec_l02Find ⟨_, Sh C _ _, none_, hM.sh_lt, none_not⟩ t1 _ _ (hM.dat (k := 0) rfl) letter5 _ hz7) ?_)
  rintro _ w9 ⟨rfl, hM2, hv8⟩
  obtain ⟨hM, hx10, hup11⟩ := hM.back hM2
  dsimp only [List.cons_append, List.nil_append] at hM hup11
  clear hM2
  refine ⟨_, rfl, fun a hf => ?_⟩
  refine q_ hf rfl rfl rfl (e_assign hf rfl) fun a hf => ?_
  refine pl_nil ?_
  refine then_n ?_
  refine wp_seq ?_
  refine wp_seq ?_
  refine region_pl ?_
  refine q_ hf rfl rfl rfl (e_move hf rfl) fun a hf => ?_
  refine q_ hf rfl rfl rfl (e_lt hf (x := y6) (y := 0) rfl rfl) fun a hf => ?_
  refine pl_nil ?_
  refine then_n ?_
  rcases cond_some h with ⟨hc12, h⟩ | ⟨hc12, h⟩
  · refine cond_t hf rfl hc12 ?_
    refine wp_seq ?_
    refine region_pl ?_
    refine q_ hf rfl rfl rfl (e_assign hf rfl) fun a hf => ?_
    refine pl_nil ?_
    refine then_n ?_
    refine wp_ret ?_
    refine then_r ?_
    obtain rfl := some_inj h
    exact leave1 hf rfl rfl ⟨rfl, hM.fin, (R64_lit rfl)⟩
  · refine cond_f hf rfl hc12 ?_
    refine wp_skip ?_
    refine then_n ?_
    refine wp_seq ?_
    refine region_pl ?_
    refine q_ hf rfl rfl rfl (e_move hf rfl) fun a hf => ?_
    refine q_ hf rfl rfl rfl (e_nil hf rfl) fun a hf => ?_
    obtain ⟨_, hr13, hM⟩ := hM.deref (hM.dat (k := 0) rfl)
    obtain ⟨A15, c16, A18, c19, rfl, hv14, hv17, hv20, hv21⟩ := TileSetRep_open hr13
    have hM := hM.add (y := .dat (sliceRep intRep) t1.Values [vL A15 t1.Values c16]) hv17
    have hM := hM.add (y := .dat (sliceRep intRep) t1.Counts [vL A18 t1.Counts c19]) hv20
    refine q_ hf rfl rfl rfl (e_field hf rfl Try.underlying28 rfl Try.sizeOf22 (o' := o3 + 1) rfl) fun a hf => ?_
    refine q_ hf rfl rfl rfl (e_load1 hf rfl Try.isAgg22 (hM.litCell (k := 2) (j := 1) rfl rfl rfl)) fun a hf => ?_
    refine q_ hf rfl rfl rfl (e_move hf rfl) fun a hf => ?_
    obtain ⟨e22, hz23, h⟩ := bind_some h
    obtain ⟨b27, o28, _, hA29, h24, h25, hr26, hM⟩ := hM.elem (hM.dat (k := 1) rfl) (n := 1) rfl hz23
    obtain ⟨rfl, hv30⟩ := hr26
    refine q_ hf rfl rfl rfl (e_indexAddr (A := A15) (b := b27) (o := o28) (xs := t1.Values) (i := y6) hf hA29 rfl rfl Try.underlying22 Try.sizeOf2 h24 h25) fun a hf => ?_
    refine q_ hf rfl rfl rfl (e_load1 hf rfl Try.isAgg2 (hM.litCell (k := 0) (j := 0) rfl rfl rfl)) fun a hf => ?_
    refine q_ hf rfl rfl rfl (e_assign hf rfl) fun a hf => ?_
    refine pl_nil ?_
    refine then_n ?_
    refine wp_ret ?_
    obtain rfl := some_inj h
    exact leave1 hf rfl rfl ⟨rfl, hM.fin, hv30⟩

set_option maxRecDepth 100000 in
set_option maxHeartbeats 4000000 in
theorem r_spec_l02Sum (C : Cx) (t1 : TileSet) (b2 : Nat) (o3 : Nat) (hp4 : (ptrRep TileSetRep).R C.w0 C.S0 t1 [vP b2 o3]) (s5 : Str) (hp6 : s5.length ≤ maxLen) (r : Int) (h : m_spec_l02Sum t1 s5 = some r) :
    Calls Try.prog 58 #[vP b2 (o3), vS (s5)] C.w0 fun e w => e = .returned (vI (r)) ∧ Mem C w [] [] ∧ R64 r := by
  have hM := Mem.begin C [.dat (ptrRep TileSetRep) t1 [vP b2 o3]] ⟨hp4, trivial⟩
  refine enter Try.func58 rfl Try.ntmps58 rfl fun a hf => ?_
  unfold m_spec_l02Sum at h
  refine wp_seq ?_
  refine region_pl ?_
  refine q_ hf rfl rfl rfl (e_assign hf rfl) fun a hf => ?_
  refine pl_nil ?_
  refine then_n ?_
  refine wp_seq ?_
  refine region_pl ?_
  refine q_ hf rfl rfl rfl (e_assign hf rfl) fun a hf => ?_
  refine pl_nil ?_
  refine then_n ?_
  obtain ⟨x9, h10, h⟩ := bind_some h
  refine seq_join (fun a w => ∃ (n7 : Int), n7 = x9 ∧ Has 21 a [(5, vI (n7))] ∧ Mem C w [] [.dat (ptrRep TileSetRep) t1 [vP b2 o3]] ∧ R64 n7) ?_ ?_
  · refine wp_seq ?_
    refine region_pl ?_
    refine q_ hf rfl rfl rfl (e_assign hf rfl) fun a hf => ?_
    refine pl_nil ?_
    refine then_n ?_
    refine wp_block ?_
    obtain ⟨x18, h19, h10⟩ := bind_some h10
    refine wp_loopM h19 (fun s a w => ∃ (n11 : Int) (n13 : Int), (n11, n13) = s ∧ Has 21 a [(0, vP b2 (o3)), (1, vS (s5)), (5, vI (n11)), (6, vI (n13))] ∧ Mem C w [] [.dat (ptrRep TileSetRep) t1 [vP b2 o3]] ∧ R64 n11 ∧ R64 n13) ?_ ?_
    · exact ⟨0, 0, rfl, hf.keep ⟨rfl, rfl, rfl, rfl, trivial⟩, hM.pick [0] rfl, (R64_lit rfl), (R64_lit rfl)⟩
    · rintro s o20 a w15 ⟨n11, n13, rfl, hf, hM, hv12, hv14⟩ h21 hd22
      replace h21 : m_spec_l02Sum_l1 s5 t1 n11 n13 = some o20 := h21
      unfold m_spec_l02Sum_l1 at h21
      refine wp_seq ?_
      refine wp_seq ?_
      refine region_pl ?_
      refine q_ hf rfl rfl rfl (e_move hf rfl) fun a hf => ?_
      refine q_ hf rfl rfl rfl (e_move hf rfl) fun a hf => ?_
      refine q_ hf rfl rfl rfl (e_lenS hf (x := s5) rfl Try.underlying9) fun a hf => ?_
      refine q_ hf rfl rfl rfl (e_lt hf (x := n13) (y := (s5.length : Int)) rfl rfl) fun a hf => ?_
      refine pl_nil ?_
      refine then_n ?_
      rcases cond_some h21 with ⟨hc23, h21⟩ | ⟨hc23, h21⟩
      · refine cond_t hf rfl hc23 ?_
        refine wp_skip ?_
        refine then_n ?_
        refine wp_seq ?_
        refine wp_block ?_
        refine region_pl ?_
        refine q_ hf rfl rfl rfl (e_move hf rfl) fun a hf => ?_
        refine q_ hf rfl rfl rfl (e_move hf rfl) fun a hf => ?_
        refine q_ hf rfl rfl rfl (e_move hf rfl) fun a hf => ?_
        refine q_ hf rfl rfl rfl (e_move hf rfl) fun a hf => ?_
        obtain ⟨c24, hz25, h21⟩ := bind_some h21
        refine q_ hf rfl rfl rfl (e_indexS hf (x := s5) rfl rfl Try.underlying9 hz25) fun a hf => ?_
        obtain ⟨y26, hz27, h21⟩ := bind_some h21
        refine pl_l hf rfl rfl rfl (w_call hf Try.call75 rfl (r_spec_l02Value ⟨_, Sh C _ _, none_, hM.sh_lt, none_not⟩ t1 _ _ (hM.dat (k := 0) rfl) c24 _ hz27) ?_)
        rintro _ w29 ⟨rfl, hM2, hv28⟩
        obtain ⟨hM, hx30, hup31⟩ := hM.back hM2
        dsimp only [List.cons_append, List.nil_append] at hM hup31
        clear hM2
        refine ⟨_, rfl, fun a hf => ?_⟩
        obtain ⟨z32, hz33, h21⟩ := bind_some h21
        refine q_ hf rfl rfl rfl (e_add hf rfl rfl hz33) fun a hf => ?_
        refine q_ hf rfl rfl rfl (e_assign hf rfl) fun a hf => ?_
        refine pl_nil ?_
        refine blk_n ?_
        refine then_n ?_
        refine region_pl ?_
        refine q_ hf rfl rfl rfl (e_move hf rfl) fun a hf => ?_
        obtain ⟨z34, hz35, h21⟩ := bind_some h21
        refine q_ hf rfl rfl rfl (e_add hf rfl rfl hz35) fun a hf => ?_
        refine q_ hf rfl rfl rfl (e_assign hf rfl) fun a hf => ?_
        refine pl_nil ?_
        obtain rfl := some_inj h21
        refine then_n ⟨_, rfl, ?_⟩
        exact ⟨z32, z34, rfl, hf.keep ⟨rfl, rfl, rfl, rfl, trivial⟩, hM.pick [0] rfl, (chk_R hz33), (chk_R hz35)⟩
      · refine cond_f hf rfl hc23 ?_
        refine wp_exit ?_
        refine then_x ?_
        obtain rfl := some_inj h21
        obtain rfl := hd22 _ rfl
        try dsimp only at h10
        refine then_x ?_
        refine exit_hit ?_
        obtain rfl := some_inj h10
        refine then_n ?_
        exact ⟨n11, rfl, hf.keep ⟨rfl, trivial⟩, hM.pick [0] rfl, hv12⟩
  · rintro a w41 ⟨n7, rfl, hf, hM, hv8⟩
    try dsimp only at h
    refine wp_seq ?_
    refine region_pl ?_
    refine q_ hf rfl rfl rfl (e_move hf rfl) fun a hf => ?_
    refine q_ hf rfl rfl rfl (e_assign hf rfl) fun a hf => ?_
    refine pl_nil ?_
    refine then_n ?_
    refine wp_ret ?_
    obtain rfl := some_inj h
    exact leave1 hf rfl rfl ⟨rfl, hM.fin, hv8⟩

set_option maxRecDepth 100000 in
set_option maxHeartbeats 4000000 in
theorem r_spec_l22Settle (C : Cx) (t1 : TileSet) (b2 : Nat) (o3 : Nat) (hp4 : (ptrRep TileSetRep).R C.w0 C.S0 t1 [vP b2 o3]) (mine5 : Str) (hp6 : mine5.length ≤ maxLen) (theirs7 : Str) (hp8 : theirs7.length ≤ maxLen) (r : Int) (h : m_spec_l22Settle t1 mine5 theirs7 = some r) :
    Calls Try.prog 30 #[vP b2 (o3), vS (mine5), vS (theirs7)] C.w0 fun e w => e = .returned (vI (r)) ∧ Mem C w [] [] ∧ R64 r := by
  have hM := Mem.begin C [.dat (ptrRep TileSetRep) t1 [vP b2 o3]] ⟨hp4, trivial⟩
  refine enter Try.func30 rfl Try.ntmps30 rfl fun a hf => ?_
  unfold m_spec_l22Settle at h
  refine wp_seq ?_
  refine region_pl ?_
  refine q_ hf rfl rfl rfl (e_assign hf rfl) fun a hf => ?_
  refine pl_nil ?_
  refine then_n ?_
  refine wp_seq ?_
  refine region_pl ?_
  refine q_ hf rfl rfl rfl (e_move hf rfl) fun a hf => ?_
  refine q_ hf rfl rfl rfl (e_move hf rfl) fun a hf => ?_
  obtain ⟨y9, hz10, h⟩ := bind_some h
  refine pl_l hf rfl rfl rfl (w_call hf Try.call58 rfl (r_spec_l02Sum ⟨_, Sh C _ _, none_, hM.sh_lt, none_not⟩ t1 _ _ (hM.dat (k := 0) rfl) theirs7 hp8 _ hz10) ?_)
  rintro _ w12 ⟨rfl, hM2, hv11⟩
  obtain ⟨hM, hx13, hup14⟩ := hM.back hM2
  dsimp only [List.cons_append, List.nil_append] at hM hup14
  clear hM2
  refine ⟨_, rfl, fun a hf => ?_⟩
  refine q_ hf rfl rfl rfl (e_move hf rfl) fun a hf => ?_
  refine q_ hf rfl rfl rfl (e_move hf rfl) fun a hf => ?_
  obtain ⟨y15, hz16, h⟩ := bind_some h
  refine pl_l hf rfl rfl rfl (w_call hf Try.call58 rfl (r_spec_l02Sum ⟨_, Sh C _ _, none_, hM.sh_lt, none_not⟩ t1 _ _ (hM.dat (k := 0) rfl) mine5 hp6 _ hz16) ?_)
  rintro _ w18 ⟨rfl, hM2, hv17⟩
  obtain ⟨hM, hx19, hup20⟩ := hM.back hM2
  dsimp only [List.cons_append, List.nil_append] at hM hup20
  clear hM2
  refine ⟨_, rfl, fun a hf => ?_⟩
  obtain ⟨z21, hz22, h⟩ := bind_some h
  refine q_ hf rfl rfl rfl (e_sub hf rfl rfl hz22) fun a hf => ?_
  refine q_ hf rfl rfl rfl (e_assign hf rfl) fun a hf => ?_
  refine pl_nil ?_
  refine then_n ?_
  refine wp_ret ?_
  obtain rfl := some_inj h
  exact leave1 hf rfl rfl ⟨rfl, hM.fin, (chk_R hz22)⟩

set_option maxRecDepth 100000 in
set_option maxHeartbeats 4000000 in
theorem r_spec_SettleEnd (C : Cx) (t1 : TileSet) (hp2 : t1.Letters.length ≤ maxLen) (A3 : Option Addr) (c4 : Nat) (hp5 : (sliceRep intRep).R C.w0 C.S0 t1.Values [vL A3 t1.Values c4]) (A6 : Option Addr) (c7 : Nat) (hp8 : (sliceRep intRep).R C.w0 C.S0 t1.Counts [vL A6 t1.Counts c7]) (hp9 : R64 t1.Blanks) (mine10 : Str) (hp11 : mine10.length ≤ maxLen) (theirs12 : Str) (hp13 : theirs12.length ≤ maxLen) (r : (Int × Int)) (h : m_spec_SettleEnd t1 mine10 theirs12 = some r) :
    Calls Try.prog 9 #[.agg #[vS (t1.Letters), vL A3 (t1.Values) c4, vL A6 (t1.Counts) c7, vI (t1.Blanks)], vS (mine10), vS (theirs12)] C.w0 fun e w => e = .returned (.tuple #[vI (r.1), vI (r.2)]) ∧ Mem C w [] [] ∧ R64 r.1 ∧ R64 r.2 := by
  have hM := Mem.begin C [.dat (sliceRep intRep) t1.Counts [vL A6 t1.Counts c7], .dat (sliceRep intRep) t1.Values [vL A3 t1.Values c4]] ⟨hp8, hp5, trivial⟩
  refine enter Try.func9 rfl Try.ntmps9 rfl fun a hf => ?_
  unfold m_spec_SettleEnd at h
  refine wp_seq ?_
  refine region_pl ?_
  refine pl_l hf rfl rfl rfl (w_box hf hM (cs := [vS (t1.Letters), vL A3 (t1.Values) c4, vL A6 (t1.Counts) c7, vI (t1.Blanks)]) rfl rfl fun b14 w15 hx16 hM a hf => ?_)
  refine q_ hf rfl rfl rfl (e_assign hf rfl) fun a hf => ?_
  refine q_ hf rfl rfl rfl (e_assign hf rfl) fun a hf => ?_
  refine pl_nil ?_
  refine then_n ?_
  refine wp_seq ?_
  obtain ⟨x20, h21, h⟩ := bind_some h
  refine seq_join (fun a w => ∃ (t18 : Bool), t18 = x20 ∧ Has 23 a [(1, vS (mine10)), (2, vS (theirs12)), (3, vP b14 (0)), (19, .bool (t18))] ∧ Mem C w [.box b14 [vS (t1.Letters), vL A3 (t1.Values) c4, vL A6 (t1.Counts) c7, vI (t1.Blanks)] 28] [.dat (sliceRep intRep) t1.Counts [vL A6 t1.Counts c7], .dat (sliceRep intRep) t1.Values [vL A3 t1.Values c4]]) ?_ ?_
  · refine region_pl ?_
    obtain ⟨y22, hz23, h21⟩ := bind_some h21
    refine pl_l hf rfl rfl rfl (w_call hf Try.call28 rfl (r_spec_l02Ok ⟨_, All C _ _, none_, hM.all_lt, none_not⟩ t1 _ _ (hM.lendBox (k := 0) rfl (TileSetRep_mk (x := t1) hp2 (hM.lendDat (k := 1) rfl) (hM.lendDat (k := 0) rfl) hp9)) _ hz23) ?_)
    rintro _ w24 ⟨rfl, hM2⟩
    obtain ⟨hM, hx25⟩ := hM.backA hM2
    clear hM2
    refine ⟨_, rfl, fun a hf => ?_⟩
    refine q_ hf rfl rfl rfl (e_not hf rfl) fun a hf => ?_
    refine q_ hf rfl rfl rfl (e_move hf rfl) fun a hf => ?_
    rcases cond_some h21 with ⟨hc27, h21⟩ | ⟨hc27, h21⟩
    · refine pl_gs (wanted_f hf rfl rfl rfl rfl hc27) hf rfl rfl fun a hf => ?_
      refine pl_gs (wanted_f hf rfl rfl rfl rfl hc27) hf rfl rfl fun a hf => ?_
      refine pl_gs (wanted_f hf rfl rfl rfl rfl hc27) hf rfl rfl fun a hf => ?_
      refine q_ hf rfl rfl rfl (e_pick_t hf rfl hc27 rfl) fun a hf => ?_
      refine q_ hf rfl rfl rfl (e_move hf rfl) fun a hf => ?_
      refine pl_gs (wanted_f hf rfl rfl rfl rfl rfl) hf rfl rfl fun a hf => ?_
      refine pl_gs (wanted_f hf rfl rfl rfl rfl rfl) hf rfl rfl fun a hf => ?_
      refine pl_gs (wanted_f hf rfl rfl rfl rfl rfl) hf rfl rfl fun a hf => ?_
      refine q_ hf rfl rfl rfl (e_pick_t hf rfl rfl rfl) fun a hf => ?_
      refine pl_nil ?_
      obtain rfl := some_inj h21
      refine then_n ?_
      exact ⟨true, rfl, hf.keep ⟨rfl, rfl, rfl, rfl, trivial⟩, hM.pick [0, 1] rfl⟩
    · refine gq (wanted_t hf rfl rfl rfl rfl hc27) hf rfl rfl (e_move hf rfl) fun a hf => ?_
      obtain ⟨y29, hz30, h21⟩ := bind_some h21
      refine pl_gl (wanted_t hf rfl rfl rfl rfl hc27) hf rfl rfl (w_call hf Try.call29 rfl (r_spec_l03Rack ⟨_, Sh C _ _, none_, hM.sh_lt, none_not⟩ mine10 hp11 _ hz30) ?_)
      rintro _ w31 ⟨rfl, hM2⟩
      obtain ⟨hM, hx32, hup33⟩ := hM.back hM2
      dsimp only [List.cons_append, List.nil_append] at hM hup33
      clear hM2
      refine ⟨_, rfl, fun a hf => ?_⟩
      refine gq (wanted_t hf rfl rfl rfl rfl hc27) hf rfl rfl (e_not hf rfl) fun a hf => ?_
      refine q_ hf rfl rfl rfl (e_pick_f hf rfl hc27 rfl) fun a hf => ?_
      refine q_ hf rfl rfl rfl (e_move hf rfl) fun a hf => ?_
      rcases cond_some h21 with ⟨hc34, h21⟩ | ⟨hc34, h21⟩
      · refine pl_gs (wanted_f hf rfl rfl rfl rfl hc34) hf rfl rfl fun a hf => ?_
        refine pl_gs (wanted_f hf rfl rfl rfl rfl hc34) hf rfl rfl fun a hf => ?_
        refine pl_gs (wanted_f hf rfl rfl rfl rfl hc34) hf rfl rfl fun a hf => ?_
        refine q_ hf rfl rfl rfl (e_pick_t hf rfl hc34 rfl) fun a hf => ?_
        refine pl_nil ?_
        obtain rfl := some_inj h21
        refine then_n ?_
        exact ⟨true, rfl, hf.keep ⟨rfl, rfl, rfl, rfl, trivial⟩, hM.pick [0, 1] rfl⟩
      · refine gq (wanted_t hf rfl rfl rfl rfl hc34) hf rfl rfl (e_move hf rfl) fun a hf => ?_
        obtain ⟨y36, hz37, h21⟩ := bind_some h21
        refine pl_gl (wanted_t hf rfl rfl rfl rfl hc34) hf rfl rfl (w_call hf Try.call29 rfl (r_spec_l03Rack ⟨_, Sh C _ _, none_, hM.sh_lt, none_not⟩ theirs12 hp13 _ hz37) ?_)
        rintro _ w38 ⟨rfl, hM2⟩
        obtain ⟨hM, hx39, hup40⟩ := hM.back hM2
        dsimp only [List.cons_append, List.nil_append] at hM hup40
        clear hM2
        refine ⟨_, rfl, fun a hf => ?_⟩
        refine gq (wanted_t hf rfl rfl rfl rfl hc34) hf rfl rfl (e_not hf rfl) fun a hf => ?_
        refine q_ hf rfl rfl rfl (e_pick_f hf rfl hc34 rfl) fun a hf => ?_
        refine pl_nil ?_
        obtain rfl := some_inj h21
        refine then_n ?_
        exact ⟨(!y36), rfl, hf.keep ⟨rfl, rfl, rfl, rfl, trivial⟩, hM.pick [0, 1] rfl⟩
  · rintro a w42 ⟨t18, rfl, hf, hM⟩
    try dsimp only at h
    rcases cond_some h with ⟨hc43, h⟩ | ⟨hc43, h⟩
    · refine cond_t hf rfl hc43 ?_
      refine wp_seq ?_
      refine region_pl ?_
      refine q_ hf rfl rfl rfl (e_assign hf rfl) fun a hf => ?_
      refine q_ hf rfl rfl rfl (e_assign hf rfl) fun a hf => ?_
      refine pl_nil ?_
      refine then_n ?_
      refine wp_ret ?_
      refine then_r ?_
      obtain rfl := some_inj h
      have hM := hM.outs (own' := []) 0 rfl
      exact leave2 hf rfl rfl rfl ⟨rfl, hM.fin, (R64_lit rfl), (R64_lit rfl)⟩
    · refine cond_f hf rfl hc43 ?_
      refine wp_skip ?_
      refine then_n ?_
      refine wp_seq ?_
      refine region_pl ?_
      refine q_ hf rfl rfl rfl (e_move hf rfl) fun a hf => ?_
      refine q_ hf rfl rfl rfl (e_move hf rfl) fun a hf => ?_
      obtain ⟨y44, hz45, h⟩ := bind_some h
      refine pl_l hf rfl rfl rfl (w_call hf Try.call30 rfl (r_spec_l22Settle ⟨_, All C _ _, none_, hM.all_lt, none_not⟩ t1 _ _ (hM.lendBox (k := 0) rfl (TileSetRep_mk (x := t1) hp2 (hM.lendDat (k := 1) rfl) (hM.lendDat (k := 0) rfl) hp9)) mine10 hp11 theirs12 hp13 _ hz45) ?_)
      rintro _ w47 ⟨rfl, hM2, hv46⟩
      obtain ⟨hM, hx48⟩ := hM.backA hM2
      clear hM2
      refine ⟨_, rfl, fun a hf => ?_⟩
      refine q_ hf rfl rfl rfl (e_assign hf rfl) fun a hf => ?_
      refine q_ hf rfl rfl rfl (e_assign hf rfl) fun a hf => ?_
      refine pl_nil ?_
      refine then_n ?_
      refine wp_ret ?_
      obtain rfl := some_inj h
      have hM := hM.outs (own' := []) 0 rfl
      exact leave2 hf rfl rfl rfl ⟨rfl, hM.fin, hv46, (R64_lit rfl)⟩

set_option maxRecDepth 100000 in
set_option maxHeartbeats 4000000 in
theorem r_impl_small (C : Cx) (c1 : UInt8) (r : Bool) (h : m_impl_small c1 = some r) :
    Calls Try.prog 89 #[vB (c1)] C.w0 fun e w => e = .returned (.bool (r)) ∧ Mem C w [] [] := by
  have hM := Mem.begin C [] trivial
  refine enter Try.func89 rfl Try.ntmps89 rfl fun a hf => ?_
  unfold m_impl_small at h
  refine wp_seq ?_
  refine region_pl ?_
  refine q_ hf rfl rfl rfl (e_assign hf rfl) fun a hf => ?_
  refine pl_nil ?_
  refine then_n ?_
  obtain ⟨x4, h5, h⟩ := bind_some h
  refine seq_join (fun a w => ∃ (t2 : Bool), t2 = x4 ∧ Has 9 a [(2, .bool (t2))] ∧ Mem C w [] []) ?_ ?_
  · refine region_pl ?_
    refine q_ hf rfl rfl rfl (e_move hf rfl) fun a hf => ?_
    refine q_ hf rfl rfl rfl (e_leB hf (x := 97) (y := c1) rfl rfl) fun a hf => ?_
    refine q_ hf rfl rfl rfl (e_move hf rfl) fun a hf => ?_
    rcases cond_some h5 with ⟨hc6, h5⟩ | ⟨hc6, h5⟩
    · refine gq (wanted_t hf rfl rfl rfl rfl hc6) hf rfl rfl (e_move hf rfl) fun a hf => ?_
      refine gq (wanted_t hf rfl rfl rfl rfl hc6) hf rfl rfl (e_leB hf (x := c1) (y := 122) rfl rfl) fun a hf => ?_
      refine q_ hf rfl rfl rfl (e_pick_t hf rfl hc6 rfl) fun a hf => ?_
      refine q_ hf rfl rfl rfl (e_assign hf rfl) fun a hf => ?_
      refine pl_nil ?_
      obtain rfl := some_inj h5
      refine then_n ?_
      exact ⟨(decide (c1 ≤ 122)), rfl, hf.keep ⟨rfl, trivial⟩, hM.pick [] rfl⟩
    · refine pl_gs (wanted_f hf rfl rfl rfl rfl hc6) hf rfl rfl fun a hf => ?_
      refine pl_gs (wanted_f hf rfl rfl rfl rfl hc6) hf rfl rfl fun a hf => ?_
      refine q_ hf rfl rfl rfl (e_pick_f hf rfl hc6 rfl) fun a hf => ?_
      refine q_ hf rfl rfl rfl (e_assign hf rfl) fun a hf => ?_
      refine pl_nil ?_
      obtain rfl := some_inj h5
      refine then_n ?_
      exact ⟨false, rfl, hf.keep ⟨rfl, trivial⟩, hM.pick [] rfl⟩
  · rintro a w9 ⟨t2, rfl, hf, hM⟩
    try dsimp only at h
    refine wp_ret ?_
    obtain rfl := some_inj h
    exact leave1 hf rfl rfl ⟨rfl, hM.fin⟩

set_option maxRecDepth 100000 in
set_option maxHeartbeats 4000000 in
theorem r_impl_onlySmall (C : Cx) (s1 : Str) (hp2 : s1.length ≤ maxLen) (r : Bool) (h : m_impl_onlySmall s1 = some r) :
    Calls Try.prog 76 #[vS (s1)] C.w0 fun e w => e = .returned (.bool (r)) ∧ Mem C w [] [] := by
  have hM := Mem.begin C [] trivial
  refine enter Try.func76 rfl Try.ntmps76 rfl fun a hf => ?_
  unfold m_impl_onlySmall at h
  refine wp_seq ?_
  refine region_pl ?_
  refine q_ hf rfl rfl rfl (e_assign hf rfl) fun a hf => ?_
  refine pl_nil ?_
  refine then_n ?_
  obtain ⟨x3, h4, h⟩ := bind_some h
  refine seq_join (fun a w => (.inl ()) = x3 ∧ Has 16 a [] ∧ Mem C w [] []) ?_ ?_
  · refine wp_seq ?_
    refine region_pl ?_
    refine q_ hf rfl rfl rfl (e_move hf rfl) fun a hf => ?_
    refine pl_l hf rfl rfl rfl (w_bytes hf hM (x := s1) rfl Try.underlying9 Try.underlying38 Try.underlying5 hp2 fun A5 c6 w7 hx8 hM a hf => ?_)
    have hl9 := row_len (hM.ownAt (k := 0) rfl)
    refine q_ hf rfl rfl rfl (e_lenL hf (x := s1) rfl Try.underlying38) fun a hf => ?_
    refine q_ hf rfl rfl rfl (e_move hf rfl) fun a hf => ?_
    refine pl_nil ?_
    refine then_n ?_
    refine wp_block ?_
    obtain ⟨x13, h14, h4⟩ := bind_some h4
    refine wp_loopM h14 (fun s a w => ∃ (n10 : Int), n10 = s ∧ Has 16 a [(6, vL A5 (s1) c6), (7, vI ((s1.length : Int))), (8, vI (n10))] ∧ Mem C w [.row byteRep A5 c6 5 s1 false] [] ∧ R64 n10) ?_ ?_
    · exact ⟨0, rfl, hf.keep ⟨rfl, rfl, rfl, trivial⟩, hM.pick [] rfl, (R64_lit rfl)⟩
    · rintro s o15 a w12 ⟨n10, rfl, hf, hM, hv11⟩ h16 hd17
      replace h16 : m_impl_onlySmall_l1 s1 n10 = some o15 := h16
      unfold m_impl_onlySmall_l1 at h16
      refine wp_seq ?_
      refine region_pl ?_
      refine q_ hf rfl rfl rfl (e_lt hf (x := n10) (y := (s1.length : Int)) rfl rfl) fun a hf => ?_
      refine pl_nil ?_
      refine then_n ?_
      refine wp_seq ?_
      rcases cond_some h16 with ⟨hc18, h16⟩ | ⟨hc18, h16⟩
      · refine cond_t hf rfl hc18 ?_
        refine wp_skip ?_
        refine then_n ?_
        refine wp_seq ?_
        refine wp_block ?_
        refine wp_seq ?_
        refine region_pl ?_
        obtain ⟨e19, hz20, h16⟩ := bind_some h16
        obtain ⟨b25, _, hA26, h21, h22, hr23, hcell24⟩ := hM.rowElemN (k := 0) rfl (n := 1) rfl hz20
        obtain rfl : _ = _ := hr23
        refine q_ hf rfl rfl rfl (e_indexAddr (A := A5) (b := b25) (o := 0) (xs := s1) (i := n10) hf hA26 rfl rfl Try.underlying38 Try.sizeOf5 h21 h22) fun a hf => ?_
        refine q_ hf rfl rfl rfl (e_load1 hf rfl Try.isAgg5 (hcell24 0 _ rfl)) fun a hf => ?_
        refine q_ hf rfl rfl rfl (e_assign hf rfl) fun a hf => ?_
        refine pl_nil ?_
        refine then_n ?_
        refine wp_seq ?_
        refine region_pl ?_
        refine q_ hf rfl rfl rfl (e_move hf rfl) fun a hf => ?_
        obtain ⟨y27, hz28, h16⟩ := bind_some h16
        refine pl_l hf rfl rfl rfl (w_call hf Try.call89 rfl (r_impl_small ⟨_, Sh C _ _, none_, hM.sh_lt, none_not⟩ e19 _ hz28) ?_)
        rintro _ w29 ⟨rfl, hM2⟩
        obtain ⟨hM, hx30, hup31⟩ := hM.back hM2
        dsimp only [List.cons_append, List.nil_append] at hM hup31
        clear hM2
        refine ⟨_, rfl, fun a hf => ?_⟩
        refine q_ hf rfl rfl rfl (e_not hf rfl) fun a hf => ?_
        refine pl_nil ?_
        refine then_n ?_
        rcases cond_some h16 with ⟨hc32, h16⟩ | ⟨hc32, h16⟩
        · refine cond_t hf rfl hc32 ?_
          refine wp_seq ?_
          refine region_pl ?_
          refine q_ hf rfl rfl rfl (e_assign hf rfl) fun a hf => ?_
          refine pl_nil ?_
          refine then_n ?_
          refine wp_ret ?_
          refine blk_r ?_
          refine then_r ?_
          obtain rfl := some_inj h16
          obtain rfl := hd17 _ rfl
          try dsimp only at h4
          refine then_r ?_
          refine blk_r ?_
          obtain rfl := some_inj h4
          try dsimp only at h
          refine then_r ?_
          obtain rfl := some_inj h
          have hM := hM.outs (own' := []) 0 rfl
          exact leave1 hf rfl rfl ⟨rfl, hM.fin⟩
        · refine cond_f hf rfl hc32 ?_
          refine wp_skip ?_
          refine blk_n ?_
          refine then_n ?_
          refine region_pl ?_
          obtain ⟨z33, hz34, h16⟩ := bind_some h16
          refine q_ hf rfl rfl rfl (e_add hf rfl rfl hz34) fun a hf => ?_
          refine q_ hf rfl rfl rfl (e_move hf rfl) fun a hf => ?_
          refine pl_nil ?_
          obtain rfl := some_inj h16
          refine then_n ⟨_, rfl, ?_⟩
          exact ⟨z33, rfl, hf.keep ⟨rfl, rfl, rfl, trivial⟩, hM.pick [] rfl, (chk_R hz34)⟩
      · refine cond_f hf rfl hc18 ?_
        refine wp_exit ?_
        refine then_x ?_
        obtain rfl := some_inj h16
        obtain rfl := hd17 _ rfl
        try dsimp only at h4
        refine then_x ?_
        refine exit_hit ?_
        obtain rfl := some_inj h4
        refine then_n ?_
        exact ⟨rfl, hf.keep trivial, (hM.drop (.cons _ .slnil)).pick [] rfl⟩
  · rintro a w41 ⟨rfl, hf, hM⟩
    try dsimp only at h
    refine wp_seq ?_
    refine region_pl ?_
    refine q_ hf rfl rfl rfl (e_assign hf rfl) fun a hf => ?_
    refine pl_nil ?_
    refine then_n ?_
    refine wp_ret ?_
    obtain rfl := some_inj h
    exact leave1 hf rfl rfl ⟨rfl, hM.fin⟩

set_option maxRecDepth 100000 in
set_option maxHeartbeats 4000000 in
theorem r_impl_rising (C : Cx) (s1 : Str) (hp2 : s1.length ≤ maxLen) (r : Bool) (h : m_impl_rising s1 = some r) :
    Calls Try.prog 59 #[vS (s1)] C.w0 fun e w => e = .returned (.bool (r)) ∧ Mem C w [] [] := by
  have hM := Mem.begin C [] trivial
  refine enter Try.func59 rfl Try.ntmps59 rfl fun a hf => ?_
  unfold m_impl_rising at h
  refine wp_seq ?_
  refine region_pl ?_
  refine q_ hf rfl rfl rfl (e_assign hf rfl) fun a hf => ?_
  refine pl_nil ?_
  refine then_n ?_
  obtain ⟨x3, h4, h⟩ := bind_some h
  refine seq_join (fun a w => (.inl ()) = x3 ∧ Has 20 a [(0, vS (s1))] ∧ Mem C w [] []) ?_ ?_
  · refine wp_seq ?_
    refine region_pl ?_
    refine q_ hf rfl rfl rfl (e_assign hf rfl) fun a hf => ?_
    refine pl_nil ?_
    refine then_n ?_
    refine wp_block ?_
    obtain ⟨x8, h9, h4⟩ := bind_some h4
    refine wp_loopM h9 (fun s a w => ∃ (n5 : Int), n5 = s ∧ Has 20 a [(0, vS (s1)), (3, vI (n5))] ∧ Mem C w [] [] ∧ R64 n5) ?_ ?_
    · exact ⟨1, rfl, hf.keep ⟨rfl, rfl, trivial⟩, hM.pick [] rfl, (R64_lit rfl)⟩
    · rintro s o10 a w7 ⟨n5, rfl, hf, hM, hv6⟩ h11 hd12
      replace h11 : m_impl_rising_l1 s1 n5 = some o10 := h11
      unfold m_impl_rising_l1 at h11
      refine wp_seq ?_
      refine wp_seq ?_
      refine region_pl ?_
      refine q_ hf rfl rfl rfl (e_move hf rfl) fun a hf => ?_
      refine q_ hf rfl rfl rfl (e_move hf rfl) fun a hf => ?_
      refine q_ hf rfl rfl rfl (e_lenS hf (x := s1) rfl Try.underlying9) fun a hf => ?_
      refine q_ hf rfl rfl rfl (e_lt hf (x := n5) (y := (s1.length : Int)) rfl rfl) fun a hf => ?_
      refine pl_nil ?_
      refine then_n ?_
      rcases cond_some h11 with ⟨hc13, h11⟩ | ⟨hc13, h11⟩
      · refine cond_t hf rfl hc13 ?_
        refine wp_skip ?_
        refine then_n ?_
        refine wp_seq ?_
        refine wp_block ?_
        refine wp_seq ?_
        obtain ⟨w14, hw⟩ : ∃ x, x = w7.drew := ⟨_, rfl⟩
        refine region_pi (.q 0 (.q 1 (.q 2 (.q 3 (.q 4 (.q 5 (.q 6 (.q 7 (.nil))))))))) (Ext w14) rfl (by kernel_rfl) ?_
        have hM := hM.drew
        rw [← hw] at hM ⊢
        clear hw
        refine pi_q hf rfl rfl rfl rfl (Ext.refl _) (e_move hf rfl) fun a hf => ?_
        refine pi_q hf rfl rfl rfl rfl (Ext.refl _) (e_move hf rfl) fun a hf => ?_
        obtain ⟨z15, hz16, h11⟩ := bind_some h11
        refine pi_q hf rfl rfl rfl rfl (Ext.refl _) (e_sub hf rfl rfl hz16) fun a hf => ?_
        obtain ⟨c17, hz18, h11⟩ := bind_some h11
        refine pi_q hf rfl rfl rfl rfl (Ext.refl _) (e_indexS hf (x := s1) rfl rfl Try.underlying9 hz18) fun a hf => ?_
        refine pi_q hf rfl rfl rfl rfl (Ext.refl _) (e_move hf rfl) fun a hf => ?_
        refine pi_q hf rfl rfl rfl rfl (Ext.refl _) (e_move hf rfl) fun a hf => ?_
        obtain ⟨c19, hz20, h11⟩ := bind_some h11
        refine pi_q hf rfl rfl rfl rfl (Ext.refl _) (e_indexS hf (x := s1) rfl rfl Try.underlying9 hz20) fun a hf => ?_
        refine pi_q hf rfl rfl rfl rfl (Ext.refl _) (e_geB hf (x := c17) (y := c19) rfl rfl) fun a hf => ?_
        refine pi_nil ?_
        refine then_n ?_
        rcases cond_some h11 with ⟨hc21, h11⟩ | ⟨hc21, h11⟩
        · refine cond_t hf rfl hc21 ?_
          refine wp_seq ?_
          refine region_pl ?_
          refine q_ hf rfl rfl rfl (e_assign hf rfl) fun a hf => ?_
          refine pl_nil ?_
          refine then_n ?_
          refine wp_ret ?_
          refine blk_r ?_
          refine then_r ?_
          obtain rfl := some_inj h11
          obtain rfl := hd12 _ rfl
          try dsimp only at h4
          refine then_r ?_
          refine blk_r ?_
          obtain rfl := some_inj h4
          try dsimp only at h
          refine then_r ?_
          obtain rfl := some_inj h
          exact leave1 hf rfl rfl ⟨rfl, hM.fin⟩
        · refine cond_f hf rfl hc21 ?_
          refine wp_skip ?_
          refine blk_n ?_
          refine then_n ?_
          refine region_pl ?_
          refine q_ hf rfl rfl rfl (e_move hf rfl) fun a hf => ?_
          obtain ⟨z22, hz23, h11⟩ := bind_some h11
          refine q_ hf rfl rfl rfl (e_add hf rfl rfl hz23) fun a hf => ?_
          refine q_ hf rfl rfl rfl (e_assign hf rfl) fun a hf => ?_
          refine pl_nil ?_
          obtain rfl := some_inj h11
          refine then_n ⟨_, rfl, ?_⟩
          exact ⟨z22, rfl, hf.keep ⟨rfl, rfl, trivial⟩, hM.pick [] rfl, (chk_R hz23)⟩
      · refine cond_f hf rfl hc13 ?_
        refine wp_exit ?_
        refine then_x ?_
        obtain rfl := some_inj h11
        obtain rfl := hd12 _ rfl
        try dsimp only at h4
        refine then_x ?_
        refine exit_hit ?_
        obtain rfl := some_inj h4
        refine then_n ?_
        exact ⟨rfl, hf.keep ⟨rfl, trivial⟩, hM.pick [] rfl⟩
  · rintro a w30 ⟨rfl, hf, hM⟩
    try dsimp only at h
    refine wp_seq ?_
    refine region_pl ?_
    refine q_ hf rfl rfl rfl (e_move hf rfl) fun a hf => ?_
    obtain ⟨y31, hz32, h⟩ := bind_some h
    refine pl_l hf rfl rfl rfl (w_call hf Try.call76 rfl (r_impl_onlySmall ⟨_, Sh C _ _, none_, hM.sh_lt, none_not⟩ s1 hp2 _ hz32) ?_)
    rintro _ w33 ⟨rfl, hM2⟩
    obtain ⟨hM, hx34, hup35⟩ := hM.back hM2
    dsimp only [List.cons_append, List.nil_append] at hM hup35
    clear hM2
    refine ⟨_, rfl, fun a hf => ?_⟩
    refine q_ hf rfl rfl rfl (e_assign hf rfl) fun a hf => ?_
    refine pl_nil ?_
    refine then_n ?_
    refine wp_ret ?_
    obtain rfl := some_inj h
    exact leave1 hf rfl rfl ⟨rfl, hM.fin⟩

set_option maxRecDepth 100000 in
set_option maxHeartbeats 4000000 in
theorem r_impl_within (C : Cx) (x1 : Int) (hp2 : R64 x1) (low3 : Int) (hp4 : R64 low3) (high5 : Int) (hp6 : R64 high5) (r : Bool) (h : m_impl_within x1 low3 high5 = some r) :
    Calls Try.prog 60 #[vI (x1), vI (low3), vI (high5)] C.w0 fun e w => e = .returned (.bool (r)) ∧ Mem C w [] [] := by
  have hM := Mem.begin C [] trivial
  refine enter Try.func60 rfl Try.ntmps60 rfl fun a hf => ?_
  unfold m_impl_within at h
  refine wp_seq ?_
  refine region_pl ?_
  refine q_ hf rfl rfl rfl (e_assign hf rfl) fun a hf => ?_
  refine pl_nil ?_
  refine then_n ?_
  obtain ⟨x9, h10, h⟩ := bind_some h
  refine seq_join (fun a w => ∃ (t7 : Bool), t7 = x9 ∧ Has 15 a [(6, .bool (t7))] ∧ Mem C w [] []) ?_ ?_
  · refine region_pl ?_
    refine q_ hf rfl rfl rfl (e_move hf rfl) fun a hf => ?_
    refine q_ hf rfl rfl rfl (e_move hf rfl) fun a hf => ?_
    refine q_ hf rfl rfl rfl (e_le hf (x := low3) (y := x1) rfl rfl) fun a hf => ?_
    refine q_ hf rfl rfl rfl (e_move hf rfl) fun a hf => ?_
    rcases cond_some h10 with ⟨hc11, h10⟩ | ⟨hc11, h10⟩
    · refine gq (wanted_t hf rfl rfl rfl rfl hc11) hf rfl rfl (e_move hf rfl) fun a hf => ?_
      refine gq (wanted_t hf rfl rfl rfl rfl hc11) hf rfl rfl (e_move hf rfl) fun a hf => ?_
      refine gq (wanted_t hf rfl rfl rfl rfl hc11) hf rfl rfl (e_le hf (x := x1) (y := high5) rfl rfl) fun a hf => ?_
      refine q_ hf rfl rfl rfl (e_pick_t hf rfl hc11 rfl) fun a hf => ?_
      refine q_ hf rfl rfl rfl (e_assign hf rfl) fun a hf => ?_
      refine pl_nil ?_
      obtain rfl := some_inj h10
      refine then_n ?_
      exact ⟨(decide (x1 ≤ high5)), rfl, hf.keep ⟨rfl, trivial⟩, hM.pick [] rfl⟩
    · refine pl_gs (wanted_f hf rfl rfl rfl rfl hc11) hf rfl rfl fun a hf => ?_
      refine pl_gs (wanted_f hf rfl rfl rfl rfl hc11) hf rfl rfl fun a hf => ?_
      refine pl_gs (wanted_f hf rfl rfl rfl rfl hc11) hf rfl rfl fun a hf => ?_
      refine q_ hf rfl rfl rfl (e_pick_f hf rfl hc11 rfl) fun a hf => ?_
      refine q_ hf rfl rfl rfl (e_assign hf rfl) fun a hf => ?_
      refine pl_nil ?_
      obtain rfl := some_inj h10
      refine then_n ?_
      exact ⟨false, rfl, hf.keep ⟨rfl, trivial⟩, hM.pick [] rfl⟩
  · rintro a w14 ⟨t7, rfl, hf, hM⟩
    try dsimp only at h
    refine wp_ret ?_
    obtain rfl := some_inj h
    exact leave1 hf rfl rfl ⟨rfl, hM.fin⟩

set_option maxRecDepth 100000 in
set_option maxHeartbeats 4000000 in
theorem r_impl_ValidTiles (C : Cx) (t1 : TileSet) (hp2 : t1.Letters.length ≤ maxLen) (A3 : Option Addr) (c4 : Nat) (hp5 : (sliceRep intRep).R C.w0 C.S0 t1.Values [vL A3 t1.Values c4]) (A6 : Option Addr) (c7 : Nat) (hp8 : (sliceRep intRep).R C.w0 C.S0 t1.Counts [vL A6 t1.Counts c7]) (hp9 : R64 t1.Blanks) (r : Bool) (h : m_impl_ValidTiles t1 = some r) :
    Calls Try.prog 32 #[.agg #[vS (t1.Letters), vL A3 (t1.Values) c4, vL A6 (t1.Counts) c7, vI (t1.Blanks)]] C.w0 fun e w => e = .returned (.bool (r)) ∧ Mem C w [] [] := by
  have hM := Mem.begin C [.dat (sliceRep intRep) t1.Counts [vL A6 t1.Counts c7], .dat (sliceRep intRep) t1.Values [vL A3 t1.Values c4]] ⟨hp8, hp5, trivial⟩
  refine enter Try.func32 rfl Try.ntmps32 rfl fun a hf => ?_
  unfold m_impl_ValidTiles at h
  refine wp_seq ?_
  refine region_pl ?_
  refine pl_l hf rfl rfl rfl (w_box hf hM (cs := [vS (t1.Letters), vL A3 (t1.Values) c4, vL A6 (t1.Counts) c7, vI (t1.Blanks)]) rfl rfl fun b10 w11 hx12 hM a hf => ?_)
  refine q_ hf rfl rfl rfl (e_assign hf rfl) fun a hf => ?_
  refine pl_nil ?_
  refine then_n ?_
  refine wp_seq ?_
  refine region_pl ?_
  refine q_ hf rfl rfl rfl (e_field hf rfl Try.underlying28 rfl Try.sizeOf9 (o' := 0) rfl) fun a hf => ?_
  refine q_ hf rfl rfl rfl (e_load1 hf rfl Try.isAgg9 (hM.boxCell (k := 0) rfl rfl)) fun a hf => ?_
  refine q_ hf rfl rfl rfl (e_lenS hf (x := t1.Letters) rfl Try.underlying9) fun a hf => ?_
  refine q_ hf rfl rfl rfl (e_assign hf rfl) fun a hf => ?_
  refine pl_nil ?_
  refine then_n ?_
  refine wp_seq ?_
  obtain ⟨x16, h17, h⟩ := bind_some h
  refine seq_join (fun a w => ∃ (t14 : Bool), t14 = x16 ∧ Has 66 a [(1, vP b10 (0)), (37, .bool (t14))] ∧ Mem C w [.box b10 [vS (t1.Letters), vL A3 (t1.Values) c4, vL A6 (t1.Counts) c7, vI (t1.Blanks)] 28] [.dat (sliceRep intRep) t1.Counts [vL A6 t1.Counts c7], .dat (sliceRep intRep) t1.Values [vL A3 t1.Values c4]]) ?_ ?_
  · refine region_pl ?_
    refine q_ hf rfl rfl rfl (e_move hf rfl) fun a hf => ?_
    refine q_ hf rfl rfl rfl (e_lt hf (x := (t1.Letters.length : Int)) (y := 1) rfl rfl) fun a hf => ?_
    refine q_ hf rfl rfl rfl (e_move hf rfl) fun a hf => ?_
    rcases cond_some h17 with ⟨hc18, h17⟩ | ⟨hc18, h17⟩
    · refine pl_gs (wanted_f hf rfl rfl rfl rfl hc18) hf rfl rfl fun a hf => ?_
      refine pl_gs (wanted_f hf rfl rfl rfl rfl hc18) hf rfl rfl fun a hf => ?_
      refine pl_gs (wanted_f hf rfl rfl rfl rfl hc18) hf rfl rfl fun a hf => ?_
      refine pl_gs (wanted_f hf rfl rfl rfl rfl hc18) hf rfl rfl fun a hf => ?_
      refine q_ hf rfl rfl rfl (e_pick_t hf rfl hc18 rfl) fun a hf => ?_
      refine q_ hf rfl rfl rfl (e_move hf rfl) fun a hf => ?_
      refine pl_gs (wanted_f hf rfl rfl rfl rfl rfl) hf rfl rfl fun a hf => ?_
      refine pl_gs (wanted_f hf rfl rfl rfl rfl rfl) hf rfl rfl fun a hf => ?_
      refine pl_gs (wanted_f hf rfl rfl rfl rfl rfl) hf rfl rfl fun a hf => ?_
      refine pl_gs (wanted_f hf rfl rfl rfl rfl rfl) hf rfl rfl fun a hf => ?_
      refine pl_gs (wanted_f hf rfl rfl rfl rfl rfl) hf rfl rfl fun a hf => ?_
      refine q_ hf rfl rfl rfl (e_pick_t hf rfl rfl rfl) fun a hf => ?_
      refine q_ hf rfl rfl rfl (e_move hf rfl) fun a hf => ?_
      refine pl_gs (wanted_f hf rfl rfl rfl rfl rfl) hf rfl rfl fun a hf => ?_
      refine pl_gs (wanted_f hf rfl rfl rfl rfl rfl) hf rfl rfl fun a hf => ?_
      refine pl_gs (wanted_f hf rfl rfl rfl rfl rfl) hf rfl rfl fun a hf => ?_
      refine pl_gs (wanted_f hf rfl rfl rfl rfl rfl) hf rfl rfl fun a hf => ?_
      refine pl_gs (wanted_f hf rfl rfl rfl rfl rfl) hf rfl rfl fun a hf => ?_
      refine q_ hf rfl rfl rfl (e_pick_t hf rfl rfl rfl) fun a hf => ?_
      refine q_ hf rfl rfl rfl (e_move hf rfl) fun a hf => ?_
      refine pl_gs (wanted_f hf rfl rfl rfl rfl rfl) hf rfl rfl fun a hf => ?_
      refine pl_gs (wanted_f hf rfl rfl rfl rfl rfl) hf rfl rfl fun a hf => ?_
      refine pl_gs (wanted_f hf rfl rfl rfl rfl rfl) hf rfl rfl fun a hf => ?_
      refine pl_gs (wanted_f hf rfl rfl rfl rfl rfl) hf rfl rfl fun a hf => ?_
      refine q_ hf rfl rfl rfl (e_pick_t hf rfl rfl rfl) fun a hf => ?_
      refine pl_nil ?_
      obtain rfl := some_inj h17
      refine then_n ?_
      exact ⟨true, rfl, hf.keep ⟨rfl, rfl, trivial⟩, hM.pick [0, 1] rfl⟩
    · refine gq (wanted_t hf rfl rfl rfl rfl hc18) hf rfl rfl (e_field hf rfl Try.underlying28 rfl Try.sizeOf9 (o' := 0) rfl) fun a hf => ?_
      refine gq (wanted_t hf rfl rfl rfl rfl hc18) hf rfl rfl (e_load1 hf rfl Try.isAgg9 (hM.boxCell (k := 0) rfl rfl)) fun a hf => ?_
      obtain ⟨y20, hz21, h17⟩ := bind_some h17
      refine pl_gl (wanted_t hf rfl rfl rfl rfl hc18) hf rfl rfl (w_call hf Try.call59 rfl (r_impl_rising ⟨_, Sh C _ _, none_, hM.sh_lt, none_not⟩ t1.Letters hp2 _ hz21) ?_)
      rintro _ w22 ⟨rfl, hM2⟩
      obtain ⟨hM, hx23, hup24⟩ := hM.back hM2
      dsimp only [List.cons_append, List.nil_append] at hM hup24
      clear hM2
      refine ⟨_, rfl, fun a hf => ?_⟩
      refine gq (wanted_t hf rfl rfl rfl rfl hc18) hf rfl rfl (e_not hf rfl) fun a hf => ?_
      refine q_ hf rfl rfl rfl (e_pick_f hf rfl hc18 rfl) fun a hf => ?_
      refine q_ hf rfl rfl rfl (e_move hf rfl) fun a hf => ?_
      rcases cond_some h17 with ⟨hc25, h17⟩ | ⟨hc25, h17⟩
      · refine pl_gs (wanted_f hf rfl rfl rfl rfl hc25) hf rfl rfl fun a hf => ?_
        refine pl_gs (wanted_f hf rfl rfl rfl rfl hc25) hf rfl rfl fun a hf => ?_
        refine pl_gs (wanted_f hf rfl rfl rfl rfl hc25) hf rfl rfl fun a hf => ?_
        refine pl_gs (wanted_f hf rfl rfl rfl rfl hc25) hf rfl rfl fun a hf => ?_
        refine pl_gs (wanted_f hf rfl rfl rfl rfl hc25) hf rfl rfl fun a hf => ?_
        refine q_ hf rfl rfl rfl (e_pick_t hf rfl hc25 rfl) fun a hf => ?_
        refine q_ hf rfl rfl rfl (e_move hf rfl) fun a hf => ?_
        refine pl_gs (wanted_f hf rfl rfl rfl rfl rfl) hf rfl rfl fun a hf => ?_
        refine pl_gs (wanted_f hf rfl rfl rfl rfl rfl) hf rfl rfl fun a hf => ?_
        refine pl_gs (wanted_f hf rfl rfl rfl rfl rfl) hf rfl rfl fun a hf => ?_
        refine pl_gs (wanted_f hf rfl rfl rfl rfl rfl) hf rfl rfl fun a hf => ?_
        refine pl_gs (wanted_f hf rfl rfl rfl rfl rfl) hf rfl rfl fun a hf => ?_
        refine q_ hf rfl rfl rfl (e_pick_t hf rfl rfl rfl) fun a hf => ?_
        refine q_ hf rfl rfl rfl (e_move hf rfl) fun a hf => ?_
        refine pl_gs (wanted_f hf rfl rfl rfl rfl rfl) hf rfl rfl fun a hf => ?_
        refine pl_gs (wanted_f hf rfl rfl rfl rfl rfl) hf rfl rfl fun a hf => ?_
        refine pl_gs (wanted_f hf rfl rfl rfl rfl rfl) hf rfl rfl fun a hf => ?_
        refine pl_gs (wanted_f hf rfl rfl rfl rfl rfl) hf rfl rfl fun a hf => ?_
        refine q_ hf rfl rfl rfl (e_pick_t hf rfl rfl rfl) fun a hf => ?_
        refine pl_nil ?_
        obtain rfl := some_inj h17
        refine then_n ?_
        exact ⟨true, rfl, hf.keep ⟨rfl, rfl, trivial⟩, hM.pick [0, 1] rfl⟩
      · refine gq (wanted_t hf rfl rfl rfl rfl hc25) hf rfl rfl (e_field hf rfl Try.underlying28 rfl Try.sizeOf22 (o' := 1) rfl) fun a hf => ?_
        refine gq (wanted_t hf rfl rfl rfl rfl hc25) hf rfl rfl (e_load1 hf rfl Try.isAgg22 (hM.boxCell (k := 0) rfl rfl)) fun a hf => ?_
        have hl27 := slice_len (hM.dat (k := 1) rfl)
        refine gq (wanted_t hf rfl rfl rfl rfl hc25) hf rfl rfl (e_lenL hf (x := t1.Values) rfl Try.underlying22) fun a hf => ?_
        refine gq (wanted_t hf rfl rfl rfl rfl hc25) hf rfl rfl (e_move hf rfl) fun a hf => ?_
        refine gq (wanted_t hf rfl rfl rfl rfl hc25) hf rfl rfl (e_ne hf (x := (t1.Values.length : Int)) (y := (t1.Letters.length : Int)) rfl rfl) fun a hf => ?_
        refine q_ hf rfl rfl rfl (e_pick_f hf rfl hc25 rfl) fun a hf => ?_
        refine q_ hf rfl rfl rfl (e_move hf rfl) fun a hf => ?_
        rcases cond_some h17 with ⟨hc28, h17⟩ | ⟨hc28, h17⟩
        · refine pl_gs (wanted_f hf rfl rfl rfl rfl hc28) hf rfl rfl fun a hf => ?_
          refine pl_gs (wanted_f hf rfl rfl rfl rfl hc28) hf rfl rfl fun a hf => ?_
          refine pl_gs (wanted_f hf rfl rfl rfl rfl hc28) hf rfl rfl fun a hf => ?_
          refine pl_gs (wanted_f hf rfl rfl rfl rfl hc28) hf rfl rfl fun a hf => ?_
          refine pl_gs (wanted_f hf rfl rfl rfl rfl hc28) hf rfl rfl fun a hf => ?_
          refine q_ hf rfl rfl rfl (e_pick_t hf rfl hc28 rfl) fun a hf => ?_
          refine q_ hf rfl rfl rfl (e_move hf rfl) fun a hf => ?_
          refine pl_gs (wanted_f hf rfl rfl rfl rfl rfl) hf rfl rfl fun a hf => ?_
          refine pl_gs (wanted_f hf rfl rfl rfl rfl rfl) hf rfl rfl fun a hf => ?_
          refine pl_gs (wanted_f hf rfl rfl rfl rfl rfl) hf rfl rfl fun a hf => ?_
          refine pl_gs (wanted_f hf rfl rfl rfl rfl rfl) hf rfl rfl fun a hf => ?_
          refine q_ hf rfl rfl rfl (e_pick_t hf rfl rfl rfl) fun a hf => ?_
          refine pl_nil ?_
          obtain rfl := some_inj h17
          refine then_n ?_
          exact ⟨true, rfl, hf.keep ⟨rfl, rfl, trivial⟩, hM.pick [0, 1] rfl⟩
        · refine gq (wanted_t hf rfl rfl rfl rfl hc28) hf rfl rfl (e_field hf rfl Try.underlying28 rfl Try.sizeOf22 (o' := 2) rfl) fun a hf => ?_
          refine gq (wanted_t hf rfl rfl rfl rfl hc28) hf rfl rfl (e_load1 hf rfl Try.isAgg22 (hM.boxCell (k := 0) rfl rfl)) fun a hf => ?_
          have hl30 := slice_len (hM.dat (k := 0) rfl)
          refine gq (wanted_t hf rfl rfl rfl rfl hc28) hf rfl rfl (e_lenL hf (x := t1.Counts) rfl Try.underlying22) fun a hf => ?_
          refine gq (wanted_t hf rfl rfl rfl rfl hc28) hf rfl rfl (e_move hf rfl) fun a hf => ?_
          refine gq (wanted_t hf rfl rfl rfl rfl hc28) hf rfl rfl (e_ne hf (x := (t1.Counts.length : Int)) (y := (t1.Letters.length : Int)) rfl rfl) fun a hf => ?_
          refine q_ hf rfl rfl rfl (e_pick_f hf rfl hc28 rfl) fun a hf => ?_
          refine q_ hf rfl rfl rfl (e_move hf rfl) fun a hf => ?_
          rcases cond_some h17 with ⟨hc31, h17⟩ | ⟨hc31, h17⟩
          · refine pl_gs (wanted_f hf rfl rfl rfl rfl hc31) hf rfl rfl fun a hf => ?_
            refine pl_gs (wanted_f hf rfl rfl rfl rfl hc31) hf rfl rfl fun a hf => ?_
            refine pl_gs (wanted_f hf rfl rfl rfl rfl hc31) hf rfl rfl fun a hf => ?_
            refine pl_gs (wanted_f hf rfl rfl rfl rfl hc31) hf rfl rfl fun a hf => ?_
            refine q_ hf rfl rfl rfl (e_pick_t hf rfl hc31 rfl) fun a hf => ?_
            refine pl_nil ?_
            obtain rfl := some_inj h17
            refine then_n ?_
            exact ⟨true, rfl, hf.keep ⟨rfl, rfl, trivial⟩, hM.pick [0, 1] rfl⟩
          · refine gq (wanted_t hf rfl rfl rfl rfl hc31) hf rfl rfl (e_field hf rfl Try.underlying28 rfl Try.sizeOf2 (o' := 3) rfl) fun a hf => ?_
            refine gq (wanted_t hf rfl rfl rfl rfl hc31) hf rfl rfl (e_load1 hf rfl Try.isAgg2 (hM.boxCell (k := 0) rfl rfl)) fun a hf => ?_
            obtain ⟨y33, hz34, h17⟩ := bind_some h17
            refine pl_gl (wanted_t hf rfl rfl rfl rfl hc31) hf rfl rfl (w_call hf Try.call60 rfl (r_impl_within ⟨_, Sh C _ _, none_, hM.sh_lt, none_not⟩ t1.Blanks hp9 0 (R64_lit rfl) 4 (R64_lit rfl) _ hz34) ?_)
            rintro _ w35 ⟨rfl, hM2⟩
            obtain ⟨hM, hx36, hup37⟩ := hM.back hM2
            dsimp only [List.cons_append, List.nil_append] at hM hup37
            clear hM2
            refine ⟨_, rfl, fun a hf => ?_⟩
            refine gq (wanted_t hf rfl rfl rfl rfl hc31) hf rfl rfl (e_not hf rfl) fun a hf => ?_
            refine q_ hf rfl rfl rfl (e_pick_f hf rfl hc31 rfl) fun a hf => ?_
            refine pl_nil ?_
            obtain rfl := some_inj h17
            refine then_n ?_
            exact ⟨(!y33), rfl, hf.keep ⟨rfl, rfl, trivial⟩, hM.pick [0, 1] rfl⟩
  · rintro a w39 ⟨t14, rfl, hf, hM⟩
    try dsimp only at h
    rcases cond_some h with ⟨hc40, h⟩ | ⟨hc40, h⟩
    · refine cond_t hf rfl hc40 ?_
      refine wp_seq ?_
      refine region_pl ?_
      refine q_ hf rfl rfl rfl (e_assign hf rfl) fun a hf => ?_
      refine pl_nil ?_
      refine then_n ?_
      refine wp_ret ?_
      refine then_r ?_
      obtain rfl := some_inj h
      have hM := hM.outs (own' := []) 0 rfl
      exact leave1 hf rfl rfl ⟨rfl, hM.fin⟩
    · refine cond_f hf rfl hc40 ?_
      refine wp_skip ?_
      refine then_n ?_
      refine wp_seq ?_
      refine region_pl ?_
      refine q_ hf rfl rfl rfl (e_field hf rfl Try.underlying28 rfl Try.sizeOf2 (o' := 3) rfl) fun a hf => ?_
      refine q_ hf rfl rfl rfl (e_load1 hf rfl Try.isAgg2 (hM.boxCell (k := 0) rfl rfl)) fun a hf => ?_
      refine q_ hf rfl rfl rfl (e_assign hf rfl) fun a hf => ?_
      refine pl_nil ?_
      refine then_n ?_
      obtain ⟨x43, h44, h⟩ := bind_some h
      refine seq_join (fun a w => ∃ (i41 : Int), (.inl i41) = x43 ∧ Has 66 a [(4, vI (i41))] ∧ Mem C w [.box b10 [vS (t1.Letters), vL A3 (t1.Values) c4, vL A6 (t1.Counts) c7, vI (t1.Blanks)] 28] [.dat (sliceRep intRep) t1.Counts [vL A6 t1.Counts c7], .dat (sliceRep intRep) t1.Values [vL A3 t1.Values c4]] ∧ R64 i41) ?_ ?_
      · refine wp_seq ?_
        refine region_pl ?_
        refine q_ hf rfl rfl rfl (e_field hf rfl Try.underlying28 rfl Try.sizeOf22 (o' := 2) rfl) fun a hf => ?_
        refine q_ hf rfl rfl rfl (e_load1 hf rfl Try.isAgg22 (hM.boxCell (k := 0) rfl rfl)) fun a hf => ?_
        have hl45 := slice_len (hM.dat (k := 0) rfl)
        refine q_ hf rfl rfl rfl (e_lenL hf (x := t1.Counts) rfl Try.underlying22) fun a hf => ?_
        refine q_ hf rfl rfl rfl (e_move hf rfl) fun a hf => ?_
        refine pl_nil ?_
        refine then_n ?_
        refine wp_block ?_
        obtain ⟨x53, h54, h44⟩ := bind_some h44
        refine wp_loopM h54 (fun s a w => ∃ (i46 : Int) (n48 : Int), (i46, n48) = s ∧ Has 66 a [(1, vP b10 (0)), (4, vI (i46)), (41, vL A6 (t1.Counts) c7), (42, vI ((t1.Counts.length : Int))), (43, vI (n48))] ∧ Mem C w [.box b10 [vS (t1.Letters), vL A3 (t1.Values) c4, vL A6 (t1.Counts) c7, vI (t1.Blanks)] 28] [.dat (sliceRep intRep) t1.Counts [vL A6 t1.Counts c7], .dat (sliceRep intRep) t1.Values [vL A3 t1.Values c4]] ∧ R64 i46 ∧ R64 n48) ?_ ?_
        · exact ⟨t1.Blanks, 0, rfl, hf.keep ⟨rfl, rfl, rfl, rfl, rfl, trivial⟩, hM.pick [0, 1] rfl, hp9, (R64_lit rfl)⟩
        · rintro s o55 a w50 ⟨i46, n48, rfl, hf, hM, hv47, hv49⟩ h56 hd57
          replace h56 : m_impl_ValidTiles_l1 t1 i46 n48 = some o55 := h56
          unfold m_impl_ValidTiles_l1 at h56
          refine wp_seq ?_
          refine region_pl ?_
          refine q_ hf rfl rfl rfl (e_lt hf (x := n48) (y := (t1.Counts.length : Int)) rfl rfl) fun a hf => ?_
          refine pl_nil ?_
          refine then_n ?_
          refine wp_seq ?_
          rcases cond_some h56 with ⟨hc58, h56⟩ | ⟨hc58, h56⟩
          · refine cond_t hf rfl hc58 ?_
            refine wp_skip ?_
            refine then_n ?_
            refine wp_seq ?_
            refine wp_block ?_
            refine wp_seq ?_
            refine region_pl ?_
            refine q_ hf rfl rfl rfl (e_move hf rfl) fun a hf => ?_
            obtain ⟨e59, hz60, h56⟩ := bind_some h56
            obtain ⟨b64, o65, _, hA66, h61, h62, hr63, hM⟩ := hM.elem (hM.dat (k := 0) rfl) (n := 1) rfl hz60
            obtain ⟨rfl, hv67⟩ := hr63
            refine q_ hf rfl rfl rfl (e_indexAddr (A := A6) (b := b64) (o := o65) (xs := t1.Counts) (i := n48) hf hA66 rfl rfl Try.underlying22 Try.sizeOf2 h61 h62) fun a hf => ?_
            refine q_ hf rfl rfl rfl (e_load1 hf rfl Try.isAgg2 (hM.litCell (k := 0) (j := 0) rfl rfl rfl)) fun a hf => ?_
            refine q_ hf rfl rfl rfl (e_assign hf rfl) fun a hf => ?_
            refine q_ hf rfl rfl rfl (e_assign hf rfl) fun a hf => ?_
            refine pl_nil ?_
            refine then_n ?_
            refine wp_seq ?_
            obtain ⟨x70, h71, h56⟩ := bind_some h56
            refine seq_join (fun a w => ∃ (t68 : Bool), t68 = x70 ∧ Has 66 a [(1, vP b10 (0)), (4, vI (i46)), (6, vI (e59)), (41, vL A6 (t1.Counts) c7), (42, vI ((t1.Counts.length : Int))), (43, vI (n48)), (59, .bool (t68))] ∧ Mem C w [.box b10 [vS (t1.Letters), vL A3 (t1.Values) c4, vL A6 (t1.Counts) c7, vI (t1.Blanks)] 28] [.lit b64 (o65 + (n48 : Int).toNat * 1) [vI (e59)], .dat (sliceRep intRep) t1.Counts [vL A6 t1.Counts c7], .dat (sliceRep intRep) t1.Values [vL A3 t1.Values c4]]) ?_ ?_
            · refine region_pl ?_
              refine q_ hf rfl rfl rfl (e_field hf rfl Try.underlying28 rfl Try.sizeOf22 (o' := 1) rfl) fun a hf => ?_
              refine q_ hf rfl rfl rfl (e_load1 hf rfl Try.isAgg22 (hM.boxCell (k := 0) rfl rfl)) fun a hf => ?_
              refine q_ hf rfl rfl rfl (e_move hf rfl) fun a hf => ?_
              obtain ⟨e72, hz73, h71⟩ := bind_some h71
              obtain ⟨b77, o78, _, hA79, h74, h75, hr76, hM⟩ := hM.elem (hM.dat (k := 2) rfl) (n := 1) rfl hz73
              obtain ⟨rfl, hv80⟩ := hr76
              refine q_ hf rfl rfl rfl (e_indexAddr (A := A3) (b := b77) (o := o78) (xs := t1.Values) (i := n48) hf hA79 rfl rfl Try.underlying22 Try.sizeOf2 h74 h75) fun a hf => ?_
              refine q_ hf rfl rfl rfl (e_load1 hf rfl Try.isAgg2 (hM.litCell (k := 0) (j := 0) rfl rfl rfl)) fun a hf => ?_
              obtain ⟨y81, hz82, h71⟩ := bind_some h71
              refine pl_l hf rfl rfl rfl (w_call hf Try.call60 rfl (r_impl_within ⟨_, Sh C _ _, none_, hM.sh_lt, none_not⟩ e72 hv80 0 (R64_lit rfl) 20 (R64_lit rfl) _ hz82) ?_)
              rintro _ w83 ⟨rfl, hM2⟩
              obtain ⟨hM, hx84, hup85⟩ := hM.back hM2
              dsimp only [List.cons_append, List.nil_append] at hM hup85
              clear hM2
              refine ⟨_, rfl, fun a hf => ?_⟩
              refine q_ hf rfl rfl rfl (e_not hf rfl) fun a hf => ?_
              refine q_ hf rfl rfl rfl (e_move hf rfl) fun a hf => ?_
              rcases cond_some h71 with ⟨hc86, h71⟩ | ⟨hc86, h71⟩
              · refine pl_gs (wanted_f hf rfl rfl rfl rfl hc86) hf rfl rfl fun a hf => ?_
                refine pl_gs (wanted_f hf rfl rfl rfl rfl hc86) hf rfl rfl fun a hf => ?_
                refine pl_gs (wanted_f hf rfl rfl rfl rfl hc86) hf rfl rfl fun a hf => ?_
                refine q_ hf rfl rfl rfl (e_pick_t hf rfl hc86 rfl) fun a hf => ?_
                refine pl_nil ?_
                obtain rfl := some_inj h71
                refine then_n ?_
                exact ⟨true, rfl, hf.keep ⟨rfl, rfl, rfl, rfl, rfl, rfl, rfl, trivial⟩, hM.pick [1, 2, 3] rfl⟩
              · refine gq (wanted_t hf rfl rfl rfl rfl hc86) hf rfl rfl (e_move hf rfl) fun a hf => ?_
                obtain ⟨y88, hz89, h71⟩ := bind_some h71
                refine pl_gl (wanted_t hf rfl rfl rfl rfl hc86) hf rfl rfl (w_call hf Try.call60 rfl (r_impl_within ⟨_, Sh C _ _, none_, hM.sh_lt, none_not⟩ e59 hv67 1 (R64_lit rfl) 20 (R64_lit rfl) _ hz89) ?_)
                rintro _ w90 ⟨rfl, hM2⟩
                obtain ⟨hM, hx91, hup92⟩ := hM.back hM2
                dsimp only [List.cons_append, List.nil_append] at hM hup92
                clear hM2
                refine ⟨_, rfl, fun a hf => ?_⟩
                refine gq (wanted_t hf rfl rfl rfl rfl hc86) hf rfl rfl (e_not hf rfl) fun a hf => ?_
                refine q_ hf rfl rfl rfl (e_pick_f hf rfl hc86 rfl) fun a hf => ?_
                refine pl_nil ?_
                obtain rfl := some_inj h71
                refine then_n ?_
                exact ⟨(!y88), rfl, hf.keep ⟨rfl, rfl, rfl, rfl, rfl, rfl, rfl, trivial⟩, hM.pick [1, 2, 3] rfl⟩
            · rintro a w94 ⟨t68, rfl, hf, hM⟩
              try dsimp only at h56
              rcases cond_some h56 with ⟨hc95, h56⟩ | ⟨hc95, h56⟩
              · refine cond_t hf rfl hc95 ?_
                refine wp_seq ?_
                refine region_pl ?_
                refine q_ hf rfl rfl rfl (e_assign hf rfl) fun a hf => ?_
                refine pl_nil ?_
                refine then_n ?_
                refine wp_ret ?_
                refine then_r ?_
                refine blk_r ?_
                refine then_r ?_
                obtain rfl := some_inj h56
                obtain rfl := hd57 _ rfl
                try dsimp only at h44
                refine then_r ?_
                refine blk_r ?_
                obtain rfl := some_inj h44
                try dsimp only at h
                refine then_r ?_
                obtain rfl := some_inj h
                have hM := hM.outs (own' := []) 0 rfl
                exact leave1 hf rfl rfl ⟨rfl, hM.fin⟩
              · refine cond_f hf rfl hc95 ?_
                refine wp_skip ?_
                refine then_n ?_
                refine region_pl ?_
                refine q_ hf rfl rfl rfl (e_move hf rfl) fun a hf => ?_
                refine q_ hf rfl rfl rfl (e_move hf rfl) fun a hf => ?_
                obtain ⟨z96, hz97, h56⟩ := bind_some h56
                refine q_ hf rfl rfl rfl (e_add hf rfl rfl hz97) fun a hf => ?_
                refine q_ hf rfl rfl rfl (e_assign hf rfl) fun a hf => ?_
                refine pl_nil ?_
                refine blk_n ?_
                refine then_n ?_
                refine region_pl ?_
                obtain ⟨z98, hz99, h56⟩ := bind_some h56
                refine q_ hf rfl rfl rfl (e_add hf rfl rfl hz99) fun a hf => ?_
                refine q_ hf rfl rfl rfl (e_move hf rfl) fun a hf => ?_
                refine pl_nil ?_
                obtain rfl := some_inj h56
                refine then_n ⟨_, rfl, ?_⟩
                exact ⟨z96, z98, rfl, hf.keep ⟨rfl, rfl, rfl, rfl, rfl, trivial⟩, hM.pick [1, 2] rfl, (chk_R hz97), (chk_R hz99)⟩
          · refine cond_f hf rfl hc58 ?_
            refine wp_exit ?_
            refine then_x ?_
            obtain rfl := some_inj h56
            obtain rfl := hd57 _ rfl
            try dsimp only at h44
            refine then_x ?_
            refine exit_hit ?_
            obtain rfl := some_inj h44
            refine then_n ?_
            exact ⟨i46, rfl, hf.keep ⟨rfl, trivial⟩, hM.pick [0, 1] rfl, hv47⟩
      · rintro a w106 ⟨i41, rfl, hf, hM, hv42⟩
        try dsimp only at h
        refine wp_seq ?_
        refine region_pl ?_
        refine q_ hf rfl rfl rfl (e_move hf rfl) fun a hf => ?_
        refine q_ hf rfl rfl rfl (e_le hf (x := i41) (y := 120) rfl rfl) fun a hf => ?_
        refine q_ hf rfl rfl rfl (e_assign hf rfl) fun a hf => ?_
        refine pl_nil ?_
        refine then_n ?_
        refine wp_ret ?_
        obtain rfl := some_inj h
        have hM := hM.outs (own' := []) 0 rfl
        exact leave1 hf rfl rfl ⟨rfl, hM.fin⟩

set_option maxRecDepth 100000 in
set_option maxHeartbeats 4000000 in
theorem r_impl_place (C : Cx) (tile1 : UInt8) (r : Int) (h : m_impl_place tile1 = some r) :
    Calls Try.prog 81 #[vB (tile1)] C.w0 fun e w => e = .returned (vI (r)) ∧ Mem C w [] [] ∧ R64 r := by
  have hM := Mem.begin C [] trivial
  refine enter Try.func81 rfl Try.ntmps81 rfl fun a hf => ?_
  unfold m_impl_place at h
  refine wp_seq ?_
  refine region_pl ?_
  refine q_ hf rfl rfl rfl (e_assign hf rfl) fun a hf => ?_
  refine pl_nil ?_
  refine then_n ?_
  refine wp_seq ?_
  refine wp_block ?_
  refine wp_seq ?_
  refine region_pl ?_
  refine q_ hf rfl rfl rfl (e_move hf rfl) fun a hf => ?_
  refine q_ hf rfl rfl rfl (e_eqB hf (x := tile1) (y := 63) rfl rfl) fun a hf => ?_
  refine q_ hf rfl rfl rfl (e_assign hf rfl) fun a hf => ?_
  refine pl_nil ?_
  refine then_n ?_
  rcases cond_some h with ⟨hc2, h⟩ | ⟨hc2, h⟩
  · refine cond_t hf rfl hc2 ?_
    refine wp_seq ?_
    refine region_pl ?_
    refine q_ hf rfl rfl rfl (e_assign hf rfl) fun a hf => ?_
    refine pl_nil ?_
    refine then_n ?_
    refine wp_ret ?_
    refine blk_r ?_
    refine then_r ?_
    obtain rfl := some_inj h
    exact leave1 hf rfl rfl ⟨rfl, hM.fin, (R64_lit rfl)⟩
  · refine cond_f hf rfl hc2 ?_
    refine wp_seq ?_
    refine region_pl ?_
    refine q_ hf rfl rfl rfl (e_move hf rfl) fun a hf => ?_
    obtain ⟨y3, hz4, h⟩ := bind_some h
    refine pl_l hf rfl rfl rfl (w_call hf Try.call89 rfl (r_impl_small ⟨_, Sh C _ _, none_, hM.sh_lt, none_not⟩ tile1 _ hz4) ?_)
    rintro _ w5 ⟨rfl, hM2⟩
    obtain ⟨hM, hx6, hup7⟩ := hM.back hM2
    dsimp only [List.cons_append, List.nil_append] at hM hup7
    clear hM2
    refine ⟨_, rfl, fun a hf => ?_⟩
    refine q_ hf rfl rfl rfl (e_assign hf rfl) fun a hf => ?_
    refine pl_nil ?_
    refine then_n ?_
    rcases cond_some h with ⟨hc8, h⟩ | ⟨hc8, h⟩
    · refine cond_t hf rfl hc8 ?_
      refine wp_seq ?_
      refine region_pl ?_
      refine q_ hf rfl rfl rfl (e_move hf rfl) fun a hf => ?_
      refine q_ hf rfl rfl rfl (e_subB hf (x := tile1) (y := 97) rfl rfl) fun a hf => ?_
      refine q_ hf rfl rfl rfl (e_convBI hf (x := tile1 - 97) rfl Try.underlying5 Try.underlying3) fun a hf => ?_
      obtain ⟨z9, hz10, h⟩ := bind_some h
      refine q_ hf rfl rfl rfl (e_add hf rfl rfl hz10) fun a hf => ?_
      refine q_ hf rfl rfl rfl (e_assign hf rfl) fun a hf => ?_
      refine pl_nil ?_
      refine then_n ?_
      refine wp_ret ?_
      refine blk_r ?_
      refine then_r ?_
      obtain rfl := some_inj h
      exact leave1 hf rfl rfl ⟨rfl, hM.fin, (chk_R hz10)⟩
    · refine cond_f hf rfl hc8 ?_
      refine wp_skip ?_
      refine blk_n ?_
      refine then_n ?_
      refine wp_seq ?_
      refine region_pl ?_
      refine q_ hf rfl rfl rfl (e_assign hf rfl) fun a hf => ?_
      refine pl_nil ?_
      refine then_n ?_
      refine wp_ret ?_
      obtain rfl := some_inj h
      exact leave1 hf rfl rfl ⟨rfl, hM.fin, (R64_lit rfl)⟩

set_option maxRecDepth 100000 in
set_option maxHeartbeats 4000000 in
theorem r_impl_onlyTiles (C : Cx) (s1 : Str) (hp2 : s1.length ≤ maxLen) (r : Bool) (h : m_impl_onlyTiles s1 = some r) :
    Calls Try.prog 70 #[vS (s1)] C.w0 fun e w => e = .returned (.bool (r)) ∧ Mem C w [] [] := by
  have hM := Mem.begin C [] trivial
  refine enter Try.func70 rfl Try.ntmps70 rfl fun a hf => ?_
  unfold m_impl_onlyTiles at h
  refine wp_seq ?_
  refine region_pl ?_
  refine q_ hf rfl rfl rfl (e_assign hf rfl) fun a hf => ?_
  refine pl_nil ?_
  refine then_n ?_
  obtain ⟨x3, h4, h⟩ := bind_some h
  refine seq_join (fun a w => (.inl ()) = x3 ∧ Has 15 a [] ∧ Mem C w [] []) ?_ ?_
  · refine wp_seq ?_
    refine region_pl ?_
    refine q_ hf rfl rfl rfl (e_assign hf rfl) fun a hf => ?_
    refine pl_nil ?_
    refine then_n ?_
    refine wp_block ?_
    obtain ⟨x8, h9, h4⟩ := bind_some h4
    refine wp_loopM h9 (fun s a w => ∃ (n5 : Int), n5 = s ∧ Has 15 a [(0, vS (s1)), (3, vI (n5))] ∧ Mem C w [] [] ∧ R64 n5) ?_ ?_
    · exact ⟨0, rfl, hf.keep ⟨rfl, rfl, trivial⟩, hM.pick [] rfl, (R64_lit rfl)⟩
    · rintro s o10 a w7 ⟨n5, rfl, hf, hM, hv6⟩ h11 hd12
      replace h11 : m_impl_onlyTiles_l1 s1 n5 = some o10 := h11
      unfold m_impl_onlyTiles_l1 at h11
      refine wp_seq ?_
      refine wp_seq ?_
      refine region_pl ?_
      refine q_ hf rfl rfl rfl (e_move hf rfl) fun a hf => ?_
      refine q_ hf rfl rfl rfl (e_move hf rfl) fun a hf => ?_
      refine q_ hf rfl rfl rfl (e_lenS hf (x := s1) rfl Try.underlying9) fun a hf => ?_
      refine q_ hf rfl rfl rfl (e_lt hf (x := n5) (y := (s1.length : Int)) rfl rfl) fun a hf => ?_
      refine pl_nil ?_
      refine then_n ?_
      rcases cond_some h11 with ⟨hc13, h11⟩ | ⟨hc13, h11⟩
      · refine cond_t hf rfl hc13 ?_
        refine wp_skip ?_
        refine then_n ?_
        refine wp_seq ?_
        refine wp_block ?_
        refine wp_seq ?_
        refine region_pl ?_
        refine q_ hf rfl rfl rfl (e_move hf rfl) fun a hf => ?_
        refine q_ hf rfl rfl rfl (e_move hf rfl) fun a hf => ?_
        obtain ⟨c14, hz15, h11⟩ := bind_some h11
        refine q_ hf rfl rfl rfl (e_indexS hf (x := s1) rfl rfl Try.underlying9 hz15) fun a hf => ?_
        obtain ⟨y16, hz17, h11⟩ := bind_some h11
        refine pl_l hf rfl rfl rfl (w_call hf Try.call81 rfl (r_impl_place ⟨_, Sh C _ _, none_, hM.sh_lt, none_not⟩ c14 _ hz17) ?_)
        rintro _ w19 ⟨rfl, hM2, hv18⟩
        obtain ⟨hM, hx20, hup21⟩ := hM.back hM2
        dsimp only [List.cons_append, List.nil_append] at hM hup21
        clear hM2
        refine ⟨_, rfl, fun a hf => ?_⟩
        refine q_ hf rfl rfl rfl (e_lt hf (x := y16) (y := 0) rfl rfl) fun a hf => ?_
        refine pl_nil ?_
        refine then_n ?_
        rcases cond_some h11 with ⟨hc22, h11⟩ | ⟨hc22, h11⟩
        · refine cond_t hf rfl hc22 ?_
          refine wp_seq ?_
          refine region_pl ?_
          refine q_ hf rfl rfl rfl (e_assign hf rfl) fun a hf => ?_
          refine pl_nil ?_
          refine then_n ?_
          refine wp_ret ?_
          refine blk_r ?_
          refine then_r ?_
          obtain rfl := some_inj h11
          obtain rfl := hd12 _ rfl
          try dsimp only at h4
          refine then_r ?_
          refine blk_r ?_
          obtain rfl := some_inj h4
          try dsimp only at h
          refine then_r ?_
          obtain rfl := some_inj h
          exact leave1 hf rfl rfl ⟨rfl, hM.fin⟩
        · refine cond_f hf rfl hc22 ?_
          refine wp_skip ?_
          refine blk_n ?_
          refine then_n ?_
          refine region_pl ?_
          refine q_ hf rfl rfl rfl (e_move hf rfl) fun a hf => ?_
          obtain ⟨z23, hz24, h11⟩ := bind_some h11
          refine q_ hf rfl rfl rfl (e_add hf rfl rfl hz24) fun a hf => ?_
          refine q_ hf rfl rfl rfl (e_assign hf rfl) fun a hf => ?_
          refine pl_nil ?_
          obtain rfl := some_inj h11
          refine then_n ⟨_, rfl, ?_⟩
          exact ⟨z23, rfl, hf.keep ⟨rfl, rfl, trivial⟩, hM.pick [] rfl, (chk_R hz24)⟩
      · refine cond_f hf rfl hc13 ?_
        refine wp_exit ?_
        refine then_x ?_
        obtain rfl := some_inj h11
        obtain rfl := hd12 _ rfl
        try dsimp only at h4
        refine then_x ?_
        refine exit_hit ?_
        obtain rfl := some_inj h4
        refine then_n ?_
        exact ⟨rfl, hf.keep trivial, hM.pick [] rfl⟩
  · rintro a w31 ⟨rfl, hf, hM⟩
    try dsimp only at h
    refine wp_seq ?_
    refine region_pl ?_
    refine q_ hf rfl rfl rfl (e_assign hf rfl) fun a hf => ?_
    refine pl_nil ?_
    refine then_n ?_
    refine wp_ret ?_
    obtain rfl := some_inj h
    exact leave1 hf rfl rfl ⟨rfl, hM.fin⟩

set_option maxRecDepth 100000 in
set_option maxHeartbeats 4000000 in
theorem r_impl_ValidPile (C : Cx) (s1 : Str) (hp2 : s1.length ≤ maxLen) (r : Bool) (h : m_impl_ValidPile s1 = some r) :
    Calls Try.prog 47 #[vS (s1)] C.w0 fun e w => e = .returned (.bool (r)) ∧ Mem C w [] [] := by
  have hM := Mem.begin C [] trivial
  refine enter Try.func47 rfl Try.ntmps47 rfl fun a hf => ?_
  unfold m_impl_ValidPile at h
  refine wp_seq ?_
  refine region_pl ?_
  refine q_ hf rfl rfl rfl (e_assign hf rfl) fun a hf => ?_
  refine pl_nil ?_
  refine then_n ?_
  refine wp_seq ?_
  obtain ⟨x5, h6, h⟩ := bind_some h
  refine seq_join (fun a w => ∃ (t3 : Bool), t3 = x5 ∧ Has 26 a [(0, vS (s1)), (11, .bool (t3))] ∧ Mem C w [] []) ?_ ?_
  · refine region_pl ?_
    refine q_ hf rfl rfl rfl (e_move hf rfl) fun a hf => ?_
    refine q_ hf rfl rfl rfl (e_lenS hf (x := s1) rfl Try.underlying9) fun a hf => ?_
    refine q_ hf rfl rfl rfl (e_gt hf (x := (s1.length : Int)) (y := 120) rfl rfl) fun a hf => ?_
    refine q_ hf rfl rfl rfl (e_move hf rfl) fun a hf => ?_
    rcases cond_some h6 with ⟨hc7, h6⟩ | ⟨hc7, h6⟩
    · refine pl_gs (wanted_f hf rfl rfl rfl rfl hc7) hf rfl rfl fun a hf => ?_
      refine pl_gs (wanted_f hf rfl rfl rfl rfl hc7) hf rfl rfl fun a hf => ?_
      refine pl_gs (wanted_f hf rfl rfl rfl rfl hc7) hf rfl rfl fun a hf => ?_
      refine q_ hf rfl rfl rfl (e_pick_t hf rfl hc7 rfl) fun a hf => ?_
      refine pl_nil ?_
      obtain rfl := some_inj h6
      refine then_n ?_
      exact ⟨true, rfl, hf.keep ⟨rfl, rfl, trivial⟩, hM.pick [] rfl⟩
    · refine gq (wanted_t hf rfl rfl rfl rfl hc7) hf rfl rfl (e_move hf rfl) fun a hf => ?_
      obtain ⟨y9, hz10, h6⟩ := bind_some h6
      refine pl_gl (wanted_t hf rfl rfl rfl rfl hc7) hf rfl rfl (w_call hf Try.call70 rfl (r_impl_onlyTiles ⟨_, Sh C _ _, none_, hM.sh_lt, none_not⟩ s1 hp2 _ hz10) ?_)
      rintro _ w11 ⟨rfl, hM2⟩
      obtain ⟨hM, hx12, hup13⟩ := hM.back hM2
      dsimp only [List.cons_append, List.nil_append] at hM hup13
      clear hM2
      refine ⟨_, rfl, fun a hf => ?_⟩
      refine gq (wanted_t hf rfl rfl rfl rfl hc7) hf rfl rfl (e_not hf rfl) fun a hf => ?_
      refine q_ hf rfl rfl rfl (e_pick_f hf rfl hc7 rfl) fun a hf => ?_
      refine pl_nil ?_
      obtain rfl := some_inj h6
      refine then_n ?_
      exact ⟨(!y9), rfl, hf.keep ⟨rfl, rfl, trivial⟩, hM.pick [] rfl⟩
  · rintro a w15 ⟨t3, rfl, hf, hM⟩
    try dsimp only at h
    rcases cond_some h with ⟨hc16, h⟩ | ⟨hc16, h⟩
    · refine cond_t hf rfl hc16 ?_
      refine wp_seq ?_
      refine region_pl ?_
      refine q_ hf rfl rfl rfl (e_assign hf rfl) fun a hf => ?_
      refine pl_nil ?_
      refine then_n ?_
      refine wp_ret ?_
      refine then_r ?_
      obtain rfl := some_inj h
      exact leave1 hf rfl rfl ⟨rfl, hM.fin⟩
    · refine cond_f hf rfl hc16 ?_
      refine wp_skip ?_
      refine then_n ?_
      obtain ⟨x17, h18, h⟩ := bind_some h
      refine seq_join (fun a w => (.inl ()) = x17 ∧ Has 26 a [] ∧ Mem C w [] []) ?_ ?_
      · refine wp_seq ?_
        refine region_pl ?_
        refine q_ hf rfl rfl rfl (e_assign hf rfl) fun a hf => ?_
        refine pl_nil ?_
        refine then_n ?_
        refine wp_block ?_
        obtain ⟨x22, h23, h18⟩ := bind_some h18
        refine wp_loopM h23 (fun s a w => ∃ (n19 : Int), n19 = s ∧ Has 26 a [(0, vS (s1)), (3, vI (n19))] ∧ Mem C w [] [] ∧ R64 n19) ?_ ?_
        · exact ⟨1, rfl, hf.keep ⟨rfl, rfl, trivial⟩, hM.pick [] rfl, (R64_lit rfl)⟩
        · rintro s o24 a w21 ⟨n19, rfl, hf, hM, hv20⟩ h25 hd26
          replace h25 : m_impl_ValidPile_l1 s1 n19 = some o24 := h25
          unfold m_impl_ValidPile_l1 at h25
          refine wp_seq ?_
          refine wp_seq ?_
          refine region_pl ?_
          refine q_ hf rfl rfl rfl (e_move hf rfl) fun a hf => ?_
          refine q_ hf rfl rfl rfl (e_move hf rfl) fun a hf => ?_
          refine q_ hf rfl rfl rfl (e_lenS hf (x := s1) rfl Try.underlying9) fun a hf => ?_
          refine q_ hf rfl rfl rfl (e_lt hf (x := n19) (y := (s1.length : Int)) rfl rfl) fun a hf => ?_
          refine pl_nil ?_
          refine then_n ?_
          rcases cond_some h25 with ⟨hc27, h25⟩ | ⟨hc27, h25⟩
          · refine cond_t hf rfl hc27 ?_
            refine wp_skip ?_
            refine then_n ?_
            refine wp_seq ?_
            refine wp_block ?_
            refine wp_seq ?_
            obtain ⟨w28, hw⟩ : ∃ x, x = w21.drew := ⟨_, rfl⟩
            refine region_pi (.q 0 (.q 1 (.q 2 (.q 3 (.q 4 (.q 5 (.q 6 (.q 7 (.nil))))))))) (Ext w28) rfl (by kernel_rfl) ?_
            have hM := hM.drew
            rw [← hw] at hM ⊢
            clear hw
            refine pi_q hf rfl rfl rfl rfl (Ext.refl _) (e_move hf rfl) fun a hf => ?_
            refine pi_q hf rfl rfl rfl rfl (Ext.refl _) (e_move hf rfl) fun a hf => ?_
            obtain ⟨z29, hz30, h25⟩ := bind_some h25
            refine pi_q hf rfl rfl rfl rfl (Ext.refl _) (e_sub hf rfl rfl hz30) fun a hf => ?_
            obtain ⟨c31, hz32, h25⟩ := bind_some h25
            refine pi_q hf rfl rfl rfl rfl (Ext.refl _) (e_indexS hf (x := s1) rfl rfl Try.underlying9 hz32) fun a hf => ?_
            refine pi_q hf rfl rfl rfl rfl (Ext.refl _) (e_move hf rfl) fun a hf => ?_
            refine pi_q hf rfl rfl rfl rfl (Ext.refl _) (e_move hf rfl) fun a hf => ?_
            obtain ⟨c33, hz34, h25⟩ := bind_some h25
            refine pi_q hf rfl rfl rfl rfl (Ext.refl _) (e_indexS hf (x := s1) rfl rfl Try.underlying9 hz34) fun a hf => ?_
            refine pi_q hf rfl rfl rfl rfl (Ext.refl _) (e_gtB hf (x := c31) (y := c33) rfl rfl) fun a hf => ?_
            refine pi_nil ?_
            refine then_n ?_
            rcases cond_some h25 with ⟨hc35, h25⟩ | ⟨hc35, h25⟩
            · refine cond_t hf rfl hc35 ?_
              refine wp_seq ?_
              refine region_pl ?_
              refine q_ hf rfl rfl rfl (e_assign hf rfl) fun a hf => ?_
              refine pl_nil ?_
              refine then_n ?_
              refine wp_ret ?_
              refine blk_r ?_
              refine then_r ?_
              obtain rfl := some_inj h25
              obtain rfl := hd26 _ rfl
              try dsimp only at h18
              refine then_r ?_
              refine blk_r ?_
              obtain rfl := some_inj h18
              try dsimp only at h
              refine then_r ?_
              obtain rfl := some_inj h
              exact leave1 hf rfl rfl ⟨rfl, hM.fin⟩
            · refine cond_f hf rfl hc35 ?_
              refine wp_skip ?_
              refine blk_n ?_
              refine then_n ?_
              refine region_pl ?_
              refine q_ hf rfl rfl rfl (e_move hf rfl) fun a hf => ?_
              obtain ⟨z36, hz37, h25⟩ := bind_some h25
              refine q_ hf rfl rfl rfl (e_add hf rfl rfl hz37) fun a hf => ?_
              refine q_ hf rfl rfl rfl (e_assign hf rfl) fun a hf => ?_
              refine pl_nil ?_
              obtain rfl := some_inj h25
              refine then_n ⟨_, rfl, ?_⟩
              exact ⟨z36, rfl, hf.keep ⟨rfl, rfl, trivial⟩, hM.pick [] rfl, (chk_R hz37)⟩
          · refine cond_f hf rfl hc27 ?_
            refine wp_exit ?_
            refine then_x ?_
            obtain rfl := some_inj h25
            obtain rfl := hd26 _ rfl
            try dsimp only at h18
            refine then_x ?_
            refine exit_hit ?_
            obtain rfl := some_inj h18
            refine then_n ?_
            exact ⟨rfl, hf.keep trivial, hM.pick [] rfl⟩
      · rintro a w44 ⟨rfl, hf, hM⟩
        try dsimp only at h
        refine wp_seq ?_
        refine region_pl ?_
        refine q_ hf rfl rfl rfl (e_assign hf rfl) fun a hf => ?_
        refine pl_nil ?_
        refine then_n ?_
        refine wp_ret ?_
        obtain rfl := some_inj h
        exact leave1 hf rfl rfl ⟨rfl, hM.fin⟩

set_option maxRecDepth 100000 in
set_option maxHeartbeats 4000000 in
theorem r_impl_ValidRack (C : Cx) (s1 : Str) (hp2 : s1.length ≤ maxLen) (r : Bool) (h : m_impl_ValidRack s1 = some r) :
    Calls Try.prog 33 #[vS (s1)] C.w0 fun e w => e = .returned (.bool (r)) ∧ Mem C w [] [] := by
  have hM := Mem.begin C [] trivial
  refine enter Try.func33 rfl Try.ntmps33 rfl fun a hf => ?_
  unfold m_impl_ValidRack at h
  refine wp_seq ?_
  refine region_pl ?_
  refine q_ hf rfl rfl rfl (e_assign hf rfl) fun a hf => ?_
  refine pl_nil ?_
  refine then_n ?_
  obtain ⟨x5, h6, h⟩ := bind_some h
  refine seq_join (fun a w => ∃ (t3 : Bool), t3 = x5 ∧ Has 10 a [(2, .bool (t3))] ∧ Mem C w [] []) ?_ ?_
  · refine region_pl ?_
    refine q_ hf rfl rfl rfl (e_move hf rfl) fun a hf => ?_
    refine q_ hf rfl rfl rfl (e_lenS hf (x := s1) rfl Try.underlying9) fun a hf => ?_
    refine q_ hf rfl rfl rfl (e_le hf (x := (s1.length : Int)) (y := 7) rfl rfl) fun a hf => ?_
    refine q_ hf rfl rfl rfl (e_move hf rfl) fun a hf => ?_
    rcases cond_some h6 with ⟨hc7, h6⟩ | ⟨hc7, h6⟩
    · refine gq (wanted_t hf rfl rfl rfl rfl hc7) hf rfl rfl (e_move hf rfl) fun a hf => ?_
      obtain ⟨y8, hz9, h6⟩ := bind_some h6
      refine pl_gl (wanted_t hf rfl rfl rfl rfl hc7) hf rfl rfl (w_call hf Try.call47 rfl (r_impl_ValidPile ⟨_, Sh C _ _, none_, hM.sh_lt, none_not⟩ s1 hp2 _ hz9) ?_)
      rintro _ w10 ⟨rfl, hM2⟩
      obtain ⟨hM, hx11, hup12⟩ := hM.back hM2
      dsimp only [List.cons_append, List.nil_append] at hM hup12
      clear hM2
      refine ⟨_, rfl, fun a hf => ?_⟩
      refine q_ hf rfl rfl rfl (e_pick_t hf rfl hc7 rfl) fun a hf => ?_
      refine q_ hf rfl rfl rfl (e_assign hf rfl) fun a hf => ?_
      refine pl_nil ?_
      obtain rfl := some_inj h6
      refine then_n ?_
      exact ⟨y8, rfl, hf.keep ⟨rfl, trivial⟩, hM.pick [] rfl⟩
    · refine pl_gs (wanted_f hf rfl rfl rfl rfl hc7) hf rfl rfl fun a hf => ?_
      refine pl_gs (wanted_f hf rfl rfl rfl rfl hc7) hf rfl rfl fun a hf => ?_
      refine q_ hf rfl rfl rfl (e_pick_f hf rfl hc7 rfl) fun a hf => ?_
      refine q_ hf rfl rfl rfl (e_assign hf rfl) fun a hf => ?_
      refine pl_nil ?_
      obtain rfl := some_inj h6
      refine then_n ?_
      exact ⟨false, rfl, hf.keep ⟨rfl, trivial⟩, hM.pick [] rfl⟩
  · rintro a w15 ⟨t3, rfl, hf, hM⟩
    try dsimp only at h
    refine wp_ret ?_
    obtain rfl := some_inj h
    exact leave1 hf rfl rfl ⟨rfl, hM.fin⟩

set_option maxRecDepth 100000 in
set_option maxHeartbeats 4000000 in
theorem r_impl_valueOf (C : Cx) (t1 : TileSet) (hp2 : t1.Letters.length ≤ maxLen) (A3 : Option Addr) (c4 : Nat) (hp5 : (sliceRep intRep).R C.w0 C.S0 t1.Values [vL A3 t1.Values c4]) (A6 : Option Addr) (c7 : Nat) (hp8 : (sliceRep intRep).R C.w0 C.S0 t1.Counts [vL A6 t1.Counts c7]) (hp9 : R64 t1.Blanks) (letter10 : UInt8) (r : Int) (h : m_impl_valueOf t1 letter10 = some r) :
    Calls Try.prog 61 #[.agg #[vS (t1.Letters), vL A3 (t1.Values) c4, vL A6 (t1.Counts) c7, vI (t1.Blanks)], vB (letter10)] C.w0 fun e w => e = .returned (vI (r)) ∧ Mem C w [] [] ∧ R64 r := by
  have hM := Mem.begin C [.dat (sliceRep intRep) t1.Counts [vL A6 t1.Counts c7], .dat (sliceRep intRep) t1.Values [vL A3 t1.Values c4]] ⟨hp8, hp5, trivial⟩
  refine enter Try.func61 rfl Try.ntmps61 rfl fun a hf => ?_
  unfold m_impl_valueOf at h
  refine wp_seq ?_
  refine region_pl ?_
  refine pl_l hf rfl rfl rfl (w_box hf hM (cs := [vS (t1.Letters), vL A3 (t1.Values) c4, vL A6 (t1.Counts) c7, vI (t1.Blanks)]) rfl rfl fun b11 w12 hx13 hM a hf => ?_)
  refine q_ hf rfl rfl rfl (e_assign hf rfl) fun a hf => ?_
  refine pl_nil ?_
  refine then_n ?_
  refine wp_seq ?_
  refine wp_seq ?_
  refine region_pl ?_
  refine q_ hf rfl rfl rfl (e_field hf rfl Try.underlying28 rfl Try.sizeOf9 (o' := 0) rfl) fun a hf => ?_
  refine q_ hf rfl rfl rfl (e_load1 hf rfl Try.isAgg9 (hM.boxCell (k := 0) rfl rfl)) fun a hf => ?_
  refine q_ hf rfl rfl rfl (e_move hf rfl) fun a hf => ?_
  obtain ⟨y15, hz16, h⟩ := bind_some h
  refine pl_l hf rfl rfl rfl (w_call hf Try.call77 rfl (r_strings_IndexByte ⟨_, Sh C _ _, none_, hM.sh_lt, none_not⟩ t1.Letters hp2 letter10 _ hz16) ?_)
  rintro _ w18 ⟨rfl, hM2, hv17⟩
  obtain ⟨hM, hx19, hup20⟩ := hM.back hM2
  dsimp only [List.cons_append, List.nil_append] at hM hup20
  clear hM2
  refine ⟨_, rfl, fun a hf => ?_⟩
  refine q_ hf rfl rfl rfl (e_assign hf rfl) fun a hf => ?_
  refine pl_nil ?_
  refine then_n ?_
  refine wp_seq ?_
  refine region_pl ?_
  refine q_ hf rfl rfl rfl (e_move hf rfl) fun a hf => ?_
  refine q_ hf rfl rfl rfl (e_ge hf (x := y15) (y := 0) rfl rfl) fun a hf => ?_
  refine pl_nil ?_
  refine then_n ?_
  rcases cond_some h with ⟨hc21, h⟩ | ⟨hc21, h⟩
  · refine cond_t hf rfl hc21 ?_
    refine wp_seq ?_
    refine region_pl ?_
    refine q_ hf rfl rfl rfl (e_field hf rfl Try.underlying28 rfl Try.sizeOf22 (o' := 1) rfl) fun a hf => ?_
    refine q_ hf rfl rfl rfl (e_load1 hf rfl Try.isAgg22 (hM.boxCell (k := 0) rfl rfl)) fun a hf => ?_
    refine q_ hf rfl rfl rfl (e_move hf rfl) fun a hf => ?_
    obtain ⟨e22, hz23, h⟩ := bind_some h
    obtain ⟨b27, o28, _, hA29, h24, h25, hr26, hM⟩ := hM.elem (hM.dat (k := 1) rfl) (n := 1) rfl hz23
    obtain ⟨rfl, hv30⟩ := hr26
    refine q_ hf rfl rfl rfl (e_indexAddr (A := A3) (b := b27) (o := o28) (xs := t1.Values) (i := y15) hf hA29 rfl rfl Try.underlying22 Try.sizeOf2 h24 h25) fun a hf => ?_
    refine q_ hf rfl rfl rfl (e_load1 hf rfl Try.isAgg2 (hM.litCell (k := 0) (j := 0) rfl rfl rfl)) fun a hf => ?_
    refine q_ hf rfl rfl rfl (e_assign hf rfl) fun a hf => ?_
    refine pl_nil ?_
    refine then_n ?_
    refine wp_ret ?_
    refine then_r ?_
    obtain rfl := some_inj h
    have hM := hM.outs (own' := []) 0 rfl
    exact leave1 hf rfl rfl ⟨rfl, hM.fin, hv30⟩
  · refine cond_f hf rfl hc21 ?_
    refine wp_skip ?_
    refine then_n ?_
    refine wp_seq ?_
    refine region_pl ?_
    refine q_ hf rfl rfl rfl (e_assign hf rfl) fun a hf => ?_
    refine pl_nil ?_
    refine then_n ?_
    refine wp_ret ?_
    obtain rfl := some_inj h
    have hM := hM.outs (own' := []) 0 rfl
    exact leave1 hf rfl rfl ⟨rfl, hM.fin, (R64_lit rfl)⟩

set_option maxRecDepth 100000 in
set_option maxHeartbeats 4000000 in
theorem r_impl_lettersValue (C : Cx) (t1 : TileSet) (hp2 : t1.Letters.length ≤ maxLen) (A3 : Option Addr) (c4 : Nat) (hp5 : (sliceRep intRep).R C.w0 C.S0 t1.Values [vL A3 t1.Values c4]) (A6 : Option Addr) (c7 : Nat) (hp8 : (sliceRep intRep).R C.w0 C.S0 t1.Counts [vL A6 t1.Counts c7]) (hp9 : R64 t1.Blanks) (s10 : Str) (hp11 : s10.length ≤ maxLen) (r : Int) (h : m_impl_lettersValue t1 s10 = some r) :
    Calls Try.prog 34 #[.agg #[vS (t1.Letters), vL A3 (t1.Values) c4, vL A6 (t1.Counts) c7, vI (t1.Blanks)], vS (s10)] C.w0 fun e w => e = .returned (vI (r)) ∧ Mem C w [] [] ∧ R64 r := by
  have hM := Mem.begin C [.dat (sliceRep intRep) t1.Counts [vL A6 t1.Counts c7], .dat (sliceRep intRep) t1.Values [vL A3 t1.Values c4]] ⟨hp8, hp5, trivial⟩
  refine enter Try.func34 rfl Try.ntmps34 rfl fun a hf => ?_
  unfold m_impl_lettersValue at h
  refine wp_seq ?_
  refine region_pl ?_
  refine pl_l hf rfl rfl rfl (w_box hf hM (cs := [vS (t1.Letters), vL A3 (t1.Values) c4, vL A6 (t1.Counts) c7, vI (t1.Blanks)]) rfl rfl fun b12 w13 hx14 hM a hf => ?_)
  refine q_ hf rfl rfl rfl (e_assign hf rfl) fun a hf => ?_
  refine pl_nil ?_
  refine then_n ?_
  refine wp_seq ?_
  refine region_pl ?_
  refine q_ hf rfl rfl rfl (e_assign hf rfl) fun a hf => ?_
  refine pl_nil ?_
  refine then_n ?_
  obtain ⟨x18, h19, h⟩ := bind_some h
  refine seq_join (fun a w => ∃ (n16 : Int), n16 = x18 ∧ Has 21 a [(5, vI (n16))] ∧ Mem C w [.box b12 [vS (t1.Letters), vL A3 (t1.Values) c4, vL A6 (t1.Counts) c7, vI (t1.Blanks)] 28] [.dat (sliceRep intRep) t1.Counts [vL A6 t1.Counts c7], .dat (sliceRep intRep) t1.Values [vL A3 t1.Values c4]] ∧ R64 n16) ?_ ?_
  · refine wp_seq ?_
    refine region_pl ?_
    refine q_ hf rfl rfl rfl (e_assign hf rfl) fun a hf => ?_
    refine pl_nil ?_
    refine then_n ?_
    refine wp_block ?_
    obtain ⟨x27, h28, h19⟩ := bind_some h19
    refine wp_loopM h28 (fun s a w => ∃ (n20 : Int) (n22 : Int), (n20, n22) = s ∧ Has 21 a [(1, vS (s10)), (2, vP b12 (0)), (5, vI (n20)), (6, vI (n22))] ∧ Mem C w [.box b12 [vS (t1.Letters), vL A3 (t1.Values) c4, vL A6 (t1.Counts) c7, vI (t1.Blanks)] 28] [.dat (sliceRep intRep) t1.Counts [vL A6 t1.Counts c7], .dat (sliceRep intRep) t1.Values [vL A3 t1.Values c4]] ∧ R64 n20 ∧ R64 n22) ?_ ?_
    · exact ⟨0, 0, rfl, hf.keep ⟨rfl, rfl, rfl, rfl, trivial⟩, hM.pick [0, 1] rfl, (R64_lit rfl), (R64_lit rfl)⟩
    · rintro s o29 a w24 ⟨n20, n22, rfl, hf, hM, hv21, hv23⟩ h30 hd31
      replace h30 : m_impl_lettersValue_l1 s10 t1 n20 n22 = some o29 := h30
      unfold m_impl_lettersValue_l1 at h30
      refine wp_seq ?_
      refine wp_seq ?_
      refine region_pl ?_
      refine q_ hf rfl rfl rfl (e_move hf rfl) fun a hf => ?_
      refine q_ hf rfl rfl rfl (e_move hf rfl) fun a hf => ?_
      refine q_ hf rfl rfl rfl (e_lenS hf (x := s10) rfl Try.underlying9) fun a hf => ?_
      refine q_ hf rfl rfl rfl (e_lt hf (x := n22) (y := (s10.length : Int)) rfl rfl) fun a hf => ?_
      refine pl_nil ?_
      refine then_n ?_
      rcases cond_some h30 with ⟨hc32, h30⟩ | ⟨hc32, h30⟩
      · refine cond_t hf rfl hc32 ?_
        refine wp_skip ?_
        refine then_n ?_
        refine wp_seq ?_
        refine wp_block ?_
        obtain ⟨w33, hw⟩ : ∃ x, x = w24.drew := ⟨_, rfl⟩
        refine region_pi (.q 0 (.q 1 (.q 2 (.q 3 (.q 4 (.l 5 (.q 6 (.q 7 (.nil))))))))) (Ext w33) rfl (by kernel_rfl) ?_
        have hM := hM.drew
        rw [← hw] at hM ⊢
        clear hw
        refine pi_q hf rfl rfl rfl rfl (Ext.refl _) (e_move hf rfl) fun a hf => ?_
        refine pi_q hf rfl rfl rfl rfl (Ext.refl _) (e_loadA hf (us := [vS (t1.Letters), vL A3 (t1.Values) c4, vL A6 (t1.Counts) c7, vI (t1.Blanks)]) rfl ⟨Try.isAgg28, Try.sizeOf28⟩ rfl (hM.boxSub (k := 0) (us := [vS (t1.Letters), vL A3 (t1.Values) c4, vL A6 (t1.Counts) c7, vI (t1.Blanks)]) (o := 0) rfl rfl)) fun a hf => ?_
        refine pi_q hf rfl rfl rfl rfl (Ext.refl _) (e_move hf rfl) fun a hf => ?_
        refine pi_q hf rfl rfl rfl rfl (Ext.refl _) (e_move hf rfl) fun a hf => ?_
        obtain ⟨c34, hz35, h30⟩ := bind_some h30
        refine pi_q hf rfl rfl rfl rfl (Ext.refl _) (e_indexS hf (x := s10) rfl rfl Try.underlying9 hz35) fun a hf => ?_
        refine pi_one ?_
        obtain ⟨y36, hz37, h30⟩ := bind_some h30
        refine pi_l hf rfl rfl rfl rfl (w_call hf Try.call61 rfl (r_impl_valueOf ⟨_, Sh C _ _, none_, hM.sh_lt, none_not⟩ t1 hp2 _ _ (hM.dat (k := 1) rfl) _ _ (hM.dat (k := 0) rfl) hp9 c34 _ hz37) ?_)
        rintro _ w39 ⟨rfl, hM2, hv38⟩
        obtain ⟨hM, hx40, hup41⟩ := hM.back hM2
        dsimp only [List.cons_append, List.nil_append] at hM hup41
        clear hM2
        refine ⟨_, rfl, Ext w39, fun _ h => Ext.trans hx40 h, Ext.refl _, fun a hf => ?_⟩
        obtain ⟨z42, hz43, h30⟩ := bind_some h30
        refine pi_q hf rfl rfl rfl rfl (Ext.refl _) (e_add hf rfl rfl hz43) fun a hf => ?_
        refine pi_q hf rfl rfl rfl rfl (Ext.refl _) (e_assign hf rfl) fun a hf => ?_
        refine pi_nil ?_
        refine blk_n ?_
        refine then_n ?_
        refine region_pl ?_
        refine q_ hf rfl rfl rfl (e_move hf rfl) fun a hf => ?_
        obtain ⟨z44, hz45, h30⟩ := bind_some h30
        refine q_ hf rfl rfl rfl (e_add hf rfl rfl hz45) fun a hf => ?_
        refine q_ hf rfl rfl rfl (e_assign hf rfl) fun a hf => ?_
        refine pl_nil ?_
        obtain rfl := some_inj h30
        refine then_n ⟨_, rfl, ?_⟩
        exact ⟨z42, z44, rfl, hf.keep ⟨rfl, rfl, rfl, rfl, trivial⟩, hM.pick [0, 1] rfl, (chk_R hz43), (chk_R hz45)⟩
      · refine cond_f hf rfl hc32 ?_
        refine wp_exit ?_
        refine then_x ?_
        obtain rfl := some_inj h30
        obtain rfl := hd31 _ rfl
        try dsimp only at h19
        refine then_x ?_
        refine exit_hit ?_
        obtain rfl := some_inj h19
        refine then_n ?_
        exact ⟨n20, rfl, hf.keep ⟨rfl, trivial⟩, hM.pick [0, 1] rfl, hv21⟩
  · rintro a w51 ⟨n16, rfl, hf, hM, hv17⟩
    try dsimp only at h
    refine wp_seq ?_
    refine region_pl ?_
    refine q_ hf rfl rfl rfl (e_move hf rfl) fun a hf => ?_
    refine q_ hf rfl rfl rfl (e_assign hf rfl) fun a hf => ?_
    refine pl_nil ?_
    refine then_n ?_
    refine wp_ret ?_
    obtain rfl := some_inj h
    have hM := hM.outs (own' := []) 0 rfl
    exact leave1 hf rfl rfl ⟨rfl, hM.fin, hv17⟩

set_option maxRecDepth 100000 in
set_option maxHeartbeats 4000000 in
theorem r_impl_SettleEnd (C : Cx) (t1 : TileSet) (hp2 : t1.Letters.length ≤ maxLen) (A3 : Option Addr) (c4 : Nat) (hp5 : (sliceRep intRep).R C.w0 C.S0 t1.Values [vL A3 t1.Values c4]) (A6 : Option Addr) (c7 : Nat) (hp8 : (sliceRep intRep).R C.w0 C.S0 t1.Counts [vL A6 t1.Counts c7]) (hp9 : R64 t1.Blanks) (mine10 : Str) (hp11 : mine10.length ≤ maxLen) (theirs12 : Str) (hp13 : theirs12.length ≤ maxLen) (r : (Int × Int)) (h : m_impl_SettleEnd t1 mine10 theirs12 = some r) :
    Calls Try.prog 11 #[.agg #[vS (t1.Letters), vL A3 (t1.Values) c4, vL A6 (t1.Counts) c7, vI (t1.Blanks)], vS (mine10), vS (theirs12)] C.w0 fun e w => e = .returned (.tuple #[vI (r.1), vI (r.2)]) ∧ Mem C w [] [] ∧ R64 r.1 ∧ R64 r.2 := by
  have hM := Mem.begin C [.dat (sliceRep intRep) t1.Counts [vL A6 t1.Counts c7], .dat (sliceRep intRep) t1.Values [vL A3 t1.Values c4]] ⟨hp8, hp5, trivial⟩
  refine enter Try.func11 rfl Try.ntmps11 rfl fun a hf => ?_
  unfold m_impl_SettleEnd at h
  refine wp_seq ?_
  refine region_pl ?_
  refine pl_l hf rfl rfl rfl (w_box hf hM (cs := [vS (t1.Letters), vL A3 (t1.Values) c4, vL A6 (t1.Counts) c7, vI (t1.Blanks)]) rfl rfl fun b14 w15 hx16 hM a hf => ?_)
  refine q_ hf rfl rfl rfl (e_assign hf rfl) fun a hf => ?_
  refine q_ hf rfl rfl rfl (e_assign hf rfl) fun a hf => ?_
  refine pl_nil ?_
  refine then_n ?_
  refine wp_seq ?_
  obtain ⟨x20, h21, h⟩ := bind_some h
  refine seq_join (fun a w => ∃ (t18 : Bool), t18 = x20 ∧ Has 28 a [(1, vS (mine10)), (2, vS (theirs12)), (3, vP b14 (0)), (20, .bool (t18))] ∧ Mem C w [.box b14 [vS (t1.Letters), vL A3 (t1.Values) c4, vL A6 (t1.Counts) c7, vI (t1.Blanks)] 28] [.dat (sliceRep intRep) t1.Counts [vL A6 t1.Counts c7], .dat (sliceRep intRep) t1.Values [vL A3 t1.Values c4]]) ?_ ?_
  · refine region_pl ?_
    refine q_ hf rfl rfl rfl (e_loadA hf (us := [vS (t1.Letters), vL A3 (t1.Values) c4, vL A6 (t1.Counts) c7, vI (t1.Blanks)]) rfl ⟨Try.isAgg28, Try.sizeOf28⟩ rfl (hM.boxSub (k := 0) (us := [vS (t1.Letters), vL A3 (t1.Values) c4, vL A6 (t1.Counts) c7, vI (t1.Blanks)]) (o := 0) rfl rfl)) fun a hf => ?_
    obtain ⟨y22, hz23, h21⟩ := bind_some h21
    refine pl_l hf rfl rfl rfl (w_call hf Try.call32 rfl (r_impl_ValidTiles ⟨_, Sh C _ _, none_, hM.sh_lt, none_not⟩ t1 hp2 _ _ (hM.dat (k := 1) rfl) _ _ (hM.dat (k := 0) rfl) hp9 _ hz23) ?_)
    rintro _ w24 ⟨rfl, hM2⟩
    obtain ⟨hM, hx25, hup26⟩ := hM.back hM2
    dsimp only [List.cons_append, List.nil_append] at hM hup26
    clear hM2
    refine ⟨_, rfl, fun a hf => ?_⟩
    refine q_ hf rfl rfl rfl (e_not hf rfl) fun a hf => ?_
    refine q_ hf rfl rfl rfl (e_move hf rfl) fun a hf => ?_
    rcases cond_some h21 with ⟨hc27, h21⟩ | ⟨hc27, h21⟩
    · refine pl_gs (wanted_f hf rfl rfl rfl rfl hc27) hf rfl rfl fun a hf => ?_
      refine pl_gs (wanted_f hf rfl rfl rfl rfl hc27) hf rfl rfl fun a hf => ?_
      refine pl_gs (wanted_f hf rfl rfl rfl rfl hc27) hf rfl rfl fun a hf => ?_
      refine q_ hf rfl rfl rfl (e_pick_t hf rfl hc27 rfl) fun a hf => ?_
      refine q_ hf rfl rfl rfl (e_move hf rfl) fun a hf => ?_
      refine pl_gs (wanted_f hf rfl rfl rfl rfl rfl) hf rfl rfl fun a hf => ?_
      refine pl_gs (wanted_f hf rfl rfl rfl rfl rfl) hf rfl rfl fun a hf => ?_
      refine pl_gs (wanted_f hf rfl rfl rfl rfl rfl) hf rfl rfl fun a hf => ?_
      refine q_ hf rfl rfl rfl (e_pick_t hf rfl rfl rfl) fun a hf => ?_
      refine pl_nil ?_
      obtain rfl := some_inj h21
      refine then_n ?_
      exact ⟨true, rfl, hf.keep ⟨rfl, rfl, rfl, rfl, trivial⟩, hM.pick [0, 1] rfl⟩
    · refine gq (wanted_t hf rfl rfl rfl rfl hc27) hf rfl rfl (e_move hf rfl) fun a hf => ?_
      obtain ⟨y29, hz30, h21⟩ := bind_some h21
      refine pl_gl (wanted_t hf rfl rfl rfl rfl hc27) hf rfl rfl (w_call hf Try.call33 rfl (r_impl_ValidRack ⟨_, Sh C _ _, none_, hM.sh_lt, none_not⟩ mine10 hp11 _ hz30) ?_)
      rintro _ w31 ⟨rfl, hM2⟩
      obtain ⟨hM, hx32, hup33⟩ := hM.back hM2
      dsimp only [List.cons_append, List.nil_append] at hM hup33
      clear hM2
      refine ⟨_, rfl, fun a hf => ?_⟩
      refine gq (wanted_t hf rfl rfl rfl rfl hc27) hf rfl rfl (e_not hf rfl) fun a hf => ?_
      refine q_ hf rfl rfl rfl (e_pick_f hf rfl hc27 rfl) fun a hf => ?_
      refine q_ hf rfl rfl rfl (e_move hf rfl) fun a hf => ?_
      rcases cond_some h21 with ⟨hc34, h21⟩ | ⟨hc34, h21⟩
      · refine pl_gs (wanted_f hf rfl rfl rfl rfl hc34) hf rfl rfl fun a hf => ?_
        refine pl_gs (wanted_f hf rfl rfl rfl rfl hc34) hf rfl rfl fun a hf => ?_
        refine pl_gs (wanted_f hf rfl rfl rfl rfl hc34) hf rfl rfl fun a hf => ?_
        refine q_ hf rfl rfl rfl (e_pick_t hf rfl hc34 rfl) fun a hf => ?_
        refine pl_nil ?_
        obtain rfl := some_inj h21
        refine then_n ?_
        exact ⟨true, rfl, hf.keep ⟨rfl, rfl, rfl, rfl, trivial⟩, hM.pick [0, 1] rfl⟩
      · refine gq (wanted_t hf rfl rfl rfl rfl hc34) hf rfl rfl (e_move hf rfl) fun a hf => ?_
        obtain ⟨y36, hz37, h21⟩ := bind_some h21
        refine pl_gl (wanted_t hf rfl rfl rfl rfl hc34) hf rfl rfl (w_call hf Try.call33 rfl (r_impl_ValidRack ⟨_, Sh C _ _, none_, hM.sh_lt, none_not⟩ theirs12 hp13 _ hz37) ?_)
        rintro _ w38 ⟨rfl, hM2⟩
        obtain ⟨hM, hx39, hup40⟩ := hM.back hM2
        dsimp only [List.cons_append, List.nil_append] at hM hup40
        clear hM2
        refine ⟨_, rfl, fun a hf => ?_⟩
        refine gq (wanted_t hf rfl rfl rfl rfl hc34) hf rfl rfl (e_not hf rfl) fun a hf => ?_
        refine q_ hf rfl rfl rfl (e_pick_f hf rfl hc34 rfl) fun a hf => ?_
        refine pl_nil ?_
        obtain rfl := some_inj h21
        refine then_n ?_
        exact ⟨(!y36), rfl, hf.keep ⟨rfl, rfl, rfl, rfl, trivial⟩, hM.pick [0, 1] rfl⟩
  · rintro a w42 ⟨t18, rfl, hf, hM⟩
    try dsimp only at h
    rcases cond_some h with ⟨hc43, h⟩ | ⟨hc43, h⟩
    · refine cond_t hf rfl hc43 ?_
      refine wp_seq ?_
      refine region_pl ?_
      refine q_ hf rfl rfl rfl (e_assign hf rfl) fun a hf => ?_
      refine q_ hf rfl rfl rfl (e_assign hf rfl) fun a hf => ?_
      refine pl_nil ?_
      refine then_n ?_
      refine wp_ret ?_
      refine then_r ?_
      obtain rfl := some_inj h
      have hM := hM.outs (own' := []) 0 rfl
      exact leave2 hf rfl rfl rfl ⟨rfl, hM.fin, (R64_lit rfl), (R64_lit rfl)⟩
    · refine cond_f hf rfl hc43 ?_
      refine wp_skip ?_
      refine then_n ?_
      refine wp_seq ?_
      obtain ⟨w44, hw⟩ : ∃ x, x = w42.drew := ⟨_, rfl⟩
      refine region_pi (.q 0 (.q 1 (.q 3 (.q 4 (.l 2 (.l 5 (.q 6 (.q 7 (.q 8 (.nil)))))))))) (Ext w44) rfl (by kernel_rfl) ?_
      have hM := hM.drew
      rw [← hw] at hM ⊢
      clear hw
      refine pi_q hf rfl rfl rfl rfl (Ext.refl _) (e_loadA hf (us := [vS (t1.Letters), vL A3 (t1.Values) c4, vL A6 (t1.Counts) c7, vI (t1.Blanks)]) rfl ⟨Try.isAgg28, Try.sizeOf28⟩ rfl (hM.boxSub (k := 0) (us := [vS (t1.Letters), vL A3 (t1.Values) c4, vL A6 (t1.Counts) c7, vI (t1.Blanks)]) (o := 0) rfl rfl)) fun a hf => ?_
      refine pi_q hf rfl rfl rfl rfl (Ext.refl _) (e_move hf rfl) fun a hf => ?_
      refine pi_q hf rfl rfl rfl rfl (Ext.refl _) (e_loadA hf (us := [vS (t1.Letters), vL A3 (t1.Values) c4, vL A6 (t1.Counts) c7, vI (t1.Blanks)]) rfl ⟨Try.isAgg28, Try.sizeOf28⟩ rfl (hM.boxSub (k := 0) (us := [vS (t1.Letters), vL A3 (t1.Values) c4, vL A6 (t1.Counts) c7, vI (t1.Blanks)]) (o := 0) rfl rfl)) fun a hf => ?_
      refine pi_q hf rfl rfl rfl rfl (Ext.refl _) (e_move hf rfl) fun a hf => ?_
      refine pi_one ?_
      obtain ⟨y45, hz46, h⟩ := bind_some h
      refine pi_l hf rfl rfl rfl rfl (w_call hf Try.call34 rfl (r_impl_lettersValue ⟨_, Sh C _ _, none_, hM.sh_lt, none_not⟩ t1 hp2 _ _ (hM.dat (k := 1) rfl) _ _ (hM.dat (k := 0) rfl) hp9 theirs12 hp13 _ hz46) ?_)
      rintro _ w48 ⟨rfl, hM2, hv47⟩
      obtain ⟨hM, hx49, hup50⟩ := hM.back hM2
      dsimp only [List.cons_append, List.nil_append] at hM hup50
      clear hM2
      refine ⟨_, rfl, Ext w48, fun _ h => Ext.trans hx49 h, Ext.refl _, fun a hf => ?_⟩
      refine pi_one ?_
      obtain ⟨y51, hz52, h⟩ := bind_some h
      refine pi_l hf rfl rfl rfl rfl (w_call hf Try.call34 rfl (r_impl_lettersValue ⟨_, Sh C _ _, none_, hM.sh_lt, none_not⟩ t1 hp2 _ _ (hM.dat (k := 1) rfl) _ _ (hM.dat (k := 0) rfl) hp9 mine10 hp11 _ hz52) ?_)
      rintro _ w54 ⟨rfl, hM2, hv53⟩
      obtain ⟨hM, hx55, hup56⟩ := hM.back hM2
      dsimp only [List.cons_append, List.nil_append] at hM hup56
      clear hM2
      refine ⟨_, rfl, Ext w54, fun _ h => Ext.trans hx55 h, Ext.refl _, fun a hf => ?_⟩
      obtain ⟨z57, hz58, h⟩ := bind_some h
      refine pi_q hf rfl rfl rfl rfl (Ext.refl _) (e_sub hf rfl rfl hz58) fun a hf => ?_
      refine pi_q hf rfl rfl rfl rfl (Ext.refl _) (e_assign hf rfl) fun a hf => ?_
      refine pi_q hf rfl rfl rfl rfl (Ext.refl _) (e_assign hf rfl) fun a hf => ?_
      refine pi_nil ?_
      refine then_n ?_
      refine wp_ret ?_
      obtain rfl := some_inj h
      have hM := hM.outs (own' := []) 0 rfl
      exact leave2 hf rfl rfl rfl ⟨rfl, hM.fin, (chk_R hz58), (R64_lit rfl)⟩

set_option maxRecDepth 100000 in
set_option maxHeartbeats 4000000 in
theorem r_laws_eqInt64S (C : Cx) (a1 : (List Int)) (A2 : Option Addr) (c3 : Nat) (hp4 : (sliceRep intRep).R C.w0 C.S0 a1 [vL A2 a1 c3]) (b5 : (List Int)) (A6 : Option Addr) (c7 : Nat) (hp8 : (sliceRep intRep).R C.w0 C.S0 b5 [vL A6 b5 c7]) (r : Bool) (h : m_laws_eqInt64S a1 b5 = some r) :
    Calls Try.prog 35 #[vL A2 (a1) c3, vL A6 (b5) c7] C.w0 fun e w => e = .returned (.bool (r)) ∧ Mem C w [] [] := by
  have hM := Mem.begin C [.dat (sliceRep intRep) b5 [vL A6 b5 c7], .dat (sliceRep intRep) a1 [vL A2 a1 c3]] ⟨hp8, hp4, trivial⟩
  refine enter Try.func35 rfl Try.ntmps35 rfl fun a hf => ?_
  unfold m_laws_eqInt64S at h
  refine wp_seq ?_
  refine region_pl ?_
  refine q_ hf rfl rfl rfl (e_assign hf rfl) fun a hf => ?_
  refine pl_nil ?_
  refine then_n ?_
  refine wp_seq ?_
  refine wp_seq ?_
  refine region_pl ?_
  refine q_ hf rfl rfl rfl (e_move hf rfl) fun a hf => ?_
  have hl9 := slice_len (hM.dat (k := 1) rfl)
  refine q_ hf rfl rfl rfl (e_lenL hf (x := a1) rfl Try.underlying22) fun a hf => ?_
  refine q_ hf rfl rfl rfl (e_move hf rfl) fun a hf => ?_
  have hl10 := slice_len (hM.dat (k := 0) rfl)
  refine q_ hf rfl rfl rfl (e_lenL hf (x := b5) rfl Try.underlying22) fun a hf => ?_
  refine q_ hf rfl rfl rfl (e_ne hf (x := (a1.length : Int)) (y := (b5.length : Int)) rfl rfl) fun a hf => ?_
  refine pl_nil ?_
  refine then_n ?_
  rcases cond_some h with ⟨hc11, h⟩ | ⟨hc11, h⟩
  · refine cond_t hf rfl hc11 ?_
    refine wp_seq ?_
    refine region_pl ?_
    refine q_ hf rfl rfl rfl (e_assign hf rfl) fun a hf => ?_
    refine pl_nil ?_
    refine then_n ?_
    refine wp_ret ?_
    refine then_r ?_
    obtain rfl := some_inj h
    exact leave1 hf rfl rfl ⟨rfl, hM.fin⟩
  · refine cond_f hf rfl hc11 ?_
    refine wp_skip ?_
    refine then_n ?_
    obtain ⟨x12, h13, h⟩ := bind_some h
    refine seq_join (fun a w => (.inl ()) = x12 ∧ Has 26 a [] ∧ Mem C w [] [.dat (sliceRep intRep) b5 [vL A6 b5 c7], .dat (sliceRep intRep) a1 [vL A2 a1 c3]]) ?_ ?_
    · refine wp_seq ?_
      refine region_pl ?_
      refine q_ hf rfl rfl rfl (e_assign hf rfl) fun a hf => ?_
      refine pl_nil ?_
      refine then_n ?_
      refine wp_block ?_
      obtain ⟨x17, h18, h13⟩ := bind_some h13
      refine wp_loopM h18 (fun s a w => ∃ (n14 : Int), n14 = s ∧ Has 26 a [(0, vL A2 (a1) c3), (1, vL A6 (b5) c7), (5, vI (n14))] ∧ Mem C w [] [.dat (sliceRep intRep) b5 [vL A6 b5 c7], .dat (sliceRep intRep) a1 [vL A2 a1 c3]] ∧ R64 n14) ?_ ?_
      · exact ⟨0, rfl, hf.keep ⟨rfl, rfl, rfl, trivial⟩, hM.pick [0, 1] rfl, (R64_lit rfl)⟩
      · rintro s o19 a w16 ⟨n14, rfl, hf, hM, hv15⟩ h20 hd21
        replace h20 : m_laws_eqInt64S_l1 a1 b5 n14 = some o19 := h20
        unfold m_laws_eqInt64S_l1 at h20
        refine wp_seq ?_
        refine wp_seq ?_
        refine region_pl ?_
        refine q_ hf rfl rfl rfl (e_move hf rfl) fun a hf => ?_
        refine q_ hf rfl rfl rfl (e_move hf rfl) fun a hf => ?_
        have hl22 := slice_len (hM.dat (k := 1) rfl)
        refine q_ hf rfl rfl rfl (e_lenL hf (x := a1) rfl Try.underlying22) fun a hf => ?_
        refine q_ hf rfl rfl rfl (e_lt hf (x := n14) (y := (a1.length : Int)) rfl rfl) fun a hf => ?_
        refine pl_nil ?_
        refine then_n ?_
        rcases cond_some h20 with ⟨hc23, h20⟩ | ⟨hc23, h20⟩
        · refine cond_t hf rfl hc23 ?_
          refine wp_skip ?_
          refine then_n ?_
          refine wp_seq ?_
          refine wp_block ?_
          refine wp_seq ?_
          obtain ⟨w24, hw⟩ : ∃ x, x = w16.drew := ⟨_, rfl⟩
          refine region_pi (.q 0 (.q 1 (.q 2 (.q 3 (.q 4 (.q 5 (.q 6 (.q 7 (.q 8 (.nil)))))))))) (Ext w24) rfl (by kernel_rfl) ?_
          have hM := hM.drew
          rw [← hw] at hM ⊢
          clear hw
          refine pi_q hf rfl rfl rfl rfl (Ext.refl _) (e_move hf rfl) fun a hf => ?_
          refine pi_q hf rfl rfl rfl rfl (Ext.refl _) (e_move hf rfl) fun a hf => ?_
          obtain ⟨e25, hz26, h20⟩ := bind_some h20
          obtain ⟨b30, o31, _, hA32, h27, h28, hr29, hM⟩ := hM.elem (hM.dat (k := 1) rfl) (n := 1) rfl hz26
          obtain ⟨rfl, hv33⟩ := hr29
          refine pi_q hf rfl rfl rfl rfl (Ext.refl _) (e_indexAddr (A := A2) (b := b30) (o := o31) (xs := a1) (i := n14) hf hA32 rfl rfl Try.underlying22 Try.sizeOf2 h27 h28) fun a hf => ?_
          refine pi_q hf rfl rfl rfl rfl (Ext.refl _) (e_load1 hf rfl Try.isAgg2 (hM.litCell (k := 0) (j := 0) rfl rfl rfl)) fun a hf => ?_
          refine pi_q hf rfl rfl rfl rfl (Ext.refl _) (e_move hf rfl) fun a hf => ?_
          refine pi_q hf rfl rfl rfl rfl (Ext.refl _) (e_move hf rfl) fun a hf => ?_
          obtain ⟨e34, hz35, h20⟩ := bind_some h20
          obtain ⟨b39, o40, _, hA41, h36, h37, hr38, hM⟩ := hM.elem (hM.dat (k := 1) rfl) (n := 1) rfl hz35
          obtain ⟨rfl, hv42⟩ := hr38
          refine pi_q hf rfl rfl rfl rfl (Ext.refl _) (e_indexAddr (A := A6) (b := b39) (o := o40) (xs := b5) (i := n14) hf hA41 rfl rfl Try.underlying22 Try.sizeOf2 h36 h37) fun a hf => ?_
          refine pi_q hf rfl rfl rfl rfl (Ext.refl _) (e_load1 hf rfl Try.isAgg2 (hM.litCell (k := 0) (j := 0) rfl rfl rfl)) fun a hf => ?_
          refine pi_q hf rfl rfl rfl rfl (Ext.refl _) (e_ne hf (x := e25) (y := e34) rfl rfl) fun a hf => ?_
          refine pi_nil ?_
          refine then_n ?_
          rcases cond_some h20 with ⟨hc43, h20⟩ | ⟨hc43, h20⟩
          · refine cond_t hf rfl hc43 ?_
            refine wp_seq ?_
            refine region_pl ?_
            refine q_ hf rfl rfl rfl (e_assign hf rfl) fun a hf => ?_
            refine pl_nil ?_
            refine then_n ?_
            refine wp_ret ?_
            refine blk_r ?_
            refine then_r ?_
            obtain rfl := some_inj h20
            obtain rfl := hd21 _ rfl
            try dsimp only at h13
            refine then_r ?_
            refine blk_r ?_
            obtain rfl := some_inj h13
            try dsimp only at h
            refine then_r ?_
            obtain rfl := some_inj h
            exact leave1 hf rfl rfl ⟨rfl, hM.fin⟩
          · refine cond_f hf rfl hc43 ?_
            refine wp_skip ?_
            refine blk_n ?_
            refine then_n ?_
            refine region_pl ?_
            refine q_ hf rfl rfl rfl (e_move hf rfl) fun a hf => ?_
            obtain ⟨z44, hz45, h20⟩ := bind_some h20
            refine q_ hf rfl rfl rfl (e_add hf rfl rfl hz45) fun a hf => ?_
            refine q_ hf rfl rfl rfl (e_assign hf rfl) fun a hf => ?_
            refine pl_nil ?_
            obtain rfl := some_inj h20
            refine then_n ⟨_, rfl, ?_⟩
            exact ⟨z44, rfl, hf.keep ⟨rfl, rfl, rfl, trivial⟩, hM.pick [2, 3] rfl, (chk_R hz45)⟩
        · refine cond_f hf rfl hc23 ?_
          refine wp_exit ?_
          refine then_x ?_
          obtain rfl := some_inj h20
          obtain rfl := hd21 _ rfl
          try dsimp only at h13
          refine then_x ?_
          refine exit_hit ?_
          obtain rfl := some_inj h13
          refine then_n ?_
          exact ⟨rfl, hf.keep trivial, hM.pick [0, 1] rfl⟩
    · rintro a w52 ⟨rfl, hf, hM⟩
      try dsimp only at h
      refine wp_seq ?_
      refine region_pl ?_
      refine q_ hf rfl rfl rfl (e_assign hf rfl) fun a hf => ?_
      refine pl_nil ?_
      refine then_n ?_
      refine wp_ret ?_
      obtain rfl := some_inj h
      exact leave1 hf rfl rfl ⟨rfl, hM.fin⟩

set_option maxRecDepth 100000 in
set_option maxHeartbeats 4000000 in
theorem r_laws_eqTileSet (C : Cx) (a1 : TileSet) (hp2 : a1.Letters.length ≤ maxLen) (A3 : Option Addr) (c4 : Nat) (hp5 : (sliceRep intRep).R C.w0 C.S0 a1.Values [vL A3 a1.Values c4]) (A6 : Option Addr) (c7 : Nat) (hp8 : (sliceRep intRep).R C.w0 C.S0 a1.Counts [vL A6 a1.Counts c7]) (hp9 : R64 a1.Blanks) (b10 : TileSet) (hp11 : b10.Letters.length ≤ maxLen) (A12 : Option Addr) (c13 : Nat) (hp14 : (sliceRep intRep).R C.w0 C.S0 b10.Values [vL A12 b10.Values c13]) (A15 : Option Addr) (c16 : Nat) (hp17 : (sliceRep intRep).R C.w0 C.S0 b10.Counts [vL A15 b10.Counts c16]) (hp18 : R64 b10.Blanks) (r : Bool) (h : m_laws_eqTileSet a1 b10 = some r) :
    Calls Try.prog 12 #[.agg #[vS (a1.Letters), vL A3 (a1.Values) c4, vL A6 (a1.Counts) c7, vI (a1.Blanks)], .agg #[vS (b10.Letters), vL A12 (b10.Values) c13, vL A15 (b10.Counts) c16, vI (b10.Blanks)]] C.w0 fun e w => e = .returned (.bool (r)) ∧ Mem C w [] [] := by
  have hM := Mem.begin C [.dat (sliceRep intRep) b10.Counts [vL A15 b10.Counts c16], .dat (sliceRep intRep) b10.Values [vL A12 b10.Values c13], .dat (sliceRep intRep) a1.Counts [vL A6 a1.Counts c7], .dat (sliceRep intRep) a1.Values [vL A3 a1.Values c4]] ⟨hp17, hp14, hp8, hp5, trivial⟩
  refine enter Try.func12 rfl Try.ntmps12 rfl fun a hf => ?_
  unfold m_laws_eqTileSet at h
  refine wp_seq ?_
  refine region_pl ?_
  refine pl_l hf rfl rfl rfl (w_box hf hM (cs := [vS (a1.Letters), vL A3 (a1.Values) c4, vL A6 (a1.Counts) c7, vI (a1.Blanks)]) rfl rfl fun b19 w20 hx21 hM a hf => ?_)
  refine pl_l hf rfl rfl rfl (w_box hf hM (cs := [vS (b10.Letters), vL A12 (b10.Values) c13, vL A15 (b10.Counts) c16, vI (b10.Blanks)]) rfl rfl fun b23 w24 hx25 hM a hf => ?_)
  refine q_ hf rfl rfl rfl (e_assign hf rfl) fun a hf => ?_
  refine pl_nil ?_
  refine then_n ?_
  refine wp_seq ?_
  refine wp_seq ?_
  refine region_pl ?_
  refine q_ hf rfl rfl rfl (e_field hf rfl Try.underlying28 rfl Try.sizeOf9 (o' := 0) rfl) fun a hf => ?_
  refine q_ hf rfl rfl rfl (e_load1 hf rfl Try.isAgg9 (hM.boxCell (k := 1) rfl rfl)) fun a hf => ?_
  refine q_ hf rfl rfl rfl (e_field hf rfl Try.underlying28 rfl Try.sizeOf9 (o' := 0) rfl) fun a hf => ?_
  refine q_ hf rfl rfl rfl (e_load1 hf rfl Try.isAgg9 (hM.boxCell (k := 0) rfl rfl)) fun a hf => ?_
  refine q_ hf rfl rfl rfl (e_neS hf (x := a1.Letters) (y := b10.Letters) rfl rfl) fun a hf => ?_
  refine pl_nil ?_
  refine then_n ?_
  rcases cond_some h with ⟨hc27, h⟩ | ⟨hc27, h⟩
  · refine cond_t hf rfl hc27 ?_
    refine wp_seq ?_
    refine region_pl ?_
    refine q_ hf rfl rfl rfl (e_assign hf rfl) fun a hf => ?_
    refine pl_nil ?_
    refine then_n ?_
    refine wp_ret ?_
    refine then_r ?_
    obtain rfl := some_inj h
    have hM := hM.outs (own' := []) 0 rfl
    exact leave1 hf rfl rfl ⟨rfl, hM.fin⟩
  · refine cond_f hf rfl hc27 ?_
    refine wp_skip ?_
    refine then_n ?_
    refine wp_seq ?_
    refine wp_seq ?_
    refine region_pl ?_
    refine q_ hf rfl rfl rfl (e_field hf rfl Try.underlying28 rfl Try.sizeOf22 (o' := 1) rfl) fun a hf => ?_
    refine q_ hf rfl rfl rfl (e_load1 hf rfl Try.isAgg22 (hM.boxCell (k := 1) rfl rfl)) fun a hf => ?_
    refine q_ hf rfl rfl rfl (e_field hf rfl Try.underlying28 rfl Try.sizeOf22 (o' := 1) rfl) fun a hf => ?_
    refine q_ hf rfl rfl rfl (e_load1 hf rfl Try.isAgg22 (hM.boxCell (k := 0) rfl rfl)) fun a hf => ?_
    obtain ⟨y28, hz29, h⟩ := bind_some h
    refine pl_l hf rfl rfl rfl (w_call hf Try.call35 rfl (r_laws_eqInt64S ⟨_, Sh C _ _, none_, hM.sh_lt, none_not⟩ a1.Values _ _ (hM.dat (k := 3) rfl) b10.Values _ _ (hM.dat (k := 1) rfl) _ hz29) ?_)
    rintro _ w30 ⟨rfl, hM2⟩
    obtain ⟨hM, hx31, hup32⟩ := hM.back hM2
    dsimp only [List.cons_append, List.nil_append] at hM hup32
    clear hM2
    refine ⟨_, rfl, fun a hf => ?_⟩
    refine q_ hf rfl rfl rfl (e_not hf rfl) fun a hf => ?_
    refine pl_nil ?_
    refine then_n ?_
    rcases cond_some h with ⟨hc33, h⟩ | ⟨hc33, h⟩
    · refine cond_t hf rfl hc33 ?_
      refine wp_seq ?_
      refine region_pl ?_
      refine q_ hf rfl rfl rfl (e_assign hf rfl) fun a hf => ?_
      refine pl_nil ?_
      refine then_n ?_
      refine wp_ret ?_
      refine then_r ?_
      obtain rfl := some_inj h
      have hM := hM.outs (own' := []) 0 rfl
      exact leave1 hf rfl rfl ⟨rfl, hM.fin⟩
    · refine cond_f hf rfl hc33 ?_
      refine wp_skip ?_
      refine then_n ?_
      refine wp_seq ?_
      refine wp_seq ?_
      refine region_pl ?_
      refine q_ hf rfl rfl rfl (e_field hf rfl Try.underlying28 rfl Try.sizeOf22 (o' := 2) rfl) fun a hf => ?_
      refine q_ hf rfl rfl rfl (e_load1 hf rfl Try.isAgg22 (hM.boxCell (k := 1) rfl rfl)) fun a hf => ?_
      refine q_ hf rfl rfl rfl (e_field hf rfl Try.underlying28 rfl Try.sizeOf22 (o' := 2) rfl) fun a hf => ?_
      refine q_ hf rfl rfl rfl (e_load1 hf rfl Try.isAgg22 (hM.boxCell (k := 0) rfl rfl)) fun a hf => ?_
      obtain ⟨y34, hz35, h⟩ := bind_some h
      refine pl_l hf rfl rfl rfl (w_call hf Try.call35 rfl (r_laws_eqInt64S ⟨_, Sh C _ _, none_, hM.sh_lt, none_not⟩ a1.Counts _ _ (hM.dat (k := 2) rfl) b10.Counts _ _ (hM.dat (k := 0) rfl) _ hz35) ?_)
      rintro _ w36 ⟨rfl, hM2⟩
      obtain ⟨hM, hx37, hup38⟩ := hM.back hM2
      dsimp only [List.cons_append, List.nil_append] at hM hup38
      clear hM2
      refine ⟨_, rfl, fun a hf => ?_⟩
      refine q_ hf rfl rfl rfl (e_not hf rfl) fun a hf => ?_
      refine pl_nil ?_
      refine then_n ?_
      rcases cond_some h with ⟨hc39, h⟩ | ⟨hc39, h⟩
      · refine cond_t hf rfl hc39 ?_
        refine wp_seq ?_
        refine region_pl ?_
        refine q_ hf rfl rfl rfl (e_assign hf rfl) fun a hf => ?_
        refine pl_nil ?_
        refine then_n ?_
        refine wp_ret ?_
        refine then_r ?_
        obtain rfl := some_inj h
        have hM := hM.outs (own' := []) 0 rfl
        exact leave1 hf rfl rfl ⟨rfl, hM.fin⟩
      · refine cond_f hf rfl hc39 ?_
        refine wp_skip ?_
        refine then_n ?_
        refine wp_seq ?_
        refine wp_seq ?_
        refine region_pl ?_
        refine q_ hf rfl rfl rfl (e_field hf rfl Try.underlying28 rfl Try.sizeOf2 (o' := 3) rfl) fun a hf => ?_
        refine q_ hf rfl rfl rfl (e_load1 hf rfl Try.isAgg2 (hM.boxCell (k := 1) rfl rfl)) fun a hf => ?_
        refine q_ hf rfl rfl rfl (e_field hf rfl Try.underlying28 rfl Try.sizeOf2 (o' := 3) rfl) fun a hf => ?_
        refine q_ hf rfl rfl rfl (e_load1 hf rfl Try.isAgg2 (hM.boxCell (k := 0) rfl rfl)) fun a hf => ?_
        refine q_ hf rfl rfl rfl (e_ne hf (x := a1.Blanks) (y := b10.Blanks) rfl rfl) fun a hf => ?_
        refine pl_nil ?_
        refine then_n ?_
        rcases cond_some h with ⟨hc40, h⟩ | ⟨hc40, h⟩
        · refine cond_t hf rfl hc40 ?_
          refine wp_seq ?_
          refine region_pl ?_
          refine q_ hf rfl rfl rfl (e_assign hf rfl) fun a hf => ?_
          refine pl_nil ?_
          refine then_n ?_
          refine wp_ret ?_
          refine then_r ?_
          obtain rfl := some_inj h
          have hM := hM.outs (own' := []) 0 rfl
          exact leave1 hf rfl rfl ⟨rfl, hM.fin⟩
        · refine cond_f hf rfl hc40 ?_
          refine wp_skip ?_
          refine then_n ?_
          refine wp_seq ?_
          refine region_pl ?_
          refine q_ hf rfl rfl rfl (e_assign hf rfl) fun a hf => ?_
          refine pl_nil ?_
          refine then_n ?_
          refine wp_ret ?_
          obtain rfl := some_inj h
          have hM := hM.outs (own' := []) 0 rfl
          exact leave1 hf rfl rfl ⟨rfl, hM.fin⟩

set_option maxRecDepth 100000 in
set_option maxHeartbeats 4000000 in
theorem r_laws_FnExactSettleEnd (C : Cx) (aT1 : TileSet) (hp2 : aT1.Letters.length ≤ maxLen) (A3 : Option Addr) (c4 : Nat) (hp5 : (sliceRep intRep).R C.w0 C.S0 aT1.Values [vL A3 aT1.Values c4]) (A6 : Option Addr) (c7 : Nat) (hp8 : (sliceRep intRep).R C.w0 C.S0 aT1.Counts [vL A6 aT1.Counts c7]) (hp9 : R64 aT1.Blanks) (aMine10 : Str) (hp11 : aMine10.length ≤ maxLen) (aTheirs12 : Str) (hp13 : aTheirs12.length ≤ maxLen) (r : Bool) (h : m_laws_FnExactSettleEnd aT1 aMine10 aTheirs12 = some r) :
    Calls Try.prog 3 #[.agg #[vS (aT1.Letters), vL A3 (aT1.Values) c4, vL A6 (aT1.Counts) c7, vI (aT1.Blanks)], vS (aMine10), vS (aTheirs12)] C.w0 fun e w => e = .returned (.bool (r)) ∧ Mem C w [] [] := by
  have hM := Mem.begin C [.dat (sliceRep intRep) aT1.Counts [vL A6 aT1.Counts c7], .dat (sliceRep intRep) aT1.Values [vL A3 aT1.Values c4]] ⟨hp8, hp5, trivial⟩
  refine enter Try.func3 rfl Try.ntmps3 rfl fun a hf => ?_
  unfold m_laws_FnExactSettleEnd at h
  refine wp_seq ?_
  refine region_pl ?_
  refine pl_l hf rfl rfl rfl (w_box hf hM (cs := [vS (aT1.Letters), vL A3 (aT1.Values) c4, vL A6 (aT1.Counts) c7, vI (aT1.Blanks)]) rfl rfl fun b14 w15 hx16 hM a hf => ?_)
  refine q_ hf rfl rfl rfl (e_assign hf rfl) fun a hf => ?_
  refine pl_nil ?_
  refine then_n ?_
  refine wp_seq ?_
  refine wp_seq ?_
  refine region_pl ?_
  refine q_ hf rfl rfl rfl (e_move hf rfl) fun a hf => ?_
  refine q_ hf rfl rfl rfl (e_lenS hf (x := aMine10) rfl Try.underlying9) fun a hf => ?_
  refine q_ hf rfl rfl rfl (e_gt hf (x := (aMine10.length : Int)) (y := 1048576) rfl rfl) fun a hf => ?_
  refine pl_nil ?_
  refine then_n ?_
  rcases cond_some h with ⟨hc18, h⟩ | ⟨hc18, h⟩
  · refine cond_t hf rfl hc18 ?_
    refine wp_seq ?_
    refine region_pl ?_
    refine q_ hf rfl rfl rfl (e_assign hf rfl) fun a hf => ?_
    refine pl_nil ?_
    refine then_n ?_
    refine wp_ret ?_
    refine then_r ?_
    obtain rfl := some_inj h
    have hM := hM.outs (own' := []) 0 rfl
    exact leave1 hf rfl rfl ⟨rfl, hM.fin⟩
  · refine cond_f hf rfl hc18 ?_
    refine wp_skip ?_
    refine then_n ?_
    refine wp_seq ?_
    refine wp_seq ?_
    refine region_pl ?_
    refine q_ hf rfl rfl rfl (e_move hf rfl) fun a hf => ?_
    refine q_ hf rfl rfl rfl (e_lenS hf (x := aTheirs12) rfl Try.underlying9) fun a hf => ?_
    refine q_ hf rfl rfl rfl (e_gt hf (x := (aTheirs12.length : Int)) (y := 1048576) rfl rfl) fun a hf => ?_
    refine pl_nil ?_
    refine then_n ?_
    rcases cond_some h with ⟨hc19, h⟩ | ⟨hc19, h⟩
    · refine cond_t hf rfl hc19 ?_
      refine wp_seq ?_
      refine region_pl ?_
      refine q_ hf rfl rfl rfl (e_assign hf rfl) fun a hf => ?_
      refine pl_nil ?_
      refine then_n ?_
      refine wp_ret ?_
      refine then_r ?_
      obtain rfl := some_inj h
      have hM := hM.outs (own' := []) 0 rfl
      exact leave1 hf rfl rfl ⟨rfl, hM.fin⟩
    · refine cond_f hf rfl hc19 ?_
      refine wp_skip ?_
      refine then_n ?_
      refine wp_seq ?_
      refine region_pl ?_
      refine q_ hf rfl rfl rfl (e_assign hf rfl) fun a hf => ?_
      refine pl_nil ?_
      refine then_n ?_
      refine wp_seq ?_
      refine region_pl ?_
      refine q_ hf rfl rfl rfl (e_loadA hf (us := [vS (aT1.Letters), vL A3 (aT1.Values) c4, vL A6 (aT1.Counts) c7, vI (aT1.Blanks)]) rfl ⟨Try.isAgg24, Try.sizeOf24⟩ rfl (hM.boxSub (k := 0) (us := [vS (aT1.Letters), vL A3 (aT1.Values) c4, vL A6 (aT1.Counts) c7, vI (aT1.Blanks)]) (o := 0) rfl rfl)) fun a hf => ?_
      refine q_ hf rfl rfl rfl (e_move hf rfl) fun a hf => ?_
      obtain ⟨y20, hz21, h⟩ := bind_some h
      refine pl_l hf rfl rfl rfl (w_call hf Try.call8 rfl (r_laws_szTileSet ⟨_, Sh C _ _, none_, hM.sh_lt, none_not⟩ aT1 hp2 _ _ (hM.dat (k := 1) rfl) _ _ (hM.dat (k := 0) rfl) hp9 1048576 (R64_lit rfl) _ hz21) ?_)
      rintro _ w23 ⟨rfl, hM2, hv22⟩
      obtain ⟨hM, hx24, hup25⟩ := hM.back hM2
      dsimp only [List.cons_append, List.nil_append] at hM hup25
      clear hM2
      refine ⟨_, rfl, fun a hf => ?_⟩
      refine q_ hf rfl rfl rfl (e_assign hf rfl) fun a hf => ?_
      refine pl_nil ?_
      refine then_n ?_
      refine wp_seq ?_
      refine wp_seq ?_
      refine region_pl ?_
      refine q_ hf rfl rfl rfl (e_move hf rfl) fun a hf => ?_
      refine q_ hf rfl rfl rfl (e_lt hf (x := y20) (y := 0) rfl rfl) fun a hf => ?_
      refine pl_nil ?_
      refine then_n ?_
      rcases cond_some h with ⟨hc26, h⟩ | ⟨hc26, h⟩
      · refine cond_t hf rfl hc26 ?_
        refine wp_seq ?_
        refine region_pl ?_
        refine q_ hf rfl rfl rfl (e_assign hf rfl) fun a hf => ?_
        refine pl_nil ?_
        refine then_n ?_
        refine wp_ret ?_
        refine then_r ?_
        obtain rfl := some_inj h
        have hM := hM.outs (own' := []) 0 rfl
        exact leave1 hf rfl rfl ⟨rfl, hM.fin⟩
      · refine cond_f hf rfl hc26 ?_
        refine wp_skip ?_
        refine then_n ?_
        refine wp_seq ?_
        refine region_pl ?_
        refine q_ hf rfl rfl rfl (e_loadA hf (us := [vS (aT1.Letters), vL A3 (aT1.Values) c4, vL A6 (aT1.Counts) c7, vI (aT1.Blanks)]) rfl ⟨Try.isAgg24, Try.sizeOf24⟩ rfl (hM.boxSub (k := 0) (us := [vS (aT1.Letters), vL A3 (aT1.Values) c4, vL A6 (aT1.Counts) c7, vI (aT1.Blanks)]) (o := 0) rfl rfl)) fun a hf => ?_
        obtain ⟨y27, hz28, h⟩ := bind_some h
        refine pl_l hf rfl rfl rfl (w_call hf Try.call10 rfl (r_laws_toTileSet ⟨_, Sh C _ _, none_, hM.sh_lt, none_not⟩ aT1 hp2 _ _ (hM.dat (k := 1) rfl) _ _ (hM.dat (k := 0) rfl) hp9 _ hz28) ?_)
        rintro _ w35 ⟨A30, c31, A32, c33, rfl, hM2, hv29, hv34⟩
        obtain ⟨hM, hx36, hup37⟩ := hM.back hM2
        dsimp only [List.cons_append, List.nil_append] at hM hup37
        clear hM2
        refine ⟨_, rfl, fun a hf => ?_⟩
        refine q_ hf rfl rfl rfl (e_move hf rfl) fun a hf => ?_
        refine q_ hf rfl rfl rfl (e_move hf rfl) fun a hf => ?_
        obtain ⟨y38, hz39, h⟩ := bind_some h
        refine pl_l hf rfl rfl rfl (w_call hf Try.call9 rfl (r_spec_SettleEnd ⟨_, All C _ _, none_, hM.all_lt, none_not⟩ y27 hv29 _ _ (hM.lendRow (k := 0) rfl) _ _ (hM.lendRow (k := 1) rfl) hv34 aMine10 hp11 aTheirs12 hp13 _ hz39) ?_)
        rintro _ w42 ⟨rfl, hM2, hv40, hv41⟩
        obtain ⟨hM, hx43⟩ := hM.backA hM2
        clear hM2
        refine ⟨_, rfl, fun a hf => ?_⟩
        refine q_ hf rfl rfl rfl (e_move hf rfl) fun a hf => ?_
        refine q_ hf rfl rfl rfl (e_extract hf rfl rfl) fun a hf => ?_
        refine q_ hf rfl rfl rfl (e_extract hf rfl rfl) fun a hf => ?_
        refine q_ hf rfl rfl rfl (e_assign hf rfl) fun a hf => ?_
        refine q_ hf rfl rfl rfl (e_assign hf rfl) fun a hf => ?_
        refine pl_nil ?_
        refine then_n ?_
        refine wp_seq ?_
        refine region_pl ?_
        refine q_ hf rfl rfl rfl (e_loadA hf (us := [vS (aT1.Letters), vL A3 (aT1.Values) c4, vL A6 (aT1.Counts) c7, vI (aT1.Blanks)]) rfl ⟨Try.isAgg24, Try.sizeOf24⟩ rfl (hM.boxSub (k := 2) (us := [vS (aT1.Letters), vL A3 (aT1.Values) c4, vL A6 (aT1.Counts) c7, vI (aT1.Blanks)]) (o := 0) rfl rfl)) fun a hf => ?_
        obtain ⟨y45, hz46, h⟩ := bind_some h
        refine pl_l hf rfl rfl rfl (w_call hf Try.call10 rfl (r_laws_toTileSet ⟨_, Sh C _ _, none_, hM.sh_lt, none_not⟩ aT1 hp2 _ _ (hM.dat (k := 1) rfl) _ _ (hM.dat (k := 0) rfl) hp9 _ hz46) ?_)
        rintro _ w53 ⟨A48, c49, A50, c51, rfl, hM2, hv47, hv52⟩
        obtain ⟨hM, hx54, hup55⟩ := hM.back hM2
        dsimp only [List.cons_append, List.nil_append] at hM hup55
        clear hM2
        refine ⟨_, rfl, fun a hf => ?_⟩
        refine pl_l hf rfl rfl rfl (w_alloc hM (cs := [vS (([] : Str)), vL none (([] : (List Int))) 0, vL none (([] : (List Int))) 0, vI (0)]) Try.zeroValue28 rfl fun b56 w57 hx58 hM a hf => ?_)
        refine pl_0 hf rfl rfl (w_store hf hM (us := [vS (y45.Letters), vL A48 (y45.Values) c49, vL A50 (y45.Counts) c51, vI (y45.Blanks)]) (cs' := [vS (y45.Letters), vL A48 (y45.Values) c49, vL A50 (y45.Counts) c51, vI (y45.Blanks)]) rfl rfl (k := 0) rfl rfl Try.sizeOf28 rfl rfl rfl fun w60 hM => ?_)
        dsimp only [List.set] at hM
        refine pl_nil ?_
        refine then_n ?_
        refine wp_seq ?_
        refine region_pl ?_
        refine q_ hf rfl rfl rfl (e_loadA hf (us := [vS (y45.Letters), vL A48 (y45.Values) c49, vL A50 (y45.Counts) c51, vI (y45.Blanks)]) rfl ⟨Try.isAgg28, Try.sizeOf28⟩ rfl (hM.boxSub (k := 0) (us := [vS (y45.Letters), vL A48 (y45.Values) c49, vL A50 (y45.Counts) c51, vI (y45.Blanks)]) (o := 0) rfl rfl)) fun a hf => ?_
        refine q_ hf rfl rfl rfl (e_move hf rfl) fun a hf => ?_
        refine q_ hf rfl rfl rfl (e_move hf rfl) fun a hf => ?_
        obtain ⟨y63, hz64, h⟩ := bind_some h
        refine pl_l hf rfl rfl rfl (w_call hf Try.call11 rfl (r_impl_SettleEnd ⟨_, All C _ _, none_, hM.all_lt, none_not⟩ y45 hv47 _ _ (hM.lendRow (k := 1) rfl) _ _ (hM.lendRow (k := 2) rfl) hv52 aMine10 hp11 aTheirs12 hp13 _ hz64) ?_)
        rintro _ w67 ⟨rfl, hM2, hv65, hv66⟩
        obtain ⟨hM, hx68⟩ := hM.backA hM2
        clear hM2
        refine ⟨_, rfl, fun a hf => ?_⟩
        refine q_ hf rfl rfl rfl (e_move hf rfl) fun a hf => ?_
        refine q_ hf rfl rfl rfl (e_extract hf rfl rfl) fun a hf => ?_
        refine q_ hf rfl rfl rfl (e_extract hf rfl rfl) fun a hf => ?_
        refine q_ hf rfl rfl rfl (e_assign hf rfl) fun a hf => ?_
        refine q_ hf rfl rfl rfl (e_assign hf rfl) fun a hf => ?_
        refine pl_nil ?_
        refine then_n ?_
        refine wp_seq ?_
        obtain ⟨x72, h73, h⟩ := bind_some h
        refine seq_join (fun a w => ∃ (t70 : Bool), t70 = x72 ∧ Has 54 a [(3, vP b14 (0)), (10, vP b56 (0)), (48, .bool (t70))] ∧ Mem C w [.box b56 [vS (y45.Letters), vL A48 (y45.Values) c49, vL A50 (y45.Counts) c51, vI (y45.Blanks)] 28, .row intRep A48 c49 2 y45.Values true, .row intRep A50 c51 2 y45.Counts true, .row intRep A30 c31 2 y27.Values true, .row intRep A32 c33 2 y27.Counts true, .box b14 [vS (aT1.Letters), vL A3 (aT1.Values) c4, vL A6 (aT1.Counts) c7, vI (aT1.Blanks)] 24] [.dat (sliceRep intRep) aT1.Counts [vL A6 aT1.Counts c7], .dat (sliceRep intRep) aT1.Values [vL A3 aT1.Values c4]]) ?_ ?_
        · refine region_pl ?_
          refine q_ hf rfl rfl rfl (e_move hf rfl) fun a hf => ?_
          refine q_ hf rfl rfl rfl (e_move hf rfl) fun a hf => ?_
          refine q_ hf rfl rfl rfl (e_ne hf (x := y63.1) (y := y38.1) rfl rfl) fun a hf => ?_
          refine q_ hf rfl rfl rfl (e_move hf rfl) fun a hf => ?_
          rcases cond_some h73 with ⟨hc74, h73⟩ | ⟨hc74, h73⟩
          · refine pl_gs (wanted_f hf rfl rfl rfl rfl hc74) hf rfl rfl fun a hf => ?_
            refine pl_gs (wanted_f hf rfl rfl rfl rfl hc74) hf rfl rfl fun a hf => ?_
            refine pl_gs (wanted_f hf rfl rfl rfl rfl hc74) hf rfl rfl fun a hf => ?_
            refine q_ hf rfl rfl rfl (e_pick_t hf rfl hc74 rfl) fun a hf => ?_
            refine pl_nil ?_
            obtain rfl := some_inj h73
            refine then_n ?_
            exact ⟨true, rfl, hf.keep ⟨rfl, rfl, rfl, trivial⟩, hM.pick [0, 1] rfl⟩
          · refine gq (wanted_t hf rfl rfl rfl rfl hc74) hf rfl rfl (e_move hf rfl) fun a hf => ?_
            refine gq (wanted_t hf rfl rfl rfl rfl hc74) hf rfl rfl (e_move hf rfl) fun a hf => ?_
            refine gq (wanted_t hf rfl rfl rfl rfl hc74) hf rfl rfl (e_ne hf (x := y63.2) (y := y38.2) rfl rfl) fun a hf => ?_
            refine q_ hf rfl rfl rfl (e_pick_f hf rfl hc74 rfl) fun a hf => ?_
            refine pl_nil ?_
            obtain rfl := some_inj h73
            refine then_n ?_
            exact ⟨(y63.2 != y38.2), rfl, hf.keep ⟨rfl, rfl, rfl, trivial⟩, hM.pick [0, 1] rfl⟩
        · rintro a w77 ⟨t70, rfl, hf, hM⟩
          try dsimp only at h
          rcases cond_some h with ⟨hc78, h⟩ | ⟨hc78, h⟩
          · refine cond_t hf rfl hc78 ?_
            refine wp_seq ?_
            refine region_pl ?_
            refine q_ hf rfl rfl rfl (e_assign hf rfl) fun a hf => ?_
            refine pl_nil ?_
            refine then_n ?_
            refine wp_ret ?_
            refine then_r ?_
            obtain rfl := some_inj h
            have hM := hM.outs (own' := []) 0 rfl
            exact leave1 hf rfl rfl ⟨rfl, hM.fin⟩
          · refine cond_f hf rfl hc78 ?_
            refine wp_skip ?_
            refine then_n ?_
            refine wp_seq ?_
            refine wp_seq ?_
            obtain ⟨w79, hw⟩ : ∃ x, x = w77.drew := ⟨_, rfl⟩
            refine region_pi (.q 0 (.q 1 (.l 2 (.l 3 (.q 4 (.nil)))))) (Ext w79) rfl (by kernel_rfl) ?_
            have hM := hM.drew
            rw [← hw] at hM ⊢
            clear hw
            refine pi_q hf rfl rfl rfl rfl (Ext.refl _) (e_loadA hf (us := [vS (y45.Letters), vL A48 (y45.Values) c49, vL A50 (y45.Counts) c51, vI (y45.Blanks)]) rfl ⟨Try.isAgg28, Try.sizeOf28⟩ rfl (hM.boxSub (k := 0) (us := [vS (y45.Letters), vL A48 (y45.Values) c49, vL A50 (y45.Counts) c51, vI (y45.Blanks)]) (o := 0) rfl rfl)) fun a hf => ?_
            refine pi_q hf rfl rfl rfl rfl (Ext.refl _) (e_loadA hf (us := [vS (aT1.Letters), vL A3 (aT1.Values) c4, vL A6 (aT1.Counts) c7, vI (aT1.Blanks)]) rfl ⟨Try.isAgg24, Try.sizeOf24⟩ rfl (hM.boxSub (k := 5) (us := [vS (aT1.Letters), vL A3 (aT1.Values) c4, vL A6 (aT1.Counts) c7, vI (aT1.Blanks)]) (o := 0) rfl rfl)) fun a hf => ?_
            refine pi_one ?_
            obtain ⟨y80, hz81, h⟩ := bind_some h
            refine pi_l hf rfl rfl rfl rfl (w_call hf Try.call10 rfl (r_laws_toTileSet ⟨_, Sh C _ _, none_, hM.sh_lt, none_not⟩ aT1 hp2 _ _ (hM.dat (k := 1) rfl) _ _ (hM.dat (k := 0) rfl) hp9 _ hz81) ?_)
            rintro _ w88 ⟨A83, c84, A85, c86, rfl, hM2, hv82, hv87⟩
            obtain ⟨hM, hx89, hup90⟩ := hM.back hM2
            dsimp only [List.cons_append, List.nil_append] at hM hup90
            clear hM2
            refine ⟨_, rfl, Ext w88, fun _ h => Ext.trans hx89 h, Ext.refl _, fun a hf => ?_⟩
            refine pi_one ?_
            obtain ⟨y91, hz92, h⟩ := bind_some h
            refine pi_l hf rfl rfl rfl rfl (w_call hf Try.call12 rfl (r_laws_eqTileSet ⟨_, All C _ _, none_, hM.all_lt, none_not⟩ y45 hv47 _ _ (hM.lendRow (k := 3) rfl) _ _ (hM.lendRow (k := 4) rfl) hv52 y80 hv82 _ _ (hM.lendRow (k := 0) rfl) _ _ (hM.lendRow (k := 1) rfl) hv87 _ hz92) ?_)
            rintro _ w93 ⟨rfl, hM2⟩
            obtain ⟨hM, hx94⟩ := hM.backA hM2
            clear hM2
            refine ⟨_, rfl, Ext w93, fun _ h => Ext.trans hx94 h, Ext.refl _, fun a hf => ?_⟩
            refine pi_q hf rfl rfl rfl rfl (Ext.refl _) (e_not hf rfl) fun a hf => ?_
            refine pi_nil ?_
            refine then_n ?_
            rcases cond_some h with ⟨hc96, h⟩ | ⟨hc96, h⟩
            · refine cond_t hf rfl hc96 ?_
              refine wp_seq ?_
              refine region_pl ?_
              refine q_ hf rfl rfl rfl (e_assign hf rfl) fun a hf => ?_
              refine pl_nil ?_
              refine then_n ?_
              refine wp_ret ?_
              refine then_r ?_
              obtain rfl := some_inj h
              have hM := hM.outs (own' := []) 0 rfl
              exact leave1 hf rfl rfl ⟨rfl, hM.fin⟩
            · refine cond_f hf rfl hc96 ?_
              refine wp_skip ?_
              refine then_n ?_
              refine wp_seq ?_
              refine region_pl ?_
              refine q_ hf rfl rfl rfl (e_assign hf rfl) fun a hf => ?_
              refine pl_nil ?_
              refine then_n ?_
              refine wp_ret ?_
              obtain rfl := some_inj h
              have hM := hM.outs (own' := []) 0 rfl
              exact leave1 hf rfl rfl ⟨rfl, hM.fin⟩

end Go.Proofs.Ytgmbcolpchckbaa
