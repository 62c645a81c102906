/- The functions that this law reaches do what their models say. Printed by gen.py. -/
import Derived.Test.YtgmbcolpchckbaaDoorMod
import Derived.Test.YtgmbcolpchckbaaDoorLib
namespace Go.Proofs.YtgmbcolpchckbaaDoor
open Go Go.RowKit
set_option linter.unusedSimpArgs false
set_option linter.unusedVariables false

theorem ei_5 : ElemInfo Tryd.prog 5 1 := elemInfo (by kernel_rfl)

set_option maxRecDepth 100000 in
set_option maxHeartbeats 4000000 in
theorem r_laws_toExpect (C : Cx) (a1 : Expect) (hp2 : R64 a1.Sum) (hp3 : R64 a1.Ways) (r : Expect) (h : m_laws_toExpect a1 = some r) :
    Calls Tryd.prog 12 #[.agg #[vI (a1.Sum), vI (a1.Ways)]] C.w0 fun e w => e = .returned (.agg #[vI (r.Sum), vI (r.Ways)]) ∧ Mem C w [] [] ∧ R64 r.Sum ∧ R64 r.Ways := by
  have hM := Mem.begin C [] trivial
  refine enter Tryd.func12 rfl Tryd.ntmps12 rfl fun a hf => ?_
  unfold m_laws_toExpect at h
  refine wp_seq ?_
  refine region_pl ?_
  refine pl_l hf rfl rfl rfl (w_box hf hM (cs := [vI (a1.Sum), vI (a1.Ways)]) rfl rfl fun b4 w5 hx6 hM a hf => ?_)
  refine pl_l hf rfl rfl rfl (w_alloc hM (cs := [vI (0), vI (0)]) Tryd.zeroValue32 rfl fun b8 w9 hx10 hM a hf => ?_)
  refine pl_nil ?_
  refine then_n ?_
  refine wp_seq ?_
  refine region_pl ?_
  refine pl_l hf rfl rfl rfl (w_alloc hM (cs := [vI (0), vI (0)]) Tryd.zeroValue32 rfl fun b12 w13 hx14 hM a hf => ?_)
  refine pl_nil ?_
  refine then_n ?_
  refine wp_seq ?_
  refine region_pl ?_
  refine q_ hf rfl rfl rfl (e_field hf rfl Tryd.underlying30 rfl Tryd.sizeOf2 (o' := 0) rfl) fun a hf => ?_
  refine q_ hf rfl rfl rfl (e_load1 hf rfl Tryd.isAgg2 (hM.boxCell (k := 2) rfl rfl)) fun a hf => ?_
  refine q_ hf rfl rfl rfl (e_field hf rfl Tryd.underlying32 rfl Tryd.sizeOf2 (o' := 0) rfl) fun a hf => ?_
  refine pl_0 hf rfl rfl (w_store hf hM (us := [vI (a1.Sum)]) (cs' := [vI (a1.Sum), vI (0)]) rfl rfl (k := 0) rfl rfl Tryd.sizeOf2 rfl rfl rfl fun w16 hM => ?_)
  dsimp only [List.set] at hM
  refine pl_nil ?_
  refine then_n ?_
  refine wp_seq ?_
  refine region_pl ?_
  refine q_ hf rfl rfl rfl (e_field hf rfl Tryd.underlying30 rfl Tryd.sizeOf2 (o' := 1) rfl) fun a hf => ?_
  refine q_ hf rfl rfl rfl (e_load1 hf rfl Tryd.isAgg2 (hM.boxCell (k := 2) rfl rfl)) fun a hf => ?_
  refine q_ hf rfl rfl rfl (e_field hf rfl Tryd.underlying32 rfl Tryd.sizeOf2 (o' := 1) rfl) fun a hf => ?_
  refine pl_0 hf rfl rfl (w_store hf hM (us := [vI (a1.Ways)]) (cs' := [vI (a1.Sum), vI (a1.Ways)]) rfl rfl (k := 0) rfl rfl Tryd.sizeOf2 rfl rfl rfl fun w19 hM => ?_)
  dsimp only [List.set] at hM
  refine pl_nil ?_
  refine then_n ?_
  refine wp_seq ?_
  refine region_pl ?_
  refine q_ hf rfl rfl rfl (e_loadA hf (us := [vI (a1.Sum), vI (a1.Ways)]) rfl ⟨Tryd.isAgg32, Tryd.sizeOf32⟩ rfl (hM.boxSub (k := 0) (us := [vI (a1.Sum), vI (a1.Ways)]) (o := 0) rfl rfl)) fun a hf => ?_
  refine pl_0 hf rfl rfl (w_store hf hM (us := [vI (a1.Sum), vI (a1.Ways)]) (cs' := [vI (a1.Sum), vI (a1.Ways)]) rfl rfl (k := 1) rfl rfl Tryd.sizeOf32 rfl rfl rfl fun w22 hM => ?_)
  dsimp only [List.set] at hM
  refine pl_nil ?_
  refine then_n ?_
  refine wp_ret ?_
  obtain rfl := some_inj h
  have hres25 := leaveV1 (P := Tryd.prog) Tryd.results12 (res_agg hf rfl ⟨Tryd.isAgg32, Tryd.sizeOf32⟩ (us := [vI (a1.Sum), vI (a1.Ways)]) rfl (hM.boxSub (k := 1) (o := 0) rfl rfl))
  have hM := hM.outs (own' := []) 0 rfl
  exact bodyPost_ret hres25 hf.defers ⟨rfl, hM.fin, hp2, hp3⟩

set_option maxRecDepth 100000 in
set_option maxHeartbeats 4000000 in
theorem r_spec_l00In (C : Cx) (n1 : Int) (hp2 : R64 n1) (low3 : Int) (hp4 : R64 low3) (high5 : Int) (hp6 : R64 high5) (r : Bool) (h : m_spec_l00In n1 low3 high5 = some r) :
    Calls Tryd.prog 34 #[vI (n1), vI (low3), vI (high5)] C.w0 fun e w => e = .returned (.bool (r)) ∧ Mem C w [] [] := by
  have hM := Mem.begin C [] trivial
  refine enter Tryd.func34 rfl Tryd.ntmps34 rfl fun a hf => ?_
  unfold m_spec_l00In at h
  refine wp_seq ?_
  refine region_pl ?_
  refine q_ hf rfl rfl rfl (e_assign hf rfl) fun a hf => ?_
  refine pl_nil ?_
  refine then_n ?_
  obtain ⟨x9, h10, h⟩ := bind_some h
  refine seq_join (fun a w => ∃ (t7 : Bool), t7 = x9 ∧ Has 15 a [(6, .bool (t7))] ∧ Mem C w [] []) ?_ ?_
  · refine region_pl ?_
    refine q_ hf rfl rfl rfl (e_move hf rfl) fun a hf => ?_
    refine q_ hf rfl rfl rfl (e_move hf rfl) fun a hf => ?_
    refine q_ hf rfl rfl rfl (e_ge hf (x := n1) (y := low3) rfl rfl) fun a hf => ?_
    refine q_ hf rfl rfl rfl (e_move hf rfl) fun a hf => ?_
    rcases cond_some h10 with ⟨hc11, h10⟩ | ⟨hc11, h10⟩
    · refine gq (wanted_t hf rfl rfl rfl rfl hc11) hf rfl rfl (e_move hf rfl) fun a hf => ?_
      refine gq (wanted_t hf rfl rfl rfl rfl hc11) hf rfl rfl (e_move hf rfl) fun a hf => ?_
      refine gq (wanted_t hf rfl rfl rfl rfl hc11) hf rfl rfl (e_le hf (x := n1) (y := high5) rfl rfl) fun a hf => ?_
      refine q_ hf rfl rfl rfl (e_pick_t hf rfl hc11 rfl) fun a hf => ?_
      refine q_ hf rfl rfl rfl (e_assign hf rfl) fun a hf => ?_
      refine pl_nil ?_
      obtain rfl := some_inj h10
      refine then_n ?_
      exact ⟨(decide (n1 ≤ high5)), rfl, hf.keep ⟨rfl, trivial⟩, hM.pick [] rfl⟩
    · refine pl_gs (wanted_f hf rfl rfl rfl rfl hc11) hf rfl rfl fun a hf => ?_
      refine pl_gs (wanted_f hf rfl rfl rfl rfl hc11) hf rfl rfl fun a hf => ?_
      refine pl_gs (wanted_f hf rfl rfl rfl rfl hc11) hf rfl rfl fun a hf => ?_
      refine q_ hf rfl rfl rfl (e_pick_f hf rfl hc11 rfl) fun a hf => ?_
      refine q_ hf rfl rfl rfl (e_assign hf rfl) fun a hf => ?_
      refine pl_nil ?_
      obtain rfl := some_inj h10
      refine then_n ?_
      exact ⟨false, rfl, hf.keep ⟨rfl, trivial⟩, hM.pick [] rfl⟩
  · rintro a w14 ⟨t7, rfl, hf, hM⟩
    try dsimp only at h
    refine wp_ret ?_
    obtain rfl := some_inj h
    exact leave1 hf rfl rfl ⟨rfl, hM.fin⟩

set_option maxRecDepth 100000 in
set_option maxHeartbeats 4000000 in
theorem r_spec_l21Ok (C : Cx) (e1 : Expect) (hp2 : R64 e1.Sum) (hp3 : R64 e1.Ways) (r : Bool) (h : m_spec_l21Ok e1 = some r) :
    Calls Tryd.prog 24 #[.agg #[vI (e1.Sum), vI (e1.Ways)]] C.w0 fun e w => e = .returned (.bool (r)) ∧ Mem C w [] [] := by
  have hM := Mem.begin C [] trivial
  refine enter Tryd.func24 rfl Tryd.ntmps24 rfl fun a hf => ?_
  unfold m_spec_l21Ok at h
  refine wp_seq ?_
  refine region_pl ?_
  refine pl_l hf rfl rfl rfl (w_box hf hM (cs := [vI (e1.Sum), vI (e1.Ways)]) rfl rfl fun b4 w5 hx6 hM a hf => ?_)
  refine q_ hf rfl rfl rfl (e_assign hf rfl) fun a hf => ?_
  refine pl_nil ?_
  refine then_n ?_
  obtain ⟨x10, h11, h⟩ := bind_some h
  refine seq_join (fun a w => ∃ (t8 : Bool), t8 = x10 ∧ Has 11 a [(2, .bool (t8))] ∧ Mem C w [.box b4 [vI (e1.Sum), vI (e1.Ways)] 32] []) ?_ ?_
  · refine region_pl ?_
    refine q_ hf rfl rfl rfl (e_field hf rfl Tryd.underlying32 rfl Tryd.sizeOf2 (o' := 1) rfl) fun a hf => ?_
    refine q_ hf rfl rfl rfl (e_load1 hf rfl Tryd.isAgg2 (hM.boxCell (k := 0) rfl rfl)) fun a hf => ?_
    obtain ⟨y12, hz13, h11⟩ := bind_some h11
    refine pl_l hf rfl rfl rfl (w_call hf Tryd.call34 rfl (r_spec_l00In ⟨_, Sh C _ _, none_, hM.sh_lt, none_not, C.G, hM.g_lt, g_none, hM.tabs⟩ e1.Ways hp3 1 (R64_lit rfl) 1000000 (R64_lit rfl) _ hz13) ?_)
    rintro _ w14 ⟨rfl, hM2⟩
    obtain ⟨hM, hx15, hup16⟩ := hM.back hM2
    dsimp only [List.cons_append, List.nil_append] at hM hup16
    clear hM2
    refine ⟨_, rfl, fun a hf => ?_⟩
    refine q_ hf rfl rfl rfl (e_move hf rfl) fun a hf => ?_
    rcases cond_some h11 with ⟨hc17, h11⟩ | ⟨hc17, h11⟩
    · refine gq (wanted_t hf rfl rfl rfl rfl hc17) hf rfl rfl (e_field hf rfl Tryd.underlying32 rfl Tryd.sizeOf2 (o' := 0) rfl) fun a hf => ?_
      refine gq (wanted_t hf rfl rfl rfl rfl hc17) hf rfl rfl (e_load1 hf rfl Tryd.isAgg2 (hM.boxCell (k := 0) rfl rfl)) fun a hf => ?_
      obtain ⟨y18, hz19, h11⟩ := bind_some h11
      refine pl_gl (wanted_t hf rfl rfl rfl rfl hc17) hf rfl rfl (w_call hf Tryd.call34 rfl (r_spec_l00In ⟨_, Sh C _ _, none_, hM.sh_lt, none_not, C.G, hM.g_lt, g_none, hM.tabs⟩ e1.Sum hp2 (-1000000000) (R64_lit rfl) 1000000000 (R64_lit rfl) _ hz19) ?_)
      rintro _ w20 ⟨rfl, hM2⟩
      obtain ⟨hM, hx21, hup22⟩ := hM.back hM2
      dsimp only [List.cons_append, List.nil_append] at hM hup22
      clear hM2
      refine ⟨_, rfl, fun a hf => ?_⟩
      refine q_ hf rfl rfl rfl (e_pick_t hf rfl hc17 rfl) fun a hf => ?_
      refine q_ hf rfl rfl rfl (e_assign hf rfl) fun a hf => ?_
      refine pl_nil ?_
      obtain rfl := some_inj h11
      refine then_n ?_
      exact ⟨y18, rfl, hf.keep ⟨rfl, trivial⟩, hM.pick [] rfl⟩
    · refine pl_gs (wanted_f hf rfl rfl rfl rfl hc17) hf rfl rfl fun a hf => ?_
      refine pl_gs (wanted_f hf rfl rfl rfl rfl hc17) hf rfl rfl fun a hf => ?_
      refine pl_gs (wanted_f hf rfl rfl rfl rfl hc17) hf rfl rfl fun a hf => ?_
      refine q_ hf rfl rfl rfl (e_pick_f hf rfl hc17 rfl) fun a hf => ?_
      refine q_ hf rfl rfl rfl (e_assign hf rfl) fun a hf => ?_
      refine pl_nil ?_
      obtain rfl := some_inj h11
      refine then_n ?_
      exact ⟨false, rfl, hf.keep ⟨rfl, trivial⟩, hM.pick [] rfl⟩
  · rintro a w25 ⟨t8, rfl, hf, hM⟩
    try dsimp only at h
    refine wp_ret ?_
    obtain rfl := some_inj h
    have hM := hM.outs (own' := []) 0 rfl
    exact leave1 hf rfl rfl ⟨rfl, hM.fin⟩

set_option maxRecDepth 100000 in
set_option maxHeartbeats 4000000 in
theorem r_spec_l01Dec (C : Cx) (n1 : Int) (hp2 : R64 n1) (r : Str) (h : m_spec_l01Dec n1 = some r) :
    Calls Tryd.prog 22 #[vI (n1)] C.w0 fun e w => e = .returned (vS (r)) ∧ Mem C w [] [] ∧ r.length ≤ maxLen := by
  have hM := Mem.begin C [] trivial
  refine enter Tryd.func22 rfl Tryd.ntmps22 rfl fun a hf => ?_
  unfold m_spec_l01Dec at h
  refine wp_seq ?_
  refine region_pl ?_
  refine q_ hf rfl rfl rfl (e_assign hf rfl) fun a hf => ?_
  refine pl_nil ?_
  refine then_n ?_
  refine wp_seq ?_
  refine region_pl ?_
  refine pl_l hf rfl rfl rfl (w_slice0 (K := byteRep) hM Tryd.underlying67 ei_5 fun b3 w4 hx5 hM a hf => ?_)
  refine q_ hf rfl rfl rfl (e_assign hf rfl) fun a hf => ?_
  refine pl_nil ?_
  refine then_n ?_
  obtain ⟨x9, h10, h⟩ := bind_some h
  refine seq_join (fun a w => ∃ (xs6 : Str) (A7 : Option Addr) (c8 : Nat), xs6 = x9 ∧ Has 34 a [(0, vI (n1)), (3, vL A7 (xs6) c8)] ∧ Mem C w [.row byteRep A7 c8 5 xs6 true] []) ?_ ?_
  · refine wp_seq ?_
    refine region_pl ?_
    refine q_ hf rfl rfl rfl (e_move hf rfl) fun a hf => ?_
    refine q_ hf rfl rfl rfl (e_assign hf rfl) fun a hf => ?_
    refine pl_nil ?_
    refine then_n ?_
    refine wp_block ?_
    obtain ⟨x20, h21, h10⟩ := bind_some h10
    refine wp_loopM h21 (fun s a w => ∃ (xs11 : Str) (d14 : Int) (A12 : Option Addr) (c13 : Nat), (xs11, d14) = s ∧ Has 34 a [(0, vI (n1)), (3, vL A12 (xs11) c13), (4, vI (d14))] ∧ Mem C w [.row byteRep A12 c13 5 xs11 true] [] ∧ R64 d14) ?_ ?_
    · exact ⟨([] : Str), n1, (some ⟨b3, 0, none⟩), 0, rfl, hf.keep ⟨rfl, rfl, rfl, trivial⟩, hM.pick [] rfl, hp2⟩
    · rintro s o22 a w16 ⟨xs11, d14, A12, c13, rfl, hf, hM, hv15⟩ h23 hd24
      replace h23 : m_spec_l01Dec_l1 xs11 d14 = some o22 := h23
      unfold m_spec_l01Dec_l1 at h23
      refine wp_seq ?_
      refine wp_seq ?_
      refine region_pl ?_
      refine q_ hf rfl rfl rfl (e_move hf rfl) fun a hf => ?_
      refine q_ hf rfl rfl rfl (e_ne hf (x := d14) (y := 0) rfl rfl) fun a hf => ?_
      refine pl_nil ?_
      refine then_n ?_
      rcases cond_some h23 with ⟨hc25, h23⟩ | ⟨hc25, h23⟩
      · refine cond_t hf rfl hc25 ?_
        refine wp_skip ?_
        refine then_n ?_
        refine wp_seq ?_
        refine wp_block ?_
        refine wp_seq ?_
        refine region_pl ?_
        refine q_ hf rfl rfl rfl (e_move hf rfl) fun a hf => ?_
        obtain ⟨z26, hz27, h23⟩ := bind_some h23
        refine q_ hf rfl rfl rfl (e_rem hf rfl rfl hz27) fun a hf => ?_
        refine q_ hf rfl rfl rfl (e_assign hf rfl) fun a hf => ?_
        refine pl_nil ?_
        refine then_n ?_
        obtain ⟨x30, h31, h23⟩ := bind_some h23
        refine seq_join (fun a w => ∃ (n28 : Int), n28 = x30 ∧ Has 34 a [(0, vI (n1)), (3, vL A12 (xs11) c13), (4, vI (d14)), (5, vI (n28))] ∧ Mem C w [.row byteRep A12 c13 5 xs11 true] [] ∧ R64 n28) ?_ ?_
        · refine wp_seq ?_
          refine region_pl ?_
          refine q_ hf rfl rfl rfl (e_move hf rfl) fun a hf => ?_
          refine q_ hf rfl rfl rfl (e_lt hf (x := z26) (y := 0) rfl rfl) fun a hf => ?_
          refine pl_nil ?_
          refine then_n ?_
          rcases cond_some h31 with ⟨hc32, h31⟩ | ⟨hc32, h31⟩
          · refine cond_t hf rfl hc32 ?_
            refine region_pl ?_
            refine q_ hf rfl rfl rfl (e_move hf rfl) fun a hf => ?_
            obtain ⟨z33, hz34, h31⟩ := bind_some h31
            refine q_ hf rfl rfl rfl (e_neg hf rfl hz34) fun a hf => ?_
            refine q_ hf rfl rfl rfl (e_assign hf rfl) fun a hf => ?_
            refine pl_nil ?_
            obtain rfl := some_inj h31
            refine then_n ?_
            exact ⟨z33, rfl, hf.keep ⟨rfl, rfl, rfl, rfl, trivial⟩, hM.pick [] rfl, (chk_R hz34)⟩
          · refine cond_f hf rfl hc32 ?_
            refine wp_skip ?_
            obtain rfl := some_inj h31
            refine then_n ?_
            exact ⟨z26, rfl, hf.keep ⟨rfl, rfl, rfl, rfl, trivial⟩, hM.pick [] rfl, (remI_R hz27 hv15)⟩
        · rintro a w37 ⟨n28, rfl, hf, hM, hv29⟩
          try dsimp only at h23
          refine region_pl ?_
          refine q_ hf rfl rfl rfl (e_move hf rfl) fun a hf => ?_
          obtain ⟨z38, hz39, h23⟩ := bind_some h23
          refine q_ hf rfl rfl rfl (e_add hf rfl rfl hz39) fun a hf => ?_
          refine q_ hf rfl rfl rfl (e_convIB hf rfl Tryd.underlying2 Tryd.underlying5) fun a hf => ?_
          refine pl_l hf rfl rfl rfl (w_slice hf hM (K := byteRep) (xs := ([UInt8.ofNat (z38 % 256).toNat] : Str)) (os := [.tmp 20]) Tryd.underlying67 ei_5 rfl rfl rfl rfl rfl ⟨⟨[vB (UInt8.ofNat (z38 % 256).toNat)], rfl, rfl⟩, trivial⟩ rfl fun b40 w41 hx42 hM a hf => ?_)
          refine q_ hf rfl rfl rfl (e_move hf rfl) fun a hf => ?_
          have hM := hM.freezeRow (k := 1) rfl rfl
          dsimp only [List.eraseIdx] at hM
          obtain ⟨xs43, hz44, h23⟩ := bind_some h23
          refine pl_l hf rfl rfl rfl (w_appendD hf hM Tryd.underlying67 ei_5 rfl rfl rfl (k := 0) rfl (hM.dat (k := 0) rfl) hz44 fun A45 c46 w47 hM a hf => ?_)
          dsimp only [List.set] at hM
          refine q_ hf rfl rfl rfl (e_assign hf rfl) fun a hf => ?_
          refine pl_nil ?_
          refine blk_n ?_
          refine then_n ?_
          refine region_pl ?_
          refine q_ hf rfl rfl rfl (e_move hf rfl) fun a hf => ?_
          obtain ⟨z50, hz51, h23⟩ := bind_some h23
          refine q_ hf rfl rfl rfl (e_quo hf rfl rfl hz51) fun a hf => ?_
          refine q_ hf rfl rfl rfl (e_assign hf rfl) fun a hf => ?_
          refine pl_nil ?_
          obtain rfl := some_inj h23
          refine then_n ⟨_, rfl, ?_⟩
          exact ⟨xs43, z50, A45, c46, rfl, hf.keep ⟨rfl, rfl, rfl, trivial⟩, hM.pick [] rfl, (quoI_R hz51)⟩
      · refine cond_f hf rfl hc25 ?_
        refine wp_exit ?_
        refine then_x ?_
        obtain rfl := some_inj h23
        obtain rfl := hd24 _ rfl
        try dsimp only at h10
        refine then_x ?_
        refine exit_hit ?_
        obtain rfl := some_inj h10
        refine then_n ?_
        exact ⟨xs11, A12, c13, rfl, hf.keep ⟨rfl, rfl, trivial⟩, hM.pick [] rfl⟩
  · rintro a w57 ⟨xs6, A7, c8, rfl, hf, hM⟩
    try dsimp only at h
    refine wp_seq ?_
    refine wp_seq ?_
    refine region_pl ?_
    refine q_ hf rfl rfl rfl (e_move hf rfl) fun a hf => ?_
    have hl58 := row_len (hM.ownAt (k := 0) rfl)
    refine q_ hf rfl rfl rfl (e_lenL hf (x := xs6) rfl Tryd.underlying67) fun a hf => ?_
    refine q_ hf rfl rfl rfl (e_eq hf (x := (xs6.length : Int)) (y := 0) rfl rfl) fun a hf => ?_
    refine pl_nil ?_
    refine then_n ?_
    rcases cond_some h with ⟨hc59, h⟩ | ⟨hc59, h⟩
    · refine cond_t hf rfl hc59 ?_
      refine wp_seq ?_
      refine region_pl ?_
      refine q_ hf rfl rfl rfl (e_assign hf rfl) fun a hf => ?_
      refine pl_nil ?_
      refine then_n ?_
      refine wp_ret ?_
      refine then_r ?_
      obtain rfl := some_inj h
      have hM := hM.outs (own' := []) 0 rfl
      exact leave1 hf rfl rfl ⟨rfl, hM.fin, (lit_len rfl)⟩
    · refine cond_f hf rfl hc59 ?_
      refine wp_skip ?_
      refine then_n ?_
      refine wp_seq ?_
      refine wp_seq ?_
      refine region_pl ?_
      refine q_ hf rfl rfl rfl (e_move hf rfl) fun a hf => ?_
      refine q_ hf rfl rfl rfl (e_lt hf (x := n1) (y := 0) rfl rfl) fun a hf => ?_
      refine pl_nil ?_
      refine then_n ?_
      rcases cond_some h with ⟨hc60, h⟩ | ⟨hc60, h⟩
      · refine cond_t hf rfl hc60 ?_
        refine wp_seq ?_
        refine region_pl ?_
        refine q_ hf rfl rfl rfl (e_move hf rfl) fun a hf => ?_
        have hl61 := row_len (hM.ownAt (k := 0) rfl)
        refine q_ hf rfl rfl rfl (e_bytesStr hf (xs := xs6) rfl Tryd.underlying67 Tryd.underlying5 Tryd.underlying9 (hM.lendRow (k := 0) rfl)) fun a hf => ?_
        obtain ⟨s62, hz63, h⟩ := bind_some h
        refine q_ hf rfl rfl rfl (e_cat hf (x := ([45] : Str)) (y := xs6) rfl rfl hz63) fun a hf => ?_
        refine q_ hf rfl rfl rfl (e_assign hf rfl) fun a hf => ?_
        refine pl_nil ?_
        refine then_n ?_
        refine wp_ret ?_
        refine then_r ?_
        obtain rfl := some_inj h
        have hM := hM.outs (own' := []) 0 rfl
        exact leave1 hf rfl rfl ⟨rfl, hM.fin, (cat_len hz63)⟩
      · refine cond_f hf rfl hc60 ?_
        refine wp_skip ?_
        refine then_n ?_
        refine wp_seq ?_
        refine region_pl ?_
        refine q_ hf rfl rfl rfl (e_move hf rfl) fun a hf => ?_
        have hl64 := row_len (hM.ownAt (k := 0) rfl)
        refine q_ hf rfl rfl rfl (e_bytesStr hf (xs := xs6) rfl Tryd.underlying67 Tryd.underlying5 Tryd.underlying9 (hM.lendRow (k := 0) rfl)) fun a hf => ?_
        refine q_ hf rfl rfl rfl (e_assign hf rfl) fun a hf => ?_
        refine pl_nil ?_
        refine then_n ?_
        refine wp_ret ?_
        obtain rfl := some_inj h
        have hM := hM.outs (own' := []) 0 rfl
        exact leave1 hf rfl rfl ⟨rfl, hM.fin, hl64⟩

set_option maxRecDepth 100000 in
set_option maxHeartbeats 4000000 in
theorem r_spec_ExpectText (C : Cx) (e1 : Expect) (hp2 : R64 e1.Sum) (hp3 : R64 e1.Ways) (r : Str) (h : m_spec_ExpectText e1 = some r) :
    Calls Tryd.prog 11 #[.agg #[vI (e1.Sum), vI (e1.Ways)]] C.w0 fun e w => e = .returned (vS (r)) ∧ Mem C w [] [] ∧ r.length ≤ maxLen := by
  have hM := Mem.begin C [] trivial
  refine enter Tryd.func11 rfl Tryd.ntmps11 rfl fun a hf => ?_
  unfold m_spec_ExpectText at h
  refine wp_seq ?_
  refine region_pl ?_
  refine pl_l hf rfl rfl rfl (w_box hf hM (cs := [vI (e1.Sum), vI (e1.Ways)]) rfl rfl fun b4 w5 hx6 hM a hf => ?_)
  refine q_ hf rfl rfl rfl (e_assign hf rfl) fun a hf => ?_
  refine pl_nil ?_
  refine then_n ?_
  refine wp_seq ?_
  refine wp_seq ?_
  refine region_pl ?_
  refine q_ hf rfl rfl rfl (e_loadA hf (us := [vI (e1.Sum), vI (e1.Ways)]) rfl ⟨Tryd.isAgg32, Tryd.sizeOf32⟩ rfl (hM.boxSub (k := 0) (us := [vI (e1.Sum), vI (e1.Ways)]) (o := 0) rfl rfl)) fun a hf => ?_
  obtain ⟨y8, hz9, h⟩ := bind_some h
  refine pl_l hf rfl rfl rfl (w_call hf Tryd.call24 rfl (r_spec_l21Ok ⟨_, Sh C _ _, none_, hM.sh_lt, none_not, C.G, hM.g_lt, g_none, hM.tabs⟩ e1 hp2 hp3 _ hz9) ?_)
  rintro _ w10 ⟨rfl, hM2⟩
  obtain ⟨hM, hx11, hup12⟩ := hM.back hM2
  dsimp only [List.cons_append, List.nil_append] at hM hup12
  clear hM2
  refine ⟨_, rfl, fun a hf => ?_⟩
  refine q_ hf rfl rfl rfl (e_not hf rfl) fun a hf => ?_
  refine pl_nil ?_
  refine then_n ?_
  rcases cond_some h with ⟨hc13, h⟩ | ⟨hc13, h⟩
  · refine cond_t hf rfl hc13 ?_
    refine wp_seq ?_
    refine region_pl ?_
    refine q_ hf rfl rfl rfl (e_assign hf rfl) fun a hf => ?_
    refine pl_nil ?_
    refine then_n ?_
    refine wp_ret ?_
    refine then_r ?_
    obtain rfl := some_inj h
    have hM := hM.outs (own' := []) 0 rfl
    exact leave1 hf rfl rfl ⟨rfl, hM.fin, (lit_len rfl)⟩
  · refine cond_f hf rfl hc13 ?_
    refine wp_skip ?_
    refine then_n ?_
    refine wp_seq ?_
    obtain ⟨w14, hw⟩ : ∃ x, x = w10.drew := ⟨_, rfl⟩
    refine region_pi (.q 0 (.q 1 (.q 4 (.q 5 (.l 2 (.q 3 (.l 6 (.q 7 (.q 8 (.nil)))))))))) (Ext w14) rfl (by kernel_rfl) ?_
    have hM := hM.drew
    rw [← hw] at hM ⊢
    clear hw
    refine pi_q hf rfl rfl rfl rfl (Ext.refl _) (e_field hf rfl Tryd.underlying32 rfl Tryd.sizeOf2 (o' := 0) rfl) fun a hf => ?_
    refine pi_q hf rfl rfl rfl rfl (Ext.refl _) (e_load1 hf rfl Tryd.isAgg2 (hM.boxCell (k := 0) rfl rfl)) fun a hf => ?_
    refine pi_q hf rfl rfl rfl rfl (Ext.refl _) (e_field hf rfl Tryd.underlying32 rfl Tryd.sizeOf2 (o' := 1) rfl) fun a hf => ?_
    refine pi_q hf rfl rfl rfl rfl (Ext.refl _) (e_load1 hf rfl Tryd.isAgg2 (hM.boxCell (k := 0) rfl rfl)) fun a hf => ?_
    refine pi_one ?_
    obtain ⟨y15, hz16, h⟩ := bind_some h
    refine pi_l hf rfl rfl rfl rfl (w_call hf Tryd.call22 rfl (r_spec_l01Dec ⟨_, Sh C _ _, none_, hM.sh_lt, none_not, C.G, hM.g_lt, g_none, hM.tabs⟩ e1.Sum hp2 _ hz16) ?_)
    rintro _ w18 ⟨rfl, hM2, hv17⟩
    obtain ⟨hM, hx19, hup20⟩ := hM.back hM2
    dsimp only [List.cons_append, List.nil_append] at hM hup20
    clear hM2
    refine ⟨_, rfl, Ext w18, fun _ h => Ext.trans hx19 h, Ext.refl _, fun a hf => ?_⟩
    obtain ⟨s21, hz22, h⟩ := bind_some h
    refine pi_q hf rfl rfl rfl rfl (Ext.refl _) (e_cat hf (x := y15) (y := ([47] : Str)) rfl rfl hz22) fun a hf => ?_
    refine pi_one ?_
    obtain ⟨y23, hz24, h⟩ := bind_some h
    refine pi_l hf rfl rfl rfl rfl (w_call hf Tryd.call22 rfl (r_spec_l01Dec ⟨_, Sh C _ _, none_, hM.sh_lt, none_not, C.G, hM.g_lt, g_none, hM.tabs⟩ e1.Ways hp3 _ hz24) ?_)
    rintro _ w26 ⟨rfl, hM2, hv25⟩
    obtain ⟨hM, hx27, hup28⟩ := hM.back hM2
    dsimp only [List.cons_append, List.nil_append] at hM hup28
    clear hM2
    refine ⟨_, rfl, Ext w26, fun _ h => Ext.trans hx27 h, Ext.refl _, fun a hf => ?_⟩
    obtain ⟨s29, hz30, h⟩ := bind_some h
    refine pi_q hf rfl rfl rfl rfl (Ext.refl _) (e_cat hf (x := s21) (y := y23) rfl rfl hz30) fun a hf => ?_
    refine pi_q hf rfl rfl rfl rfl (Ext.refl _) (e_assign hf rfl) fun a hf => ?_
    refine pi_nil ?_
    refine then_n ?_
    refine wp_ret ?_
    obtain rfl := some_inj h
    have hM := hM.outs (own' := []) 0 rfl
    exact leave1 hf rfl rfl ⟨rfl, hM.fin, (cat_len hz30)⟩

set_option maxRecDepth 100000 in
set_option maxHeartbeats 4000000 in
theorem r_impl_within (C : Cx) (x1 : Int) (hp2 : R64 x1) (low3 : Int) (hp4 : R64 low3) (high5 : Int) (hp6 : R64 high5) (r : Bool) (h : m_impl_within x1 low3 high5 = some r) :
    Calls Tryd.prog 35 #[vI (x1), vI (low3), vI (high5)] C.w0 fun e w => e = .returned (.bool (r)) ∧ Mem C w [] [] := by
  have hM := Mem.begin C [] trivial
  refine enter Tryd.func35 rfl Tryd.ntmps35 rfl fun a hf => ?_
  unfold m_impl_within at h
  refine wp_seq ?_
  refine region_pl ?_
  refine q_ hf rfl rfl rfl (e_assign hf rfl) fun a hf => ?_
  refine pl_nil ?_
  refine then_n ?_
  obtain ⟨x9, h10, h⟩ := bind_some h
  refine seq_join (fun a w => ∃ (t7 : Bool), t7 = x9 ∧ Has 15 a [(6, .bool (t7))] ∧ Mem C w [] []) ?_ ?_
  · refine region_pl ?_
    refine q_ hf rfl rfl rfl (e_move hf rfl) fun a hf => ?_
    refine q_ hf rfl rfl rfl (e_move hf rfl) fun a hf => ?_
    refine q_ hf rfl rfl rfl (e_le hf (x := low3) (y := x1) rfl rfl) fun a hf => ?_
    refine q_ hf rfl rfl rfl (e_move hf rfl) fun a hf => ?_
    rcases cond_some h10 with ⟨hc11, h10⟩ | ⟨hc11, h10⟩
    · refine gq (wanted_t hf rfl rfl rfl rfl hc11) hf rfl rfl (e_move hf rfl) fun a hf => ?_
      refine gq (wanted_t hf rfl rfl rfl rfl hc11) hf rfl rfl (e_move hf rfl) fun a hf => ?_
      refine gq (wanted_t hf rfl rfl rfl rfl hc11) hf rfl rfl (e_le hf (x := x1) (y := high5) rfl rfl) fun a hf => ?_
      refine q_ hf rfl rfl rfl (e_pick_t hf rfl hc11 rfl) fun a hf => ?_
      refine q_ hf rfl rfl rfl (e_assign hf rfl) fun a hf => ?_
      refine pl_nil ?_
      obtain rfl := some_inj h10
      refine then_n ?_
      exact ⟨(decide (x1 ≤ high5)), rfl, hf.keep ⟨rfl, trivial⟩, hM.pick [] rfl⟩
    · refine pl_gs (wanted_f hf rfl rfl rfl rfl hc11) hf rfl rfl fun a hf => ?_
      refine pl_gs (wanted_f hf rfl rfl rfl rfl hc11) hf rfl rfl fun a hf => ?_
      refine pl_gs (wanted_f hf rfl rfl rfl rfl hc11) hf rfl rfl fun a hf => ?_
      refine q_ hf rfl rfl rfl (e_pick_f hf rfl hc11 rfl) fun a hf => ?_
      refine q_ hf rfl rfl rfl (e_assign hf rfl) fun a hf => ?_
      refine pl_nil ?_
      obtain rfl := some_inj h10
      refine then_n ?_
      exact ⟨false, rfl, hf.keep ⟨rfl, trivial⟩, hM.pick [] rfl⟩
  · rintro a w14 ⟨t7, rfl, hf, hM⟩
    try dsimp only at h
    refine wp_ret ?_
    obtain rfl := some_inj h
    exact leave1 hf rfl rfl ⟨rfl, hM.fin⟩

set_option maxRecDepth 100000 in
set_option maxHeartbeats 4000000 in
theorem r_impl_validExpect (C : Cx) (e1 : Expect) (hp2 : R64 e1.Sum) (hp3 : R64 e1.Ways) (r : Bool) (h : m_impl_validExpect e1 = some r) :
    Calls Tryd.prog 25 #[.agg #[vI (e1.Sum), vI (e1.Ways)]] C.w0 fun e w => e = .returned (.bool (r)) ∧ Mem C w [] [] := by
  have hM := Mem.begin C [] trivial
  refine enter Tryd.func25 rfl Tryd.ntmps25 rfl fun a hf => ?_
  unfold m_impl_validExpect at h
  refine wp_seq ?_
  refine region_pl ?_
  refine pl_l hf rfl rfl rfl (w_box hf hM (cs := [vI (e1.Sum), vI (e1.Ways)]) rfl rfl fun b4 w5 hx6 hM a hf => ?_)
  refine q_ hf rfl rfl rfl (e_assign hf rfl) fun a hf => ?_
  refine pl_nil ?_
  refine then_n ?_
  obtain ⟨x10, h11, h⟩ := bind_some h
  refine seq_join (fun a w => ∃ (t8 : Bool), t8 = x10 ∧ Has 11 a [(2, .bool (t8))] ∧ Mem C w [.box b4 [vI (e1.Sum), vI (e1.Ways)] 32] []) ?_ ?_
  · refine region_pl ?_
    refine q_ hf rfl rfl rfl (e_field hf rfl Tryd.underlying32 rfl Tryd.sizeOf2 (o' := 1) rfl) fun a hf => ?_
    refine q_ hf rfl rfl rfl (e_load1 hf rfl Tryd.isAgg2 (hM.boxCell (k := 0) rfl rfl)) fun a hf => ?_
    obtain ⟨y12, hz13, h11⟩ := bind_some h11
    refine pl_l hf rfl rfl rfl (w_call hf Tryd.call35 rfl (r_impl_within ⟨_, Sh C _ _, none_, hM.sh_lt, none_not, C.G, hM.g_lt, g_none, hM.tabs⟩ e1.Ways hp3 1 (R64_lit rfl) 1000000 (R64_lit rfl) _ hz13) ?_)
    rintro _ w14 ⟨rfl, hM2⟩
    obtain ⟨hM, hx15, hup16⟩ := hM.back hM2
    dsimp only [List.cons_append, List.nil_append] at hM hup16
    clear hM2
    refine ⟨_, rfl, fun a hf => ?_⟩
    refine q_ hf rfl rfl rfl (e_move hf rfl) fun a hf => ?_
    rcases cond_some h11 with ⟨hc17, h11⟩ | ⟨hc17, h11⟩
    · refine gq (wanted_t hf rfl rfl rfl rfl hc17) hf rfl rfl (e_field hf rfl Tryd.underlying32 rfl Tryd.sizeOf2 (o' := 0) rfl) fun a hf => ?_
      refine gq (wanted_t hf rfl rfl rfl rfl hc17) hf rfl rfl (e_load1 hf rfl Tryd.isAgg2 (hM.boxCell (k := 0) rfl rfl)) fun a hf => ?_
      obtain ⟨y18, hz19, h11⟩ := bind_some h11
      refine pl_gl (wanted_t hf rfl rfl rfl rfl hc17) hf rfl rfl (w_call hf Tryd.call35 rfl (r_impl_within ⟨_, Sh C _ _, none_, hM.sh_lt, none_not, C.G, hM.g_lt, g_none, hM.tabs⟩ e1.Sum hp2 (-1000000000) (R64_lit rfl) 1000000000 (R64_lit rfl) _ hz19) ?_)
      rintro _ w20 ⟨rfl, hM2⟩
      obtain ⟨hM, hx21, hup22⟩ := hM.back hM2
      dsimp only [List.cons_append, List.nil_append] at hM hup22
      clear hM2
      refine ⟨_, rfl, fun a hf => ?_⟩
      refine q_ hf rfl rfl rfl (e_pick_t hf rfl hc17 rfl) fun a hf => ?_
      refine q_ hf rfl rfl rfl (e_assign hf rfl) fun a hf => ?_
      refine pl_nil ?_
      obtain rfl := some_inj h11
      refine then_n ?_
      exact ⟨y18, rfl, hf.keep ⟨rfl, trivial⟩, hM.pick [] rfl⟩
    · refine pl_gs (wanted_f hf rfl rfl rfl rfl hc17) hf rfl rfl fun a hf => ?_
      refine pl_gs (wanted_f hf rfl rfl rfl rfl hc17) hf rfl rfl fun a hf => ?_
      refine pl_gs (wanted_f hf rfl rfl rfl rfl hc17) hf rfl rfl fun a hf => ?_
      refine q_ hf rfl rfl rfl (e_pick_f hf rfl hc17 rfl) fun a hf => ?_
      refine q_ hf rfl rfl rfl (e_assign hf rfl) fun a hf => ?_
      refine pl_nil ?_
      obtain rfl := some_inj h11
      refine then_n ?_
      exact ⟨false, rfl, hf.keep ⟨rfl, trivial⟩, hM.pick [] rfl⟩
  · rintro a w25 ⟨t8, rfl, hf, hM⟩
    try dsimp only at h
    refine wp_ret ?_
    obtain rfl := some_inj h
    have hM := hM.outs (own' := []) 0 rfl
    exact leave1 hf rfl rfl ⟨rfl, hM.fin⟩

set_option maxRecDepth 100000 in
set_option maxHeartbeats 4000000 in
theorem r_impl_Decimal (C : Cx) (n1 : Int) (hp2 : R64 n1) (r : Str) (h : m_impl_Decimal n1 = some r) :
    Calls Tryd.prog 23 #[vI (n1)] C.w0 fun e w => e = .returned (vS (r)) ∧ Mem C w [] [] ∧ r.length ≤ maxLen := by
  have hM := Mem.begin C [] trivial
  refine enter Tryd.func23 rfl Tryd.ntmps23 rfl fun a hf => ?_
  unfold m_impl_Decimal at h
  refine wp_seq ?_
  refine region_pl ?_
  refine q_ hf rfl rfl rfl (e_assign hf rfl) fun a hf => ?_
  refine pl_nil ?_
  refine then_n ?_
  refine wp_seq ?_
  refine region_pl ?_
  refine q_ hf rfl rfl rfl (e_move hf rfl) fun a hf => ?_
  obtain ⟨y3, hz4, h⟩ := bind_some h
  refine pl_l hf rfl rfl rfl (w_call hf Tryd.call33 rfl (r_strconv_FormatInt ⟨_, Sh C _ _, none_, hM.sh_lt, none_not, C.G, hM.g_lt, g_none, hM.tabs⟩ n1 hp2 10 (R64_lit rfl) _ hz4) ?_)
  rintro _ w6 ⟨rfl, hM2, hv5⟩
  obtain ⟨hM, hx7, hup8⟩ := hM.back hM2
  dsimp only [List.cons_append, List.nil_append] at hM hup8
  clear hM2
  refine ⟨_, rfl, fun a hf => ?_⟩
  refine q_ hf rfl rfl rfl (e_assign hf rfl) fun a hf => ?_
  refine pl_nil ?_
  refine then_n ?_
  refine wp_ret ?_
  obtain rfl := some_inj h
  exact leave1 hf rfl rfl ⟨rfl, hM.fin, hv5⟩

set_option maxRecDepth 100000 in
set_option maxHeartbeats 4000000 in
theorem r_impl_ExpectText (C : Cx) (e1 : Expect) (hp2 : R64 e1.Sum) (hp3 : R64 e1.Ways) (r : Str) (h : m_impl_ExpectText e1 = some r) :
    Calls Tryd.prog 13 #[.agg #[vI (e1.Sum), vI (e1.Ways)]] C.w0 fun e w => e = .returned (vS (r)) ∧ Mem C w [] [] ∧ r.length ≤ maxLen := by
  have hM := Mem.begin C [] trivial
  refine enter Tryd.func13 rfl Tryd.ntmps13 rfl fun a hf => ?_
  unfold m_impl_ExpectText at h
  refine wp_seq ?_
  refine region_pl ?_
  refine pl_l hf rfl rfl rfl (w_box hf hM (cs := [vI (e1.Sum), vI (e1.Ways)]) rfl rfl fun b4 w5 hx6 hM a hf => ?_)
  refine q_ hf rfl rfl rfl (e_assign hf rfl) fun a hf => ?_
  refine pl_nil ?_
  refine then_n ?_
  refine wp_seq ?_
  refine wp_seq ?_
  refine region_pl ?_
  refine q_ hf rfl rfl rfl (e_loadA hf (us := [vI (e1.Sum), vI (e1.Ways)]) rfl ⟨Tryd.isAgg32, Tryd.sizeOf32⟩ rfl (hM.boxSub (k := 0) (us := [vI (e1.Sum), vI (e1.Ways)]) (o := 0) rfl rfl)) fun a hf => ?_
  obtain ⟨y8, hz9, h⟩ := bind_some h
  refine pl_l hf rfl rfl rfl (w_call hf Tryd.call25 rfl (r_impl_validExpect ⟨_, Sh C _ _, none_, hM.sh_lt, none_not, C.G, hM.g_lt, g_none, hM.tabs⟩ e1 hp2 hp3 _ hz9) ?_)
  rintro _ w10 ⟨rfl, hM2⟩
  obtain ⟨hM, hx11, hup12⟩ := hM.back hM2
  dsimp only [List.cons_append, List.nil_append] at hM hup12
  clear hM2
  refine ⟨_, rfl, fun a hf => ?_⟩
  refine q_ hf rfl rfl rfl (e_not hf rfl) fun a hf => ?_
  refine pl_nil ?_
  refine then_n ?_
  rcases cond_some h with ⟨hc13, h⟩ | ⟨hc13, h⟩
  · refine cond_t hf rfl hc13 ?_
    refine wp_seq ?_
    refine region_pl ?_
    refine q_ hf rfl rfl rfl (e_assign hf rfl) fun a hf => ?_
    refine pl_nil ?_
    refine then_n ?_
    refine wp_ret ?_
    refine then_r ?_
    obtain rfl := some_inj h
    have hM := hM.outs (own' := []) 0 rfl
    exact leave1 hf rfl rfl ⟨rfl, hM.fin, (lit_len rfl)⟩
  · refine cond_f hf rfl hc13 ?_
    refine wp_skip ?_
    refine then_n ?_
    refine wp_seq ?_
    obtain ⟨w14, hw⟩ : ∃ x, x = w10.drew := ⟨_, rfl⟩
    refine region_pi (.q 0 (.q 1 (.q 4 (.q 5 (.l 2 (.q 3 (.l 6 (.q 7 (.q 8 (.nil)))))))))) (Ext w14) rfl (by kernel_rfl) ?_
    have hM := hM.drew
    rw [← hw] at hM ⊢
    clear hw
    refine pi_q hf rfl rfl rfl rfl (Ext.refl _) (e_field hf rfl Tryd.underlying32 rfl Tryd.sizeOf2 (o' := 0) rfl) fun a hf => ?_
    refine pi_q hf rfl rfl rfl rfl (Ext.refl _) (e_load1 hf rfl Tryd.isAgg2 (hM.boxCell (k := 0) rfl rfl)) fun a hf => ?_
    refine pi_q hf rfl rfl rfl rfl (Ext.refl _) (e_field hf rfl Tryd.underlying32 rfl Tryd.sizeOf2 (o' := 1) rfl) fun a hf => ?_
    refine pi_q hf rfl rfl rfl rfl (Ext.refl _) (e_load1 hf rfl Tryd.isAgg2 (hM.boxCell (k := 0) rfl rfl)) fun a hf => ?_
    refine pi_one ?_
    obtain ⟨y15, hz16, h⟩ := bind_some h
    refine pi_l hf rfl rfl rfl rfl (w_call hf Tryd.call23 rfl (r_impl_Decimal ⟨_, Sh C _ _, none_, hM.sh_lt, none_not, C.G, hM.g_lt, g_none, hM.tabs⟩ e1.Sum hp2 _ hz16) ?_)
    rintro _ w18 ⟨rfl, hM2, hv17⟩
    obtain ⟨hM, hx19, hup20⟩ := hM.back hM2
    dsimp only [List.cons_append, List.nil_append] at hM hup20
    clear hM2
    refine ⟨_, rfl, Ext w18, fun _ h => Ext.trans hx19 h, Ext.refl _, fun a hf => ?_⟩
    obtain ⟨s21, hz22, h⟩ := bind_some h
    refine pi_q hf rfl rfl rfl rfl (Ext.refl _) (e_cat hf (x := y15) (y := ([47] : Str)) rfl rfl hz22) fun a hf => ?_
    refine pi_one ?_
    obtain ⟨y23, hz24, h⟩ := bind_some h
    refine pi_l hf rfl rfl rfl rfl (w_call hf Tryd.call23 rfl (r_impl_Decimal ⟨_, Sh C _ _, none_, hM.sh_lt, none_not, C.G, hM.g_lt, g_none, hM.tabs⟩ e1.Ways hp3 _ hz24) ?_)
    rintro _ w26 ⟨rfl, hM2, hv25⟩
    obtain ⟨hM, hx27, hup28⟩ := hM.back hM2
    dsimp only [List.cons_append, List.nil_append] at hM hup28
    clear hM2
    refine ⟨_, rfl, Ext w26, fun _ h => Ext.trans hx27 h, Ext.refl _, fun a hf => ?_⟩
    obtain ⟨s29, hz30, h⟩ := bind_some h
    refine pi_q hf rfl rfl rfl rfl (Ext.refl _) (e_cat hf (x := s21) (y := y23) rfl rfl hz30) fun a hf => ?_
    refine pi_q hf rfl rfl rfl rfl (Ext.refl _) (e_assign hf rfl) fun a hf => ?_
    refine pi_nil ?_
    refine then_n ?_
    refine wp_ret ?_
    obtain rfl := some_inj h
    have hM := hM.outs (own' := []) 0 rfl
    exact leave1 hf rfl rfl ⟨rfl, hM.fin, (cat_len hz30)⟩

set_option maxRecDepth 100000 in
set_option maxHeartbeats 4000000 in
theorem r_laws_FnExactExpectText (C : Cx) (aE1 : Expect) (hp2 : R64 aE1.Sum) (hp3 : R64 aE1.Ways) (r : Bool) (h : m_laws_FnExactExpectText aE1 = some r) :
    Calls Tryd.prog 4 #[.agg #[vI (aE1.Sum), vI (aE1.Ways)]] C.w0 fun e w => e = .returned (.bool (r)) ∧ Mem C w [] [] := by
  have hM := Mem.begin C [] trivial
  refine enter Tryd.func4 rfl Tryd.ntmps4 rfl fun a hf => ?_
  unfold m_laws_FnExactExpectText at h
  refine wp_seq ?_
  refine region_pl ?_
  refine pl_l hf rfl rfl rfl (w_box hf hM (cs := [vI (aE1.Sum), vI (aE1.Ways)]) rfl rfl fun b4 w5 hx6 hM a hf => ?_)
  refine q_ hf rfl rfl rfl (e_assign hf rfl) fun a hf => ?_
  refine pl_nil ?_
  refine then_n ?_
  refine wp_seq ?_
  refine region_pl ?_
  refine q_ hf rfl rfl rfl (e_loadA hf (us := [vI (aE1.Sum), vI (aE1.Ways)]) rfl ⟨Tryd.isAgg30, Tryd.sizeOf30⟩ rfl (hM.boxSub (k := 0) (us := [vI (aE1.Sum), vI (aE1.Ways)]) (o := 0) rfl rfl)) fun a hf => ?_
  obtain ⟨y8, hz9, h⟩ := bind_some h
  refine pl_l hf rfl rfl rfl (w_call hf Tryd.call12 rfl (r_laws_toExpect ⟨_, Sh C _ _, none_, hM.sh_lt, none_not, C.G, hM.g_lt, g_none, hM.tabs⟩ aE1 hp2 hp3 _ hz9) ?_)
  rintro _ w12 ⟨rfl, hM2, hv10, hv11⟩
  obtain ⟨hM, hx13, hup14⟩ := hM.back hM2
  dsimp only [List.cons_append, List.nil_append] at hM hup14
  clear hM2
  refine ⟨_, rfl, fun a hf => ?_⟩
  obtain ⟨y15, hz16, h⟩ := bind_some h
  refine pl_l hf rfl rfl rfl (w_call hf Tryd.call11 rfl (r_spec_ExpectText ⟨_, Sh C _ _, none_, hM.sh_lt, none_not, C.G, hM.g_lt, g_none, hM.tabs⟩ y8 hv10 hv11 _ hz16) ?_)
  rintro _ w18 ⟨rfl, hM2, hv17⟩
  obtain ⟨hM, hx19, hup20⟩ := hM.back hM2
  dsimp only [List.cons_append, List.nil_append] at hM hup20
  clear hM2
  refine ⟨_, rfl, fun a hf => ?_⟩
  refine q_ hf rfl rfl rfl (e_assign hf rfl) fun a hf => ?_
  refine pl_nil ?_
  refine then_n ?_
  refine wp_seq ?_
  refine region_pl ?_
  refine q_ hf rfl rfl rfl (e_loadA hf (us := [vI (aE1.Sum), vI (aE1.Ways)]) rfl ⟨Tryd.isAgg30, Tryd.sizeOf30⟩ rfl (hM.boxSub (k := 0) (us := [vI (aE1.Sum), vI (aE1.Ways)]) (o := 0) rfl rfl)) fun a hf => ?_
  obtain ⟨y21, hz22, h⟩ := bind_some h
  refine pl_l hf rfl rfl rfl (w_call hf Tryd.call12 rfl (r_laws_toExpect ⟨_, Sh C _ _, none_, hM.sh_lt, none_not, C.G, hM.g_lt, g_none, hM.tabs⟩ aE1 hp2 hp3 _ hz22) ?_)
  rintro _ w25 ⟨rfl, hM2, hv23, hv24⟩
  obtain ⟨hM, hx26, hup27⟩ := hM.back hM2
  dsimp only [List.cons_append, List.nil_append] at hM hup27
  clear hM2
  refine ⟨_, rfl, fun a hf => ?_⟩
  obtain ⟨y28, hz29, h⟩ := bind_some h
  refine pl_l hf rfl rfl rfl (w_call hf Tryd.call13 rfl (r_impl_ExpectText ⟨_, Sh C _ _, none_, hM.sh_lt, none_not, C.G, hM.g_lt, g_none, hM.tabs⟩ y21 hv23 hv24 _ hz29) ?_)
  rintro _ w31 ⟨rfl, hM2, hv30⟩
  obtain ⟨hM, hx32, hup33⟩ := hM.back hM2
  dsimp only [List.cons_append, List.nil_append] at hM hup33
  clear hM2
  refine ⟨_, rfl, fun a hf => ?_⟩
  refine q_ hf rfl rfl rfl (e_assign hf rfl) fun a hf => ?_
  refine pl_nil ?_
  refine then_n ?_
  refine wp_seq ?_
  refine wp_seq ?_
  refine region_pl ?_
  refine q_ hf rfl rfl rfl (e_move hf rfl) fun a hf => ?_
  refine q_ hf rfl rfl rfl (e_move hf rfl) fun a hf => ?_
  refine q_ hf rfl rfl rfl (e_neS hf (x := y28) (y := y15) rfl rfl) fun a hf => ?_
  refine pl_nil ?_
  refine then_n ?_
  rcases cond_some h with ⟨hc34, h⟩ | ⟨hc34, h⟩
  · refine cond_t hf rfl hc34 ?_
    refine wp_seq ?_
    refine region_pl ?_
    refine q_ hf rfl rfl rfl (e_assign hf rfl) fun a hf => ?_
    refine pl_nil ?_
    refine then_n ?_
    refine wp_ret ?_
    refine then_r ?_
    obtain rfl := some_inj h
    have hM := hM.outs (own' := []) 0 rfl
    exact leave1 hf rfl rfl ⟨rfl, hM.fin⟩
  · refine cond_f hf rfl hc34 ?_
    refine wp_skip ?_
    refine then_n ?_
    refine wp_seq ?_
    refine region_pl ?_
    refine q_ hf rfl rfl rfl (e_assign hf rfl) fun a hf => ?_
    refine pl_nil ?_
    refine then_n ?_
    refine wp_ret ?_
    obtain rfl := some_inj h
    have hM := hM.outs (own' := []) 0 rfl
    exact leave1 hf rfl rfl ⟨rfl, hM.fin⟩

end Go.Proofs.YtgmbcolpchckbaaDoor
