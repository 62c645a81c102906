/- The functions that this law reaches do what their models say. Printed by gen.py. -/
import Derived.Test.YtgmbcolpchckbaaMod
import Derived.Test.YtgmbcolpchckbaaChanceOfRef
namespace Go.Proofs.Ytgmbcolpchckbaa
open Go Go.RowKit
set_option linter.unusedSimpArgs false
set_option linter.unusedVariables false

set_option maxRecDepth 100000 in
set_option maxHeartbeats 4000000 in
theorem r_impl_ChanceOf_1 (C : Cx) (sum1 : Int) (hp2 : R64 sum1) (x3 : Drawn) (hp4 : x3.Tiles.length ≤ maxLen) (hp5 : R64 x3.Ways) (p6 : Str) (b7 : Nat) (o8 : Nat) (hp9 : (ptrRep strRep).R C.w0 C.S0 p6 [vP b7 o8]) (r : Int) (h : m_impl_ChanceOf_1 sum1 x3 p6 = some r) :
    Calls Try.prog 49 #[vI (sum1), .agg #[vS (x3.Tiles), vI (x3.Ways)], vP b7 (o8)] C.w0 fun e w => e = .returned (vI (r)) ∧ Mem C w [] [] ∧ R64 r := by
  have hM := Mem.begin C [.dat (ptrRep strRep) p6 [vP b7 o8]] ⟨hp9, trivial⟩
  refine enter Try.func49 rfl Try.ntmps49 rfl fun a hf => ?_
  unfold m_impl_ChanceOf_1 at h
  refine wp_seq ?_
  refine region_pl ?_
  refine pl_l hf rfl rfl rfl (w_box hf hM (cs := [vS (x3.Tiles), vI (x3.Ways)]) rfl rfl fun b10 w11 hx12 hM a hf => ?_)
  refine q_ hf rfl rfl rfl (e_assign hf rfl) fun a hf => ?_
  refine pl_nil ?_
  refine then_n ?_
  obtain ⟨x16, h17, h⟩ := bind_some h
  refine seq_join (fun a w => ∃ (sum14 : Int), sum14 = x16 ∧ Has 21 a [(0, vI (sum14))] ∧ Mem C w [.box b10 [vS (x3.Tiles), vI (x3.Ways)] 47] [.dat (ptrRep strRep) p6 [vP b7 o8]] ∧ R64 sum14) ?_ ?_
  · refine wp_seq ?_
    refine region_pl ?_
    refine q_ hf rfl rfl rfl (e_field hf rfl Try.underlying47 rfl Try.sizeOf9 (o' := 0) rfl) fun a hf => ?_
    refine q_ hf rfl rfl rfl (e_load1 hf rfl Try.isAgg9 (hM.boxCell (k := 0) rfl rfl)) fun a hf => ?_
    obtain ⟨_, hr18, hM⟩ := hM.deref (hM.dat (k := 0) rfl)
    obtain ⟨rfl, hv19⟩ := hr18
    refine q_ hf rfl rfl rfl (e_load1 hf rfl Try.isAgg9 (hM.litCell (k := 0) (j := 0) rfl rfl rfl)) fun a hf => ?_
    obtain ⟨y20, hz21, h17⟩ := bind_some h17
    refine pl_l hf rfl rfl rfl (w_call hf Try.call50 rfl (r_impl_without ⟨_, Sh C _ _, none_, hM.sh_lt, none_not, C.G, hM.g_lt, g_none, hM.tabs⟩ x3.Tiles hp4 p6 hv19 _ hz21) ?_)
    rintro _ w23 ⟨rfl, hM2, hv22⟩
    obtain ⟨hM, hx24, hup25⟩ := hM.back hM2
    dsimp only [List.cons_append, List.nil_append] at hM hup25
    clear hM2
    refine ⟨_, rfl, fun a hf => ?_⟩
    refine q_ hf rfl rfl rfl (e_move hf rfl) fun a hf => ?_
    refine q_ hf rfl rfl rfl (e_extract hf rfl rfl) fun a hf => ?_
    refine q_ hf rfl rfl rfl (e_extract hf rfl rfl) fun a hf => ?_
    refine q_ hf rfl rfl rfl (e_assign hf rfl) fun a hf => ?_
    refine q_ hf rfl rfl rfl (e_assign hf rfl) fun a hf => ?_
    refine pl_nil ?_
    refine then_n ?_
    refine wp_seq ?_
    refine region_pl ?_
    refine q_ hf rfl rfl rfl (e_move hf rfl) fun a hf => ?_
    refine pl_nil ?_
    refine then_n ?_
    rcases cond_some h17 with ⟨hc26, h17⟩ | ⟨hc26, h17⟩
    · refine cond_t hf rfl hc26 ?_
      refine region_pl ?_
      refine q_ hf rfl rfl rfl (e_move hf rfl) fun a hf => ?_
      refine q_ hf rfl rfl rfl (e_field hf rfl Try.underlying47 rfl Try.sizeOf2 (o' := 1) rfl) fun a hf => ?_
      refine q_ hf rfl rfl rfl (e_load1 hf rfl Try.isAgg2 (hM.boxCell (k := 0) rfl rfl)) fun a hf => ?_
      obtain ⟨z27, hz28, h17⟩ := bind_some h17
      refine q_ hf rfl rfl rfl (e_add hf rfl rfl hz28) fun a hf => ?_
      refine q_ hf rfl rfl rfl (e_assign hf rfl) fun a hf => ?_
      refine pl_nil ?_
      obtain rfl := some_inj h17
      refine then_n ?_
      exact ⟨z27, rfl, hf.keep ⟨rfl, trivial⟩, hM.pick [1] rfl, (chk_R hz28)⟩
    · refine cond_f hf rfl hc26 ?_
      refine wp_skip ?_
      obtain rfl := some_inj h17
      refine then_n ?_
      exact ⟨sum1, rfl, hf.keep ⟨rfl, trivial⟩, hM.pick [1] rfl, hp2⟩
  · rintro a w31 ⟨sum14, rfl, hf, hM, hv15⟩
    try dsimp only at h
    refine wp_seq ?_
    refine region_pl ?_
    refine q_ hf rfl rfl rfl (e_move hf rfl) fun a hf => ?_
    refine q_ hf rfl rfl rfl (e_assign hf rfl) fun a hf => ?_
    refine pl_nil ?_
    refine then_n ?_
    refine wp_ret ?_
    obtain rfl := some_inj h
    have hM := hM.outs (own' := []) 0 rfl
    exact leave1 hf rfl rfl ⟨rfl, hM.fin, hv15⟩

set_option maxRecDepth 100000 in
set_option maxHeartbeats 4000000 in
theorem r_impl_fold_impl_Drawn_int64 (C : Cx) (list1 : (List Drawn)) (A2 : Option Addr) (c3 : Nat) (hp4 : (sliceRep DrawnRep).R C.w0 C.S0 list1 [vL A2 list1 c3]) (value5 : Int) (hp6 : R64 value5) (step7 : (Int → Drawn → Option Int)) (fk8 : FuncId) (fc9 : List Value) (hfn10 : FnOk Try.prog C fk8 (FnC_Int_Drawn_to_Int fk8 fc9 step7)) (r : Int) (h : m_impl_fold_impl_Drawn_int64 list1 value5 step7 = some r) :
    Calls Try.prog 48 #[vL A2 (list1) c3, vI (value5), .func (.func fk8) #[] fc9.toArray] C.w0 fun e w => e = .returned (vI (r)) ∧ Mem C w [] [] ∧ R64 r := by
  have hM := Mem.begin C [.dat (sliceRep DrawnRep) list1 [vL A2 list1 c3]] ⟨hp4, trivial⟩
  refine enter Try.func48 rfl Try.ntmps48 rfl fun a hf => ?_
  unfold m_impl_fold_impl_Drawn_int64 at h
  refine wp_seq ?_
  refine region_pl ?_
  refine q_ hf rfl rfl rfl (e_assign hf rfl) fun a hf => ?_
  refine pl_nil ?_
  refine then_n ?_
  obtain ⟨x13, h14, h⟩ := bind_some h
  refine seq_join (fun a w => ∃ (value11 : Int), value11 = x13 ∧ Has 21 a [(1, vI (value11))] ∧ Mem C w [] [.dat (sliceRep DrawnRep) list1 [vL A2 list1 c3]] ∧ R64 value11) ?_ ?_
  · refine wp_seq ?_
    refine region_pl ?_
    refine q_ hf rfl rfl rfl (e_move hf rfl) fun a hf => ?_
    have hl15 := slice_len (hM.dat (k := 0) rfl)
    refine q_ hf rfl rfl rfl (e_lenL hf (x := list1) rfl Try.underlying32) fun a hf => ?_
    refine q_ hf rfl rfl rfl (e_move hf rfl) fun a hf => ?_
    refine pl_nil ?_
    refine then_n ?_
    refine wp_block ?_
    obtain ⟨x23, h24, h14⟩ := bind_some h14
    refine wp_loopM h24 (fun s a w => ∃ (value16 : Int) (n18 : Int), (value16, n18) = s ∧ Has 21 a [(1, vI (value16)), (2, .func (.func fk8) #[] fc9.toArray), (9, vL A2 (list1) c3), (10, vI ((list1.length : Int))), (11, vI (n18))] ∧ Mem C w [] [.dat (sliceRep DrawnRep) list1 [vL A2 list1 c3]] ∧ R64 value16 ∧ R64 n18) ?_ ?_
    · exact ⟨value5, 0, rfl, hf.keep ⟨rfl, rfl, rfl, rfl, rfl, trivial⟩, hM.pick [0] rfl, hp6, (R64_lit rfl)⟩
    · rintro s o25 a w20 ⟨value16, n18, rfl, hf, hM, hv17, hv19⟩ h26 hd27
      replace h26 : m_impl_fold_impl_Drawn_int64_l1 list1 step7 value16 n18 = some o25 := h26
      unfold m_impl_fold_impl_Drawn_int64_l1 at h26
      refine wp_seq ?_
      refine region_pl ?_
      refine q_ hf rfl rfl rfl (e_lt hf (x := n18) (y := (list1.length : Int)) rfl rfl) fun a hf => ?_
      refine pl_nil ?_
      refine then_n ?_
      refine wp_seq ?_
      rcases cond_some h26 with ⟨hc28, h26⟩ | ⟨hc28, h26⟩
      · refine cond_t hf rfl hc28 ?_
        refine wp_skip ?_
        refine then_n ?_
        refine wp_seq ?_
        refine wp_block ?_
        refine wp_seq ?_
        refine region_pl ?_
        obtain ⟨e29, hz30, h26⟩ := bind_some h26
        obtain ⟨b34, o35, _, hA36, h31, h32, hr33, hM⟩ := hM.elem (hM.dat (k := 0) rfl) (n := 2) rfl hz30
        obtain ⟨rfl, hv37, hv38⟩ := DrawnRep_open hr33
        refine q_ hf rfl rfl rfl (e_indexAddr (A := A2) (b := b34) (o := o35) (xs := list1) (i := n18) hf hA36 rfl rfl Try.underlying32 Try.sizeOf47 h31 h32) fun a hf => ?_
        refine q_ hf rfl rfl rfl (e_loadA hf (us := [vS (e29.Tiles), vI (e29.Ways)]) rfl ⟨Try.isAgg47, Try.sizeOf47⟩ rfl (hM.litSub (k := 0) (d := 0) (us := [vS (e29.Tiles), vI (e29.Ways)]) rfl rfl rfl)) fun a hf => ?_
        refine pl_l hf rfl rfl rfl (w_alloc hM (cs := [vS (([] : Str)), vI (0)]) Try.zeroValue47 rfl fun b39 w40 hx41 hM a hf => ?_)
        refine pl_0 hf rfl rfl (w_store hf hM (us := [vS (e29.Tiles), vI (e29.Ways)]) (cs' := [vS (e29.Tiles), vI (e29.Ways)]) rfl rfl (k := 0) rfl rfl Try.sizeOf47 rfl rfl rfl fun w43 hM => ?_)
        dsimp only [List.set] at hM
        refine pl_nil ?_
        refine then_n ?_
        refine region_pl ?_
        refine q_ hf rfl rfl rfl (e_move hf rfl) fun a hf => ?_
        refine q_ hf rfl rfl rfl (e_move hf rfl) fun a hf => ?_
        refine q_ hf rfl rfl rfl (e_loadA hf (us := [vS (e29.Tiles), vI (e29.Ways)]) rfl ⟨Try.isAgg47, Try.sizeOf47⟩ rfl (hM.boxSub (k := 0) (us := [vS (e29.Tiles), vI (e29.Ways)]) (o := 0) rfl rfl)) fun a hf => ?_
        obtain ⟨y46, hz47, h26⟩ := bind_some h26
        refine pl_l hf rfl rfl rfl (w_callV hf rfl hfn10.1 rfl (hfn10.2 ⟨_, Sh C _ _, none_, hM.sh_lt, none_not, C.G, hM.g_lt, g_none, hM.tabs⟩ hM.sameS hM.s0sh value16 hv17 e29 hv37 hv38 _ hz47) ?_)
        rintro _ w49 ⟨rfl, hM2, hv48⟩
        obtain ⟨hM, hx50, hup51⟩ := hM.back hM2
        dsimp only [List.cons_append, List.nil_append] at hM hup51
        clear hM2
        refine ⟨_, rfl, fun a hf => ?_⟩
        refine q_ hf rfl rfl rfl (e_assign hf rfl) fun a hf => ?_
        refine pl_nil ?_
        refine blk_n ?_
        refine then_n ?_
        refine region_pl ?_
        obtain ⟨z52, hz53, h26⟩ := bind_some h26
        refine q_ hf rfl rfl rfl (e_add hf rfl rfl hz53) fun a hf => ?_
        refine q_ hf rfl rfl rfl (e_move hf rfl) fun a hf => ?_
        refine pl_nil ?_
        obtain rfl := some_inj h26
        refine then_n ⟨_, rfl, ?_⟩
        exact ⟨y46, z52, rfl, hf.keep ⟨rfl, rfl, rfl, rfl, rfl, trivial⟩, (hM.drop (.cons _ .slnil)).pick [1] rfl, hv48, (chk_R hz53)⟩
      · refine cond_f hf rfl hc28 ?_
        refine wp_exit ?_
        refine then_x ?_
        obtain rfl := some_inj h26
        obtain rfl := hd27 _ rfl
        try dsimp only at h14
        refine then_x ?_
        refine exit_hit ?_
        obtain rfl := some_inj h14
        refine then_n ?_
        exact ⟨value16, rfl, hf.keep ⟨rfl, trivial⟩, hM.pick [0] rfl, hv17⟩
  · rintro a w59 ⟨value11, rfl, hf, hM, hv12⟩
    try dsimp only at h
    refine wp_seq ?_
    refine region_pl ?_
    refine q_ hf rfl rfl rfl (e_move hf rfl) fun a hf => ?_
    refine q_ hf rfl rfl rfl (e_assign hf rfl) fun a hf => ?_
    refine pl_nil ?_
    refine then_n ?_
    refine wp_ret ?_
    obtain rfl := some_inj h
    exact leave1 hf rfl rfl ⟨rfl, hM.fin, hv12⟩

set_option maxRecDepth 100000 in
set_option maxHeartbeats 4000000 in
theorem r_impl_ChanceOf (C : Cx) (pile1 : Str) (hp2 : pile1.length ≤ maxLen) (n3 : Int) (hp4 : R64 n3) (tiles5 : Str) (hp6 : tiles5.length ≤ maxLen) (r : (Int × Int)) (h : m_impl_ChanceOf pile1 n3 tiles5 = some r) :
    Calls Try.prog 23 #[vS (pile1), vI (n3), vS (tiles5)] C.w0 fun e w => e = .returned (.tuple #[vI (r.1), vI (r.2)]) ∧ Mem C w [] [] ∧ R64 r.1 ∧ R64 r.2 := by
  have hM := Mem.begin C [] trivial
  refine enter Try.func23 rfl Try.ntmps23 rfl fun a hf => ?_
  unfold m_impl_ChanceOf at h
  refine wp_seq ?_
  refine region_pl ?_
  refine pl_l hf rfl rfl rfl (w_box hf hM (cs := [vS (tiles5)]) rfl rfl fun b7 w8 hx9 hM a hf => ?_)
  refine q_ hf rfl rfl rfl (e_assign hf rfl) fun a hf => ?_
  refine q_ hf rfl rfl rfl (e_assign hf rfl) fun a hf => ?_
  refine pl_nil ?_
  refine then_n ?_
  refine wp_seq ?_
  obtain ⟨x13, h14, h⟩ := bind_some h
  refine seq_join (fun a w => ∃ (t11 : Bool), t11 = x13 ∧ Has 30 a [(0, vS (pile1)), (1, vI (n3)), (5, vP b7 (0)), (17, .bool (t11))] ∧ Mem C w [.box b7 [vS (tiles5)] 9] []) ?_ ?_
  · refine region_pl ?_
    refine q_ hf rfl rfl rfl (e_move hf rfl) fun a hf => ?_
    obtain ⟨y15, hz16, h14⟩ := bind_some h14
    refine pl_l hf rfl rfl rfl (w_call hf Try.call46 rfl (r_impl_isPool ⟨_, Sh C _ _, none_, hM.sh_lt, none_not, C.G, hM.g_lt, g_none, hM.tabs⟩ pile1 hp2 _ hz16) ?_)
    rintro _ w17 ⟨rfl, hM2⟩
    obtain ⟨hM, hx18, hup19⟩ := hM.back hM2
    dsimp only [List.cons_append, List.nil_append] at hM hup19
    clear hM2
    refine ⟨_, rfl, fun a hf => ?_⟩
    refine q_ hf rfl rfl rfl (e_not hf rfl) fun a hf => ?_
    refine q_ hf rfl rfl rfl (e_move hf rfl) fun a hf => ?_
    rcases cond_some h14 with ⟨hc20, h14⟩ | ⟨hc20, h14⟩
    · refine pl_gs (wanted_f hf rfl rfl rfl rfl hc20) hf rfl rfl fun a hf => ?_
      refine pl_gs (wanted_f hf rfl rfl rfl rfl hc20) hf rfl rfl fun a hf => ?_
      refine pl_gs (wanted_f hf rfl rfl rfl rfl hc20) hf rfl rfl fun a hf => ?_
      refine q_ hf rfl rfl rfl (e_pick_t hf rfl hc20 rfl) fun a hf => ?_
      refine pl_nil ?_
      obtain rfl := some_inj h14
      refine then_n ?_
      exact ⟨true, rfl, hf.keep ⟨rfl, rfl, rfl, rfl, trivial⟩, hM.pick [] rfl⟩
    · refine gq (wanted_t hf rfl rfl rfl rfl hc20) hf rfl rfl (e_load1 hf rfl Try.isAgg9 (hM.boxCell (k := 0) rfl rfl)) fun a hf => ?_
      obtain ⟨y22, hz23, h14⟩ := bind_some h14
      refine pl_gl (wanted_t hf rfl rfl rfl rfl hc20) hf rfl rfl (w_call hf Try.call47 rfl (r_impl_ValidPile ⟨_, Sh C _ _, none_, hM.sh_lt, none_not, C.G, hM.g_lt, g_none, hM.tabs⟩ tiles5 hp6 _ hz23) ?_)
      rintro _ w24 ⟨rfl, hM2⟩
      obtain ⟨hM, hx25, hup26⟩ := hM.back hM2
      dsimp only [List.cons_append, List.nil_append] at hM hup26
      clear hM2
      refine ⟨_, rfl, fun a hf => ?_⟩
      refine gq (wanted_t hf rfl rfl rfl rfl hc20) hf rfl rfl (e_not hf rfl) fun a hf => ?_
      refine q_ hf rfl rfl rfl (e_pick_f hf rfl hc20 rfl) fun a hf => ?_
      refine pl_nil ?_
      obtain rfl := some_inj h14
      refine then_n ?_
      exact ⟨(!y22), rfl, hf.keep ⟨rfl, rfl, rfl, rfl, trivial⟩, hM.pick [] rfl⟩
  · rintro a w28 ⟨t11, rfl, hf, hM⟩
    try dsimp only at h
    rcases cond_some h with ⟨hc29, h⟩ | ⟨hc29, h⟩
    · refine cond_t hf rfl hc29 ?_
      refine wp_seq ?_
      refine region_pl ?_
      refine q_ hf rfl rfl rfl (e_assign hf rfl) fun a hf => ?_
      refine q_ hf rfl rfl rfl (e_assign hf rfl) fun a hf => ?_
      refine pl_nil ?_
      refine then_n ?_
      refine wp_ret ?_
      refine then_r ?_
      obtain rfl := some_inj h
      have hM := hM.outs (own' := []) 0 rfl
      exact leave2 hf rfl rfl rfl ⟨rfl, hM.fin, (R64_lit rfl), (R64_lit rfl)⟩
    · refine cond_f hf rfl hc29 ?_
      refine wp_skip ?_
      refine then_n ?_
      refine wp_seq ?_
      refine wp_seq ?_
      refine region_pl ?_
      refine q_ hf rfl rfl rfl (e_move hf rfl) fun a hf => ?_
      refine q_ hf rfl rfl rfl (e_move hf rfl) fun a hf => ?_
      obtain ⟨y30, hz31, h⟩ := bind_some h
      refine pl_l hf rfl rfl rfl (w_call hf Try.call44 rfl (r_impl_drawCode ⟨_, Sh C _ _, none_, hM.sh_lt, none_not, C.G, hM.g_lt, g_none, hM.tabs⟩ pile1 hp2 n3 hp4 _ hz31) ?_)
      rintro _ w33 ⟨rfl, hM2, hv32⟩
      obtain ⟨hM, hx34, hup35⟩ := hM.back hM2
      dsimp only [List.cons_append, List.nil_append] at hM hup35
      clear hM2
      refine ⟨_, rfl, fun a hf => ?_⟩
      refine q_ hf rfl rfl rfl (e_assign hf rfl) fun a hf => ?_
      refine pl_nil ?_
      refine then_n ?_
      refine wp_seq ?_
      refine region_pl ?_
      refine q_ hf rfl rfl rfl (e_move hf rfl) fun a hf => ?_
      refine q_ hf rfl rfl rfl (e_ne hf (x := y30) (y := 0) rfl rfl) fun a hf => ?_
      refine pl_nil ?_
      refine then_n ?_
      rcases cond_some h with ⟨hc36, h⟩ | ⟨hc36, h⟩
      · refine cond_t hf rfl hc36 ?_
        refine wp_seq ?_
        refine region_pl ?_
        refine q_ hf rfl rfl rfl (e_move hf rfl) fun a hf => ?_
        refine q_ hf rfl rfl rfl (e_assign hf rfl) fun a hf => ?_
        refine q_ hf rfl rfl rfl (e_assign hf rfl) fun a hf => ?_
        refine pl_nil ?_
        refine then_n ?_
        refine wp_ret ?_
        refine then_r ?_
        obtain rfl := some_inj h
        have hM := hM.outs (own' := []) 0 rfl
        exact leave2 hf rfl rfl rfl ⟨rfl, hM.fin, (R64_lit rfl), hv32⟩
      · refine cond_f hf rfl hc36 ?_
        refine wp_skip ?_
        refine then_n ?_
        refine wp_seq ?_
        refine region_pl ?_
        refine q_ hf rfl rfl rfl (e_move hf rfl) fun a hf => ?_
        refine q_ hf rfl rfl rfl (e_move hf rfl) fun a hf => ?_
        obtain ⟨y37, hz38, h⟩ := bind_some h
        refine pl_l hf rfl rfl rfl (w_call hf Try.call39 rfl (r_impl_draws ⟨_, Sh C _ _, none_, hM.sh_lt, none_not, C.G, hM.g_lt, g_none, hM.tabs⟩ pile1 hp2 n3 hp4 _ hz38) ?_)
        rintro _ w41 ⟨A39, c40, rfl, hM2⟩
        obtain ⟨hM, hx42, hup43⟩ := hM.back hM2
        dsimp only [List.cons_append, List.nil_append] at hM hup43
        clear hM2
        refine ⟨_, rfl, fun a hf => ?_⟩
        refine q_ hf rfl rfl rfl (w_makeFunc hf rfl) fun a hf => ?_
        obtain ⟨y49, hz50, h⟩ := bind_some h
        refine pl_l hf rfl rfl rfl (w_call hf Try.call48 rfl (r_impl_fold_impl_Drawn_int64 ⟨_, All C _ _, none_, hM.all_lt, none_not, C.G, hM.g_lt, g_none, hM.tabs⟩ y37 _ _ (hM.lendRow (k := 0) rfl) 0 (R64_lit rfl) (fun u44 u46 => m_impl_ChanceOf_1 u44 u46 tiles5) 49 [vP b7 (0)] ⟨Try.call49, fun C1 hs hsub u44 hp45 u46 hp47 hp48 r h => r_impl_ChanceOf_1 C1 u44 hp45 u46 hp47 hp48 tiles5 _ _ (Rep.to (hM.lendBox (k := 1) rfl ⟨rfl, hp6⟩) hs hsub) r h⟩ _ hz50) ?_)
        rintro _ w52 ⟨rfl, hM2, hv51⟩
        obtain ⟨hM, hx53⟩ := hM.backA hM2
        clear hM2
        refine ⟨_, rfl, fun a hf => ?_⟩
        refine q_ hf rfl rfl rfl (e_assign hf rfl) fun a hf => ?_
        refine pl_nil ?_
        refine then_n ?_
        refine wp_seq ?_
        refine region_pl ?_
        refine q_ hf rfl rfl rfl (e_move hf rfl) fun a hf => ?_
        refine q_ hf rfl rfl rfl (e_assign hf rfl) fun a hf => ?_
        refine q_ hf rfl rfl rfl (e_assign hf rfl) fun a hf => ?_
        refine pl_nil ?_
        refine then_n ?_
        refine wp_ret ?_
        obtain rfl := some_inj h
        have hM := hM.outs (own' := []) 0 rfl
        exact leave2 hf rfl rfl rfl ⟨rfl, hM.fin, hv51, (R64_lit rfl)⟩

set_option maxRecDepth 100000 in
set_option maxHeartbeats 4000000 in
theorem r_laws_FnExactChanceOf (C : Cx) (aPile1 : Str) (hp2 : aPile1.length ≤ maxLen) (aN3 : Int) (hp4 : R64 aN3) (aTiles5 : Str) (hp6 : aTiles5.length ≤ maxLen) (r : Bool) (h : m_laws_FnExactChanceOf aPile1 aN3 aTiles5 = some r) :
    Calls Try.prog 7 #[vS (aPile1), vI (aN3), vS (aTiles5)] C.w0 fun e w => e = .returned (.bool (r)) ∧ Mem C w [] [] := by
  have hM := Mem.begin C [] trivial
  refine enter Try.func7 rfl Try.ntmps7 rfl fun a hf => ?_
  unfold m_laws_FnExactChanceOf at h
  refine wp_seq ?_
  refine region_pl ?_
  refine q_ hf rfl rfl rfl (e_assign hf rfl) fun a hf => ?_
  refine pl_nil ?_
  refine then_n ?_
  refine wp_seq ?_
  refine wp_seq ?_
  refine region_pl ?_
  refine q_ hf rfl rfl rfl (e_move hf rfl) fun a hf => ?_
  refine q_ hf rfl rfl rfl (e_lenS hf (x := aPile1) rfl Try.underlying9) fun a hf => ?_
  refine q_ hf rfl rfl rfl (e_gt hf (x := (aPile1.length : Int)) (y := 1048576) rfl rfl) fun a hf => ?_
  refine pl_nil ?_
  refine then_n ?_
  rcases cond_some h with ⟨hc7, h⟩ | ⟨hc7, h⟩
  · refine cond_t hf rfl hc7 ?_
    refine wp_seq ?_
    refine region_pl ?_
    refine q_ hf rfl rfl rfl (e_assign hf rfl) fun a hf => ?_
    refine pl_nil ?_
    refine then_n ?_
    refine wp_ret ?_
    refine then_r ?_
    obtain rfl := some_inj h
    exact leave1 hf rfl rfl ⟨rfl, hM.fin⟩
  · refine cond_f hf rfl hc7 ?_
    refine wp_skip ?_
    refine then_n ?_
    refine wp_seq ?_
    refine wp_seq ?_
    refine region_pl ?_
    refine q_ hf rfl rfl rfl (e_move hf rfl) fun a hf => ?_
    refine q_ hf rfl rfl rfl (e_lenS hf (x := aTiles5) rfl Try.underlying9) fun a hf => ?_
    refine q_ hf rfl rfl rfl (e_gt hf (x := (aTiles5.length : Int)) (y := 1048576) rfl rfl) fun a hf => ?_
    refine pl_nil ?_
    refine then_n ?_
    rcases cond_some h with ⟨hc8, h⟩ | ⟨hc8, h⟩
    · refine cond_t hf rfl hc8 ?_
      refine wp_seq ?_
      refine region_pl ?_
      refine q_ hf rfl rfl rfl (e_assign hf rfl) fun a hf => ?_
      refine pl_nil ?_
      refine then_n ?_
      refine wp_ret ?_
      refine then_r ?_
      obtain rfl := some_inj h
      exact leave1 hf rfl rfl ⟨rfl, hM.fin⟩
    · refine cond_f hf rfl hc8 ?_
      refine wp_skip ?_
      refine then_n ?_
      refine wp_seq ?_
      refine region_pl ?_
      refine q_ hf rfl rfl rfl (e_move hf rfl) fun a hf => ?_
      refine q_ hf rfl rfl rfl (e_move hf rfl) fun a hf => ?_
      refine q_ hf rfl rfl rfl (e_move hf rfl) fun a hf => ?_
      obtain ⟨y9, hz10, h⟩ := bind_some h
      refine pl_l hf rfl rfl rfl (w_call hf Try.call26 rfl (r_spec_ChanceOf ⟨_, Sh C _ _, none_, hM.sh_lt, none_not, C.G, hM.g_lt, g_none, hM.tabs⟩ aPile1 hp2 aN3 hp4 aTiles5 hp6 _ hz10) ?_)
      rintro _ w13 ⟨rfl, hM2, hv11, hv12⟩
      obtain ⟨hM, hx14, hup15⟩ := hM.back hM2
      dsimp only [List.cons_append, List.nil_append] at hM hup15
      clear hM2
      refine ⟨_, rfl, fun a hf => ?_⟩
      refine q_ hf rfl rfl rfl (e_move hf rfl) fun a hf => ?_
      refine q_ hf rfl rfl rfl (e_extract hf rfl rfl) fun a hf => ?_
      refine q_ hf rfl rfl rfl (e_extract hf rfl rfl) fun a hf => ?_
      refine q_ hf rfl rfl rfl (e_assign hf rfl) fun a hf => ?_
      refine q_ hf rfl rfl rfl (e_assign hf rfl) fun a hf => ?_
      refine pl_nil ?_
      refine then_n ?_
      refine wp_seq ?_
      refine region_pl ?_
      refine q_ hf rfl rfl rfl (e_move hf rfl) fun a hf => ?_
      refine q_ hf rfl rfl rfl (e_move hf rfl) fun a hf => ?_
      refine q_ hf rfl rfl rfl (e_move hf rfl) fun a hf => ?_
      obtain ⟨y16, hz17, h⟩ := bind_some h
      refine pl_l hf rfl rfl rfl (w_call hf Try.call23 rfl (r_impl_ChanceOf ⟨_, Sh C _ _, none_, hM.sh_lt, none_not, C.G, hM.g_lt, g_none, hM.tabs⟩ aPile1 hp2 aN3 hp4 aTiles5 hp6 _ hz17) ?_)
      rintro _ w20 ⟨rfl, hM2, hv18, hv19⟩
      obtain ⟨hM, hx21, hup22⟩ := hM.back hM2
      dsimp only [List.cons_append, List.nil_append] at hM hup22
      clear hM2
      refine ⟨_, rfl, fun a hf => ?_⟩
      refine q_ hf rfl rfl rfl (e_move hf rfl) fun a hf => ?_
      refine q_ hf rfl rfl rfl (e_extract hf rfl rfl) fun a hf => ?_
      refine q_ hf rfl rfl rfl (e_extract hf rfl rfl) fun a hf => ?_
      refine q_ hf rfl rfl rfl (e_assign hf rfl) fun a hf => ?_
      refine q_ hf rfl rfl rfl (e_assign hf rfl) fun a hf => ?_
      refine pl_nil ?_
      refine then_n ?_
      refine wp_seq ?_
      obtain ⟨x25, h26, h⟩ := bind_some h
      refine seq_join (fun a w => ∃ (t23 : Bool), t23 = x25 ∧ Has 39 a [(38, .bool (t23))] ∧ Mem C w [] []) ?_ ?_
      · refine region_pl ?_
        refine q_ hf rfl rfl rfl (e_move hf rfl) fun a hf => ?_
        refine q_ hf rfl rfl rfl (e_move hf rfl) fun a hf => ?_
        refine q_ hf rfl rfl rfl (e_ne hf (x := y16.1) (y := y9.1) rfl rfl) fun a hf => ?_
        refine q_ hf rfl rfl rfl (e_move hf rfl) fun a hf => ?_
        rcases cond_some h26 with ⟨hc27, h26⟩ | ⟨hc27, h26⟩
        · refine pl_gs (wanted_f hf rfl rfl rfl rfl hc27) hf rfl rfl fun a hf => ?_
          refine pl_gs (wanted_f hf rfl rfl rfl rfl hc27) hf rfl rfl fun a hf => ?_
          refine pl_gs (wanted_f hf rfl rfl rfl rfl hc27) hf rfl rfl fun a hf => ?_
          refine q_ hf rfl rfl rfl (e_pick_t hf rfl hc27 rfl) fun a hf => ?_
          refine pl_nil ?_
          obtain rfl := some_inj h26
          refine then_n ?_
          exact ⟨true, rfl, hf.keep ⟨rfl, trivial⟩, hM.pick [] rfl⟩
        · refine gq (wanted_t hf rfl rfl rfl rfl hc27) hf rfl rfl (e_move hf rfl) fun a hf => ?_
          refine gq (wanted_t hf rfl rfl rfl rfl hc27) hf rfl rfl (e_move hf rfl) fun a hf => ?_
          refine gq (wanted_t hf rfl rfl rfl rfl hc27) hf rfl rfl (e_ne hf (x := y16.2) (y := y9.2) rfl rfl) fun a hf => ?_
          refine q_ hf rfl rfl rfl (e_pick_f hf rfl hc27 rfl) fun a hf => ?_
          refine pl_nil ?_
          obtain rfl := some_inj h26
          refine then_n ?_
          exact ⟨(y16.2 != y9.2), rfl, hf.keep ⟨rfl, trivial⟩, hM.pick [] rfl⟩
      · rintro a w30 ⟨t23, rfl, hf, hM⟩
        try dsimp only at h
        rcases cond_some h with ⟨hc31, h⟩ | ⟨hc31, h⟩
        · refine cond_t hf rfl hc31 ?_
          refine wp_seq ?_
          refine region_pl ?_
          refine q_ hf rfl rfl rfl (e_assign hf rfl) fun a hf => ?_
          refine pl_nil ?_
          refine then_n ?_
          refine wp_ret ?_
          refine then_r ?_
          obtain rfl := some_inj h
          exact leave1 hf rfl rfl ⟨rfl, hM.fin⟩
        · refine cond_f hf rfl hc31 ?_
          refine wp_skip ?_
          refine then_n ?_
          refine wp_seq ?_
          refine region_pl ?_
          refine q_ hf rfl rfl rfl (e_assign hf rfl) fun a hf => ?_
          refine pl_nil ?_
          refine then_n ?_
          refine wp_ret ?_
          obtain rfl := some_inj h
          exact leave1 hf rfl rfl ⟨rfl, hM.fin⟩

end Go.Proofs.Ytgmbcolpchckbaa
