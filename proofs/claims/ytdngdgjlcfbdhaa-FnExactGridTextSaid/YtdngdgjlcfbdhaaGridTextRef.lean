/- The functions that this law reaches do what their models say. Printed by gen.py. -/
import Derived.Test.YtdngdgjlcfbdhaaMod
import Derived.Test.YtdngdgjlcfbdhaaLib
namespace Go.Proofs.Ytdngdgjlcfbdhaa
open Go Go.RowKit
set_option linter.unusedSimpArgs false
set_option linter.unusedVariables false

def FnC_UInt8_to_Bool (fk : FuncId) (fc : List Value) (f : UInt8 → Option Bool) (C : Cx) : Prop := ∀ (x0 : UInt8) (r : Bool) (h : f x0 = some r),
    Calls Try.prog fk (([vB (x0)] : List Value) ++ fc).toArray C.w0 fun e w => e = .returned (.bool (r)) ∧ Mem C w [] []

theorem ei_9 : ElemInfo Try.prog 9 1 := elemInfo (by kernel_rfl)

set_option maxRecDepth 100000 in
set_option maxHeartbeats 4000000 in
theorem r_laws_szGrid (C : Cx) (a1 : Grid) (hp2 : R64 a1.Rows) (hp3 : R64 a1.Cols) (hp4 : a1.Cells.length ≤ maxLen) (left5 : Int) (hp6 : R64 left5) (r : Int) (h : m_laws_szGrid a1 left5 = some r) :
    Calls Try.prog 17 #[.agg #[vI (a1.Rows), vI (a1.Cols), vS (a1.Cells)], vI (left5)] C.w0 fun e w => e = .returned (vI (r)) ∧ Mem C w [] [] ∧ R64 r := by
  have hM := Mem.begin C [] trivial
  refine enter Try.func17 rfl Try.ntmps17 rfl fun a hf => ?_
  unfold m_laws_szGrid at h
  refine wp_seq ?_
  refine region_pl ?_
  refine pl_l hf rfl rfl rfl (w_box hf hM (cs := [vI (a1.Rows), vI (a1.Cols), vS (a1.Cells)]) rfl rfl fun b7 w8 hx9 hM a hf => ?_)
  refine q_ hf rfl rfl rfl (e_assign hf rfl) fun a hf => ?_
  refine pl_nil ?_
  refine then_n ?_
  refine wp_seq ?_
  refine region_pl ?_
  refine q_ hf rfl rfl rfl (e_move hf rfl) fun a hf => ?_
  refine q_ hf rfl rfl rfl (e_field hf rfl Try.underlying26 rfl Try.sizeOf9 (o' := 2) rfl) fun a hf => ?_
  refine q_ hf rfl rfl rfl (e_load1 hf rfl Try.isAgg9 (hM.boxCell (k := 0) rfl rfl)) fun a hf => ?_
  refine q_ hf rfl rfl rfl (e_lenS hf (x := a1.Cells) rfl Try.underlying9) fun a hf => ?_
  obtain ⟨z11, hz12, h⟩ := bind_some h
  refine q_ hf rfl rfl rfl (e_sub hf rfl rfl hz12) fun a hf => ?_
  refine q_ hf rfl rfl rfl (e_assign hf rfl) fun a hf => ?_
  refine pl_nil ?_
  refine then_n ?_
  refine wp_seq ?_
  refine wp_seq ?_
  refine region_pl ?_
  refine q_ hf rfl rfl rfl (e_move hf rfl) fun a hf => ?_
  refine q_ hf rfl rfl rfl (e_lt hf (x := z11) (y := 0) rfl rfl) fun a hf => ?_
  refine pl_nil ?_
  refine then_n ?_
  rcases cond_some h with ⟨hc13, h⟩ | ⟨hc13, h⟩
  · refine cond_t hf rfl hc13 ?_
    refine wp_seq ?_
    refine region_pl ?_
    refine q_ hf rfl rfl rfl (e_assign hf rfl) fun a hf => ?_
    refine pl_nil ?_
    refine then_n ?_
    refine wp_ret ?_
    refine then_r ?_
    obtain rfl := some_inj h
    have hM := hM.outs (own' := []) 0 rfl
    exact leave1 hf rfl rfl ⟨rfl, hM.fin, (R64_lit rfl)⟩
  · refine cond_f hf rfl hc13 ?_
    refine wp_skip ?_
    refine then_n ?_
    refine wp_seq ?_
    refine region_pl ?_
    refine q_ hf rfl rfl rfl (e_move hf rfl) fun a hf => ?_
    refine q_ hf rfl rfl rfl (e_assign hf rfl) fun a hf => ?_
    refine pl_nil ?_
    refine then_n ?_
    refine wp_ret ?_
    obtain rfl := some_inj h
    have hM := hM.outs (own' := []) 0 rfl
    exact leave1 hf rfl rfl ⟨rfl, hM.fin, (chk_R hz12)⟩

set_option maxRecDepth 100000 in
set_option maxHeartbeats 4000000 in
theorem r_laws_toGrid (C : Cx) (a1 : Grid) (hp2 : R64 a1.Rows) (hp3 : R64 a1.Cols) (hp4 : a1.Cells.length ≤ maxLen) (r : Grid) (h : m_laws_toGrid a1 = some r) :
    Calls Try.prog 19 #[.agg #[vI (a1.Rows), vI (a1.Cols), vS (a1.Cells)]] C.w0 fun e w => e = .returned (.agg #[vI (r.Rows), vI (r.Cols), vS (r.Cells)]) ∧ Mem C w [] [] ∧ R64 r.Rows ∧ R64 r.Cols ∧ r.Cells.length ≤ maxLen := by
  have hM := Mem.begin C [] trivial
  refine enter Try.func19 rfl Try.ntmps19 rfl fun a hf => ?_
  unfold m_laws_toGrid at h
  refine wp_seq ?_
  refine region_pl ?_
  refine pl_l hf rfl rfl rfl (w_box hf hM (cs := [vI (a1.Rows), vI (a1.Cols), vS (a1.Cells)]) rfl rfl fun b5 w6 hx7 hM a hf => ?_)
  refine pl_l hf rfl rfl rfl (w_alloc hM (cs := [vI (0), vI (0), vS (([] : Str))]) Try.zeroValue29 rfl fun b9 w10 hx11 hM a hf => ?_)
  refine pl_nil ?_
  refine then_n ?_
  refine wp_seq ?_
  refine region_pl ?_
  refine pl_l hf rfl rfl rfl (w_alloc hM (cs := [vI (0), vI (0), vS (([] : Str))]) Try.zeroValue29 rfl fun b13 w14 hx15 hM a hf => ?_)
  refine pl_nil ?_
  refine then_n ?_
  refine wp_seq ?_
  refine region_pl ?_
  refine q_ hf rfl rfl rfl (e_field hf rfl Try.underlying26 rfl Try.sizeOf2 (o' := 0) rfl) fun a hf => ?_
  refine q_ hf rfl rfl rfl (e_load1 hf rfl Try.isAgg2 (hM.boxCell (k := 2) rfl rfl)) fun a hf => ?_
  refine q_ hf rfl rfl rfl (e_field hf rfl Try.underlying29 rfl Try.sizeOf2 (o' := 0) rfl) fun a hf => ?_
  refine pl_0 hf rfl rfl (w_store hf hM (us := [vI (a1.Rows)]) (cs' := [vI (a1.Rows), vI (0), vS (([] : Str))]) rfl rfl (k := 0) rfl rfl Try.sizeOf2 rfl rfl rfl fun w17 hM => ?_)
  dsimp only [List.set] at hM
  refine pl_nil ?_
  refine then_n ?_
  refine wp_seq ?_
  refine region_pl ?_
  refine q_ hf rfl rfl rfl (e_field hf rfl Try.underlying26 rfl Try.sizeOf2 (o' := 1) rfl) fun a hf => ?_
  refine q_ hf rfl rfl rfl (e_load1 hf rfl Try.isAgg2 (hM.boxCell (k := 2) rfl rfl)) fun a hf => ?_
  refine q_ hf rfl rfl rfl (e_field hf rfl Try.underlying29 rfl Try.sizeOf2 (o' := 1) rfl) fun a hf => ?_
  refine pl_0 hf rfl rfl (w_store hf hM (us := [vI (a1.Cols)]) (cs' := [vI (a1.Rows), vI (a1.Cols), vS (([] : Str))]) rfl rfl (k := 0) rfl rfl Try.sizeOf2 rfl rfl rfl fun w20 hM => ?_)
  dsimp only [List.set] at hM
  refine pl_nil ?_
  refine then_n ?_
  refine wp_seq ?_
  refine region_pl ?_
  refine q_ hf rfl rfl rfl (e_field hf rfl Try.underlying26 rfl Try.sizeOf9 (o' := 2) rfl) fun a hf => ?_
  refine q_ hf rfl rfl rfl (e_load1 hf rfl Try.isAgg9 (hM.boxCell (k := 2) rfl rfl)) fun a hf => ?_
  refine q_ hf rfl rfl rfl (e_field hf rfl Try.underlying29 rfl Try.sizeOf9 (o' := 2) rfl) fun a hf => ?_
  refine pl_0 hf rfl rfl (w_store hf hM (us := [vS (a1.Cells)]) (cs' := [vI (a1.Rows), vI (a1.Cols), vS (a1.Cells)]) rfl rfl (k := 0) rfl rfl Try.sizeOf9 rfl rfl rfl fun w23 hM => ?_)
  dsimp only [List.set] at hM
  refine pl_nil ?_
  refine then_n ?_
  refine wp_seq ?_
  refine region_pl ?_
  refine q_ hf rfl rfl rfl (e_loadA hf (us := [vI (a1.Rows), vI (a1.Cols), vS (a1.Cells)]) rfl ⟨Try.isAgg29, Try.sizeOf29⟩ rfl (hM.boxSub (k := 0) (us := [vI (a1.Rows), vI (a1.Cols), vS (a1.Cells)]) (o := 0) rfl rfl)) fun a hf => ?_
  refine pl_0 hf rfl rfl (w_store hf hM (us := [vI (a1.Rows), vI (a1.Cols), vS (a1.Cells)]) (cs' := [vI (a1.Rows), vI (a1.Cols), vS (a1.Cells)]) rfl rfl (k := 1) rfl rfl Try.sizeOf29 rfl rfl rfl fun w26 hM => ?_)
  dsimp only [List.set] at hM
  refine pl_nil ?_
  refine then_n ?_
  refine wp_ret ?_
  obtain rfl := some_inj h
  have hres29 := leaveV1 (P := Try.prog) Try.results19 (res_agg hf rfl ⟨Try.isAgg29, Try.sizeOf29⟩ (us := [vI (a1.Rows), vI (a1.Cols), vS (a1.Cells)]) rfl (hM.boxSub (k := 1) (o := 0) rfl rfl))
  have hM := hM.outs (own' := []) 0 rfl
  exact bodyPost_ret hres29 hf.defers ⟨rfl, hM.fin, hp2, hp3, hp4⟩

set_option maxRecDepth 100000 in
set_option maxHeartbeats 4000000 in
theorem r_spec_l00In (C : Cx) (n1 : Int) (hp2 : R64 n1) (low3 : Int) (hp4 : R64 low3) (high5 : Int) (hp6 : R64 high5) (r : Bool) (h : m_spec_l00In n1 low3 high5 = some r) :
    Calls Try.prog 95 #[vI (n1), vI (low3), vI (high5)] C.w0 fun e w => e = .returned (.bool (r)) ∧ Mem C w [] [] := by
  have hM := Mem.begin C [] trivial
  refine enter Try.func95 rfl Try.ntmps95 rfl fun a hf => ?_
  unfold m_spec_l00In at h
  refine wp_seq ?_
  refine region_pl ?_
  refine q_ hf rfl rfl rfl (e_assign hf rfl) fun a hf => ?_
  refine pl_nil ?_
  refine then_n ?_
  obtain ⟨x9, h10, h⟩ := bind_some h
  refine seq_join (fun a w => ∃ (t7 : Bool), t7 = x9 ∧ Has 15 a [(6, .bool (t7))] ∧ Mem C w [] []) ?_ ?_
  · refine region_pl ?_
    refine q_ hf rfl rfl rfl (e_move hf rfl) fun a hf => ?_
    refine q_ hf rfl rfl rfl (e_move hf rfl) fun a hf => ?_
    refine q_ hf rfl rfl rfl (e_ge hf (x := n1) (y := low3) rfl rfl) fun a hf => ?_
    refine q_ hf rfl rfl rfl (e_move hf rfl) fun a hf => ?_
    rcases cond_some h10 with ⟨hc11, h10⟩ | ⟨hc11, h10⟩
    · refine gq (wanted_t hf rfl rfl rfl rfl hc11) hf rfl rfl (e_move hf rfl) fun a hf => ?_
      refine gq (wanted_t hf rfl rfl rfl rfl hc11) hf rfl rfl (e_move hf rfl) fun a hf => ?_
      refine gq (wanted_t hf rfl rfl rfl rfl hc11) hf rfl rfl (e_le hf (x := n1) (y := high5) rfl rfl) fun a hf => ?_
      refine q_ hf rfl rfl rfl (e_pick_t hf rfl hc11 rfl) fun a hf => ?_
      refine q_ hf rfl rfl rfl (e_assign hf rfl) fun a hf => ?_
      refine pl_nil ?_
      obtain rfl := some_inj h10
      refine then_n ?_
      exact ⟨(decide (n1 ≤ high5)), rfl, hf.keep ⟨rfl, trivial⟩, hM.pick [] rfl⟩
    · refine pl_gs (wanted_f hf rfl rfl rfl rfl hc11) hf rfl rfl fun a hf => ?_
      refine pl_gs (wanted_f hf rfl rfl rfl rfl hc11) hf rfl rfl fun a hf => ?_
      refine pl_gs (wanted_f hf rfl rfl rfl rfl hc11) hf rfl rfl fun a hf => ?_
      refine q_ hf rfl rfl rfl (e_pick_f hf rfl hc11 rfl) fun a hf => ?_
      refine q_ hf rfl rfl rfl (e_assign hf rfl) fun a hf => ?_
      refine pl_nil ?_
      obtain rfl := some_inj h10
      refine then_n ?_
      exact ⟨false, rfl, hf.keep ⟨rfl, trivial⟩, hM.pick [] rfl⟩
  · rintro a w14 ⟨t7, rfl, hf, hM⟩
    try dsimp only at h
    refine wp_ret ?_
    obtain rfl := some_inj h
    exact leave1 hf rfl rfl ⟨rfl, hM.fin⟩

set_option maxRecDepth 100000 in
set_option maxHeartbeats 4000000 in
theorem r_spec_l01Small (C : Cx) (c1 : UInt8) (r : Bool) (h : m_spec_l01Small c1 = some r) :
    Calls Try.prog 99 #[vB (c1)] C.w0 fun e w => e = .returned (.bool (r)) ∧ Mem C w [] [] := by
  have hM := Mem.begin C [] trivial
  refine enter Try.func99 rfl Try.ntmps99 rfl fun a hf => ?_
  unfold m_spec_l01Small at h
  refine wp_seq ?_
  refine region_pl ?_
  refine q_ hf rfl rfl rfl (e_assign hf rfl) fun a hf => ?_
  refine pl_nil ?_
  refine then_n ?_
  obtain ⟨x4, h5, h⟩ := bind_some h
  refine seq_join (fun a w => ∃ (t2 : Bool), t2 = x4 ∧ Has 9 a [(2, .bool (t2))] ∧ Mem C w [] []) ?_ ?_
  · refine region_pl ?_
    refine q_ hf rfl rfl rfl (e_move hf rfl) fun a hf => ?_
    refine q_ hf rfl rfl rfl (e_geB hf (x := c1) (y := 97) rfl rfl) fun a hf => ?_
    refine q_ hf rfl rfl rfl (e_move hf rfl) fun a hf => ?_
    rcases cond_some h5 with ⟨hc6, h5⟩ | ⟨hc6, h5⟩
    · refine gq (wanted_t hf rfl rfl rfl rfl hc6) hf rfl rfl (e_move hf rfl) fun a hf => ?_
      refine gq (wanted_t hf rfl rfl rfl rfl hc6) hf rfl rfl (e_leB hf (x := c1) (y := 122) rfl rfl) fun a hf => ?_
      refine q_ hf rfl rfl rfl (e_pick_t hf rfl hc6 rfl) fun a hf => ?_
      refine q_ hf rfl rfl rfl (e_assign hf rfl) fun a hf => ?_
      refine pl_nil ?_
      obtain rfl := some_inj h5
      refine then_n ?_
      exact ⟨(decide (c1 ≤ 122)), rfl, hf.keep ⟨rfl, trivial⟩, hM.pick [] rfl⟩
    · refine pl_gs (wanted_f hf rfl rfl rfl rfl hc6) hf rfl rfl fun a hf => ?_
      refine pl_gs (wanted_f hf rfl rfl rfl rfl hc6) hf rfl rfl fun a hf => ?_
      refine q_ hf rfl rfl rfl (e_pick_f hf rfl hc6 rfl) fun a hf => ?_
      refine q_ hf rfl rfl rfl (e_assign hf rfl) fun a hf => ?_
      refine pl_nil ?_
      obtain rfl := some_inj h5
      refine then_n ?_
      exact ⟨false, rfl, hf.keep ⟨rfl, trivial⟩, hM.pick [] rfl⟩
  · rintro a w9 ⟨t2, rfl, hf, hM⟩
    try dsimp only at h
    refine wp_ret ?_
    obtain rfl := some_inj h
    exact leave1 hf rfl rfl ⟨rfl, hM.fin⟩

set_option maxRecDepth 100000 in
set_option maxHeartbeats 4000000 in
theorem r_spec_l25Ok (C : Cx) (g1 : Grid) (b2 : Nat) (o3 : Nat) (hp4 : (ptrRep GridRep).R C.w0 C.S0 g1 [vP b2 o3]) (r : Bool) (h : m_spec_l25Ok g1 = some r) :
    Calls Try.prog 58 #[vP b2 (o3)] C.w0 fun e w => e = .returned (.bool (r)) ∧ Mem C w [] [] := by
  have hM := Mem.begin C [.dat (ptrRep GridRep) g1 [vP b2 o3]] ⟨hp4, trivial⟩
  refine enter Try.func58 rfl Try.ntmps58 rfl fun a hf => ?_
  unfold m_spec_l25Ok at h
  refine wp_seq ?_
  refine region_pl ?_
  refine q_ hf rfl rfl rfl (e_assign hf rfl) fun a hf => ?_
  refine pl_nil ?_
  refine then_n ?_
  refine wp_seq ?_
  obtain ⟨x7, h8, h⟩ := bind_some h
  refine seq_join (fun a w => ∃ (t5 : Bool), t5 = x7 ∧ Has 70 a [(0, vP b2 (o3)), (34, .bool (t5))] ∧ Mem C w [] [.dat (ptrRep GridRep) g1 [vP b2 o3]]) ?_ ?_
  · obtain ⟨w9, hw⟩ : ∃ x, x = C.w0.drew := ⟨_, rfl⟩
    refine region_pi (.q 0 (.q 1 (.q 2 (.q 3 (.l 4 (.q 5 (.q 6 (.q 7 (.q 8 (.q 9 (.q 10 (.l 11 (.q 12 (.q 13 (.q 14 (.q 15 (.q 16 (.q 17 (.q 18 (.q 19 (.q 20 (.q 21 (.q 22 (.q 23 (.q 24 (.q 25 (.q 26 (.q 27 (.q 28 (.q 29 (.q 30 (.nil)))))))))))))))))))))))))))))))) (Ext w9) rfl (by kernel_rfl) ?_
    have hM := hM.drew
    rw [← hw] at hM ⊢
    clear hw
    refine pi_q hf rfl rfl rfl rfl (Ext.refl _) (e_move hf rfl) fun a hf => ?_
    refine pi_q hf rfl rfl rfl rfl (Ext.refl _) (e_nil hf rfl) fun a hf => ?_
    obtain ⟨_, hr10, hM⟩ := hM.deref (hM.dat (k := 0) rfl)
    obtain ⟨rfl, hv11, hv12, hv13⟩ := GridRep_open hr10
    refine pi_q hf rfl rfl rfl rfl (Ext.refl _) (e_field hf rfl Try.underlying29 rfl Try.sizeOf2 (o' := o3 + 0) rfl) fun a hf => ?_
    refine pi_q hf rfl rfl rfl rfl (Ext.refl _) (e_load1 hf rfl Try.isAgg2 (hM.litCell (k := 0) (j := 0) rfl rfl rfl)) fun a hf => ?_
    refine pi_one ?_
    obtain ⟨y14, hz15, h8⟩ := bind_some h8
    refine pi_l hf rfl rfl rfl rfl (w_call hf Try.call95 rfl (r_spec_l00In ⟨_, Sh C _ _, none_, hM.sh_lt, none_not⟩ g1.Rows hv11 1 (R64_lit rfl) 5 (R64_lit rfl) _ hz15) ?_)
    rintro _ w16 ⟨rfl, hM2⟩
    obtain ⟨hM, hx17, hup18⟩ := hM.back hM2
    dsimp only [List.cons_append, List.nil_append] at hM hup18
    clear hM2
    refine ⟨_, rfl, Ext w16, fun _ h => Ext.trans hx17 h, Ext.refl _, fun a hf => ?_⟩
    refine pi_q hf rfl rfl rfl rfl (Ext.refl _) (e_not hf rfl) fun a hf => ?_
    refine pi_q hf rfl rfl rfl rfl (Ext.refl _) (e_move hf rfl) fun a hf => ?_
    rcases cond_some h8 with ⟨hc19, h8⟩ | ⟨hc19, h8⟩
    · refine pi_gs hf rfl (wanted_f hf rfl rfl rfl rfl hc19) rfl rfl (Ext.refl _) fun a hf => ?_
      refine pi_gs hf rfl (wanted_f hf rfl rfl rfl rfl hc19) rfl rfl (Ext.refl _) fun a hf => ?_
      refine pi_gs hf rfl (wanted_f hf rfl rfl rfl rfl hc19) rfl rfl (Ext.refl _) fun a hf => ?_
      refine pi_gs hf rfl (wanted_f hf rfl rfl rfl rfl hc19) rfl rfl (Ext.refl _) fun a hf => ?_
      refine pi_one ?_
      refine pi_ls hf rfl (wanted_f hf rfl rfl rfl rfl hc19) rfl rfl (Ext.refl _) fun a hf => ?_
      refine pi_gs hf rfl (wanted_f hf rfl rfl rfl rfl hc19) rfl rfl (Ext.refl _) fun a hf => ?_
      refine pi_q hf rfl rfl rfl rfl (Ext.refl _) (e_pick_t hf rfl hc19 rfl) fun a hf => ?_
      refine pi_q hf rfl rfl rfl rfl (Ext.refl _) (e_move hf rfl) fun a hf => ?_
      refine pi_gs hf rfl (wanted_f hf rfl rfl rfl rfl rfl) rfl rfl (Ext.refl _) fun a hf => ?_
      refine pi_gs hf rfl (wanted_f hf rfl rfl rfl rfl rfl) rfl rfl (Ext.refl _) fun a hf => ?_
      refine pi_gs hf rfl (wanted_f hf rfl rfl rfl rfl rfl) rfl rfl (Ext.refl _) fun a hf => ?_
      refine pi_gs hf rfl (wanted_f hf rfl rfl rfl rfl rfl) rfl rfl (Ext.refl _) fun a hf => ?_
      refine pi_gs hf rfl (wanted_f hf rfl rfl rfl rfl rfl) rfl rfl (Ext.refl _) fun a hf => ?_
      refine pi_gs hf rfl (wanted_f hf rfl rfl rfl rfl rfl) rfl rfl (Ext.refl _) fun a hf => ?_
      refine pi_gs hf rfl (wanted_f hf rfl rfl rfl rfl rfl) rfl rfl (Ext.refl _) fun a hf => ?_
      refine pi_gs hf rfl (wanted_f hf rfl rfl rfl rfl rfl) rfl rfl (Ext.refl _) fun a hf => ?_
      refine pi_gs hf rfl (wanted_f hf rfl rfl rfl rfl rfl) rfl rfl (Ext.refl _) fun a hf => ?_
      refine pi_gs hf rfl (wanted_f hf rfl rfl rfl rfl rfl) rfl rfl (Ext.refl _) fun a hf => ?_
      refine pi_gs hf rfl (wanted_f hf rfl rfl rfl rfl rfl) rfl rfl (Ext.refl _) fun a hf => ?_
      refine pi_gs hf rfl (wanted_f hf rfl rfl rfl rfl rfl) rfl rfl (Ext.refl _) fun a hf => ?_
      refine pi_gs hf rfl (wanted_f hf rfl rfl rfl rfl rfl) rfl rfl (Ext.refl _) fun a hf => ?_
      refine pi_gs hf rfl (wanted_f hf rfl rfl rfl rfl rfl) rfl rfl (Ext.refl _) fun a hf => ?_
      refine pi_gs hf rfl (wanted_f hf rfl rfl rfl rfl rfl) rfl rfl (Ext.refl _) fun a hf => ?_
      refine pi_q hf rfl rfl rfl rfl (Ext.refl _) (e_pick_t hf rfl rfl rfl) fun a hf => ?_
      refine pi_nil ?_
      obtain rfl := some_inj h8
      refine then_n ?_
      exact ⟨true, rfl, hf.keep ⟨rfl, rfl, trivial⟩, hM.pick [1] rfl⟩
    · refine pi_gq hf rfl (wanted_t hf rfl rfl rfl rfl hc19) rfl rfl (Ext.refl _) (e_move hf rfl) fun a hf => ?_
      refine pi_gq hf rfl (wanted_t hf rfl rfl rfl rfl hc19) rfl rfl (Ext.refl _) (e_nil hf rfl) fun a hf => ?_
      refine pi_gq hf rfl (wanted_t hf rfl rfl rfl rfl hc19) rfl rfl (Ext.refl _) (e_field hf rfl Try.underlying29 rfl Try.sizeOf2 (o' := o3 + 1) rfl) fun a hf => ?_
      refine pi_gq hf rfl (wanted_t hf rfl rfl rfl rfl hc19) rfl rfl (Ext.refl _) (e_load1 hf rfl Try.isAgg2 (hM.litCell (k := 0) (j := 1) rfl rfl rfl)) fun a hf => ?_
      refine pi_one ?_
      obtain ⟨y21, hz22, h8⟩ := bind_some h8
      refine pi_gl hf rfl (wanted_t hf rfl rfl rfl rfl hc19) rfl rfl (w_call hf Try.call95 rfl (r_spec_l00In ⟨_, Sh C _ _, none_, hM.sh_lt, none_not⟩ g1.Cols hv12 1 (R64_lit rfl) 5 (R64_lit rfl) _ hz22) ?_)
      rintro _ w23 ⟨rfl, hM2⟩
      obtain ⟨hM, hx24, hup25⟩ := hM.back hM2
      dsimp only [List.cons_append, List.nil_append] at hM hup25
      clear hM2
      refine ⟨_, rfl, Ext w23, fun _ h => Ext.trans hx24 h, Ext.refl _, fun a hf => ?_⟩
      refine pi_gq hf rfl (wanted_t hf rfl rfl rfl rfl hc19) rfl rfl (Ext.refl _) (e_not hf rfl) fun a hf => ?_
      refine pi_q hf rfl rfl rfl rfl (Ext.refl _) (e_pick_f hf rfl hc19 rfl) fun a hf => ?_
      refine pi_q hf rfl rfl rfl rfl (Ext.refl _) (e_move hf rfl) fun a hf => ?_
      rcases cond_some h8 with ⟨hc26, h8⟩ | ⟨hc26, h8⟩
      · refine pi_gs hf rfl (wanted_f hf rfl rfl rfl rfl hc26) rfl rfl (Ext.refl _) fun a hf => ?_
        refine pi_gs hf rfl (wanted_f hf rfl rfl rfl rfl hc26) rfl rfl (Ext.refl _) fun a hf => ?_
        refine pi_gs hf rfl (wanted_f hf rfl rfl rfl rfl hc26) rfl rfl (Ext.refl _) fun a hf => ?_
        refine pi_gs hf rfl (wanted_f hf rfl rfl rfl rfl hc26) rfl rfl (Ext.refl _) fun a hf => ?_
        refine pi_gs hf rfl (wanted_f hf rfl rfl rfl rfl hc26) rfl rfl (Ext.refl _) fun a hf => ?_
        refine pi_gs hf rfl (wanted_f hf rfl rfl rfl rfl hc26) rfl rfl (Ext.refl _) fun a hf => ?_
        refine pi_gs hf rfl (wanted_f hf rfl rfl rfl rfl hc26) rfl rfl (Ext.refl _) fun a hf => ?_
        refine pi_gs hf rfl (wanted_f hf rfl rfl rfl rfl hc26) rfl rfl (Ext.refl _) fun a hf => ?_
        refine pi_gs hf rfl (wanted_f hf rfl rfl rfl rfl hc26) rfl rfl (Ext.refl _) fun a hf => ?_
        refine pi_gs hf rfl (wanted_f hf rfl rfl rfl rfl hc26) rfl rfl (Ext.refl _) fun a hf => ?_
        refine pi_gs hf rfl (wanted_f hf rfl rfl rfl rfl hc26) rfl rfl (Ext.refl _) fun a hf => ?_
        refine pi_gs hf rfl (wanted_f hf rfl rfl rfl rfl hc26) rfl rfl (Ext.refl _) fun a hf => ?_
        refine pi_gs hf rfl (wanted_f hf rfl rfl rfl rfl hc26) rfl rfl (Ext.refl _) fun a hf => ?_
        refine pi_gs hf rfl (wanted_f hf rfl rfl rfl rfl hc26) rfl rfl (Ext.refl _) fun a hf => ?_
        refine pi_gs hf rfl (wanted_f hf rfl rfl rfl rfl hc26) rfl rfl (Ext.refl _) fun a hf => ?_
        refine pi_q hf rfl rfl rfl rfl (Ext.refl _) (e_pick_t hf rfl hc26 rfl) fun a hf => ?_
        refine pi_nil ?_
        obtain rfl := some_inj h8
        refine then_n ?_
        exact ⟨true, rfl, hf.keep ⟨rfl, rfl, trivial⟩, hM.pick [1] rfl⟩
      · refine pi_gq hf rfl (wanted_t hf rfl rfl rfl rfl hc26) rfl rfl (Ext.refl _) (e_move hf rfl) fun a hf => ?_
        refine pi_gq hf rfl (wanted_t hf rfl rfl rfl rfl hc26) rfl rfl (Ext.refl _) (e_nil hf rfl) fun a hf => ?_
        refine pi_gq hf rfl (wanted_t hf rfl rfl rfl rfl hc26) rfl rfl (Ext.refl _) (e_field hf rfl Try.underlying29 rfl Try.sizeOf9 (o' := o3 + 2) rfl) fun a hf => ?_
        refine pi_gq hf rfl (wanted_t hf rfl rfl rfl rfl hc26) rfl rfl (Ext.refl _) (e_load1 hf rfl Try.isAgg9 (hM.litCell (k := 0) (j := 2) rfl rfl rfl)) fun a hf => ?_
        refine pi_gq hf rfl (wanted_t hf rfl rfl rfl rfl hc26) rfl rfl (Ext.refl _) (e_lenS hf (x := g1.Cells) rfl Try.underlying9) fun a hf => ?_
        refine pi_gq hf rfl (wanted_t hf rfl rfl rfl rfl hc26) rfl rfl (Ext.refl _) (e_move hf rfl) fun a hf => ?_
        refine pi_gq hf rfl (wanted_t hf rfl rfl rfl rfl hc26) rfl rfl (Ext.refl _) (e_nil hf rfl) fun a hf => ?_
        refine pi_gq hf rfl (wanted_t hf rfl rfl rfl rfl hc26) rfl rfl (Ext.refl _) (e_field hf rfl Try.underlying29 rfl Try.sizeOf2 (o' := o3 + 0) rfl) fun a hf => ?_
        refine pi_gq hf rfl (wanted_t hf rfl rfl rfl rfl hc26) rfl rfl (Ext.refl _) (e_load1 hf rfl Try.isAgg2 (hM.litCell (k := 0) (j := 0) rfl rfl rfl)) fun a hf => ?_
        refine pi_gq hf rfl (wanted_t hf rfl rfl rfl rfl hc26) rfl rfl (Ext.refl _) (e_move hf rfl) fun a hf => ?_
        refine pi_gq hf rfl (wanted_t hf rfl rfl rfl rfl hc26) rfl rfl (Ext.refl _) (e_nil hf rfl) fun a hf => ?_
        refine pi_gq hf rfl (wanted_t hf rfl rfl rfl rfl hc26) rfl rfl (Ext.refl _) (e_field hf rfl Try.underlying29 rfl Try.sizeOf2 (o' := o3 + 1) rfl) fun a hf => ?_
        refine pi_gq hf rfl (wanted_t hf rfl rfl rfl rfl hc26) rfl rfl (Ext.refl _) (e_load1 hf rfl Try.isAgg2 (hM.litCell (k := 0) (j := 1) rfl rfl rfl)) fun a hf => ?_
        obtain ⟨z28, hz29, h8⟩ := bind_some h8
        refine pi_gq hf rfl (wanted_t hf rfl rfl rfl rfl hc26) rfl rfl (Ext.refl _) (e_mul hf rfl rfl hz29) fun a hf => ?_
        refine pi_gq hf rfl (wanted_t hf rfl rfl rfl rfl hc26) rfl rfl (Ext.refl _) (e_ne hf (x := (g1.Cells.length : Int)) (y := z28) rfl rfl) fun a hf => ?_
        refine pi_q hf rfl rfl rfl rfl (Ext.refl _) (e_pick_f hf rfl hc26 rfl) fun a hf => ?_
        refine pi_nil ?_
        obtain rfl := some_inj h8
        refine then_n ?_
        exact ⟨((g1.Cells.length : Int) != z28), rfl, hf.keep ⟨rfl, rfl, trivial⟩, hM.pick [1] rfl⟩
  · rintro a w31 ⟨t5, rfl, hf, hM⟩
    try dsimp only at h
    rcases cond_some h with ⟨hc32, h⟩ | ⟨hc32, h⟩
    · refine cond_t hf rfl hc32 ?_
      refine wp_seq ?_
      refine region_pl ?_
      refine q_ hf rfl rfl rfl (e_assign hf rfl) fun a hf => ?_
      refine pl_nil ?_
      refine then_n ?_
      refine wp_ret ?_
      refine then_r ?_
      obtain rfl := some_inj h
      exact leave1 hf rfl rfl ⟨rfl, hM.fin⟩
    · refine cond_f hf rfl hc32 ?_
      refine wp_skip ?_
      refine then_n ?_
      obtain ⟨x33, h34, h⟩ := bind_some h
      refine seq_join (fun a w => (.inl ()) = x33 ∧ Has 70 a [] ∧ Mem C w [] [.dat (ptrRep GridRep) g1 [vP b2 o3]]) ?_ ?_
      · refine wp_seq ?_
        refine region_pl ?_
        refine q_ hf rfl rfl rfl (e_assign hf rfl) fun a hf => ?_
        refine pl_nil ?_
        refine then_n ?_
        refine wp_block ?_
        obtain ⟨x38, h39, h34⟩ := bind_some h34
        refine wp_loopM h39 (fun s a w => ∃ (n35 : Int), n35 = s ∧ Has 70 a [(0, vP b2 (o3)), (3, vI (n35))] ∧ Mem C w [] [.dat (ptrRep GridRep) g1 [vP b2 o3]] ∧ R64 n35) ?_ ?_
        · exact ⟨0, rfl, hf.keep ⟨rfl, rfl, trivial⟩, hM.pick [0] rfl, (R64_lit rfl)⟩
        · rintro s o40 a w37 ⟨n35, rfl, hf, hM, hv36⟩ h41 hd42
          replace h41 : m_spec_l25Ok_l1 g1 n35 = some o40 := h41
          unfold m_spec_l25Ok_l1 at h41
          refine wp_seq ?_
          refine wp_seq ?_
          refine region_pl ?_
          refine q_ hf rfl rfl rfl (e_move hf rfl) fun a hf => ?_
          refine q_ hf rfl rfl rfl (e_move hf rfl) fun a hf => ?_
          refine q_ hf rfl rfl rfl (e_nil hf rfl) fun a hf => ?_
          obtain ⟨_, hr43, hM⟩ := hM.deref (hM.dat (k := 0) rfl)
          obtain ⟨rfl, hv44, hv45, hv46⟩ := GridRep_open hr43
          refine q_ hf rfl rfl rfl (e_field hf rfl Try.underlying29 rfl Try.sizeOf9 (o' := o3 + 2) rfl) fun a hf => ?_
          refine q_ hf rfl rfl rfl (e_load1 hf rfl Try.isAgg9 (hM.litCell (k := 0) (j := 2) rfl rfl rfl)) fun a hf => ?_
          refine q_ hf rfl rfl rfl (e_lenS hf (x := g1.Cells) rfl Try.underlying9) fun a hf => ?_
          refine q_ hf rfl rfl rfl (e_lt hf (x := n35) (y := (g1.Cells.length : Int)) rfl rfl) fun a hf => ?_
          refine pl_nil ?_
          refine then_n ?_
          rcases cond_some h41 with ⟨hc47, h41⟩ | ⟨hc47, h41⟩
          · refine cond_t hf rfl hc47 ?_
            refine wp_skip ?_
            refine then_n ?_
            refine wp_seq ?_
            refine wp_block ?_
            obtain ⟨x50, h51, h41⟩ := bind_some h41
            refine seq_join (fun a w => ∃ (t48 : Bool), t48 = x50 ∧ Has 70 a [(0, vP b2 (o3)), (3, vI (n35)), (69, .bool (t48))] ∧ Mem C w [] [.lit b2 (o3) [vI (g1.Rows), vI (g1.Cols), vS (g1.Cells)], .dat (ptrRep GridRep) g1 [vP b2 o3]]) ?_ ?_
            · refine region_pl ?_
              refine q_ hf rfl rfl rfl (e_move hf rfl) fun a hf => ?_
              refine q_ hf rfl rfl rfl (e_nil hf rfl) fun a hf => ?_
              refine q_ hf rfl rfl rfl (e_field hf rfl Try.underlying29 rfl Try.sizeOf9 (o' := o3 + 2) rfl) fun a hf => ?_
              refine q_ hf rfl rfl rfl (e_load1 hf rfl Try.isAgg9 (hM.litCell (k := 0) (j := 2) rfl rfl rfl)) fun a hf => ?_
              refine q_ hf rfl rfl rfl (e_move hf rfl) fun a hf => ?_
              obtain ⟨c52, hz53, h51⟩ := bind_some h51
              refine q_ hf rfl rfl rfl (e_indexS hf (x := g1.Cells) rfl rfl Try.underlying9 hz53) fun a hf => ?_
              refine q_ hf rfl rfl rfl (e_neB hf (x := c52) (y := 35) rfl rfl) fun a hf => ?_
              refine q_ hf rfl rfl rfl (e_move hf rfl) fun a hf => ?_
              rcases cond_some h51 with ⟨hc54, h51⟩ | ⟨hc54, h51⟩
              · refine gq (wanted_t hf rfl rfl rfl rfl hc54) hf rfl rfl (e_move hf rfl) fun a hf => ?_
                refine gq (wanted_t hf rfl rfl rfl rfl hc54) hf rfl rfl (e_nil hf rfl) fun a hf => ?_
                refine gq (wanted_t hf rfl rfl rfl rfl hc54) hf rfl rfl (e_field hf rfl Try.underlying29 rfl Try.sizeOf9 (o' := o3 + 2) rfl) fun a hf => ?_
                refine gq (wanted_t hf rfl rfl rfl rfl hc54) hf rfl rfl (e_load1 hf rfl Try.isAgg9 (hM.litCell (k := 0) (j := 2) rfl rfl rfl)) fun a hf => ?_
                refine gq (wanted_t hf rfl rfl rfl rfl hc54) hf rfl rfl (e_move hf rfl) fun a hf => ?_
                obtain ⟨c55, hz56, h51⟩ := bind_some h51
                refine gq (wanted_t hf rfl rfl rfl rfl hc54) hf rfl rfl (e_indexS hf (x := g1.Cells) rfl rfl Try.underlying9 hz56) fun a hf => ?_
                refine gq (wanted_t hf rfl rfl rfl rfl hc54) hf rfl rfl (e_neB hf (x := c55) (y := 46) rfl rfl) fun a hf => ?_
                refine q_ hf rfl rfl rfl (e_pick_t hf rfl hc54 rfl) fun a hf => ?_
                refine q_ hf rfl rfl rfl (e_move hf rfl) fun a hf => ?_
                rcases cond_some h51 with ⟨hc57, h51⟩ | ⟨hc57, h51⟩
                · refine gq (wanted_t hf rfl rfl rfl rfl hc57) hf rfl rfl (e_move hf rfl) fun a hf => ?_
                  refine gq (wanted_t hf rfl rfl rfl rfl hc57) hf rfl rfl (e_nil hf rfl) fun a hf => ?_
                  refine gq (wanted_t hf rfl rfl rfl rfl hc57) hf rfl rfl (e_field hf rfl Try.underlying29 rfl Try.sizeOf9 (o' := o3 + 2) rfl) fun a hf => ?_
                  refine gq (wanted_t hf rfl rfl rfl rfl hc57) hf rfl rfl (e_load1 hf rfl Try.isAgg9 (hM.litCell (k := 0) (j := 2) rfl rfl rfl)) fun a hf => ?_
                  refine gq (wanted_t hf rfl rfl rfl rfl hc57) hf rfl rfl (e_move hf rfl) fun a hf => ?_
                  obtain ⟨c58, hz59, h51⟩ := bind_some h51
                  refine gq (wanted_t hf rfl rfl rfl rfl hc57) hf rfl rfl (e_indexS hf (x := g1.Cells) rfl rfl Try.underlying9 hz59) fun a hf => ?_
                  obtain ⟨y60, hz61, h51⟩ := bind_some h51
                  refine pl_gl (wanted_t hf rfl rfl rfl rfl hc57) hf rfl rfl (w_call hf Try.call99 rfl (r_spec_l01Small ⟨_, Sh C _ _, none_, hM.sh_lt, none_not⟩ c58 _ hz61) ?_)
                  rintro _ w62 ⟨rfl, hM2⟩
                  obtain ⟨hM, hx63, hup64⟩ := hM.back hM2
                  dsimp only [List.cons_append, List.nil_append] at hM hup64
                  clear hM2
                  refine ⟨_, rfl, fun a hf => ?_⟩
                  refine gq (wanted_t hf rfl rfl rfl rfl hc57) hf rfl rfl (e_not hf rfl) fun a hf => ?_
                  refine q_ hf rfl rfl rfl (e_pick_t hf rfl hc57 rfl) fun a hf => ?_
                  refine pl_nil ?_
                  obtain rfl := some_inj h51
                  refine then_n ?_
                  exact ⟨(!y60), rfl, hf.keep ⟨rfl, rfl, rfl, trivial⟩, hM.pick [0, 1] rfl⟩
                · refine pl_gs (wanted_f hf rfl rfl rfl rfl hc57) hf rfl rfl fun a hf => ?_
                  refine pl_gs (wanted_f hf rfl rfl rfl rfl hc57) hf rfl rfl fun a hf => ?_
                  refine pl_gs (wanted_f hf rfl rfl rfl rfl hc57) hf rfl rfl fun a hf => ?_
                  refine pl_gs (wanted_f hf rfl rfl rfl rfl hc57) hf rfl rfl fun a hf => ?_
                  refine pl_gs (wanted_f hf rfl rfl rfl rfl hc57) hf rfl rfl fun a hf => ?_
                  refine pl_gs (wanted_f hf rfl rfl rfl rfl hc57) hf rfl rfl fun a hf => ?_
                  refine pl_gs (wanted_f hf rfl rfl rfl rfl hc57) hf rfl rfl fun a hf => ?_
                  refine pl_gs (wanted_f hf rfl rfl rfl rfl hc57) hf rfl rfl fun a hf => ?_
                  refine q_ hf rfl rfl rfl (e_pick_f hf rfl hc57 rfl) fun a hf => ?_
                  refine pl_nil ?_
                  obtain rfl := some_inj h51
                  refine then_n ?_
                  exact ⟨false, rfl, hf.keep ⟨rfl, rfl, rfl, trivial⟩, hM.pick [0, 1] rfl⟩
              · refine pl_gs (wanted_f hf rfl rfl rfl rfl hc54) hf rfl rfl fun a hf => ?_
                refine pl_gs (wanted_f hf rfl rfl rfl rfl hc54) hf rfl rfl fun a hf => ?_
                refine pl_gs (wanted_f hf rfl rfl rfl rfl hc54) hf rfl rfl fun a hf => ?_
                refine pl_gs (wanted_f hf rfl rfl rfl rfl hc54) hf rfl rfl fun a hf => ?_
                refine pl_gs (wanted_f hf rfl rfl rfl rfl hc54) hf rfl rfl fun a hf => ?_
                refine pl_gs (wanted_f hf rfl rfl rfl rfl hc54) hf rfl rfl fun a hf => ?_
                refine pl_gs (wanted_f hf rfl rfl rfl rfl hc54) hf rfl rfl fun a hf => ?_
                refine q_ hf rfl rfl rfl (e_pick_f hf rfl hc54 rfl) fun a hf => ?_
                refine q_ hf rfl rfl rfl (e_move hf rfl) fun a hf => ?_
                refine pl_gs (wanted_f hf rfl rfl rfl rfl rfl) hf rfl rfl fun a hf => ?_
                refine pl_gs (wanted_f hf rfl rfl rfl rfl rfl) hf rfl rfl fun a hf => ?_
                refine pl_gs (wanted_f hf rfl rfl rfl rfl rfl) hf rfl rfl fun a hf => ?_
                refine pl_gs (wanted_f hf rfl rfl rfl rfl rfl) hf rfl rfl fun a hf => ?_
                refine pl_gs (wanted_f hf rfl rfl rfl rfl rfl) hf rfl rfl fun a hf => ?_
                refine pl_gs (wanted_f hf rfl rfl rfl rfl rfl) hf rfl rfl fun a hf => ?_
                refine pl_gs (wanted_f hf rfl rfl rfl rfl rfl) hf rfl rfl fun a hf => ?_
                refine pl_gs (wanted_f hf rfl rfl rfl rfl rfl) hf rfl rfl fun a hf => ?_
                refine q_ hf rfl rfl rfl (e_pick_f hf rfl rfl rfl) fun a hf => ?_
                refine pl_nil ?_
                obtain rfl := some_inj h51
                refine then_n ?_
                exact ⟨false, rfl, hf.keep ⟨rfl, rfl, rfl, trivial⟩, hM.pick [0, 1] rfl⟩
            · rintro a w68 ⟨t48, rfl, hf, hM⟩
              try dsimp only at h41
              rcases cond_some h41 with ⟨hc69, h41⟩ | ⟨hc69, h41⟩
              · refine cond_t hf rfl hc69 ?_
                refine wp_seq ?_
                refine region_pl ?_
                refine q_ hf rfl rfl rfl (e_assign hf rfl) fun a hf => ?_
                refine pl_nil ?_
                refine then_n ?_
                refine wp_ret ?_
                refine blk_r ?_
                refine then_r ?_
                obtain rfl := some_inj h41
                obtain rfl := hd42 _ rfl
                try dsimp only at h34
                refine then_r ?_
                refine blk_r ?_
                obtain rfl := some_inj h34
                try dsimp only at h
                refine then_r ?_
                obtain rfl := some_inj h
                exact leave1 hf rfl rfl ⟨rfl, hM.fin⟩
              · refine cond_f hf rfl hc69 ?_
                refine wp_skip ?_
                refine blk_n ?_
                refine then_n ?_
                refine region_pl ?_
                refine q_ hf rfl rfl rfl (e_move hf rfl) fun a hf => ?_
                obtain ⟨z70, hz71, h41⟩ := bind_some h41
                refine q_ hf rfl rfl rfl (e_add hf rfl rfl hz71) fun a hf => ?_
                refine q_ hf rfl rfl rfl (e_assign hf rfl) fun a hf => ?_
                refine pl_nil ?_
                obtain rfl := some_inj h41
                refine then_n ⟨_, rfl, ?_⟩
                exact ⟨z70, rfl, hf.keep ⟨rfl, rfl, trivial⟩, hM.pick [1] rfl, (chk_R hz71)⟩
          · refine cond_f hf rfl hc47 ?_
            refine wp_exit ?_
            refine then_x ?_
            obtain rfl := some_inj h41
            obtain rfl := hd42 _ rfl
            try dsimp only at h34
            refine then_x ?_
            refine exit_hit ?_
            obtain rfl := some_inj h34
            refine then_n ?_
            exact ⟨rfl, hf.keep trivial, hM.pick [1] rfl⟩
      · rintro a w78 ⟨rfl, hf, hM⟩
        try dsimp only at h
        refine wp_seq ?_
        refine region_pl ?_
        refine q_ hf rfl rfl rfl (e_assign hf rfl) fun a hf => ?_
        refine pl_nil ?_
        refine then_n ?_
        refine wp_ret ?_
        obtain rfl := some_inj h
        exact leave1 hf rfl rfl ⟨rfl, hM.fin⟩

set_option maxRecDepth 100000 in
set_option maxHeartbeats 4000000 in
theorem r_spec_l25Text (C : Cx) (g1 : Grid) (b2 : Nat) (o3 : Nat) (hp4 : (ptrRep GridRep).R C.w0 C.S0 g1 [vP b2 o3]) (r : Str) (h : m_spec_l25Text g1 = some r) :
    Calls Try.prog 93 #[vP b2 (o3)] C.w0 fun e w => e = .returned (vS (r)) ∧ Mem C w [] [] ∧ r.length ≤ maxLen := by
  have hM := Mem.begin C [.dat (ptrRep GridRep) g1 [vP b2 o3]] ⟨hp4, trivial⟩
  refine enter Try.func93 rfl Try.ntmps93 rfl fun a hf => ?_
  unfold m_spec_l25Text at h
  refine wp_seq ?_
  refine region_pl ?_
  refine q_ hf rfl rfl rfl (e_assign hf rfl) fun a hf => ?_
  refine pl_nil ?_
  refine then_n ?_
  refine wp_seq ?_
  refine region_pl ?_
  refine q_ hf rfl rfl rfl (e_assign hf rfl) fun a hf => ?_
  refine pl_nil ?_
  refine then_n ?_
  obtain ⟨x7, h8, h⟩ := bind_some h
  refine seq_join (fun a w => ∃ (r5 : Str), r5 = x7 ∧ Has 38 a [(3, vS (r5))] ∧ Mem C w [] [.dat (ptrRep GridRep) g1 [vP b2 o3]] ∧ r5.length ≤ maxLen) ?_ ?_
  · refine wp_seq ?_
    refine region_pl ?_
    refine q_ hf rfl rfl rfl (e_assign hf rfl) fun a hf => ?_
    refine pl_nil ?_
    refine then_n ?_
    refine wp_block ?_
    obtain ⟨x16, h17, h8⟩ := bind_some h8
    refine wp_loopM h17 (fun s a w => ∃ (r9 : Str) (n11 : Int), (r9, n11) = s ∧ Has 38 a [(0, vP b2 (o3)), (3, vS (r9)), (4, vI (n11))] ∧ Mem C w [] [.dat (ptrRep GridRep) g1 [vP b2 o3]] ∧ r9.length ≤ maxLen ∧ R64 n11) ?_ ?_
    · exact ⟨([] : Str), 0, rfl, hf.keep ⟨rfl, rfl, rfl, trivial⟩, hM.pick [0] rfl, (lit_len rfl), (R64_lit rfl)⟩
    · rintro s o18 a w13 ⟨r9, n11, rfl, hf, hM, hv10, hv12⟩ h19 hd20
      replace h19 : m_spec_l25Text_l1 g1 r9 n11 = some o18 := h19
      unfold m_spec_l25Text_l1 at h19
      refine wp_seq ?_
      refine wp_seq ?_
      refine region_pl ?_
      refine q_ hf rfl rfl rfl (e_move hf rfl) fun a hf => ?_
      refine q_ hf rfl rfl rfl (e_move hf rfl) fun a hf => ?_
      refine q_ hf rfl rfl rfl (e_nil hf rfl) fun a hf => ?_
      obtain ⟨_, hr21, hM⟩ := hM.deref (hM.dat (k := 0) rfl)
      obtain ⟨rfl, hv22, hv23, hv24⟩ := GridRep_open hr21
      refine q_ hf rfl rfl rfl (e_field hf rfl Try.underlying29 rfl Try.sizeOf2 (o' := o3 + 0) rfl) fun a hf => ?_
      refine q_ hf rfl rfl rfl (e_load1 hf rfl Try.isAgg2 (hM.litCell (k := 0) (j := 0) rfl rfl rfl)) fun a hf => ?_
      refine q_ hf rfl rfl rfl (e_lt hf (x := n11) (y := g1.Rows) rfl rfl) fun a hf => ?_
      refine pl_nil ?_
      refine then_n ?_
      rcases cond_some h19 with ⟨hc25, h19⟩ | ⟨hc25, h19⟩
      · refine cond_t hf rfl hc25 ?_
        refine wp_skip ?_
        refine then_n ?_
        refine wp_seq ?_
        refine wp_block ?_
        obtain ⟨x28, h29, h19⟩ := bind_some h19
        refine seq_join (fun a w => ∃ (r26 : Str), r26 = x28 ∧ Has 38 a [(0, vP b2 (o3)), (3, vS (r26)), (4, vI (n11))] ∧ Mem C w [] [.lit b2 (o3) [vI (g1.Rows), vI (g1.Cols), vS (g1.Cells)], .dat (ptrRep GridRep) g1 [vP b2 o3]] ∧ r26.length ≤ maxLen) ?_ ?_
        · refine wp_seq ?_
          refine region_pl ?_
          refine q_ hf rfl rfl rfl (e_move hf rfl) fun a hf => ?_
          refine q_ hf rfl rfl rfl (e_gt hf (x := n11) (y := 0) rfl rfl) fun a hf => ?_
          refine pl_nil ?_
          refine then_n ?_
          rcases cond_some h29 with ⟨hc30, h29⟩ | ⟨hc30, h29⟩
          · refine cond_t hf rfl hc30 ?_
            refine region_pl ?_
            refine q_ hf rfl rfl rfl (e_move hf rfl) fun a hf => ?_
            obtain ⟨s31, hz32, h29⟩ := bind_some h29
            refine q_ hf rfl rfl rfl (e_cat hf (x := r9) (y := ([47] : Str)) rfl rfl hz32) fun a hf => ?_
            refine q_ hf rfl rfl rfl (e_assign hf rfl) fun a hf => ?_
            refine pl_nil ?_
            obtain rfl := some_inj h29
            refine then_n ?_
            exact ⟨s31, rfl, hf.keep ⟨rfl, rfl, rfl, trivial⟩, hM.pick [0, 1] rfl, (cat_len hz32)⟩
          · refine cond_f hf rfl hc30 ?_
            refine wp_skip ?_
            obtain rfl := some_inj h29
            refine then_n ?_
            exact ⟨r9, rfl, hf.keep ⟨rfl, rfl, rfl, trivial⟩, hM.pick [0, 1] rfl, hv10⟩
        · rintro a w35 ⟨r26, rfl, hf, hM, hv27⟩
          try dsimp only at h19
          obtain ⟨w36, hw⟩ : ∃ x, x = w35.drew := ⟨_, rfl⟩
          refine region_pi (.q 0 (.q 1 (.q 2 (.q 3 (.q 4 (.q 5 (.q 6 (.q 7 (.q 8 (.q 9 (.q 10 (.q 11 (.q 12 (.q 13 (.q 14 (.q 15 (.q 16 (.q 17 (.q 18 (.q 19 (.q 20 (.nil)))))))))))))))))))))) (Ext w36) rfl (by kernel_rfl) ?_
          have hM := hM.drew
          rw [← hw] at hM ⊢
          clear hw
          refine pi_q hf rfl rfl rfl rfl (Ext.refl _) (e_move hf rfl) fun a hf => ?_
          refine pi_q hf rfl rfl rfl rfl (Ext.refl _) (e_move hf rfl) fun a hf => ?_
          refine pi_q hf rfl rfl rfl rfl (Ext.refl _) (e_nil hf rfl) fun a hf => ?_
          refine pi_q hf rfl rfl rfl rfl (Ext.refl _) (e_field hf rfl Try.underlying29 rfl Try.sizeOf9 (o' := o3 + 2) rfl) fun a hf => ?_
          refine pi_q hf rfl rfl rfl rfl (Ext.refl _) (e_load1 hf rfl Try.isAgg9 (hM.litCell (k := 0) (j := 2) rfl rfl rfl)) fun a hf => ?_
          refine pi_q hf rfl rfl rfl rfl (Ext.refl _) (e_move hf rfl) fun a hf => ?_
          refine pi_q hf rfl rfl rfl rfl (Ext.refl _) (e_move hf rfl) fun a hf => ?_
          refine pi_q hf rfl rfl rfl rfl (Ext.refl _) (e_nil hf rfl) fun a hf => ?_
          refine pi_q hf rfl rfl rfl rfl (Ext.refl _) (e_field hf rfl Try.underlying29 rfl Try.sizeOf2 (o' := o3 + 1) rfl) fun a hf => ?_
          refine pi_q hf rfl rfl rfl rfl (Ext.refl _) (e_load1 hf rfl Try.isAgg2 (hM.litCell (k := 0) (j := 1) rfl rfl rfl)) fun a hf => ?_
          obtain ⟨z37, hz38, h19⟩ := bind_some h19
          refine pi_q hf rfl rfl rfl rfl (Ext.refl _) (e_mul hf rfl rfl hz38) fun a hf => ?_
          refine pi_q hf rfl rfl rfl rfl (Ext.refl _) (e_move hf rfl) fun a hf => ?_
          obtain ⟨z39, hz40, h19⟩ := bind_some h19
          refine pi_q hf rfl rfl rfl rfl (Ext.refl _) (e_add hf rfl rfl hz40) fun a hf => ?_
          refine pi_q hf rfl rfl rfl rfl (Ext.refl _) (e_move hf rfl) fun a hf => ?_
          refine pi_q hf rfl rfl rfl rfl (Ext.refl _) (e_nil hf rfl) fun a hf => ?_
          refine pi_q hf rfl rfl rfl rfl (Ext.refl _) (e_field hf rfl Try.underlying29 rfl Try.sizeOf2 (o' := o3 + 1) rfl) fun a hf => ?_
          refine pi_q hf rfl rfl rfl rfl (Ext.refl _) (e_load1 hf rfl Try.isAgg2 (hM.litCell (k := 0) (j := 1) rfl rfl rfl)) fun a hf => ?_
          obtain ⟨z41, hz42, h19⟩ := bind_some h19
          refine pi_q hf rfl rfl rfl rfl (Ext.refl _) (e_mul hf rfl rfl hz42) fun a hf => ?_
          obtain ⟨s43, hz44, h19⟩ := bind_some h19
          refine pi_q hf rfl rfl rfl rfl (Ext.refl _) (e_subS hf (x := g1.Cells) rfl rfl rfl Try.underlying9 hz44) fun a hf => ?_
          obtain ⟨s45, hz46, h19⟩ := bind_some h19
          refine pi_q hf rfl rfl rfl rfl (Ext.refl _) (e_cat hf (x := r26) (y := s43) rfl rfl hz46) fun a hf => ?_
          refine pi_q hf rfl rfl rfl rfl (Ext.refl _) (e_assign hf rfl) fun a hf => ?_
          refine pi_nil ?_
          refine blk_n ?_
          refine then_n ?_
          refine region_pl ?_
          refine q_ hf rfl rfl rfl (e_move hf rfl) fun a hf => ?_
          obtain ⟨z47, hz48, h19⟩ := bind_some h19
          refine q_ hf rfl rfl rfl (e_add hf rfl rfl hz48) fun a hf => ?_
          refine q_ hf rfl rfl rfl (e_assign hf rfl) fun a hf => ?_
          refine pl_nil ?_
          obtain rfl := some_inj h19
          refine then_n ⟨_, rfl, ?_⟩
          exact ⟨s45, z47, rfl, hf.keep ⟨rfl, rfl, rfl, trivial⟩, hM.pick [1] rfl, (cat_len hz46), (chk_R hz48)⟩
      · refine cond_f hf rfl hc25 ?_
        refine wp_exit ?_
        refine then_x ?_
        obtain rfl := some_inj h19
        obtain rfl := hd20 _ rfl
        try dsimp only at h8
        refine then_x ?_
        refine exit_hit ?_
        obtain rfl := some_inj h8
        refine then_n ?_
        exact ⟨r9, rfl, hf.keep ⟨rfl, trivial⟩, hM.pick [1] rfl, hv10⟩
  · rintro a w54 ⟨r5, rfl, hf, hM, hv6⟩
    try dsimp only at h
    refine wp_seq ?_
    refine region_pl ?_
    refine q_ hf rfl rfl rfl (e_move hf rfl) fun a hf => ?_
    refine q_ hf rfl rfl rfl (e_assign hf rfl) fun a hf => ?_
    refine pl_nil ?_
    refine then_n ?_
    refine wp_ret ?_
    obtain rfl := some_inj h
    exact leave1 hf rfl rfl ⟨rfl, hM.fin, hv6⟩

set_option maxRecDepth 100000 in
set_option maxHeartbeats 4000000 in
theorem r_spec_GridText (C : Cx) (g1 : Grid) (hp2 : R64 g1.Rows) (hp3 : R64 g1.Cols) (hp4 : g1.Cells.length ≤ maxLen) (r : Str) (h : m_spec_GridText g1 = some r) :
    Calls Try.prog 50 #[.agg #[vI (g1.Rows), vI (g1.Cols), vS (g1.Cells)]] C.w0 fun e w => e = .returned (vS (r)) ∧ Mem C w [] [] ∧ r.length ≤ maxLen := by
  have hM := Mem.begin C [] trivial
  refine enter Try.func50 rfl Try.ntmps50 rfl fun a hf => ?_
  unfold m_spec_GridText at h
  refine wp_seq ?_
  refine region_pl ?_
  refine pl_l hf rfl rfl rfl (w_box hf hM (cs := [vI (g1.Rows), vI (g1.Cols), vS (g1.Cells)]) rfl rfl fun b5 w6 hx7 hM a hf => ?_)
  refine q_ hf rfl rfl rfl (e_assign hf rfl) fun a hf => ?_
  refine pl_nil ?_
  refine then_n ?_
  refine wp_seq ?_
  refine wp_seq ?_
  refine region_pl ?_
  obtain ⟨y9, hz10, h⟩ := bind_some h
  refine pl_l hf rfl rfl rfl (w_call hf Try.call58 rfl (r_spec_l25Ok ⟨_, All C _ _, none_, hM.all_lt, none_not⟩ g1 _ _ (hM.lendBox (k := 0) rfl (GridRep_mk (x := g1) hp2 hp3 hp4)) _ hz10) ?_)
  rintro _ w11 ⟨rfl, hM2⟩
  obtain ⟨hM, hx12⟩ := hM.backA hM2
  clear hM2
  refine ⟨_, rfl, fun a hf => ?_⟩
  refine q_ hf rfl rfl rfl (e_not hf rfl) fun a hf => ?_
  refine pl_nil ?_
  refine then_n ?_
  rcases cond_some h with ⟨hc14, h⟩ | ⟨hc14, h⟩
  · refine cond_t hf rfl hc14 ?_
    refine wp_seq ?_
    refine region_pl ?_
    refine q_ hf rfl rfl rfl (e_assign hf rfl) fun a hf => ?_
    refine pl_nil ?_
    refine then_n ?_
    refine wp_ret ?_
    refine then_r ?_
    obtain rfl := some_inj h
    have hM := hM.outs (own' := []) 0 rfl
    exact leave1 hf rfl rfl ⟨rfl, hM.fin, (lit_len rfl)⟩
  · refine cond_f hf rfl hc14 ?_
    refine wp_skip ?_
    refine then_n ?_
    refine wp_seq ?_
    refine region_pl ?_
    obtain ⟨y15, hz16, h⟩ := bind_some h
    refine pl_l hf rfl rfl rfl (w_call hf Try.call93 rfl (r_spec_l25Text ⟨_, All C _ _, none_, hM.all_lt, none_not⟩ g1 _ _ (hM.lendBox (k := 0) rfl (GridRep_mk (x := g1) hp2 hp3 hp4)) _ hz16) ?_)
    rintro _ w18 ⟨rfl, hM2, hv17⟩
    obtain ⟨hM, hx19⟩ := hM.backA hM2
    clear hM2
    refine ⟨_, rfl, fun a hf => ?_⟩
    refine q_ hf rfl rfl rfl (e_assign hf rfl) fun a hf => ?_
    refine pl_nil ?_
    refine then_n ?_
    refine wp_ret ?_
    obtain rfl := some_inj h
    have hM := hM.outs (own' := []) 0 rfl
    exact leave1 hf rfl rfl ⟨rfl, hM.fin, hv17⟩

set_option maxRecDepth 100000 in
set_option maxHeartbeats 4000000 in
theorem r_impl_within (C : Cx) (x1 : Int) (hp2 : R64 x1) (low3 : Int) (hp4 : R64 low3) (high5 : Int) (hp6 : R64 high5) (r : Bool) (h : m_impl_within x1 low3 high5 = some r) :
    Calls Try.prog 56 #[vI (x1), vI (low3), vI (high5)] C.w0 fun e w => e = .returned (.bool (r)) ∧ Mem C w [] [] := by
  have hM := Mem.begin C [] trivial
  refine enter Try.func56 rfl Try.ntmps56 rfl fun a hf => ?_
  unfold m_impl_within at h
  refine wp_seq ?_
  refine region_pl ?_
  refine q_ hf rfl rfl rfl (e_assign hf rfl) fun a hf => ?_
  refine pl_nil ?_
  refine then_n ?_
  obtain ⟨x9, h10, h⟩ := bind_some h
  refine seq_join (fun a w => ∃ (t7 : Bool), t7 = x9 ∧ Has 15 a [(6, .bool (t7))] ∧ Mem C w [] []) ?_ ?_
  · refine region_pl ?_
    refine q_ hf rfl rfl rfl (e_move hf rfl) fun a hf => ?_
    refine q_ hf rfl rfl rfl (e_move hf rfl) fun a hf => ?_
    refine q_ hf rfl rfl rfl (e_le hf (x := low3) (y := x1) rfl rfl) fun a hf => ?_
    refine q_ hf rfl rfl rfl (e_move hf rfl) fun a hf => ?_
    rcases cond_some h10 with ⟨hc11, h10⟩ | ⟨hc11, h10⟩
    · refine gq (wanted_t hf rfl rfl rfl rfl hc11) hf rfl rfl (e_move hf rfl) fun a hf => ?_
      refine gq (wanted_t hf rfl rfl rfl rfl hc11) hf rfl rfl (e_move hf rfl) fun a hf => ?_
      refine gq (wanted_t hf rfl rfl rfl rfl hc11) hf rfl rfl (e_le hf (x := x1) (y := high5) rfl rfl) fun a hf => ?_
      refine q_ hf rfl rfl rfl (e_pick_t hf rfl hc11 rfl) fun a hf => ?_
      refine q_ hf rfl rfl rfl (e_assign hf rfl) fun a hf => ?_
      refine pl_nil ?_
      obtain rfl := some_inj h10
      refine then_n ?_
      exact ⟨(decide (x1 ≤ high5)), rfl, hf.keep ⟨rfl, trivial⟩, hM.pick [] rfl⟩
    · refine pl_gs (wanted_f hf rfl rfl rfl rfl hc11) hf rfl rfl fun a hf => ?_
      refine pl_gs (wanted_f hf rfl rfl rfl rfl hc11) hf rfl rfl fun a hf => ?_
      refine pl_gs (wanted_f hf rfl rfl rfl rfl hc11) hf rfl rfl fun a hf => ?_
      refine q_ hf rfl rfl rfl (e_pick_f hf rfl hc11 rfl) fun a hf => ?_
      refine q_ hf rfl rfl rfl (e_assign hf rfl) fun a hf => ?_
      refine pl_nil ?_
      obtain rfl := some_inj h10
      refine then_n ?_
      exact ⟨false, rfl, hf.keep ⟨rfl, trivial⟩, hM.pick [] rfl⟩
  · rintro a w14 ⟨t7, rfl, hf, hM⟩
    try dsimp only at h
    refine wp_ret ?_
    obtain rfl := some_inj h
    exact leave1 hf rfl rfl ⟨rfl, hM.fin⟩

set_option maxRecDepth 100000 in
set_option maxHeartbeats 4000000 in
theorem r_impl_allBytes (C : Cx) (s1 : Str) (hp2 : s1.length ≤ maxLen) (is3 : (UInt8 → Option Bool)) (fk4 : FuncId) (fc5 : List Value) (hfn6 : FnOk Try.prog C fk4 (FnC_UInt8_to_Bool fk4 fc5 is3)) (r : Bool) (h : m_impl_allBytes s1 is3 = some r) :
    Calls Try.prog 59 #[vS (s1), .func (.func fk4) #[] fc5.toArray] C.w0 fun e w => e = .returned (.bool (r)) ∧ Mem C w [] [] := by
  have hM := Mem.begin C [] trivial
  refine enter Try.func59 rfl Try.ntmps59 rfl fun a hf => ?_
  unfold m_impl_allBytes at h
  refine wp_seq ?_
  refine region_pl ?_
  refine q_ hf rfl rfl rfl (e_assign hf rfl) fun a hf => ?_
  refine pl_nil ?_
  refine then_n ?_
  obtain ⟨x7, h8, h⟩ := bind_some h
  refine seq_join (fun a w => (.inl ()) = x7 ∧ Has 18 a [] ∧ Mem C w [] []) ?_ ?_
  · refine wp_seq ?_
    refine region_pl ?_
    refine q_ hf rfl rfl rfl (e_assign hf rfl) fun a hf => ?_
    refine pl_nil ?_
    refine then_n ?_
    refine wp_block ?_
    obtain ⟨x12, h13, h8⟩ := bind_some h8
    refine wp_loopM h13 (fun s a w => ∃ (n9 : Int), n9 = s ∧ Has 18 a [(0, vS (s1)), (1, .func (.func fk4) #[] fc5.toArray), (5, vI (n9))] ∧ Mem C w [] [] ∧ R64 n9) ?_ ?_
    · exact ⟨0, rfl, hf.keep ⟨rfl, rfl, rfl, trivial⟩, hM.pick [] rfl, (R64_lit rfl)⟩
    · rintro s o14 a w11 ⟨n9, rfl, hf, hM, hv10⟩ h15 hd16
      replace h15 : m_impl_allBytes_l1 s1 is3 n9 = some o14 := h15
      unfold m_impl_allBytes_l1 at h15
      refine wp_seq ?_
      refine wp_seq ?_
      refine region_pl ?_
      refine q_ hf rfl rfl rfl (e_move hf rfl) fun a hf => ?_
      refine q_ hf rfl rfl rfl (e_move hf rfl) fun a hf => ?_
      refine q_ hf rfl rfl rfl (e_lenS hf (x := s1) rfl Try.underlying9) fun a hf => ?_
      refine q_ hf rfl rfl rfl (e_lt hf (x := n9) (y := (s1.length : Int)) rfl rfl) fun a hf => ?_
      refine pl_nil ?_
      refine then_n ?_
      rcases cond_some h15 with ⟨hc17, h15⟩ | ⟨hc17, h15⟩
      · refine cond_t hf rfl hc17 ?_
        refine wp_skip ?_
        refine then_n ?_
        refine wp_seq ?_
        refine wp_block ?_
        refine wp_seq ?_
        refine region_pl ?_
        refine q_ hf rfl rfl rfl (e_move hf rfl) fun a hf => ?_
        refine q_ hf rfl rfl rfl (e_move hf rfl) fun a hf => ?_
        refine q_ hf rfl rfl rfl (e_move hf rfl) fun a hf => ?_
        obtain ⟨c18, hz19, h15⟩ := bind_some h15
        refine q_ hf rfl rfl rfl (e_indexS hf (x := s1) rfl rfl Try.underlying9 hz19) fun a hf => ?_
        obtain ⟨y20, hz21, h15⟩ := bind_some h15
        refine pl_l hf rfl rfl rfl (w_callV hf rfl hfn6.1 rfl (hfn6.2 ⟨_, Sh C _ _, none_, hM.sh_lt, none_not⟩ hM.sameS hM.s0sh c18 _ hz21) ?_)
        rintro _ w22 ⟨rfl, hM2⟩
        obtain ⟨hM, hx23, hup24⟩ := hM.back hM2
        dsimp only [List.cons_append, List.nil_append] at hM hup24
        clear hM2
        refine ⟨_, rfl, fun a hf => ?_⟩
        refine q_ hf rfl rfl rfl (e_not hf rfl) fun a hf => ?_
        refine pl_nil ?_
        refine then_n ?_
        rcases cond_some h15 with ⟨hc25, h15⟩ | ⟨hc25, h15⟩
        · refine cond_t hf rfl hc25 ?_
          refine wp_seq ?_
          refine region_pl ?_
          refine q_ hf rfl rfl rfl (e_assign hf rfl) fun a hf => ?_
          refine pl_nil ?_
          refine then_n ?_
          refine wp_ret ?_
          refine blk_r ?_
          refine then_r ?_
          obtain rfl := some_inj h15
          obtain rfl := hd16 _ rfl
          try dsimp only at h8
          refine then_r ?_
          refine blk_r ?_
          obtain rfl := some_inj h8
          try dsimp only at h
          refine then_r ?_
          obtain rfl := some_inj h
          exact leave1 hf rfl rfl ⟨rfl, hM.fin⟩
        · refine cond_f hf rfl hc25 ?_
          refine wp_skip ?_
          refine blk_n ?_
          refine then_n ?_
          refine region_pl ?_
          refine q_ hf rfl rfl rfl (e_move hf rfl) fun a hf => ?_
          obtain ⟨z26, hz27, h15⟩ := bind_some h15
          refine q_ hf rfl rfl rfl (e_add hf rfl rfl hz27) fun a hf => ?_
          refine q_ hf rfl rfl rfl (e_assign hf rfl) fun a hf => ?_
          refine pl_nil ?_
          obtain rfl := some_inj h15
          refine then_n ⟨_, rfl, ?_⟩
          exact ⟨z26, rfl, hf.keep ⟨rfl, rfl, rfl, trivial⟩, hM.pick [] rfl, (chk_R hz27)⟩
      · refine cond_f hf rfl hc17 ?_
        refine wp_exit ?_
        refine then_x ?_
        obtain rfl := some_inj h15
        obtain rfl := hd16 _ rfl
        try dsimp only at h8
        refine then_x ?_
        refine exit_hit ?_
        obtain rfl := some_inj h8
        refine then_n ?_
        exact ⟨rfl, hf.keep trivial, hM.pick [] rfl⟩
  · rintro a w34 ⟨rfl, hf, hM⟩
    try dsimp only at h
    refine wp_seq ?_
    refine region_pl ?_
    refine q_ hf rfl rfl rfl (e_assign hf rfl) fun a hf => ?_
    refine pl_nil ?_
    refine then_n ?_
    refine wp_ret ?_
    obtain rfl := some_inj h
    exact leave1 hf rfl rfl ⟨rfl, hM.fin⟩

set_option maxRecDepth 100000 in
set_option maxHeartbeats 4000000 in
theorem r_impl_small (C : Cx) (c1 : UInt8) (r : Bool) (h : m_impl_small c1 = some r) :
    Calls Try.prog 100 #[vB (c1)] C.w0 fun e w => e = .returned (.bool (r)) ∧ Mem C w [] [] := by
  have hM := Mem.begin C [] trivial
  refine enter Try.func100 rfl Try.ntmps100 rfl fun a hf => ?_
  unfold m_impl_small at h
  refine wp_seq ?_
  refine region_pl ?_
  refine q_ hf rfl rfl rfl (e_assign hf rfl) fun a hf => ?_
  refine pl_nil ?_
  refine then_n ?_
  obtain ⟨x4, h5, h⟩ := bind_some h
  refine seq_join (fun a w => ∃ (t2 : Bool), t2 = x4 ∧ Has 9 a [(2, .bool (t2))] ∧ Mem C w [] []) ?_ ?_
  · refine region_pl ?_
    refine q_ hf rfl rfl rfl (e_move hf rfl) fun a hf => ?_
    refine q_ hf rfl rfl rfl (e_leB hf (x := 97) (y := c1) rfl rfl) fun a hf => ?_
    refine q_ hf rfl rfl rfl (e_move hf rfl) fun a hf => ?_
    rcases cond_some h5 with ⟨hc6, h5⟩ | ⟨hc6, h5⟩
    · refine gq (wanted_t hf rfl rfl rfl rfl hc6) hf rfl rfl (e_move hf rfl) fun a hf => ?_
      refine gq (wanted_t hf rfl rfl rfl rfl hc6) hf rfl rfl (e_leB hf (x := c1) (y := 122) rfl rfl) fun a hf => ?_
      refine q_ hf rfl rfl rfl (e_pick_t hf rfl hc6 rfl) fun a hf => ?_
      refine q_ hf rfl rfl rfl (e_assign hf rfl) fun a hf => ?_
      refine pl_nil ?_
      obtain rfl := some_inj h5
      refine then_n ?_
      exact ⟨(decide (c1 ≤ 122)), rfl, hf.keep ⟨rfl, trivial⟩, hM.pick [] rfl⟩
    · refine pl_gs (wanted_f hf rfl rfl rfl rfl hc6) hf rfl rfl fun a hf => ?_
      refine pl_gs (wanted_f hf rfl rfl rfl rfl hc6) hf rfl rfl fun a hf => ?_
      refine q_ hf rfl rfl rfl (e_pick_f hf rfl hc6 rfl) fun a hf => ?_
      refine q_ hf rfl rfl rfl (e_assign hf rfl) fun a hf => ?_
      refine pl_nil ?_
      obtain rfl := some_inj h5
      refine then_n ?_
      exact ⟨false, rfl, hf.keep ⟨rfl, trivial⟩, hM.pick [] rfl⟩
  · rintro a w9 ⟨t2, rfl, hf, hM⟩
    try dsimp only at h
    refine wp_ret ?_
    obtain rfl := some_inj h
    exact leave1 hf rfl rfl ⟨rfl, hM.fin⟩

set_option maxRecDepth 100000 in
set_option maxHeartbeats 4000000 in
theorem r_impl_gridByte (C : Cx) (c1 : UInt8) (r : Bool) (h : m_impl_gridByte c1 = some r) :
    Calls Try.prog 60 #[vB (c1)] C.w0 fun e w => e = .returned (.bool (r)) ∧ Mem C w [] [] := by
  have hM := Mem.begin C [] trivial
  refine enter Try.func60 rfl Try.ntmps60 rfl fun a hf => ?_
  unfold m_impl_gridByte at h
  refine wp_seq ?_
  refine region_pl ?_
  refine q_ hf rfl rfl rfl (e_assign hf rfl) fun a hf => ?_
  refine pl_nil ?_
  refine then_n ?_
  obtain ⟨x4, h5, h⟩ := bind_some h
  refine seq_join (fun a w => ∃ (t2 : Bool), t2 = x4 ∧ Has 13 a [(2, .bool (t2))] ∧ Mem C w [] []) ?_ ?_
  · refine region_pl ?_
    refine q_ hf rfl rfl rfl (e_move hf rfl) fun a hf => ?_
    refine q_ hf rfl rfl rfl (e_eqB hf (x := c1) (y := 35) rfl rfl) fun a hf => ?_
    refine q_ hf rfl rfl rfl (e_move hf rfl) fun a hf => ?_
    rcases cond_some h5 with ⟨hc6, h5⟩ | ⟨hc6, h5⟩
    · refine pl_gs (wanted_f hf rfl rfl rfl rfl hc6) hf rfl rfl fun a hf => ?_
      refine pl_gs (wanted_f hf rfl rfl rfl rfl hc6) hf rfl rfl fun a hf => ?_
      refine q_ hf rfl rfl rfl (e_pick_t hf rfl hc6 rfl) fun a hf => ?_
      refine q_ hf rfl rfl rfl (e_move hf rfl) fun a hf => ?_
      refine pl_gs (wanted_f hf rfl rfl rfl rfl rfl) hf rfl rfl fun a hf => ?_
      refine pl_gs (wanted_f hf rfl rfl rfl rfl rfl) hf rfl rfl fun a hf => ?_
      refine q_ hf rfl rfl rfl (e_pick_t hf rfl rfl rfl) fun a hf => ?_
      refine q_ hf rfl rfl rfl (e_assign hf rfl) fun a hf => ?_
      refine pl_nil ?_
      obtain rfl := some_inj h5
      refine then_n ?_
      exact ⟨true, rfl, hf.keep ⟨rfl, trivial⟩, hM.pick [] rfl⟩
    · refine gq (wanted_t hf rfl rfl rfl rfl hc6) hf rfl rfl (e_move hf rfl) fun a hf => ?_
      refine gq (wanted_t hf rfl rfl rfl rfl hc6) hf rfl rfl (e_eqB hf (x := c1) (y := 46) rfl rfl) fun a hf => ?_
      refine q_ hf rfl rfl rfl (e_pick_f hf rfl hc6 rfl) fun a hf => ?_
      refine q_ hf rfl rfl rfl (e_move hf rfl) fun a hf => ?_
      rcases cond_some h5 with ⟨hc8, h5⟩ | ⟨hc8, h5⟩
      · refine pl_gs (wanted_f hf rfl rfl rfl rfl hc8) hf rfl rfl fun a hf => ?_
        refine pl_gs (wanted_f hf rfl rfl rfl rfl hc8) hf rfl rfl fun a hf => ?_
        refine q_ hf rfl rfl rfl (e_pick_t hf rfl hc8 rfl) fun a hf => ?_
        refine q_ hf rfl rfl rfl (e_assign hf rfl) fun a hf => ?_
        refine pl_nil ?_
        obtain rfl := some_inj h5
        refine then_n ?_
        exact ⟨true, rfl, hf.keep ⟨rfl, trivial⟩, hM.pick [] rfl⟩
      · refine gq (wanted_t hf rfl rfl rfl rfl hc8) hf rfl rfl (e_move hf rfl) fun a hf => ?_
        obtain ⟨y10, hz11, h5⟩ := bind_some h5
        refine pl_gl (wanted_t hf rfl rfl rfl rfl hc8) hf rfl rfl (w_call hf Try.call100 rfl (r_impl_small ⟨_, Sh C _ _, none_, hM.sh_lt, none_not⟩ c1 _ hz11) ?_)
        rintro _ w12 ⟨rfl, hM2⟩
        obtain ⟨hM, hx13, hup14⟩ := hM.back hM2
        dsimp only [List.cons_append, List.nil_append] at hM hup14
        clear hM2
        refine ⟨_, rfl, fun a hf => ?_⟩
        refine q_ hf rfl rfl rfl (e_pick_f hf rfl hc8 rfl) fun a hf => ?_
        refine q_ hf rfl rfl rfl (e_assign hf rfl) fun a hf => ?_
        refine pl_nil ?_
        obtain rfl := some_inj h5
        refine then_n ?_
        exact ⟨y10, rfl, hf.keep ⟨rfl, trivial⟩, hM.pick [] rfl⟩
  · rintro a w16 ⟨t2, rfl, hf, hM⟩
    try dsimp only at h
    refine wp_ret ?_
    obtain rfl := some_inj h
    exact leave1 hf rfl rfl ⟨rfl, hM.fin⟩

set_option maxRecDepth 100000 in
set_option maxHeartbeats 4000000 in
theorem r_impl_ValidGrid (C : Cx) (g1 : Grid) (hp2 : R64 g1.Rows) (hp3 : R64 g1.Cols) (hp4 : g1.Cells.length ≤ maxLen) (r : Bool) (h : m_impl_ValidGrid g1 = some r) :
    Calls Try.prog 20 #[.agg #[vI (g1.Rows), vI (g1.Cols), vS (g1.Cells)]] C.w0 fun e w => e = .returned (.bool (r)) ∧ Mem C w [] [] := by
  have hM := Mem.begin C [] trivial
  refine enter Try.func20 rfl Try.ntmps20 rfl fun a hf => ?_
  unfold m_impl_ValidGrid at h
  refine wp_seq ?_
  refine region_pl ?_
  refine pl_l hf rfl rfl rfl (w_box hf hM (cs := [vI (g1.Rows), vI (g1.Cols), vS (g1.Cells)]) rfl rfl fun b5 w6 hx7 hM a hf => ?_)
  refine q_ hf rfl rfl rfl (e_assign hf rfl) fun a hf => ?_
  refine pl_nil ?_
  refine then_n ?_
  obtain ⟨x11, h12, h⟩ := bind_some h
  refine seq_join (fun a w => ∃ (t9 : Bool), t9 = x11 ∧ Has 27 a [(2, .bool (t9))] ∧ Mem C w [.box b5 [vI (g1.Rows), vI (g1.Cols), vS (g1.Cells)] 29] []) ?_ ?_
  · refine region_pl ?_
    refine q_ hf rfl rfl rfl (e_field hf rfl Try.underlying29 rfl Try.sizeOf2 (o' := 0) rfl) fun a hf => ?_
    refine q_ hf rfl rfl rfl (e_load1 hf rfl Try.isAgg2 (hM.boxCell (k := 0) rfl rfl)) fun a hf => ?_
    obtain ⟨y13, hz14, h12⟩ := bind_some h12
    refine pl_l hf rfl rfl rfl (w_call hf Try.call56 rfl (r_impl_within ⟨_, Sh C _ _, none_, hM.sh_lt, none_not⟩ g1.Rows hp2 1 (R64_lit rfl) 5 (R64_lit rfl) _ hz14) ?_)
    rintro _ w15 ⟨rfl, hM2⟩
    obtain ⟨hM, hx16, hup17⟩ := hM.back hM2
    dsimp only [List.cons_append, List.nil_append] at hM hup17
    clear hM2
    refine ⟨_, rfl, fun a hf => ?_⟩
    refine q_ hf rfl rfl rfl (e_move hf rfl) fun a hf => ?_
    rcases cond_some h12 with ⟨hc18, h12⟩ | ⟨hc18, h12⟩
    · refine gq (wanted_t hf rfl rfl rfl rfl hc18) hf rfl rfl (e_field hf rfl Try.underlying29 rfl Try.sizeOf2 (o' := 1) rfl) fun a hf => ?_
      refine gq (wanted_t hf rfl rfl rfl rfl hc18) hf rfl rfl (e_load1 hf rfl Try.isAgg2 (hM.boxCell (k := 0) rfl rfl)) fun a hf => ?_
      obtain ⟨y19, hz20, h12⟩ := bind_some h12
      refine pl_gl (wanted_t hf rfl rfl rfl rfl hc18) hf rfl rfl (w_call hf Try.call56 rfl (r_impl_within ⟨_, Sh C _ _, none_, hM.sh_lt, none_not⟩ g1.Cols hp3 1 (R64_lit rfl) 5 (R64_lit rfl) _ hz20) ?_)
      rintro _ w21 ⟨rfl, hM2⟩
      obtain ⟨hM, hx22, hup23⟩ := hM.back hM2
      dsimp only [List.cons_append, List.nil_append] at hM hup23
      clear hM2
      refine ⟨_, rfl, fun a hf => ?_⟩
      refine q_ hf rfl rfl rfl (e_pick_t hf rfl hc18 rfl) fun a hf => ?_
      refine q_ hf rfl rfl rfl (e_move hf rfl) fun a hf => ?_
      rcases cond_some h12 with ⟨hc24, h12⟩ | ⟨hc24, h12⟩
      · refine gq (wanted_t hf rfl rfl rfl rfl hc24) hf rfl rfl (e_field hf rfl Try.underlying29 rfl Try.sizeOf9 (o' := 2) rfl) fun a hf => ?_
        refine gq (wanted_t hf rfl rfl rfl rfl hc24) hf rfl rfl (e_load1 hf rfl Try.isAgg9 (hM.boxCell (k := 0) rfl rfl)) fun a hf => ?_
        refine gq (wanted_t hf rfl rfl rfl rfl hc24) hf rfl rfl (e_lenS hf (x := g1.Cells) rfl Try.underlying9) fun a hf => ?_
        refine gq (wanted_t hf rfl rfl rfl rfl hc24) hf rfl rfl (e_field hf rfl Try.underlying29 rfl Try.sizeOf2 (o' := 0) rfl) fun a hf => ?_
        refine gq (wanted_t hf rfl rfl rfl rfl hc24) hf rfl rfl (e_load1 hf rfl Try.isAgg2 (hM.boxCell (k := 0) rfl rfl)) fun a hf => ?_
        refine gq (wanted_t hf rfl rfl rfl rfl hc24) hf rfl rfl (e_field hf rfl Try.underlying29 rfl Try.sizeOf2 (o' := 1) rfl) fun a hf => ?_
        refine gq (wanted_t hf rfl rfl rfl rfl hc24) hf rfl rfl (e_load1 hf rfl Try.isAgg2 (hM.boxCell (k := 0) rfl rfl)) fun a hf => ?_
        obtain ⟨z25, hz26, h12⟩ := bind_some h12
        refine gq (wanted_t hf rfl rfl rfl rfl hc24) hf rfl rfl (e_mul hf rfl rfl hz26) fun a hf => ?_
        refine gq (wanted_t hf rfl rfl rfl rfl hc24) hf rfl rfl (e_eq hf (x := (g1.Cells.length : Int)) (y := z25) rfl rfl) fun a hf => ?_
        refine q_ hf rfl rfl rfl (e_pick_t hf rfl hc24 rfl) fun a hf => ?_
        refine q_ hf rfl rfl rfl (e_move hf rfl) fun a hf => ?_
        rcases cond_some h12 with ⟨hc27, h12⟩ | ⟨hc27, h12⟩
        · refine gq (wanted_t hf rfl rfl rfl rfl hc27) hf rfl rfl (e_field hf rfl Try.underlying29 rfl Try.sizeOf9 (o' := 2) rfl) fun a hf => ?_
          refine gq (wanted_t hf rfl rfl rfl rfl hc27) hf rfl rfl (e_load1 hf rfl Try.isAgg9 (hM.boxCell (k := 0) rfl rfl)) fun a hf => ?_
          obtain ⟨y28, hz29, h12⟩ := bind_some h12
          refine pl_gl (wanted_t hf rfl rfl rfl rfl hc27) hf rfl rfl (w_call hf Try.call59 rfl (r_impl_allBytes ⟨_, Sh C _ _, none_, hM.sh_lt, none_not⟩ g1.Cells hp4 m_impl_gridByte 60 [] ⟨Try.call60, fun C1 _ _ => r_impl_gridByte C1⟩ _ hz29) ?_)
          rintro _ w30 ⟨rfl, hM2⟩
          obtain ⟨hM, hx31, hup32⟩ := hM.back hM2
          dsimp only [List.cons_append, List.nil_append] at hM hup32
          clear hM2
          refine ⟨_, rfl, fun a hf => ?_⟩
          refine q_ hf rfl rfl rfl (e_pick_t hf rfl hc27 rfl) fun a hf => ?_
          refine q_ hf rfl rfl rfl (e_assign hf rfl) fun a hf => ?_
          refine pl_nil ?_
          obtain rfl := some_inj h12
          refine then_n ?_
          exact ⟨y28, rfl, hf.keep ⟨rfl, trivial⟩, hM.pick [] rfl⟩
        · refine pl_gs (wanted_f hf rfl rfl rfl rfl hc27) hf rfl rfl fun a hf => ?_
          refine pl_gs (wanted_f hf rfl rfl rfl rfl hc27) hf rfl rfl fun a hf => ?_
          refine pl_gs (wanted_f hf rfl rfl rfl rfl hc27) hf rfl rfl fun a hf => ?_
          refine q_ hf rfl rfl rfl (e_pick_f hf rfl hc27 rfl) fun a hf => ?_
          refine q_ hf rfl rfl rfl (e_assign hf rfl) fun a hf => ?_
          refine pl_nil ?_
          obtain rfl := some_inj h12
          refine then_n ?_
          exact ⟨false, rfl, hf.keep ⟨rfl, trivial⟩, hM.pick [] rfl⟩
      · refine pl_gs (wanted_f hf rfl rfl rfl rfl hc24) hf rfl rfl fun a hf => ?_
        refine pl_gs (wanted_f hf rfl rfl rfl rfl hc24) hf rfl rfl fun a hf => ?_
        refine pl_gs (wanted_f hf rfl rfl rfl rfl hc24) hf rfl rfl fun a hf => ?_
        refine pl_gs (wanted_f hf rfl rfl rfl rfl hc24) hf rfl rfl fun a hf => ?_
        refine pl_gs (wanted_f hf rfl rfl rfl rfl hc24) hf rfl rfl fun a hf => ?_
        refine pl_gs (wanted_f hf rfl rfl rfl rfl hc24) hf rfl rfl fun a hf => ?_
        refine pl_gs (wanted_f hf rfl rfl rfl rfl hc24) hf rfl rfl fun a hf => ?_
        refine pl_gs (wanted_f hf rfl rfl rfl rfl hc24) hf rfl rfl fun a hf => ?_
        refine pl_gs (wanted_f hf rfl rfl rfl rfl hc24) hf rfl rfl fun a hf => ?_
        refine q_ hf rfl rfl rfl (e_pick_f hf rfl hc24 rfl) fun a hf => ?_
        refine q_ hf rfl rfl rfl (e_move hf rfl) fun a hf => ?_
        refine pl_gs (wanted_f hf rfl rfl rfl rfl rfl) hf rfl rfl fun a hf => ?_
        refine pl_gs (wanted_f hf rfl rfl rfl rfl rfl) hf rfl rfl fun a hf => ?_
        refine pl_gs (wanted_f hf rfl rfl rfl rfl rfl) hf rfl rfl fun a hf => ?_
        refine q_ hf rfl rfl rfl (e_pick_f hf rfl rfl rfl) fun a hf => ?_
        refine q_ hf rfl rfl rfl (e_assign hf rfl) fun a hf => ?_
        refine pl_nil ?_
        obtain rfl := some_inj h12
        refine then_n ?_
        exact ⟨false, rfl, hf.keep ⟨rfl, trivial⟩, hM.pick [] rfl⟩
    · refine pl_gs (wanted_f hf rfl rfl rfl rfl hc18) hf rfl rfl fun a hf => ?_
      refine pl_gs (wanted_f hf rfl rfl rfl rfl hc18) hf rfl rfl fun a hf => ?_
      refine pl_gs (wanted_f hf rfl rfl rfl rfl hc18) hf rfl rfl fun a hf => ?_
      refine q_ hf rfl rfl rfl (e_pick_f hf rfl hc18 rfl) fun a hf => ?_
      refine q_ hf rfl rfl rfl (e_move hf rfl) fun a hf => ?_
      refine pl_gs (wanted_f hf rfl rfl rfl rfl rfl) hf rfl rfl fun a hf => ?_
      refine pl_gs (wanted_f hf rfl rfl rfl rfl rfl) hf rfl rfl fun a hf => ?_
      refine pl_gs (wanted_f hf rfl rfl rfl rfl rfl) hf rfl rfl fun a hf => ?_
      refine pl_gs (wanted_f hf rfl rfl rfl rfl rfl) hf rfl rfl fun a hf => ?_
      refine pl_gs (wanted_f hf rfl rfl rfl rfl rfl) hf rfl rfl fun a hf => ?_
      refine pl_gs (wanted_f hf rfl rfl rfl rfl rfl) hf rfl rfl fun a hf => ?_
      refine pl_gs (wanted_f hf rfl rfl rfl rfl rfl) hf rfl rfl fun a hf => ?_
      refine pl_gs (wanted_f hf rfl rfl rfl rfl rfl) hf rfl rfl fun a hf => ?_
      refine pl_gs (wanted_f hf rfl rfl rfl rfl rfl) hf rfl rfl fun a hf => ?_
      refine q_ hf rfl rfl rfl (e_pick_f hf rfl rfl rfl) fun a hf => ?_
      refine q_ hf rfl rfl rfl (e_move hf rfl) fun a hf => ?_
      refine pl_gs (wanted_f hf rfl rfl rfl rfl rfl) hf rfl rfl fun a hf => ?_
      refine pl_gs (wanted_f hf rfl rfl rfl rfl rfl) hf rfl rfl fun a hf => ?_
      refine pl_gs (wanted_f hf rfl rfl rfl rfl rfl) hf rfl rfl fun a hf => ?_
      refine q_ hf rfl rfl rfl (e_pick_f hf rfl rfl rfl) fun a hf => ?_
      refine q_ hf rfl rfl rfl (e_assign hf rfl) fun a hf => ?_
      refine pl_nil ?_
      obtain rfl := some_inj h12
      refine then_n ?_
      exact ⟨false, rfl, hf.keep ⟨rfl, trivial⟩, hM.pick [] rfl⟩
  · rintro a w37 ⟨t9, rfl, hf, hM⟩
    try dsimp only at h
    refine wp_ret ?_
    obtain rfl := some_inj h
    have hM := hM.outs (own' := []) 0 rfl
    exact leave1 hf rfl rfl ⟨rfl, hM.fin⟩

set_option maxRecDepth 100000 in
set_option maxHeartbeats 4000000 in
theorem r_impl_GridText (C : Cx) (g1 : Grid) (hp2 : R64 g1.Rows) (hp3 : R64 g1.Cols) (hp4 : g1.Cells.length ≤ maxLen) (r : Str) (h : m_impl_GridText g1 = some r) :
    Calls Try.prog 51 #[.agg #[vI (g1.Rows), vI (g1.Cols), vS (g1.Cells)]] C.w0 fun e w => e = .returned (vS (r)) ∧ Mem C w [] [] ∧ r.length ≤ maxLen := by
  have hM := Mem.begin C [] trivial
  refine enter Try.func51 rfl Try.ntmps51 rfl fun a hf => ?_
  unfold m_impl_GridText at h
  refine wp_seq ?_
  refine region_pl ?_
  refine pl_l hf rfl rfl rfl (w_box hf hM (cs := [vI (g1.Rows), vI (g1.Cols), vS (g1.Cells)]) rfl rfl fun b5 w6 hx7 hM a hf => ?_)
  refine q_ hf rfl rfl rfl (e_assign hf rfl) fun a hf => ?_
  refine pl_nil ?_
  refine then_n ?_
  refine wp_seq ?_
  refine wp_seq ?_
  refine region_pl ?_
  refine q_ hf rfl rfl rfl (e_loadA hf (us := [vI (g1.Rows), vI (g1.Cols), vS (g1.Cells)]) rfl ⟨Try.isAgg29, Try.sizeOf29⟩ rfl (hM.boxSub (k := 0) (us := [vI (g1.Rows), vI (g1.Cols), vS (g1.Cells)]) (o := 0) rfl rfl)) fun a hf => ?_
  obtain ⟨y9, hz10, h⟩ := bind_some h
  refine pl_l hf rfl rfl rfl (w_call hf Try.call20 rfl (r_impl_ValidGrid ⟨_, Sh C _ _, none_, hM.sh_lt, none_not⟩ g1 hp2 hp3 hp4 _ hz10) ?_)
  rintro _ w11 ⟨rfl, hM2⟩
  obtain ⟨hM, hx12, hup13⟩ := hM.back hM2
  dsimp only [List.cons_append, List.nil_append] at hM hup13
  clear hM2
  refine ⟨_, rfl, fun a hf => ?_⟩
  refine q_ hf rfl rfl rfl (e_not hf rfl) fun a hf => ?_
  refine pl_nil ?_
  refine then_n ?_
  rcases cond_some h with ⟨hc14, h⟩ | ⟨hc14, h⟩
  · refine cond_t hf rfl hc14 ?_
    refine wp_seq ?_
    refine region_pl ?_
    refine q_ hf rfl rfl rfl (e_assign hf rfl) fun a hf => ?_
    refine pl_nil ?_
    refine then_n ?_
    refine wp_ret ?_
    refine then_r ?_
    obtain rfl := some_inj h
    have hM := hM.outs (own' := []) 0 rfl
    exact leave1 hf rfl rfl ⟨rfl, hM.fin, (lit_len rfl)⟩
  · refine cond_f hf rfl hc14 ?_
    refine wp_skip ?_
    refine then_n ?_
    refine wp_seq ?_
    refine region_pl ?_
    refine pl_l hf rfl rfl rfl (w_slice0 (K := strRep) hM Try.underlying133 ei_9 fun b15 w16 hx17 hM a hf => ?_)
    refine q_ hf rfl rfl rfl (e_assign hf rfl) fun a hf => ?_
    refine pl_nil ?_
    refine then_n ?_
    obtain ⟨x21, h22, h⟩ := bind_some h
    refine seq_join (fun a w => ∃ (xs18 : (List Str)) (A19 : Option Addr) (c20 : Nat), xs18 = x21 ∧ Has 32 a [(3, vL A19 (xs18) c20)] ∧ Mem C w [.row strRep A19 c20 9 xs18 true, .box b5 [vI (g1.Rows), vI (g1.Cols), vS (g1.Cells)] 29] []) ?_ ?_
    · refine wp_seq ?_
      refine region_pl ?_
      refine q_ hf rfl rfl rfl (e_assign hf rfl) fun a hf => ?_
      refine pl_nil ?_
      refine then_n ?_
      refine wp_block ?_
      obtain ⟨x32, h33, h22⟩ := bind_some h22
      refine wp_loopM h33 (fun s a w => ∃ (xs23 : (List Str)) (n26 : Int) (A24 : Option Addr) (c25 : Nat), (xs23, n26) = s ∧ Has 32 a [(1, vP b5 (0)), (3, vL A24 (xs23) c25), (4, vI (n26))] ∧ Mem C w [.row strRep A24 c25 9 xs23 true, .box b5 [vI (g1.Rows), vI (g1.Cols), vS (g1.Cells)] 29] [] ∧ R64 n26) ?_ ?_
      · exact ⟨([] : (List Str)), 0, (some ⟨b15, 0, none⟩), 0, rfl, hf.keep ⟨rfl, rfl, rfl, trivial⟩, hM.pick [] rfl, (R64_lit rfl)⟩
      · rintro s o34 a w28 ⟨xs23, n26, A24, c25, rfl, hf, hM, hv27⟩ h35 hd36
        replace h35 : m_impl_GridText_l1 g1 xs23 n26 = some o34 := h35
        unfold m_impl_GridText_l1 at h35
        refine wp_seq ?_
        refine wp_seq ?_
        refine region_pl ?_
        refine q_ hf rfl rfl rfl (e_move hf rfl) fun a hf => ?_
        refine q_ hf rfl rfl rfl (e_field hf rfl Try.underlying29 rfl Try.sizeOf2 (o' := 0) rfl) fun a hf => ?_
        refine q_ hf rfl rfl rfl (e_load1 hf rfl Try.isAgg2 (hM.boxCell (k := 1) rfl rfl)) fun a hf => ?_
        refine q_ hf rfl rfl rfl (e_lt hf (x := n26) (y := g1.Rows) rfl rfl) fun a hf => ?_
        refine pl_nil ?_
        refine then_n ?_
        rcases cond_some h35 with ⟨hc37, h35⟩ | ⟨hc37, h35⟩
        · refine cond_t hf rfl hc37 ?_
          refine wp_skip ?_
          refine then_n ?_
          refine wp_seq ?_
          refine wp_block ?_
          refine region_pl ?_
          refine q_ hf rfl rfl rfl (e_move hf rfl) fun a hf => ?_
          refine q_ hf rfl rfl rfl (e_field hf rfl Try.underlying29 rfl Try.sizeOf9 (o' := 2) rfl) fun a hf => ?_
          refine q_ hf rfl rfl rfl (e_load1 hf rfl Try.isAgg9 (hM.boxCell (k := 1) rfl rfl)) fun a hf => ?_
          refine q_ hf rfl rfl rfl (e_move hf rfl) fun a hf => ?_
          refine q_ hf rfl rfl rfl (e_field hf rfl Try.underlying29 rfl Try.sizeOf2 (o' := 1) rfl) fun a hf => ?_
          refine q_ hf rfl rfl rfl (e_load1 hf rfl Try.isAgg2 (hM.boxCell (k := 1) rfl rfl)) fun a hf => ?_
          obtain ⟨z38, hz39, h35⟩ := bind_some h35
          refine q_ hf rfl rfl rfl (e_mul hf rfl rfl hz39) fun a hf => ?_
          refine q_ hf rfl rfl rfl (e_move hf rfl) fun a hf => ?_
          obtain ⟨z40, hz41, h35⟩ := bind_some h35
          refine q_ hf rfl rfl rfl (e_add hf rfl rfl hz41) fun a hf => ?_
          refine q_ hf rfl rfl rfl (e_field hf rfl Try.underlying29 rfl Try.sizeOf2 (o' := 1) rfl) fun a hf => ?_
          refine q_ hf rfl rfl rfl (e_load1 hf rfl Try.isAgg2 (hM.boxCell (k := 1) rfl rfl)) fun a hf => ?_
          obtain ⟨z42, hz43, h35⟩ := bind_some h35
          refine q_ hf rfl rfl rfl (e_mul hf rfl rfl hz43) fun a hf => ?_
          obtain ⟨s44, hz45, h35⟩ := bind_some h35
          refine q_ hf rfl rfl rfl (e_subS hf (x := g1.Cells) rfl rfl rfl Try.underlying9 hz45) fun a hf => ?_
          refine pl_l hf rfl rfl rfl (w_slice hf hM (K := strRep) (xs := ([s44] : (List Str))) (os := [.tmp 27]) Try.underlying133 ei_9 rfl rfl rfl rfl rfl ⟨⟨[vS (s44)], rfl, ⟨rfl, (sub_len hz45 hp4)⟩⟩, trivial⟩ rfl fun b46 w47 hx48 hM a hf => ?_)
          obtain ⟨xs49, hz50, h35⟩ := bind_some h35
          refine pl_l hf rfl rfl rfl (w_append hf hM Try.underlying133 ei_9 rfl rfl rfl (k := 1) rfl (hM.srcRow (k := 0) rfl) hz50 fun A51 c52 w53 hM a hf => ?_)
          dsimp only [List.set] at hM
          refine q_ hf rfl rfl rfl (e_assign hf rfl) fun a hf => ?_
          refine pl_nil ?_
          refine blk_n ?_
          refine then_n ?_
          refine region_pl ?_
          refine q_ hf rfl rfl rfl (e_move hf rfl) fun a hf => ?_
          obtain ⟨z56, hz57, h35⟩ := bind_some h35
          refine q_ hf rfl rfl rfl (e_add hf rfl rfl hz57) fun a hf => ?_
          refine q_ hf rfl rfl rfl (e_assign hf rfl) fun a hf => ?_
          refine pl_nil ?_
          obtain rfl := some_inj h35
          refine then_n ⟨_, rfl, ?_⟩
          exact ⟨xs49, z56, A51, c52, rfl, hf.keep ⟨rfl, rfl, rfl, trivial⟩, (hM.drop (.cons _ (.cons_cons _ (.cons_cons _ .slnil)))).pick [] rfl, (chk_R hz57)⟩
        · refine cond_f hf rfl hc37 ?_
          refine wp_exit ?_
          refine then_x ?_
          obtain rfl := some_inj h35
          obtain rfl := hd36 _ rfl
          try dsimp only at h22
          refine then_x ?_
          refine exit_hit ?_
          obtain rfl := some_inj h22
          refine then_n ?_
          exact ⟨xs23, A24, c25, rfl, hf.keep ⟨rfl, trivial⟩, hM.pick [] rfl⟩
    · rintro a w63 ⟨xs18, A19, c20, rfl, hf, hM⟩
      try dsimp only at h
      refine wp_seq ?_
      refine region_pl ?_
      refine q_ hf rfl rfl rfl (e_move hf rfl) fun a hf => ?_
      obtain ⟨y64, hz65, h⟩ := bind_some h
      refine pl_l hf rfl rfl rfl (w_call hf Try.call94 rfl (r_strings_Join ⟨_, All C _ _, none_, hM.all_lt, none_not⟩ xs18 _ _ (hM.lendRow (k := 0) rfl) ([47] : Str) (lit_len rfl) _ hz65) ?_)
      rintro _ w67 ⟨rfl, hM2, hv66⟩
      obtain ⟨hM, hx68⟩ := hM.backA hM2
      clear hM2
      refine ⟨_, rfl, fun a hf => ?_⟩
      refine q_ hf rfl rfl rfl (e_assign hf rfl) fun a hf => ?_
      refine pl_nil ?_
      refine then_n ?_
      refine wp_ret ?_
      obtain rfl := some_inj h
      have hM := hM.outs (own' := []) 0 rfl
      exact leave1 hf rfl rfl ⟨rfl, hM.fin, hv66⟩

set_option maxRecDepth 100000 in
set_option maxHeartbeats 4000000 in
theorem r_laws_FnExactGridText (C : Cx) (aG1 : Grid) (hp2 : R64 aG1.Rows) (hp3 : R64 aG1.Cols) (hp4 : aG1.Cells.length ≤ maxLen) (r : Bool) (h : m_laws_FnExactGridText aG1 = some r) :
    Calls Try.prog 13 #[.agg #[vI (aG1.Rows), vI (aG1.Cols), vS (aG1.Cells)]] C.w0 fun e w => e = .returned (.bool (r)) ∧ Mem C w [] [] := by
  have hM := Mem.begin C [] trivial
  refine enter Try.func13 rfl Try.ntmps13 rfl fun a hf => ?_
  unfold m_laws_FnExactGridText at h
  refine wp_seq ?_
  refine region_pl ?_
  refine pl_l hf rfl rfl rfl (w_box hf hM (cs := [vI (aG1.Rows), vI (aG1.Cols), vS (aG1.Cells)]) rfl rfl fun b5 w6 hx7 hM a hf => ?_)
  refine q_ hf rfl rfl rfl (e_assign hf rfl) fun a hf => ?_
  refine pl_nil ?_
  refine then_n ?_
  refine wp_seq ?_
  refine region_pl ?_
  refine q_ hf rfl rfl rfl (e_assign hf rfl) fun a hf => ?_
  refine pl_nil ?_
  refine then_n ?_
  refine wp_seq ?_
  refine region_pl ?_
  refine q_ hf rfl rfl rfl (e_loadA hf (us := [vI (aG1.Rows), vI (aG1.Cols), vS (aG1.Cells)]) rfl ⟨Try.isAgg26, Try.sizeOf26⟩ rfl (hM.boxSub (k := 0) (us := [vI (aG1.Rows), vI (aG1.Cols), vS (aG1.Cells)]) (o := 0) rfl rfl)) fun a hf => ?_
  refine q_ hf rfl rfl rfl (e_move hf rfl) fun a hf => ?_
  obtain ⟨y9, hz10, h⟩ := bind_some h
  refine pl_l hf rfl rfl rfl (w_call hf Try.call17 rfl (r_laws_szGrid ⟨_, Sh C _ _, none_, hM.sh_lt, none_not⟩ aG1 hp2 hp3 hp4 1048576 (R64_lit rfl) _ hz10) ?_)
  rintro _ w12 ⟨rfl, hM2, hv11⟩
  obtain ⟨hM, hx13, hup14⟩ := hM.back hM2
  dsimp only [List.cons_append, List.nil_append] at hM hup14
  clear hM2
  refine ⟨_, rfl, fun a hf => ?_⟩
  refine q_ hf rfl rfl rfl (e_assign hf rfl) fun a hf => ?_
  refine pl_nil ?_
  refine then_n ?_
  refine wp_seq ?_
  refine wp_seq ?_
  refine region_pl ?_
  refine q_ hf rfl rfl rfl (e_move hf rfl) fun a hf => ?_
  refine q_ hf rfl rfl rfl (e_lt hf (x := y9) (y := 0) rfl rfl) fun a hf => ?_
  refine pl_nil ?_
  refine then_n ?_
  rcases cond_some h with ⟨hc15, h⟩ | ⟨hc15, h⟩
  · refine cond_t hf rfl hc15 ?_
    refine wp_seq ?_
    refine region_pl ?_
    refine q_ hf rfl rfl rfl (e_assign hf rfl) fun a hf => ?_
    refine pl_nil ?_
    refine then_n ?_
    refine wp_ret ?_
    refine then_r ?_
    obtain rfl := some_inj h
    have hM := hM.outs (own' := []) 0 rfl
    exact leave1 hf rfl rfl ⟨rfl, hM.fin⟩
  · refine cond_f hf rfl hc15 ?_
    refine wp_skip ?_
    refine then_n ?_
    refine wp_seq ?_
    refine region_pl ?_
    refine q_ hf rfl rfl rfl (e_loadA hf (us := [vI (aG1.Rows), vI (aG1.Cols), vS (aG1.Cells)]) rfl ⟨Try.isAgg26, Try.sizeOf26⟩ rfl (hM.boxSub (k := 0) (us := [vI (aG1.Rows), vI (aG1.Cols), vS (aG1.Cells)]) (o := 0) rfl rfl)) fun a hf => ?_
    obtain ⟨y16, hz17, h⟩ := bind_some h
    refine pl_l hf rfl rfl rfl (w_call hf Try.call19 rfl (r_laws_toGrid ⟨_, Sh C _ _, none_, hM.sh_lt, none_not⟩ aG1 hp2 hp3 hp4 _ hz17) ?_)
    rintro _ w21 ⟨rfl, hM2, hv18, hv19, hv20⟩
    obtain ⟨hM, hx22, hup23⟩ := hM.back hM2
    dsimp only [List.cons_append, List.nil_append] at hM hup23
    clear hM2
    refine ⟨_, rfl, fun a hf => ?_⟩
    obtain ⟨y24, hz25, h⟩ := bind_some h
    refine pl_l hf rfl rfl rfl (w_call hf Try.call50 rfl (r_spec_GridText ⟨_, Sh C _ _, none_, hM.sh_lt, none_not⟩ y16 hv18 hv19 hv20 _ hz25) ?_)
    rintro _ w27 ⟨rfl, hM2, hv26⟩
    obtain ⟨hM, hx28, hup29⟩ := hM.back hM2
    dsimp only [List.cons_append, List.nil_append] at hM hup29
    clear hM2
    refine ⟨_, rfl, fun a hf => ?_⟩
    refine q_ hf rfl rfl rfl (e_assign hf rfl) fun a hf => ?_
    refine pl_nil ?_
    refine then_n ?_
    refine wp_seq ?_
    refine region_pl ?_
    refine q_ hf rfl rfl rfl (e_loadA hf (us := [vI (aG1.Rows), vI (aG1.Cols), vS (aG1.Cells)]) rfl ⟨Try.isAgg26, Try.sizeOf26⟩ rfl (hM.boxSub (k := 0) (us := [vI (aG1.Rows), vI (aG1.Cols), vS (aG1.Cells)]) (o := 0) rfl rfl)) fun a hf => ?_
    obtain ⟨y30, hz31, h⟩ := bind_some h
    refine pl_l hf rfl rfl rfl (w_call hf Try.call19 rfl (r_laws_toGrid ⟨_, Sh C _ _, none_, hM.sh_lt, none_not⟩ aG1 hp2 hp3 hp4 _ hz31) ?_)
    rintro _ w35 ⟨rfl, hM2, hv32, hv33, hv34⟩
    obtain ⟨hM, hx36, hup37⟩ := hM.back hM2
    dsimp only [List.cons_append, List.nil_append] at hM hup37
    clear hM2
    refine ⟨_, rfl, fun a hf => ?_⟩
    obtain ⟨y38, hz39, h⟩ := bind_some h
    refine pl_l hf rfl rfl rfl (w_call hf Try.call51 rfl (r_impl_GridText ⟨_, Sh C _ _, none_, hM.sh_lt, none_not⟩ y30 hv32 hv33 hv34 _ hz39) ?_)
    rintro _ w41 ⟨rfl, hM2, hv40⟩
    obtain ⟨hM, hx42, hup43⟩ := hM.back hM2
    dsimp only [List.cons_append, List.nil_append] at hM hup43
    clear hM2
    refine ⟨_, rfl, fun a hf => ?_⟩
    refine q_ hf rfl rfl rfl (e_assign hf rfl) fun a hf => ?_
    refine pl_nil ?_
    refine then_n ?_
    refine wp_seq ?_
    refine wp_seq ?_
    refine region_pl ?_
    refine q_ hf rfl rfl rfl (e_move hf rfl) fun a hf => ?_
    refine q_ hf rfl rfl rfl (e_move hf rfl) fun a hf => ?_
    refine q_ hf rfl rfl rfl (e_neS hf (x := y38) (y := y24) rfl rfl) fun a hf => ?_
    refine pl_nil ?_
    refine then_n ?_
    rcases cond_some h with ⟨hc44, h⟩ | ⟨hc44, h⟩
    · refine cond_t hf rfl hc44 ?_
      refine wp_seq ?_
      refine region_pl ?_
      refine q_ hf rfl rfl rfl (e_assign hf rfl) fun a hf => ?_
      refine pl_nil ?_
      refine then_n ?_
      refine wp_ret ?_
      refine then_r ?_
      obtain rfl := some_inj h
      have hM := hM.outs (own' := []) 0 rfl
      exact leave1 hf rfl rfl ⟨rfl, hM.fin⟩
    · refine cond_f hf rfl hc44 ?_
      refine wp_skip ?_
      refine then_n ?_
      refine wp_seq ?_
      refine region_pl ?_
      refine q_ hf rfl rfl rfl (e_assign hf rfl) fun a hf => ?_
      refine pl_nil ?_
      refine then_n ?_
      refine wp_ret ?_
      obtain rfl := some_inj h
      have hM := hM.outs (own' := []) 0 rfl
      exact leave1 hf rfl rfl ⟨rfl, hM.fin⟩

end Go.Proofs.Ytdngdgjlcfbdhaa
