/- The functions that this law reaches do what their models say. Printed by gen.py. -/
import Derived.Test.YtgmikhdealhlfaaMod
namespace Go.Proofs.Ytgmikhdealhlfaa
open Go Go.RowKit
set_option linter.unusedSimpArgs false
set_option linter.unusedVariables false

def FnC_UInt8_to_Bool (fk : FuncId) (fc : List Value) (f : UInt8 → Option Bool) (C : Cx) : Prop := ∀ (x0 : UInt8) (r : Bool) (h : f x0 = some r),
    Calls Try.prog fk (([vB (x0)] : List Value) ++ fc).toArray C.w0 fun e w => e = .returned (.bool (r)) ∧ Mem C w [] []

theorem ei_5 : ElemInfo Try.prog 5 1 := elemInfo (by kernel_rfl)

theorem ei_75 : ElemInfo Try.prog 75 4 := elemInfo (by kernel_rfl)

theorem bp_27 : ∀ (fs : Array Field), some (TypeDesc.struct fs) = Try.prog.underlying 27 → ∀ w, (fs.mapM fun (f : Field) => do pure (f.offset, ← sizeOf f.type)).run Try.prog w = .ok #[(0, 1), (1, 1), (2, 1)] w := by
  intro fs h w
  rw [Try.underlying27] at h
  cases h
  simp

theorem bp_75 : ∀ (fs : Array Field), some (TypeDesc.struct fs) = Try.prog.underlying 75 → ∀ w, (fs.mapM fun (f : Field) => do pure (f.offset, ← sizeOf f.type)).run Try.prog w = .ok #[(0, 1), (1, 1), (2, 1), (3, 1)] w := by
  intro fs h w
  rw [Try.underlying75] at h
  cases h
  simp

set_option maxRecDepth 100000 in
set_option maxHeartbeats 4000000 in
theorem r_laws_szGrid (C : Cx) (a1 : Grid) (hp2 : R64 a1.Rows) (hp3 : R64 a1.Cols) (hp4 : a1.Cells.length ≤ maxLen) (left5 : Int) (hp6 : R64 left5) (r : Int) (h : m_laws_szGrid a1 left5 = some r) :
    Calls Try.prog 12 #[.agg #[vI (a1.Rows), vI (a1.Cols), vS (a1.Cells)], vI (left5)] C.w0 fun e w => e = .returned (vI (r)) ∧ Mem C w [] [] ∧ R64 r := by
  have hM := Mem.begin C [] trivial
  refine enter Try.func12 rfl Try.ntmps12 rfl fun a hf => ?_
  unfold m_laws_szGrid at h
  refine wp_seq ?_
  refine region_pl ?_
  refine pl_l hf rfl rfl rfl (w_box hf hM (cs := [vI (a1.Rows), vI (a1.Cols), vS (a1.Cells)]) rfl rfl fun b7 w8 hx9 hM a hf => ?_)
  refine q_ hf rfl rfl rfl (e_assign hf rfl) fun a hf => ?_
  refine pl_nil ?_
  refine then_n ?_
  refine wp_seq ?_
  refine region_pl ?_
  refine q_ hf rfl rfl rfl (e_move hf rfl) fun a hf => ?_
  refine q_ hf rfl rfl rfl (e_field hf rfl Try.underlying23 rfl Try.sizeOf9 (o' := 2) rfl) fun a hf => ?_
  refine q_ hf rfl rfl rfl (e_load1 hf rfl Try.isAgg9 (hM.boxCell (k := 0) rfl rfl)) fun a hf => ?_
  refine q_ hf rfl rfl rfl (e_lenS hf (x := a1.Cells) rfl Try.underlying9) fun a hf => ?_
  obtain ⟨z11, hz12, h⟩ := bind_some h
  refine q_ hf rfl rfl rfl (e_sub hf rfl rfl hz12) fun a hf => ?_
  refine q_ hf rfl rfl rfl (e_assign hf rfl) fun a hf => ?_
  refine pl_nil ?_
  refine then_n ?_
  refine wp_seq ?_
  refine wp_seq ?_
  refine region_pl ?_
  refine q_ hf rfl rfl rfl (e_move hf rfl) fun a hf => ?_
  refine q_ hf rfl rfl rfl (e_lt hf (x := z11) (y := 0) rfl rfl) fun a hf => ?_
  refine pl_nil ?_
  refine then_n ?_
  rcases cond_some h with ⟨hc13, h⟩ | ⟨hc13, h⟩
  · refine cond_t hf rfl hc13 ?_
    refine wp_seq ?_
    refine region_pl ?_
    refine q_ hf rfl rfl rfl (e_assign hf rfl) fun a hf => ?_
    refine pl_nil ?_
    refine then_n ?_
    refine wp_ret ?_
    refine then_r ?_
    obtain rfl := some_inj h
    have hM := hM.outs (own' := []) 0 rfl
    exact leave1 hf rfl rfl ⟨rfl, hM.fin, (R64_lit rfl)⟩
  · refine cond_f hf rfl hc13 ?_
    refine wp_skip ?_
    refine then_n ?_
    refine wp_seq ?_
    refine region_pl ?_
    refine q_ hf rfl rfl rfl (e_move hf rfl) fun a hf => ?_
    refine q_ hf rfl rfl rfl (e_assign hf rfl) fun a hf => ?_
    refine pl_nil ?_
    refine then_n ?_
    refine wp_ret ?_
    obtain rfl := some_inj h
    have hM := hM.outs (own' := []) 0 rfl
    exact leave1 hf rfl rfl ⟨rfl, hM.fin, (chk_R hz12)⟩

set_option maxRecDepth 100000 in
set_option maxHeartbeats 4000000 in
theorem r_laws_toGrid (C : Cx) (a1 : Grid) (hp2 : R64 a1.Rows) (hp3 : R64 a1.Cols) (hp4 : a1.Cells.length ≤ maxLen) (r : Grid) (h : m_laws_toGrid a1 = some r) :
    Calls Try.prog 14 #[.agg #[vI (a1.Rows), vI (a1.Cols), vS (a1.Cells)]] C.w0 fun e w => e = .returned (.agg #[vI (r.Rows), vI (r.Cols), vS (r.Cells)]) ∧ Mem C w [] [] ∧ R64 r.Rows ∧ R64 r.Cols ∧ r.Cells.length ≤ maxLen := by
  have hM := Mem.begin C [] trivial
  refine enter Try.func14 rfl Try.ntmps14 rfl fun a hf => ?_
  unfold m_laws_toGrid at h
  refine wp_seq ?_
  refine region_pl ?_
  refine pl_l hf rfl rfl rfl (w_box hf hM (cs := [vI (a1.Rows), vI (a1.Cols), vS (a1.Cells)]) rfl rfl fun b5 w6 hx7 hM a hf => ?_)
  refine pl_l hf rfl rfl rfl (w_alloc hM (cs := [vI (0), vI (0), vS (([] : Str))]) Try.zeroValue27 rfl fun b9 w10 hx11 hM a hf => ?_)
  refine pl_nil ?_
  refine then_n ?_
  refine wp_seq ?_
  refine region_pl ?_
  refine pl_l hf rfl rfl rfl (w_alloc hM (cs := [vI (0), vI (0), vS (([] : Str))]) Try.zeroValue27 rfl fun b13 w14 hx15 hM a hf => ?_)
  refine pl_nil ?_
  refine then_n ?_
  refine wp_seq ?_
  refine region_pl ?_
  refine q_ hf rfl rfl rfl (e_field hf rfl Try.underlying23 rfl Try.sizeOf2 (o' := 0) rfl) fun a hf => ?_
  refine q_ hf rfl rfl rfl (e_load1 hf rfl Try.isAgg2 (hM.boxCell (k := 2) rfl rfl)) fun a hf => ?_
  refine q_ hf rfl rfl rfl (e_field hf rfl Try.underlying27 rfl Try.sizeOf2 (o' := 0) rfl) fun a hf => ?_
  refine pl_0 hf rfl rfl (w_store hf hM (us := [vI (a1.Rows)]) (cs' := [vI (a1.Rows), vI (0), vS (([] : Str))]) rfl rfl (k := 0) rfl rfl Try.sizeOf2 rfl rfl rfl fun w17 hM => ?_)
  dsimp only [List.set] at hM
  refine pl_nil ?_
  refine then_n ?_
  refine wp_seq ?_
  refine region_pl ?_
  refine q_ hf rfl rfl rfl (e_field hf rfl Try.underlying23 rfl Try.sizeOf2 (o' := 1) rfl) fun a hf => ?_
  refine q_ hf rfl rfl rfl (e_load1 hf rfl Try.isAgg2 (hM.boxCell (k := 2) rfl rfl)) fun a hf => ?_
  refine q_ hf rfl rfl rfl (e_field hf rfl Try.underlying27 rfl Try.sizeOf2 (o' := 1) rfl) fun a hf => ?_
  refine pl_0 hf rfl rfl (w_store hf hM (us := [vI (a1.Cols)]) (cs' := [vI (a1.Rows), vI (a1.Cols), vS (([] : Str))]) rfl rfl (k := 0) rfl rfl Try.sizeOf2 rfl rfl rfl fun w20 hM => ?_)
  dsimp only [List.set] at hM
  refine pl_nil ?_
  refine then_n ?_
  refine wp_seq ?_
  refine region_pl ?_
  refine q_ hf rfl rfl rfl (e_field hf rfl Try.underlying23 rfl Try.sizeOf9 (o' := 2) rfl) fun a hf => ?_
  refine q_ hf rfl rfl rfl (e_load1 hf rfl Try.isAgg9 (hM.boxCell (k := 2) rfl rfl)) fun a hf => ?_
  refine q_ hf rfl rfl rfl (e_field hf rfl Try.underlying27 rfl Try.sizeOf9 (o' := 2) rfl) fun a hf => ?_
  refine pl_0 hf rfl rfl (w_store hf hM (us := [vS (a1.Cells)]) (cs' := [vI (a1.Rows), vI (a1.Cols), vS (a1.Cells)]) rfl rfl (k := 0) rfl rfl Try.sizeOf9 rfl rfl rfl fun w23 hM => ?_)
  dsimp only [List.set] at hM
  refine pl_nil ?_
  refine then_n ?_
  refine wp_seq ?_
  refine region_pl ?_
  refine q_ hf rfl rfl rfl (e_loadA hf (us := [vI (a1.Rows), vI (a1.Cols), vS (a1.Cells)]) rfl ⟨Try.isAgg27, Try.sizeOf27⟩ rfl (hM.boxSub (k := 0) (us := [vI (a1.Rows), vI (a1.Cols), vS (a1.Cells)]) (o := 0) rfl rfl)) fun a hf => ?_
  refine pl_0 hf rfl rfl (w_store hf hM (us := [vI (a1.Rows), vI (a1.Cols), vS (a1.Cells)]) (cs' := [vI (a1.Rows), vI (a1.Cols), vS (a1.Cells)]) rfl rfl (k := 1) rfl rfl Try.sizeOf27 rfl rfl rfl fun w26 hM => ?_)
  dsimp only [List.set] at hM
  refine pl_nil ?_
  refine then_n ?_
  refine wp_ret ?_
  obtain rfl := some_inj h
  have hres29 := leaveV1 (P := Try.prog) Try.results14 (res_agg hf rfl ⟨Try.isAgg27, Try.sizeOf27⟩ (us := [vI (a1.Rows), vI (a1.Cols), vS (a1.Cells)]) rfl (hM.boxSub (k := 1) (o := 0) rfl rfl))
  have hM := hM.outs (own' := []) 0 rfl
  exact bodyPost_ret hres29 hf.defers ⟨rfl, hM.fin, hp2, hp3, hp4⟩

set_option maxRecDepth 100000 in
set_option maxHeartbeats 4000000 in
theorem r_spec_l00In (C : Cx) (n1 : Int) (hp2 : R64 n1) (low3 : Int) (hp4 : R64 low3) (high5 : Int) (hp6 : R64 high5) (r : Bool) (h : m_spec_l00In n1 low3 high5 = some r) :
    Calls Try.prog 82 #[vI (n1), vI (low3), vI (high5)] C.w0 fun e w => e = .returned (.bool (r)) ∧ Mem C w [] [] := by
  have hM := Mem.begin C [] trivial
  refine enter Try.func82 rfl Try.ntmps82 rfl fun a hf => ?_
  unfold m_spec_l00In at h
  refine wp_seq ?_
  refine region_pl ?_
  refine q_ hf rfl rfl rfl (e_assign hf rfl) fun a hf => ?_
  refine pl_nil ?_
  refine then_n ?_
  obtain ⟨x9, h10, h⟩ := bind_some h
  refine seq_join (fun a w => ∃ (t7 : Bool), t7 = x9 ∧ Has 15 a [(6, .bool (t7))] ∧ Mem C w [] []) ?_ ?_
  · refine region_pl ?_
    refine q_ hf rfl rfl rfl (e_move hf rfl) fun a hf => ?_
    refine q_ hf rfl rfl rfl (e_move hf rfl) fun a hf => ?_
    refine q_ hf rfl rfl rfl (e_ge hf (x := n1) (y := low3) rfl rfl) fun a hf => ?_
    refine q_ hf rfl rfl rfl (e_move hf rfl) fun a hf => ?_
    rcases cond_some h10 with ⟨hc11, h10⟩ | ⟨hc11, h10⟩
    · refine gq (wanted_t hf rfl rfl rfl rfl hc11) hf rfl rfl (e_move hf rfl) fun a hf => ?_
      refine gq (wanted_t hf rfl rfl rfl rfl hc11) hf rfl rfl (e_move hf rfl) fun a hf => ?_
      refine gq (wanted_t hf rfl rfl rfl rfl hc11) hf rfl rfl (e_le hf (x := n1) (y := high5) rfl rfl) fun a hf => ?_
      refine q_ hf rfl rfl rfl (e_pick_t hf rfl hc11 rfl) fun a hf => ?_
      refine q_ hf rfl rfl rfl (e_assign hf rfl) fun a hf => ?_
      refine pl_nil ?_
      obtain rfl := some_inj h10
      refine then_n ?_
      exact ⟨(decide (n1 ≤ high5)), rfl, hf.keep ⟨rfl, trivial⟩, hM.pick [] rfl⟩
    · refine pl_gs (wanted_f hf rfl rfl rfl rfl hc11) hf rfl rfl fun a hf => ?_
      refine pl_gs (wanted_f hf rfl rfl rfl rfl hc11) hf rfl rfl fun a hf => ?_
      refine pl_gs (wanted_f hf rfl rfl rfl rfl hc11) hf rfl rfl fun a hf => ?_
      refine q_ hf rfl rfl rfl (e_pick_f hf rfl hc11 rfl) fun a hf => ?_
      refine q_ hf rfl rfl rfl (e_assign hf rfl) fun a hf => ?_
      refine pl_nil ?_
      obtain rfl := some_inj h10
      refine then_n ?_
      exact ⟨false, rfl, hf.keep ⟨rfl, trivial⟩, hM.pick [] rfl⟩
  · rintro a w14 ⟨t7, rfl, hf, hM⟩
    try dsimp only at h
    refine wp_ret ?_
    obtain rfl := some_inj h
    exact leave1 hf rfl rfl ⟨rfl, hM.fin⟩

set_option maxRecDepth 100000 in
set_option maxHeartbeats 4000000 in
theorem r_spec_l01Small (C : Cx) (c1 : UInt8) (r : Bool) (h : m_spec_l01Small c1 = some r) :
    Calls Try.prog 87 #[vB (c1)] C.w0 fun e w => e = .returned (.bool (r)) ∧ Mem C w [] [] := by
  have hM := Mem.begin C [] trivial
  refine enter Try.func87 rfl Try.ntmps87 rfl fun a hf => ?_
  unfold m_spec_l01Small at h
  refine wp_seq ?_
  refine region_pl ?_
  refine q_ hf rfl rfl rfl (e_assign hf rfl) fun a hf => ?_
  refine pl_nil ?_
  refine then_n ?_
  obtain ⟨x4, h5, h⟩ := bind_some h
  refine seq_join (fun a w => ∃ (t2 : Bool), t2 = x4 ∧ Has 9 a [(2, .bool (t2))] ∧ Mem C w [] []) ?_ ?_
  · refine region_pl ?_
    refine q_ hf rfl rfl rfl (e_move hf rfl) fun a hf => ?_
    refine q_ hf rfl rfl rfl (e_geB hf (x := c1) (y := 97) rfl rfl) fun a hf => ?_
    refine q_ hf rfl rfl rfl (e_move hf rfl) fun a hf => ?_
    rcases cond_some h5 with ⟨hc6, h5⟩ | ⟨hc6, h5⟩
    · refine gq (wanted_t hf rfl rfl rfl rfl hc6) hf rfl rfl (e_move hf rfl) fun a hf => ?_
      refine gq (wanted_t hf rfl rfl rfl rfl hc6) hf rfl rfl (e_leB hf (x := c1) (y := 122) rfl rfl) fun a hf => ?_
      refine q_ hf rfl rfl rfl (e_pick_t hf rfl hc6 rfl) fun a hf => ?_
      refine q_ hf rfl rfl rfl (e_assign hf rfl) fun a hf => ?_
      refine pl_nil ?_
      obtain rfl := some_inj h5
      refine then_n ?_
      exact ⟨(decide (c1 ≤ 122)), rfl, hf.keep ⟨rfl, trivial⟩, hM.pick [] rfl⟩
    · refine pl_gs (wanted_f hf rfl rfl rfl rfl hc6) hf rfl rfl fun a hf => ?_
      refine pl_gs (wanted_f hf rfl rfl rfl rfl hc6) hf rfl rfl fun a hf => ?_
      refine q_ hf rfl rfl rfl (e_pick_f hf rfl hc6 rfl) fun a hf => ?_
      refine q_ hf rfl rfl rfl (e_assign hf rfl) fun a hf => ?_
      refine pl_nil ?_
      obtain rfl := some_inj h5
      refine then_n ?_
      exact ⟨false, rfl, hf.keep ⟨rfl, trivial⟩, hM.pick [] rfl⟩
  · rintro a w9 ⟨t2, rfl, hf, hM⟩
    try dsimp only at h
    refine wp_ret ?_
    obtain rfl := some_inj h
    exact leave1 hf rfl rfl ⟨rfl, hM.fin⟩

set_option maxRecDepth 100000 in
set_option maxHeartbeats 4000000 in
theorem r_spec_l25Ok (C : Cx) (g1 : Grid) (b2 : Nat) (o3 : Nat) (hp4 : (ptrRep GridRep).R C.w0 C.S0 g1 [vP b2 o3]) (r : Bool) (h : m_spec_l25Ok g1 = some r) :
    Calls Try.prog 54 #[vP b2 (o3)] C.w0 fun e w => e = .returned (.bool (r)) ∧ Mem C w [] [] := by
  have hM := Mem.begin C [.dat (ptrRep GridRep) g1 [vP b2 o3]] ⟨hp4, trivial⟩
  refine enter Try.func54 rfl Try.ntmps54 rfl fun a hf => ?_
  unfold m_spec_l25Ok at h
  refine wp_seq ?_
  refine region_pl ?_
  refine q_ hf rfl rfl rfl (e_assign hf rfl) fun a hf => ?_
  refine pl_nil ?_
  refine then_n ?_
  refine wp_seq ?_
  obtain ⟨x7, h8, h⟩ := bind_some h
  refine seq_join (fun a w => ∃ (t5 : Bool), t5 = x7 ∧ Has 70 a [(0, vP b2 (o3)), (34, .bool (t5))] ∧ Mem C w [] [.dat (ptrRep GridRep) g1 [vP b2 o3]]) ?_ ?_
  · obtain ⟨w9, hw⟩ : ∃ x, x = C.w0.drew := ⟨_, rfl⟩
    refine region_pi (.q 0 (.q 1 (.q 2 (.q 3 (.l 4 (.q 5 (.q 6 (.q 7 (.q 8 (.q 9 (.q 10 (.l 11 (.q 12 (.q 13 (.q 14 (.q 15 (.q 16 (.q 17 (.q 18 (.q 19 (.q 20 (.q 21 (.q 22 (.q 23 (.q 24 (.q 25 (.q 26 (.q 27 (.q 28 (.q 29 (.q 30 (.nil)))))))))))))))))))))))))))))))) (Ext w9) rfl (by kernel_rfl) ?_
    have hM := hM.drew
    rw [← hw] at hM ⊢
    clear hw
    refine pi_q hf rfl rfl rfl rfl (Ext.refl _) (e_move hf rfl) fun a hf => ?_
    refine pi_q hf rfl rfl rfl rfl (Ext.refl _) (e_nil hf rfl) fun a hf => ?_
    obtain ⟨_, hr10, hM⟩ := hM.deref (hM.dat (k := 0) rfl)
    obtain ⟨rfl, hv11, hv12, hv13⟩ := GridRep_open hr10
    refine pi_q hf rfl rfl rfl rfl (Ext.refl _) (e_field hf rfl Try.underlying27 rfl Try.sizeOf2 (o' := o3 + 0) rfl) fun a hf => ?_
    refine pi_q hf rfl rfl rfl rfl (Ext.refl _) (e_load1 hf rfl Try.isAgg2 (hM.litCell (k := 0) (j := 0) rfl rfl rfl)) fun a hf => ?_
    refine pi_one ?_
    obtain ⟨y14, hz15, h8⟩ := bind_some h8
    refine pi_l hf rfl rfl rfl rfl (w_call hf Try.call82 rfl (r_spec_l00In ⟨_, Sh C _ _, none_, hM.sh_lt, none_not⟩ g1.Rows hv11 1 (R64_lit rfl) 5 (R64_lit rfl) _ hz15) ?_)
    rintro _ w16 ⟨rfl, hM2⟩
    obtain ⟨hM, hx17, hup18⟩ := hM.back hM2
    dsimp only [List.cons_append, List.nil_append] at hM hup18
    clear hM2
    refine ⟨_, rfl, Ext w16, fun _ h => Ext.trans hx17 h, Ext.refl _, fun a hf => ?_⟩
    refine pi_q hf rfl rfl rfl rfl (Ext.refl _) (e_not hf rfl) fun a hf => ?_
    refine pi_q hf rfl rfl rfl rfl (Ext.refl _) (e_move hf rfl) fun a hf => ?_
    rcases cond_some h8 with ⟨hc19, h8⟩ | ⟨hc19, h8⟩
    · refine pi_gs hf rfl (wanted_f hf rfl rfl rfl rfl hc19) rfl rfl (Ext.refl _) fun a hf => ?_
      refine pi_gs hf rfl (wanted_f hf rfl rfl rfl rfl hc19) rfl rfl (Ext.refl _) fun a hf => ?_
      refine pi_gs hf rfl (wanted_f hf rfl rfl rfl rfl hc19) rfl rfl (Ext.refl _) fun a hf => ?_
      refine pi_gs hf rfl (wanted_f hf rfl rfl rfl rfl hc19) rfl rfl (Ext.refl _) fun a hf => ?_
      refine pi_one ?_
      refine pi_ls hf rfl (wanted_f hf rfl rfl rfl rfl hc19) rfl rfl (Ext.refl _) fun a hf => ?_
      refine pi_gs hf rfl (wanted_f hf rfl rfl rfl rfl hc19) rfl rfl (Ext.refl _) fun a hf => ?_
      refine pi_q hf rfl rfl rfl rfl (Ext.refl _) (e_pick_t hf rfl hc19 rfl) fun a hf => ?_
      refine pi_q hf rfl rfl rfl rfl (Ext.refl _) (e_move hf rfl) fun a hf => ?_
      refine pi_gs hf rfl (wanted_f hf rfl rfl rfl rfl rfl) rfl rfl (Ext.refl _) fun a hf => ?_
      refine pi_gs hf rfl (wanted_f hf rfl rfl rfl rfl rfl) rfl rfl (Ext.refl _) fun a hf => ?_
      refine pi_gs hf rfl (wanted_f hf rfl rfl rfl rfl rfl) rfl rfl (Ext.refl _) fun a hf => ?_
      refine pi_gs hf rfl (wanted_f hf rfl rfl rfl rfl rfl) rfl rfl (Ext.refl _) fun a hf => ?_
      refine pi_gs hf rfl (wanted_f hf rfl rfl rfl rfl rfl) rfl rfl (Ext.refl _) fun a hf => ?_
      refine pi_gs hf rfl (wanted_f hf rfl rfl rfl rfl rfl) rfl rfl (Ext.refl _) fun a hf => ?_
      refine pi_gs hf rfl (wanted_f hf rfl rfl rfl rfl rfl) rfl rfl (Ext.refl _) fun a hf => ?_
      refine pi_gs hf rfl (wanted_f hf rfl rfl rfl rfl rfl) rfl rfl (Ext.refl _) fun a hf => ?_
      refine pi_gs hf rfl (wanted_f hf rfl rfl rfl rfl rfl) rfl rfl (Ext.refl _) fun a hf => ?_
      refine pi_gs hf rfl (wanted_f hf rfl rfl rfl rfl rfl) rfl rfl (Ext.refl _) fun a hf => ?_
      refine pi_gs hf rfl (wanted_f hf rfl rfl rfl rfl rfl) rfl rfl (Ext.refl _) fun a hf => ?_
      refine pi_gs hf rfl (wanted_f hf rfl rfl rfl rfl rfl) rfl rfl (Ext.refl _) fun a hf => ?_
      refine pi_gs hf rfl (wanted_f hf rfl rfl rfl rfl rfl) rfl rfl (Ext.refl _) fun a hf => ?_
      refine pi_gs hf rfl (wanted_f hf rfl rfl rfl rfl rfl) rfl rfl (Ext.refl _) fun a hf => ?_
      refine pi_gs hf rfl (wanted_f hf rfl rfl rfl rfl rfl) rfl rfl (Ext.refl _) fun a hf => ?_
      refine pi_q hf rfl rfl rfl rfl (Ext.refl _) (e_pick_t hf rfl rfl rfl) fun a hf => ?_
      refine pi_nil ?_
      obtain rfl := some_inj h8
      refine then_n ?_
      exact ⟨true, rfl, hf.keep ⟨rfl, rfl, trivial⟩, hM.pick [1] rfl⟩
    · refine pi_gq hf rfl (wanted_t hf rfl rfl rfl rfl hc19) rfl rfl (Ext.refl _) (e_move hf rfl) fun a hf => ?_
      refine pi_gq hf rfl (wanted_t hf rfl rfl rfl rfl hc19) rfl rfl (Ext.refl _) (e_nil hf rfl) fun a hf => ?_
      refine pi_gq hf rfl (wanted_t hf rfl rfl rfl rfl hc19) rfl rfl (Ext.refl _) (e_field hf rfl Try.underlying27 rfl Try.sizeOf2 (o' := o3 + 1) rfl) fun a hf => ?_
      refine pi_gq hf rfl (wanted_t hf rfl rfl rfl rfl hc19) rfl rfl (Ext.refl _) (e_load1 hf rfl Try.isAgg2 (hM.litCell (k := 0) (j := 1) rfl rfl rfl)) fun a hf => ?_
      refine pi_one ?_
      obtain ⟨y21, hz22, h8⟩ := bind_some h8
      refine pi_gl hf rfl (wanted_t hf rfl rfl rfl rfl hc19) rfl rfl (w_call hf Try.call82 rfl (r_spec_l00In ⟨_, Sh C _ _, none_, hM.sh_lt, none_not⟩ g1.Cols hv12 1 (R64_lit rfl) 5 (R64_lit rfl) _ hz22) ?_)
      rintro _ w23 ⟨rfl, hM2⟩
      obtain ⟨hM, hx24, hup25⟩ := hM.back hM2
      dsimp only [List.cons_append, List.nil_append] at hM hup25
      clear hM2
      refine ⟨_, rfl, Ext w23, fun _ h => Ext.trans hx24 h, Ext.refl _, fun a hf => ?_⟩
      refine pi_gq hf rfl (wanted_t hf rfl rfl rfl rfl hc19) rfl rfl (Ext.refl _) (e_not hf rfl) fun a hf => ?_
      refine pi_q hf rfl rfl rfl rfl (Ext.refl _) (e_pick_f hf rfl hc19 rfl) fun a hf => ?_
      refine pi_q hf rfl rfl rfl rfl (Ext.refl _) (e_move hf rfl) fun a hf => ?_
      rcases cond_some h8 with ⟨hc26, h8⟩ | ⟨hc26, h8⟩
      · refine pi_gs hf rfl (wanted_f hf rfl rfl rfl rfl hc26) rfl rfl (Ext.refl _) fun a hf => ?_
        refine pi_gs hf rfl (wanted_f hf rfl rfl rfl rfl hc26) rfl rfl (Ext.refl _) fun a hf => ?_
        refine pi_gs hf rfl (wanted_f hf rfl rfl rfl rfl hc26) rfl rfl (Ext.refl _) fun a hf => ?_
        refine pi_gs hf rfl (wanted_f hf rfl rfl rfl rfl hc26) rfl rfl (Ext.refl _) fun a hf => ?_
        refine pi_gs hf rfl (wanted_f hf rfl rfl rfl rfl hc26) rfl rfl (Ext.refl _) fun a hf => ?_
        refine pi_gs hf rfl (wanted_f hf rfl rfl rfl rfl hc26) rfl rfl (Ext.refl _) fun a hf => ?_
        refine pi_gs hf rfl (wanted_f hf rfl rfl rfl rfl hc26) rfl rfl (Ext.refl _) fun a hf => ?_
        refine pi_gs hf rfl (wanted_f hf rfl rfl rfl rfl hc26) rfl rfl (Ext.refl _) fun a hf => ?_
        refine pi_gs hf rfl (wanted_f hf rfl rfl rfl rfl hc26) rfl rfl (Ext.refl _) fun a hf => ?_
        refine pi_gs hf rfl (wanted_f hf rfl rfl rfl rfl hc26) rfl rfl (Ext.refl _) fun a hf => ?_
        refine pi_gs hf rfl (wanted_f hf rfl rfl rfl rfl hc26) rfl rfl (Ext.refl _) fun a hf => ?_
        refine pi_gs hf rfl (wanted_f hf rfl rfl rfl rfl hc26) rfl rfl (Ext.refl _) fun a hf => ?_
        refine pi_gs hf rfl (wanted_f hf rfl rfl rfl rfl hc26) rfl rfl (Ext.refl _) fun a hf => ?_
        refine pi_gs hf rfl (wanted_f hf rfl rfl rfl rfl hc26) rfl rfl (Ext.refl _) fun a hf => ?_
        refine pi_gs hf rfl (wanted_f hf rfl rfl rfl rfl hc26) rfl rfl (Ext.refl _) fun a hf => ?_
        refine pi_q hf rfl rfl rfl rfl (Ext.refl _) (e_pick_t hf rfl hc26 rfl) fun a hf => ?_
        refine pi_nil ?_
        obtain rfl := some_inj h8
        refine then_n ?_
        exact ⟨true, rfl, hf.keep ⟨rfl, rfl, trivial⟩, hM.pick [1] rfl⟩
      · refine pi_gq hf rfl (wanted_t hf rfl rfl rfl rfl hc26) rfl rfl (Ext.refl _) (e_move hf rfl) fun a hf => ?_
        refine pi_gq hf rfl (wanted_t hf rfl rfl rfl rfl hc26) rfl rfl (Ext.refl _) (e_nil hf rfl) fun a hf => ?_
        refine pi_gq hf rfl (wanted_t hf rfl rfl rfl rfl hc26) rfl rfl (Ext.refl _) (e_field hf rfl Try.underlying27 rfl Try.sizeOf9 (o' := o3 + 2) rfl) fun a hf => ?_
        refine pi_gq hf rfl (wanted_t hf rfl rfl rfl rfl hc26) rfl rfl (Ext.refl _) (e_load1 hf rfl Try.isAgg9 (hM.litCell (k := 0) (j := 2) rfl rfl rfl)) fun a hf => ?_
        refine pi_gq hf rfl (wanted_t hf rfl rfl rfl rfl hc26) rfl rfl (Ext.refl _) (e_lenS hf (x := g1.Cells) rfl Try.underlying9) fun a hf => ?_
        refine pi_gq hf rfl (wanted_t hf rfl rfl rfl rfl hc26) rfl rfl (Ext.refl _) (e_move hf rfl) fun a hf => ?_
        refine pi_gq hf rfl (wanted_t hf rfl rfl rfl rfl hc26) rfl rfl (Ext.refl _) (e_nil hf rfl) fun a hf => ?_
        refine pi_gq hf rfl (wanted_t hf rfl rfl rfl rfl hc26) rfl rfl (Ext.refl _) (e_field hf rfl Try.underlying27 rfl Try.sizeOf2 (o' := o3 + 0) rfl) fun a hf => ?_
        refine pi_gq hf rfl (wanted_t hf rfl rfl rfl rfl hc26) rfl rfl (Ext.refl _) (e_load1 hf rfl Try.isAgg2 (hM.litCell (k := 0) (j := 0) rfl rfl rfl)) fun a hf => ?_
        refine pi_gq hf rfl (wanted_t hf rfl rfl rfl rfl hc26) rfl rfl (Ext.refl _) (e_move hf rfl) fun a hf => ?_
        refine pi_gq hf rfl (wanted_t hf rfl rfl rfl rfl hc26) rfl rfl (Ext.refl _) (e_nil hf rfl) fun a hf => ?_
        refine pi_gq hf rfl (wanted_t hf rfl rfl rfl rfl hc26) rfl rfl (Ext.refl _) (e_field hf rfl Try.underlying27 rfl Try.sizeOf2 (o' := o3 + 1) rfl) fun a hf => ?_
        refine pi_gq hf rfl (wanted_t hf rfl rfl rfl rfl hc26) rfl rfl (Ext.refl _) (e_load1 hf rfl Try.isAgg2 (hM.litCell (k := 0) (j := 1) rfl rfl rfl)) fun a hf => ?_
        obtain ⟨z28, hz29, h8⟩ := bind_some h8
        refine pi_gq hf rfl (wanted_t hf rfl rfl rfl rfl hc26) rfl rfl (Ext.refl _) (e_mul hf rfl rfl hz29) fun a hf => ?_
        refine pi_gq hf rfl (wanted_t hf rfl rfl rfl rfl hc26) rfl rfl (Ext.refl _) (e_ne hf (x := (g1.Cells.length : Int)) (y := z28) rfl rfl) fun a hf => ?_
        refine pi_q hf rfl rfl rfl rfl (Ext.refl _) (e_pick_f hf rfl hc26 rfl) fun a hf => ?_
        refine pi_nil ?_
        obtain rfl := some_inj h8
        refine then_n ?_
        exact ⟨((g1.Cells.length : Int) != z28), rfl, hf.keep ⟨rfl, rfl, trivial⟩, hM.pick [1] rfl⟩
  · rintro a w31 ⟨t5, rfl, hf, hM⟩
    try dsimp only at h
    rcases cond_some h with ⟨hc32, h⟩ | ⟨hc32, h⟩
    · refine cond_t hf rfl hc32 ?_
      refine wp_seq ?_
      refine region_pl ?_
      refine q_ hf rfl rfl rfl (e_assign hf rfl) fun a hf => ?_
      refine pl_nil ?_
      refine then_n ?_
      refine wp_ret ?_
      refine then_r ?_
      obtain rfl := some_inj h
      exact leave1 hf rfl rfl ⟨rfl, hM.fin⟩
    · refine cond_f hf rfl hc32 ?_
      refine wp_skip ?_
      refine then_n ?_
      obtain ⟨x33, h34, h⟩ := bind_some h
      refine seq_join (fun a w => (.inl ()) = x33 ∧ Has 70 a [] ∧ Mem C w [] [.dat (ptrRep GridRep) g1 [vP b2 o3]]) ?_ ?_
      · refine wp_seq ?_
        refine region_pl ?_
        refine q_ hf rfl rfl rfl (e_assign hf rfl) fun a hf => ?_
        refine pl_nil ?_
        refine then_n ?_
        refine wp_block ?_
        obtain ⟨x38, h39, h34⟩ := bind_some h34
        refine wp_loopM h39 (fun s a w => ∃ (n35 : Int), n35 = s ∧ Has 70 a [(0, vP b2 (o3)), (3, vI (n35))] ∧ Mem C w [] [.dat (ptrRep GridRep) g1 [vP b2 o3]] ∧ R64 n35) ?_ ?_
        · exact ⟨0, rfl, hf.keep ⟨rfl, rfl, trivial⟩, hM.pick [0] rfl, (R64_lit rfl)⟩
        · rintro s o40 a w37 ⟨n35, rfl, hf, hM, hv36⟩ h41 hd42
          replace h41 : m_spec_l25Ok_l1 g1 n35 = some o40 := h41
          unfold m_spec_l25Ok_l1 at h41
          refine wp_seq ?_
          refine wp_seq ?_
          refine region_pl ?_
          refine q_ hf rfl rfl rfl (e_move hf rfl) fun a hf => ?_
          refine q_ hf rfl rfl rfl (e_move hf rfl) fun a hf => ?_
          refine q_ hf rfl rfl rfl (e_nil hf rfl) fun a hf => ?_
          obtain ⟨_, hr43, hM⟩ := hM.deref (hM.dat (k := 0) rfl)
          obtain ⟨rfl, hv44, hv45, hv46⟩ := GridRep_open hr43
          refine q_ hf rfl rfl rfl (e_field hf rfl Try.underlying27 rfl Try.sizeOf9 (o' := o3 + 2) rfl) fun a hf => ?_
          refine q_ hf rfl rfl rfl (e_load1 hf rfl Try.isAgg9 (hM.litCell (k := 0) (j := 2) rfl rfl rfl)) fun a hf => ?_
          refine q_ hf rfl rfl rfl (e_lenS hf (x := g1.Cells) rfl Try.underlying9) fun a hf => ?_
          refine q_ hf rfl rfl rfl (e_lt hf (x := n35) (y := (g1.Cells.length : Int)) rfl rfl) fun a hf => ?_
          refine pl_nil ?_
          refine then_n ?_
          rcases cond_some h41 with ⟨hc47, h41⟩ | ⟨hc47, h41⟩
          · refine cond_t hf rfl hc47 ?_
            refine wp_skip ?_
            refine then_n ?_
            refine wp_seq ?_
            refine wp_block ?_
            obtain ⟨x50, h51, h41⟩ := bind_some h41
            refine seq_join (fun a w => ∃ (t48 : Bool), t48 = x50 ∧ Has 70 a [(0, vP b2 (o3)), (3, vI (n35)), (69, .bool (t48))] ∧ Mem C w [] [.lit b2 (o3) [vI (g1.Rows), vI (g1.Cols), vS (g1.Cells)], .dat (ptrRep GridRep) g1 [vP b2 o3]]) ?_ ?_
            · refine region_pl ?_
              refine q_ hf rfl rfl rfl (e_move hf rfl) fun a hf => ?_
              refine q_ hf rfl rfl rfl (e_nil hf rfl) fun a hf => ?_
              refine q_ hf rfl rfl rfl (e_field hf rfl Try.underlying27 rfl Try.sizeOf9 (o' := o3 + 2) rfl) fun a hf => ?_
              refine q_ hf rfl rfl rfl (e_load1 hf rfl Try.isAgg9 (hM.litCell (k := 0) (j := 2) rfl rfl rfl)) fun a hf => ?_
              refine q_ hf rfl rfl rfl (e_move hf rfl) fun a hf => ?_
              obtain ⟨c52, hz53, h51⟩ := bind_some h51
              refine q_ hf rfl rfl rfl (e_indexS hf (x := g1.Cells) rfl rfl Try.underlying9 hz53) fun a hf => ?_
              refine q_ hf rfl rfl rfl (e_neB hf (x := c52) (y := 35) rfl rfl) fun a hf => ?_
              refine q_ hf rfl rfl rfl (e_move hf rfl) fun a hf => ?_
              rcases cond_some h51 with ⟨hc54, h51⟩ | ⟨hc54, h51⟩
              · refine gq (wanted_t hf rfl rfl rfl rfl hc54) hf rfl rfl (e_move hf rfl) fun a hf => ?_
                refine gq (wanted_t hf rfl rfl rfl rfl hc54) hf rfl rfl (e_nil hf rfl) fun a hf => ?_
                refine gq (wanted_t hf rfl rfl rfl rfl hc54) hf rfl rfl (e_field hf rfl Try.underlying27 rfl Try.sizeOf9 (o' := o3 + 2) rfl) fun a hf => ?_
                refine gq (wanted_t hf rfl rfl rfl rfl hc54) hf rfl rfl (e_load1 hf rfl Try.isAgg9 (hM.litCell (k := 0) (j := 2) rfl rfl rfl)) fun a hf => ?_
                refine gq (wanted_t hf rfl rfl rfl rfl hc54) hf rfl rfl (e_move hf rfl) fun a hf => ?_
                obtain ⟨c55, hz56, h51⟩ := bind_some h51
                refine gq (wanted_t hf rfl rfl rfl rfl hc54) hf rfl rfl (e_indexS hf (x := g1.Cells) rfl rfl Try.underlying9 hz56) fun a hf => ?_
                refine gq (wanted_t hf rfl rfl rfl rfl hc54) hf rfl rfl (e_neB hf (x := c55) (y := 46) rfl rfl) fun a hf => ?_
                refine q_ hf rfl rfl rfl (e_pick_t hf rfl hc54 rfl) fun a hf => ?_
                refine q_ hf rfl rfl rfl (e_move hf rfl) fun a hf => ?_
                rcases cond_some h51 with ⟨hc57, h51⟩ | ⟨hc57, h51⟩
                · refine gq (wanted_t hf rfl rfl rfl rfl hc57) hf rfl rfl (e_move hf rfl) fun a hf => ?_
                  refine gq (wanted_t hf rfl rfl rfl rfl hc57) hf rfl rfl (e_nil hf rfl) fun a hf => ?_
                  refine gq (wanted_t hf rfl rfl rfl rfl hc57) hf rfl rfl (e_field hf rfl Try.underlying27 rfl Try.sizeOf9 (o' := o3 + 2) rfl) fun a hf => ?_
                  refine gq (wanted_t hf rfl rfl rfl rfl hc57) hf rfl rfl (e_load1 hf rfl Try.isAgg9 (hM.litCell (k := 0) (j := 2) rfl rfl rfl)) fun a hf => ?_
                  refine gq (wanted_t hf rfl rfl rfl rfl hc57) hf rfl rfl (e_move hf rfl) fun a hf => ?_
                  obtain ⟨c58, hz59, h51⟩ := bind_some h51
                  refine gq (wanted_t hf rfl rfl rfl rfl hc57) hf rfl rfl (e_indexS hf (x := g1.Cells) rfl rfl Try.underlying9 hz59) fun a hf => ?_
                  obtain ⟨y60, hz61, h51⟩ := bind_some h51
                  refine pl_gl (wanted_t hf rfl rfl rfl rfl hc57) hf rfl rfl (w_call hf Try.call87 rfl (r_spec_l01Small ⟨_, Sh C _ _, none_, hM.sh_lt, none_not⟩ c58 _ hz61) ?_)
                  rintro _ w62 ⟨rfl, hM2⟩
                  obtain ⟨hM, hx63, hup64⟩ := hM.back hM2
                  dsimp only [List.cons_append, List.nil_append] at hM hup64
                  clear hM2
                  refine ⟨_, rfl, fun a hf => ?_⟩
                  refine gq (wanted_t hf rfl rfl rfl rfl hc57) hf rfl rfl (e_not hf rfl) fun a hf => ?_
                  refine q_ hf rfl rfl rfl (e_pick_t hf rfl hc57 rfl) fun a hf => ?_
                  refine pl_nil ?_
                  obtain rfl := some_inj h51
                  refine then_n ?_
                  exact ⟨(!y60), rfl, hf.keep ⟨rfl, rfl, rfl, trivial⟩, hM.pick [0, 1] rfl⟩
                · refine pl_gs (wanted_f hf rfl rfl rfl rfl hc57) hf rfl rfl fun a hf => ?_
                  refine pl_gs (wanted_f hf rfl rfl rfl rfl hc57) hf rfl rfl fun a hf => ?_
                  refine pl_gs (wanted_f hf rfl rfl rfl rfl hc57) hf rfl rfl fun a hf => ?_
                  refine pl_gs (wanted_f hf rfl rfl rfl rfl hc57) hf rfl rfl fun a hf => ?_
                  refine pl_gs (wanted_f hf rfl rfl rfl rfl hc57) hf rfl rfl fun a hf => ?_
                  refine pl_gs (wanted_f hf rfl rfl rfl rfl hc57) hf rfl rfl fun a hf => ?_
                  refine pl_gs (wanted_f hf rfl rfl rfl rfl hc57) hf rfl rfl fun a hf => ?_
                  refine pl_gs (wanted_f hf rfl rfl rfl rfl hc57) hf rfl rfl fun a hf => ?_
                  refine q_ hf rfl rfl rfl (e_pick_f hf rfl hc57 rfl) fun a hf => ?_
                  refine pl_nil ?_
                  obtain rfl := some_inj h51
                  refine then_n ?_
                  exact ⟨false, rfl, hf.keep ⟨rfl, rfl, rfl, trivial⟩, hM.pick [0, 1] rfl⟩
              · refine pl_gs (wanted_f hf rfl rfl rfl rfl hc54) hf rfl rfl fun a hf => ?_
                refine pl_gs (wanted_f hf rfl rfl rfl rfl hc54) hf rfl rfl fun a hf => ?_
                refine pl_gs (wanted_f hf rfl rfl rfl rfl hc54) hf rfl rfl fun a hf => ?_
                refine pl_gs (wanted_f hf rfl rfl rfl rfl hc54) hf rfl rfl fun a hf => ?_
                refine pl_gs (wanted_f hf rfl rfl rfl rfl hc54) hf rfl rfl fun a hf => ?_
                refine pl_gs (wanted_f hf rfl rfl rfl rfl hc54) hf rfl rfl fun a hf => ?_
                refine pl_gs (wanted_f hf rfl rfl rfl rfl hc54) hf rfl rfl fun a hf => ?_
                refine q_ hf rfl rfl rfl (e_pick_f hf rfl hc54 rfl) fun a hf => ?_
                refine q_ hf rfl rfl rfl (e_move hf rfl) fun a hf => ?_
                refine pl_gs (wanted_f hf rfl rfl rfl rfl rfl) hf rfl rfl fun a hf => ?_
                refine pl_gs (wanted_f hf rfl rfl rfl rfl rfl) hf rfl rfl fun a hf => ?_
                refine pl_gs (wanted_f hf rfl rfl rfl rfl rfl) hf rfl rfl fun a hf => ?_
                refine pl_gs (wanted_f hf rfl rfl rfl rfl rfl) hf rfl rfl fun a hf => ?_
                refine pl_gs (wanted_f hf rfl rfl rfl rfl rfl) hf rfl rfl fun a hf => ?_
                refine pl_gs (wanted_f hf rfl rfl rfl rfl rfl) hf rfl rfl fun a hf => ?_
                refine pl_gs (wanted_f hf rfl rfl rfl rfl rfl) hf rfl rfl fun a hf => ?_
                refine pl_gs (wanted_f hf rfl rfl rfl rfl rfl) hf rfl rfl fun a hf => ?_
                refine q_ hf rfl rfl rfl (e_pick_f hf rfl rfl rfl) fun a hf => ?_
                refine pl_nil ?_
                obtain rfl := some_inj h51
                refine then_n ?_
                exact ⟨false, rfl, hf.keep ⟨rfl, rfl, rfl, trivial⟩, hM.pick [0, 1] rfl⟩
            · rintro a w68 ⟨t48, rfl, hf, hM⟩
              try dsimp only at h41
              rcases cond_some h41 with ⟨hc69, h41⟩ | ⟨hc69, h41⟩
              · refine cond_t hf rfl hc69 ?_
                refine wp_seq ?_
                refine region_pl ?_
                refine q_ hf rfl rfl rfl (e_assign hf rfl) fun a hf => ?_
                refine pl_nil ?_
                refine then_n ?_
                refine wp_ret ?_
                refine blk_r ?_
                refine then_r ?_
                obtain rfl := some_inj h41
                obtain rfl := hd42 _ rfl
                try dsimp only at h34
                refine then_r ?_
                refine blk_r ?_
                obtain rfl := some_inj h34
                try dsimp only at h
                refine then_r ?_
                obtain rfl := some_inj h
                exact leave1 hf rfl rfl ⟨rfl, hM.fin⟩
              · refine cond_f hf rfl hc69 ?_
                refine wp_skip ?_
                refine blk_n ?_
                refine then_n ?_
                refine region_pl ?_
                refine q_ hf rfl rfl rfl (e_move hf rfl) fun a hf => ?_
                obtain ⟨z70, hz71, h41⟩ := bind_some h41
                refine q_ hf rfl rfl rfl (e_add hf rfl rfl hz71) fun a hf => ?_
                refine q_ hf rfl rfl rfl (e_assign hf rfl) fun a hf => ?_
                refine pl_nil ?_
                obtain rfl := some_inj h41
                refine then_n ⟨_, rfl, ?_⟩
                exact ⟨z70, rfl, hf.keep ⟨rfl, rfl, trivial⟩, hM.pick [1] rfl, (chk_R hz71)⟩
          · refine cond_f hf rfl hc47 ?_
            refine wp_exit ?_
            refine then_x ?_
            obtain rfl := some_inj h41
            obtain rfl := hd42 _ rfl
            try dsimp only at h34
            refine then_x ?_
            refine exit_hit ?_
            obtain rfl := some_inj h34
            refine then_n ?_
            exact ⟨rfl, hf.keep trivial, hM.pick [1] rfl⟩
      · rintro a w78 ⟨rfl, hf, hM⟩
        try dsimp only at h
        refine wp_seq ?_
        refine region_pl ?_
        refine q_ hf rfl rfl rfl (e_assign hf rfl) fun a hf => ?_
        refine pl_nil ?_
        refine then_n ?_
        refine wp_ret ?_
        obtain rfl := some_inj h
        exact leave1 hf rfl rfl ⟨rfl, hM.fin⟩

set_option maxRecDepth 100000 in
set_option maxHeartbeats 4000000 in
theorem r_spec_l25At (C : Cx) (g1 : Grid) (b2 : Nat) (o3 : Nat) (hp4 : (ptrRep GridRep).R C.w0 C.S0 g1 [vP b2 o3]) (row5 : Int) (hp6 : R64 row5) (col7 : Int) (hp8 : R64 col7) (r : UInt8) (h : m_spec_l25At g1 row5 col7 = some r) :
    Calls Try.prog 108 #[vP b2 (o3), vI (row5), vI (col7)] C.w0 fun e w => e = .returned (vB (r)) ∧ Mem C w [] [] := by
  have hM := Mem.begin C [.dat (ptrRep GridRep) g1 [vP b2 o3]] ⟨hp4, trivial⟩
  refine enter Try.func108 rfl Try.ntmps108 rfl fun a hf => ?_
  unfold m_spec_l25At at h
  refine wp_seq ?_
  refine region_pl ?_
  refine q_ hf rfl rfl rfl (e_assign hf rfl) fun a hf => ?_
  refine pl_nil ?_
  refine then_n ?_
  refine wp_seq ?_
  obtain ⟨x11, h12, h⟩ := bind_some h
  refine seq_join (fun a w => ∃ (t9 : Bool), t9 = x11 ∧ Has 38 a [(0, vP b2 (o3)), (1, vI (row5)), (2, vI (col7)), (24, .bool (t9))] ∧ Mem C w [] [.dat (ptrRep GridRep) g1 [vP b2 o3]]) ?_ ?_
  · refine region_pl ?_
    refine q_ hf rfl rfl rfl (e_move hf rfl) fun a hf => ?_
    refine q_ hf rfl rfl rfl (e_move hf rfl) fun a hf => ?_
    refine q_ hf rfl rfl rfl (e_nil hf rfl) fun a hf => ?_
    obtain ⟨_, hr13, hM⟩ := hM.deref (hM.dat (k := 0) rfl)
    obtain ⟨rfl, hv14, hv15, hv16⟩ := GridRep_open hr13
    refine q_ hf rfl rfl rfl (e_field hf rfl Try.underlying27 rfl Try.sizeOf2 (o' := o3 + 0) rfl) fun a hf => ?_
    refine q_ hf rfl rfl rfl (e_load1 hf rfl Try.isAgg2 (hM.litCell (k := 0) (j := 0) rfl rfl rfl)) fun a hf => ?_
    obtain ⟨z17, hz18, h12⟩ := bind_some h12
    refine q_ hf rfl rfl rfl (e_sub hf rfl rfl hz18) fun a hf => ?_
    obtain ⟨y19, hz20, h12⟩ := bind_some h12
    refine pl_l hf rfl rfl rfl (w_call hf Try.call82 rfl (r_spec_l00In ⟨_, Sh C _ _, none_, hM.sh_lt, none_not⟩ row5 hp6 0 (R64_lit rfl) z17 (chk_R hz18) _ hz20) ?_)
    rintro _ w21 ⟨rfl, hM2⟩
    obtain ⟨hM, hx22, hup23⟩ := hM.back hM2
    dsimp only [List.cons_append, List.nil_append] at hM hup23
    clear hM2
    refine ⟨_, rfl, fun a hf => ?_⟩
    refine q_ hf rfl rfl rfl (e_not hf rfl) fun a hf => ?_
    refine q_ hf rfl rfl rfl (e_move hf rfl) fun a hf => ?_
    rcases cond_some h12 with ⟨hc24, h12⟩ | ⟨hc24, h12⟩
    · refine pl_gs (wanted_f hf rfl rfl rfl rfl hc24) hf rfl rfl fun a hf => ?_
      refine pl_gs (wanted_f hf rfl rfl rfl rfl hc24) hf rfl rfl fun a hf => ?_
      refine pl_gs (wanted_f hf rfl rfl rfl rfl hc24) hf rfl rfl fun a hf => ?_
      refine pl_gs (wanted_f hf rfl rfl rfl rfl hc24) hf rfl rfl fun a hf => ?_
      refine pl_gs (wanted_f hf rfl rfl rfl rfl hc24) hf rfl rfl fun a hf => ?_
      refine pl_gs (wanted_f hf rfl rfl rfl rfl hc24) hf rfl rfl fun a hf => ?_
      refine pl_gs (wanted_f hf rfl rfl rfl rfl hc24) hf rfl rfl fun a hf => ?_
      refine pl_gs (wanted_f hf rfl rfl rfl rfl hc24) hf rfl rfl fun a hf => ?_
      refine q_ hf rfl rfl rfl (e_pick_t hf rfl hc24 rfl) fun a hf => ?_
      refine pl_nil ?_
      obtain rfl := some_inj h12
      refine then_n ?_
      exact ⟨true, rfl, hf.keep ⟨rfl, rfl, rfl, rfl, trivial⟩, hM.pick [1] rfl⟩
    · refine gq (wanted_t hf rfl rfl rfl rfl hc24) hf rfl rfl (e_move hf rfl) fun a hf => ?_
      refine gq (wanted_t hf rfl rfl rfl rfl hc24) hf rfl rfl (e_move hf rfl) fun a hf => ?_
      refine gq (wanted_t hf rfl rfl rfl rfl hc24) hf rfl rfl (e_nil hf rfl) fun a hf => ?_
      refine gq (wanted_t hf rfl rfl rfl rfl hc24) hf rfl rfl (e_field hf rfl Try.underlying27 rfl Try.sizeOf2 (o' := o3 + 1) rfl) fun a hf => ?_
      refine gq (wanted_t hf rfl rfl rfl rfl hc24) hf rfl rfl (e_load1 hf rfl Try.isAgg2 (hM.litCell (k := 0) (j := 1) rfl rfl rfl)) fun a hf => ?_
      obtain ⟨z26, hz27, h12⟩ := bind_some h12
      refine gq (wanted_t hf rfl rfl rfl rfl hc24) hf rfl rfl (e_sub hf rfl rfl hz27) fun a hf => ?_
      obtain ⟨y28, hz29, h12⟩ := bind_some h12
      refine pl_gl (wanted_t hf rfl rfl rfl rfl hc24) hf rfl rfl (w_call hf Try.call82 rfl (r_spec_l00In ⟨_, Sh C _ _, none_, hM.sh_lt, none_not⟩ col7 hp8 0 (R64_lit rfl) z26 (chk_R hz27) _ hz29) ?_)
      rintro _ w30 ⟨rfl, hM2⟩
      obtain ⟨hM, hx31, hup32⟩ := hM.back hM2
      dsimp only [List.cons_append, List.nil_append] at hM hup32
      clear hM2
      refine ⟨_, rfl, fun a hf => ?_⟩
      refine gq (wanted_t hf rfl rfl rfl rfl hc24) hf rfl rfl (e_not hf rfl) fun a hf => ?_
      refine q_ hf rfl rfl rfl (e_pick_f hf rfl hc24 rfl) fun a hf => ?_
      refine pl_nil ?_
      obtain rfl := some_inj h12
      refine then_n ?_
      exact ⟨(!y28), rfl, hf.keep ⟨rfl, rfl, rfl, rfl, trivial⟩, hM.pick [1] rfl⟩
  · rintro a w34 ⟨t9, rfl, hf, hM⟩
    try dsimp only at h
    rcases cond_some h with ⟨hc35, h⟩ | ⟨hc35, h⟩
    · refine cond_t hf rfl hc35 ?_
      refine wp_seq ?_
      refine region_pl ?_
      refine q_ hf rfl rfl rfl (e_assign hf rfl) fun a hf => ?_
      refine pl_nil ?_
      refine then_n ?_
      refine wp_ret ?_
      refine then_r ?_
      obtain rfl := some_inj h
      exact leave1 hf rfl rfl ⟨rfl, hM.fin⟩
    · refine cond_f hf rfl hc35 ?_
      refine wp_skip ?_
      refine then_n ?_
      refine wp_seq ?_
      obtain ⟨w36, hw⟩ : ∃ x, x = w34.drew := ⟨_, rfl⟩
      refine region_pi (.q 0 (.q 1 (.q 2 (.q 3 (.q 4 (.q 5 (.q 6 (.q 7 (.q 8 (.q 9 (.q 10 (.q 11 (.q 12 (.q 13 (.nil))))))))))))))) (Ext w36) rfl (by kernel_rfl) ?_
      have hM := hM.drew
      rw [← hw] at hM ⊢
      clear hw
      refine pi_q hf rfl rfl rfl rfl (Ext.refl _) (e_move hf rfl) fun a hf => ?_
      refine pi_q hf rfl rfl rfl rfl (Ext.refl _) (e_nil hf rfl) fun a hf => ?_
      obtain ⟨_, hr37, hM⟩ := hM.deref (hM.dat (k := 0) rfl)
      obtain ⟨rfl, hv38, hv39, hv40⟩ := GridRep_open hr37
      refine pi_q hf rfl rfl rfl rfl (Ext.refl _) (e_field hf rfl Try.underlying27 rfl Try.sizeOf9 (o' := o3 + 2) rfl) fun a hf => ?_
      refine pi_q hf rfl rfl rfl rfl (Ext.refl _) (e_load1 hf rfl Try.isAgg9 (hM.litCell (k := 0) (j := 2) rfl rfl rfl)) fun a hf => ?_
      refine pi_q hf rfl rfl rfl rfl (Ext.refl _) (e_move hf rfl) fun a hf => ?_
      refine pi_q hf rfl rfl rfl rfl (Ext.refl _) (e_move hf rfl) fun a hf => ?_
      refine pi_q hf rfl rfl rfl rfl (Ext.refl _) (e_nil hf rfl) fun a hf => ?_
      refine pi_q hf rfl rfl rfl rfl (Ext.refl _) (e_field hf rfl Try.underlying27 rfl Try.sizeOf2 (o' := o3 + 1) rfl) fun a hf => ?_
      refine pi_q hf rfl rfl rfl rfl (Ext.refl _) (e_load1 hf rfl Try.isAgg2 (hM.litCell (k := 0) (j := 1) rfl rfl rfl)) fun a hf => ?_
      obtain ⟨z41, hz42, h⟩ := bind_some h
      refine pi_q hf rfl rfl rfl rfl (Ext.refl _) (e_mul hf rfl rfl hz42) fun a hf => ?_
      refine pi_q hf rfl rfl rfl rfl (Ext.refl _) (e_move hf rfl) fun a hf => ?_
      obtain ⟨z43, hz44, h⟩ := bind_some h
      refine pi_q hf rfl rfl rfl rfl (Ext.refl _) (e_add hf rfl rfl hz44) fun a hf => ?_
      obtain ⟨c45, hz46, h⟩ := bind_some h
      refine pi_q hf rfl rfl rfl rfl (Ext.refl _) (e_indexS hf (x := g1.Cells) rfl rfl Try.underlying9 hz46) fun a hf => ?_
      refine pi_q hf rfl rfl rfl rfl (Ext.refl _) (e_assign hf rfl) fun a hf => ?_
      refine pi_nil ?_
      refine then_n ?_
      refine wp_ret ?_
      obtain rfl := some_inj h
      exact leave1 hf rfl rfl ⟨rfl, hM.fin⟩

set_option maxRecDepth 100000 in
set_option maxHeartbeats 4000000 in
theorem r_spec_l25Across (C : Cx) (g1 : Grid) (b2 : Nat) (o3 : Nat) (hp4 : (ptrRep GridRep).R C.w0 C.S0 g1 [vP b2 o3]) (r : (List Slot)) (h : m_spec_l25Across g1 = some r) :
    Calls Try.prog 83 #[vP b2 (o3)] C.w0 fun e w => ∃ (A_1 : Option Addr), ∃ (c_1 : Nat), e = .returned (vL A_1 (r) c_1) ∧ Mem C w [.row SlotRep A_1 c_1 75 r true] [] := by
  have hM := Mem.begin C [.dat (ptrRep GridRep) g1 [vP b2 o3]] ⟨hp4, trivial⟩
  refine enter Try.func83 rfl Try.ntmps83 rfl fun a hf => ?_
  unfold m_spec_l25Across at h
  refine wp_seq ?_
  refine region_pl ?_
  refine q_ hf rfl rfl rfl (e_assign hf rfl) fun a hf => ?_
  refine pl_nil ?_
  refine then_n ?_
  refine wp_seq ?_
  refine region_pl ?_
  refine pl_l hf rfl rfl rfl (w_slice0 (K := SlotRep) hM Try.underlying30 ei_75 fun b5 w6 hx7 hM a hf => ?_)
  refine q_ hf rfl rfl rfl (e_assign hf rfl) fun a hf => ?_
  refine pl_nil ?_
  refine then_n ?_
  obtain ⟨x11, h12, h⟩ := bind_some h
  refine seq_join (fun a w => ∃ (xs8 : (List Slot)) (A9 : Option Addr) (c10 : Nat), xs8 = x11 ∧ Has 45 a [(3, vL A9 (xs8) c10)] ∧ Mem C w [.row SlotRep A9 c10 75 xs8 true] [.dat (ptrRep GridRep) g1 [vP b2 o3]]) ?_ ?_
  · refine wp_seq ?_
    refine region_pl ?_
    refine q_ hf rfl rfl rfl (e_assign hf rfl) fun a hf => ?_
    refine pl_nil ?_
    refine then_n ?_
    refine wp_block ?_
    obtain ⟨x22, h23, h12⟩ := bind_some h12
    refine wp_loopM h23 (fun s a w => ∃ (xs13 : (List Slot)) (c16 : Int) (A14 : Option Addr) (c15 : Nat), (xs13, c16) = s ∧ Has 45 a [(0, vP b2 (o3)), (3, vL A14 (xs13) c15), (4, vI (c16))] ∧ Mem C w [.row SlotRep A14 c15 75 xs13 true] [.dat (ptrRep GridRep) g1 [vP b2 o3]] ∧ R64 c16) ?_ ?_
    · exact ⟨([] : (List Slot)), 0, (some ⟨b5, 0, none⟩), 0, rfl, hf.keep ⟨rfl, rfl, rfl, trivial⟩, hM.pick [0] rfl, (R64_lit rfl)⟩
    · rintro s o24 a w18 ⟨xs13, c16, A14, c15, rfl, hf, hM, hv17⟩ h25 hd26
      replace h25 : m_spec_l25Across_l1 g1 xs13 c16 = some o24 := h25
      unfold m_spec_l25Across_l1 at h25
      refine wp_seq ?_
      refine wp_seq ?_
      refine region_pl ?_
      refine q_ hf rfl rfl rfl (e_move hf rfl) fun a hf => ?_
      refine q_ hf rfl rfl rfl (e_move hf rfl) fun a hf => ?_
      refine q_ hf rfl rfl rfl (e_nil hf rfl) fun a hf => ?_
      obtain ⟨_, hr27, hM⟩ := hM.deref (hM.dat (k := 0) rfl)
      obtain ⟨rfl, hv28, hv29, hv30⟩ := GridRep_open hr27
      refine q_ hf rfl rfl rfl (e_field hf rfl Try.underlying27 rfl Try.sizeOf2 (o' := o3 + 0) rfl) fun a hf => ?_
      refine q_ hf rfl rfl rfl (e_load1 hf rfl Try.isAgg2 (hM.litCell (k := 0) (j := 0) rfl rfl rfl)) fun a hf => ?_
      refine q_ hf rfl rfl rfl (e_lt hf (x := c16) (y := g1.Rows) rfl rfl) fun a hf => ?_
      refine pl_nil ?_
      refine then_n ?_
      rcases cond_some h25 with ⟨hc31, h25⟩ | ⟨hc31, h25⟩
      · refine cond_t hf rfl hc31 ?_
        refine wp_skip ?_
        refine then_n ?_
        obtain ⟨x35, h36, h25⟩ := bind_some h25
        refine seq_join (fun a w => ∃ (xs32 : (List Slot)) (A33 : Option Addr) (c34 : Nat), xs32 = x35 ∧ Has 45 a [(0, vP b2 (o3)), (3, vL A33 (xs32) c34), (4, vI (c16))] ∧ Mem C w [.row SlotRep A33 c34 75 xs32 true] [.lit b2 (o3) [vI (g1.Rows), vI (g1.Cols), vS (g1.Cells)], .dat (ptrRep GridRep) g1 [vP b2 o3]]) ?_ ?_
        · refine wp_block ?_
          refine wp_seq ?_
          refine region_pl ?_
          refine q_ hf rfl rfl rfl (e_assign hf rfl) fun a hf => ?_
          refine pl_nil ?_
          refine then_n ?_
          refine wp_block ?_
          obtain ⟨x46, h47, h36⟩ := bind_some h36
          refine wp_loopM h47 (fun s a w => ∃ (xs37 : (List Slot)) (n40 : Int) (A38 : Option Addr) (c39 : Nat), (xs37, n40) = s ∧ Has 45 a [(0, vP b2 (o3)), (3, vL A38 (xs37) c39), (4, vI (c16)), (5, vI (n40))] ∧ Mem C w [.row SlotRep A38 c39 75 xs37 true] [.lit b2 (o3) [vI (g1.Rows), vI (g1.Cols), vS (g1.Cells)], .dat (ptrRep GridRep) g1 [vP b2 o3]] ∧ R64 n40) ?_ ?_
          · exact ⟨xs13, 0, A14, c15, rfl, hf.keep ⟨rfl, rfl, rfl, rfl, trivial⟩, hM.pick [0, 1] rfl, (R64_lit rfl)⟩
          · rintro s o48 a w42 ⟨xs37, n40, A38, c39, rfl, hf, hM, hv41⟩ h49 hd50
            replace h49 : m_spec_l25Across_l2 g1 c16 xs37 n40 = some o48 := h49
            unfold m_spec_l25Across_l2 at h49
            refine wp_seq ?_
            refine wp_seq ?_
            refine region_pl ?_
            refine q_ hf rfl rfl rfl (e_move hf rfl) fun a hf => ?_
            refine q_ hf rfl rfl rfl (e_move hf rfl) fun a hf => ?_
            refine q_ hf rfl rfl rfl (e_nil hf rfl) fun a hf => ?_
            refine q_ hf rfl rfl rfl (e_field hf rfl Try.underlying27 rfl Try.sizeOf2 (o' := o3 + 1) rfl) fun a hf => ?_
            refine q_ hf rfl rfl rfl (e_load1 hf rfl Try.isAgg2 (hM.litCell (k := 0) (j := 1) rfl rfl rfl)) fun a hf => ?_
            refine q_ hf rfl rfl rfl (e_lt hf (x := n40) (y := g1.Cols) rfl rfl) fun a hf => ?_
            refine pl_nil ?_
            refine then_n ?_
            rcases cond_some h49 with ⟨hc51, h49⟩ | ⟨hc51, h49⟩
            · refine cond_t hf rfl hc51 ?_
              refine wp_skip ?_
              refine then_n ?_
              refine wp_block ?_
              refine wp_seq ?_
              refine region_pl ?_
              refine q_ hf rfl rfl rfl (e_assign hf rfl) fun a hf => ?_
              refine pl_nil ?_
              refine then_n ?_
              obtain ⟨x54, h55, h49⟩ := bind_some h49
              refine seq_join (fun a w => ∃ (n52 : Int), n52 = x54 ∧ Has 45 a [(0, vP b2 (o3)), (3, vL A38 (xs37) c39), (4, vI (c16)), (5, vI (n40)), (6, vI (n52))] ∧ Mem C w [.row SlotRep A38 c39 75 xs37 true] [.lit b2 (o3) [vI (g1.Rows), vI (g1.Cols), vS (g1.Cells)], .dat (ptrRep GridRep) g1 [vP b2 o3]] ∧ R64 n52) ?_ ?_
              · refine wp_block ?_
                obtain ⟨x61, h62, h55⟩ := bind_some h55
                refine wp_loopM h62 (fun s a w => ∃ (n56 : Int), n56 = s ∧ Has 45 a [(0, vP b2 (o3)), (3, vL A38 (xs37) c39), (4, vI (c16)), (5, vI (n40)), (6, vI (n56))] ∧ Mem C w [.row SlotRep A38 c39 75 xs37 true] [.lit b2 (o3) [vI (g1.Rows), vI (g1.Cols), vS (g1.Cells)], .dat (ptrRep GridRep) g1 [vP b2 o3]] ∧ R64 n56) ?_ ?_
                · exact ⟨0, rfl, hf.keep ⟨rfl, rfl, rfl, rfl, rfl, trivial⟩, hM.pick [0, 1] rfl, (R64_lit rfl)⟩
                · rintro s o63 a w58 ⟨n56, rfl, hf, hM, hv57⟩ h64 hd65
                  replace h64 : m_spec_l25Across_l3 n40 g1 c16 n56 = some o63 := h64
                  unfold m_spec_l25Across_l3 at h64
                  refine wp_seq ?_
                  refine wp_seq ?_
                  refine region_pl ?_
                  refine q_ hf rfl rfl rfl (e_move hf rfl) fun a hf => ?_
                  refine q_ hf rfl rfl rfl (e_move hf rfl) fun a hf => ?_
                  refine q_ hf rfl rfl rfl (e_move hf rfl) fun a hf => ?_
                  refine q_ hf rfl rfl rfl (e_move hf rfl) fun a hf => ?_
                  obtain ⟨z66, hz67, h64⟩ := bind_some h64
                  refine q_ hf rfl rfl rfl (e_add hf rfl rfl hz67) fun a hf => ?_
                  obtain ⟨y68, hz69, h64⟩ := bind_some h64
                  refine pl_l hf rfl rfl rfl (w_call hf Try.call108 rfl (r_spec_l25At ⟨_, Sh C _ _, none_, hM.sh_lt, none_not⟩ g1 _ _ (hM.dat (k := 1) rfl) c16 hv17 z66 (chk_R hz67) _ hz69) ?_)
                  rintro _ w70 ⟨rfl, hM2⟩
                  obtain ⟨hM, hx71, hup72⟩ := hM.back hM2
                  dsimp only [List.cons_append, List.nil_append] at hM hup72
                  clear hM2
                  refine ⟨_, rfl, fun a hf => ?_⟩
                  refine q_ hf rfl rfl rfl (e_neB hf (x := y68) (y := 35) rfl rfl) fun a hf => ?_
                  refine pl_nil ?_
                  refine then_n ?_
                  rcases cond_some h64 with ⟨hc73, h64⟩ | ⟨hc73, h64⟩
                  · refine cond_t hf rfl hc73 ?_
                    refine wp_skip ?_
                    refine then_n ?_
                    refine wp_block ?_
                    refine region_pl ?_
                    refine q_ hf rfl rfl rfl (e_move hf rfl) fun a hf => ?_
                    obtain ⟨z74, hz75, h64⟩ := bind_some h64
                    refine q_ hf rfl rfl rfl (e_add hf rfl rfl hz75) fun a hf => ?_
                    refine q_ hf rfl rfl rfl (e_assign hf rfl) fun a hf => ?_
                    refine pl_nil ?_
                    refine blk_n ?_
                    obtain rfl := some_inj h64
                    refine then_n ⟨_, rfl, ?_⟩
                    exact ⟨z74, rfl, hf.keep ⟨rfl, rfl, rfl, rfl, rfl, trivial⟩, hM.pick [0, 1] rfl, (chk_R hz75)⟩
                  · refine cond_f hf rfl hc73 ?_
                    refine wp_exit ?_
                    refine then_x ?_
                    obtain rfl := some_inj h64
                    obtain rfl := hd65 _ rfl
                    try dsimp only at h55
                    refine then_x ?_
                    refine exit_hit ?_
                    obtain rfl := some_inj h55
                    refine then_n ?_
                    exact ⟨n56, rfl, hf.keep ⟨rfl, rfl, rfl, rfl, rfl, trivial⟩, hM.pick [0, 1] rfl, hv57⟩
              · rintro a w81 ⟨n52, rfl, hf, hM, hv53⟩
                try dsimp only at h49
                obtain ⟨x85, h86, h49⟩ := bind_some h49
                refine seq_join (fun a w => ∃ (xs82 : (List Slot)) (A83 : Option Addr) (c84 : Nat), xs82 = x85 ∧ Has 45 a [(0, vP b2 (o3)), (3, vL A83 (xs82) c84), (4, vI (c16)), (5, vI (n40)), (6, vI (n52))] ∧ Mem C w [.row SlotRep A83 c84 75 xs82 true] [.lit b2 (o3) [vI (g1.Rows), vI (g1.Cols), vS (g1.Cells)], .dat (ptrRep GridRep) g1 [vP b2 o3]]) ?_ ?_
                · refine wp_seq ?_
                  refine region_pl ?_
                  refine q_ hf rfl rfl rfl (e_move hf rfl) fun a hf => ?_
                  refine q_ hf rfl rfl rfl (e_ge hf (x := n52) (y := 2) rfl rfl) fun a hf => ?_
                  refine pl_nil ?_
                  refine then_n ?_
                  rcases cond_some h86 with ⟨hc87, h86⟩ | ⟨hc87, h86⟩
                  · refine cond_t hf rfl hc87 ?_
                    refine region_pl ?_
                    refine q_ hf rfl rfl rfl (e_move hf rfl) fun a hf => ?_
                    refine q_ hf rfl rfl rfl (e_move hf rfl) fun a hf => ?_
                    refine q_ hf rfl rfl rfl (e_move hf rfl) fun a hf => ?_
                    refine q_ hf rfl rfl rfl (e_move hf rfl) fun a hf => ?_
                    refine q_ hf rfl rfl rfl (e_build hf Try.zeroValue75 Try.underlying75 (bp_75 _ Try.underlying75.symm) rfl (cs := #[vI (c16), vI (n40), .bool (false), vI (n52)]) (by kernel_rfl)) fun a hf => ?_
                    refine pl_l hf rfl rfl rfl (w_slice hf hM (K := SlotRep) (xs := ([(⟨c16, n40, false, n52⟩ : Slot)] : (List Slot))) (os := [.tmp 37]) Try.underlying30 ei_75 rfl rfl rfl rfl rfl ⟨⟨[vI (c16), vI (n40), .bool (false), vI (n52)], rfl, (SlotRep_mk (x := (⟨c16, n40, false, n52⟩ : Slot)) hv17 hv41 hv53)⟩, trivial⟩ rfl fun b88 w89 hx90 hM a hf => ?_)
                    obtain ⟨xs91, hz92, h86⟩ := bind_some h86
                    refine pl_l hf rfl rfl rfl (w_append hf hM Try.underlying30 ei_75 rfl rfl rfl (k := 1) rfl (hM.srcRow (k := 0) rfl) hz92 fun A93 c94 w95 hM a hf => ?_)
                    dsimp only [List.set] at hM
                    refine q_ hf rfl rfl rfl (e_assign hf rfl) fun a hf => ?_
                    refine pl_nil ?_
                    obtain rfl := some_inj h86
                    refine then_n ?_
                    exact ⟨xs91, A93, c94, rfl, hf.keep ⟨rfl, rfl, rfl, rfl, rfl, trivial⟩, (hM.drop (.cons _ (.cons_cons _ .slnil))).pick [0, 1] rfl⟩
                  · refine cond_f hf rfl hc87 ?_
                    refine wp_skip ?_
                    obtain rfl := some_inj h86
                    refine then_n ?_
                    exact ⟨xs37, A38, c39, rfl, hf.keep ⟨rfl, rfl, rfl, rfl, rfl, trivial⟩, hM.pick [0, 1] rfl⟩
                · rintro a w100 ⟨xs82, A83, c84, rfl, hf, hM⟩
                  try dsimp only at h49
                  refine region_pl ?_
                  refine q_ hf rfl rfl rfl (e_move hf rfl) fun a hf => ?_
                  refine q_ hf rfl rfl rfl (e_move hf rfl) fun a hf => ?_
                  obtain ⟨z101, hz102, h49⟩ := bind_some h49
                  refine q_ hf rfl rfl rfl (e_add hf rfl rfl hz102) fun a hf => ?_
                  obtain ⟨z103, hz104, h49⟩ := bind_some h49
                  refine q_ hf rfl rfl rfl (e_add hf rfl rfl hz104) fun a hf => ?_
                  refine q_ hf rfl rfl rfl (e_assign hf rfl) fun a hf => ?_
                  refine pl_nil ?_
                  refine blk_n ?_
                  obtain rfl := some_inj h49
                  refine then_n ⟨_, rfl, ?_⟩
                  exact ⟨xs82, z103, A83, c84, rfl, hf.keep ⟨rfl, rfl, rfl, rfl, trivial⟩, hM.pick [0, 1] rfl, (chk_R hz104)⟩
            · refine cond_f hf rfl hc51 ?_
              refine wp_exit ?_
              refine then_x ?_
              obtain rfl := some_inj h49
              obtain rfl := hd50 _ rfl
              try dsimp only at h36
              refine then_x ?_
              refine exit_hit ?_
              refine blk_n ?_
              obtain rfl := some_inj h36
              refine then_n ?_
              exact ⟨xs37, A38, c39, rfl, hf.keep ⟨rfl, rfl, rfl, trivial⟩, hM.pick [0, 1] rfl⟩
        · rintro a w110 ⟨xs32, A33, c34, rfl, hf, hM⟩
          try dsimp only at h25
          refine region_pl ?_
          refine q_ hf rfl rfl rfl (e_move hf rfl) fun a hf => ?_
          obtain ⟨z111, hz112, h25⟩ := bind_some h25
          refine q_ hf rfl rfl rfl (e_add hf rfl rfl hz112) fun a hf => ?_
          refine q_ hf rfl rfl rfl (e_assign hf rfl) fun a hf => ?_
          refine pl_nil ?_
          obtain rfl := some_inj h25
          refine then_n ⟨_, rfl, ?_⟩
          exact ⟨xs32, z111, A33, c34, rfl, hf.keep ⟨rfl, rfl, rfl, trivial⟩, hM.pick [1] rfl, (chk_R hz112)⟩
      · refine cond_f hf rfl hc31 ?_
        refine wp_exit ?_
        refine then_x ?_
        obtain rfl := some_inj h25
        obtain rfl := hd26 _ rfl
        try dsimp only at h12
        refine then_x ?_
        refine exit_hit ?_
        obtain rfl := some_inj h12
        refine then_n ?_
        exact ⟨xs13, A14, c15, rfl, hf.keep ⟨rfl, trivial⟩, hM.pick [1] rfl⟩
  · rintro a w118 ⟨xs8, A9, c10, rfl, hf, hM⟩
    try dsimp only at h
    refine wp_seq ?_
    refine region_pl ?_
    refine q_ hf rfl rfl rfl (e_move hf rfl) fun a hf => ?_
    refine q_ hf rfl rfl rfl (e_assign hf rfl) fun a hf => ?_
    refine pl_nil ?_
    refine then_n ?_
    refine wp_ret ?_
    obtain rfl := some_inj h
    exact leave1 hf rfl rfl ⟨A9, c10, rfl, hM.fin⟩

set_option maxRecDepth 100000 in
set_option maxHeartbeats 4000000 in
theorem r_spec_l25Turn (C : Cx) (g1 : Grid) (b2 : Nat) (o3 : Nat) (hp4 : (ptrRep GridRep).R C.w0 C.S0 g1 [vP b2 o3]) (r : Grid) (h : m_spec_l25Turn g1 = some r) :
    Calls Try.prog 84 #[vP b2 (o3)] C.w0 fun e w => e = .returned (.agg #[vI (r.Rows), vI (r.Cols), vS (r.Cells)]) ∧ Mem C w [] [] ∧ R64 r.Rows ∧ R64 r.Cols ∧ r.Cells.length ≤ maxLen := by
  have hM := Mem.begin C [.dat (ptrRep GridRep) g1 [vP b2 o3]] ⟨hp4, trivial⟩
  refine enter Try.func84 rfl Try.ntmps84 rfl fun a hf => ?_
  unfold m_spec_l25Turn at h
  refine wp_seq ?_
  refine region_pl ?_
  refine pl_l hf rfl rfl rfl (w_alloc hM (cs := [vI (0), vI (0), vS (([] : Str))]) Try.zeroValue27 rfl fun b5 w6 hx7 hM a hf => ?_)
  refine pl_nil ?_
  refine then_n ?_
  refine wp_seq ?_
  refine region_pl ?_
  refine pl_l hf rfl rfl rfl (w_slice0 (K := byteRep) hM Try.underlying63 ei_5 fun b9 w10 hx11 hM a hf => ?_)
  refine q_ hf rfl rfl rfl (e_assign hf rfl) fun a hf => ?_
  refine pl_nil ?_
  refine then_n ?_
  obtain ⟨x15, h16, h⟩ := bind_some h
  refine seq_join (fun a w => ∃ (xs12 : Str) (A13 : Option Addr) (c14 : Nat), xs12 = x15 ∧ Has 41 a [(0, vP b2 (o3)), (2, vP b5 (0)), (3, vL A13 (xs12) c14)] ∧ Mem C w [.row byteRep A13 c14 5 xs12 true, .box b5 [vI (0), vI (0), vS (([] : Str))] 27] [.dat (ptrRep GridRep) g1 [vP b2 o3]]) ?_ ?_
  · refine wp_seq ?_
    refine region_pl ?_
    refine q_ hf rfl rfl rfl (e_assign hf rfl) fun a hf => ?_
    refine pl_nil ?_
    refine then_n ?_
    refine wp_block ?_
    obtain ⟨x26, h27, h16⟩ := bind_some h16
    refine wp_loopM h27 (fun s a w => ∃ (xs17 : Str) (r20 : Int) (A18 : Option Addr) (c19 : Nat), (xs17, r20) = s ∧ Has 41 a [(0, vP b2 (o3)), (2, vP b5 (0)), (3, vL A18 (xs17) c19), (4, vI (r20))] ∧ Mem C w [.row byteRep A18 c19 5 xs17 true, .box b5 [vI (0), vI (0), vS (([] : Str))] 27] [.dat (ptrRep GridRep) g1 [vP b2 o3]] ∧ R64 r20) ?_ ?_
    · exact ⟨([] : Str), 0, (some ⟨b9, 0, none⟩), 0, rfl, hf.keep ⟨rfl, rfl, rfl, rfl, trivial⟩, hM.pick [0] rfl, (R64_lit rfl)⟩
    · rintro s o28 a w22 ⟨xs17, r20, A18, c19, rfl, hf, hM, hv21⟩ h29 hd30
      replace h29 : m_spec_l25Turn_l1 g1 xs17 r20 = some o28 := h29
      unfold m_spec_l25Turn_l1 at h29
      refine wp_seq ?_
      refine wp_seq ?_
      refine region_pl ?_
      refine q_ hf rfl rfl rfl (e_move hf rfl) fun a hf => ?_
      refine q_ hf rfl rfl rfl (e_move hf rfl) fun a hf => ?_
      refine q_ hf rfl rfl rfl (e_nil hf rfl) fun a hf => ?_
      obtain ⟨_, hr31, hM⟩ := hM.deref (hM.dat (k := 0) rfl)
      obtain ⟨rfl, hv32, hv33, hv34⟩ := GridRep_open hr31
      refine q_ hf rfl rfl rfl (e_field hf rfl Try.underlying27 rfl Try.sizeOf2 (o' := o3 + 1) rfl) fun a hf => ?_
      refine q_ hf rfl rfl rfl (e_load1 hf rfl Try.isAgg2 (hM.litCell (k := 0) (j := 1) rfl rfl rfl)) fun a hf => ?_
      refine q_ hf rfl rfl rfl (e_lt hf (x := r20) (y := g1.Cols) rfl rfl) fun a hf => ?_
      refine pl_nil ?_
      refine then_n ?_
      rcases cond_some h29 with ⟨hc35, h29⟩ | ⟨hc35, h29⟩
      · refine cond_t hf rfl hc35 ?_
        refine wp_skip ?_
        refine then_n ?_
        obtain ⟨x39, h40, h29⟩ := bind_some h29
        refine seq_join (fun a w => ∃ (xs36 : Str) (A37 : Option Addr) (c38 : Nat), xs36 = x39 ∧ Has 41 a [(0, vP b2 (o3)), (2, vP b5 (0)), (3, vL A37 (xs36) c38), (4, vI (r20))] ∧ Mem C w [.row byteRep A37 c38 5 xs36 true, .box b5 [vI (0), vI (0), vS (([] : Str))] 27] [.lit b2 (o3) [vI (g1.Rows), vI (g1.Cols), vS (g1.Cells)], .dat (ptrRep GridRep) g1 [vP b2 o3]]) ?_ ?_
        · refine wp_block ?_
          refine wp_seq ?_
          refine region_pl ?_
          refine q_ hf rfl rfl rfl (e_assign hf rfl) fun a hf => ?_
          refine pl_nil ?_
          refine then_n ?_
          refine wp_block ?_
          obtain ⟨x50, h51, h40⟩ := bind_some h40
          refine wp_loopM h51 (fun s a w => ∃ (xs41 : Str) (n44 : Int) (A42 : Option Addr) (c43 : Nat), (xs41, n44) = s ∧ Has 41 a [(0, vP b2 (o3)), (2, vP b5 (0)), (3, vL A42 (xs41) c43), (4, vI (r20)), (5, vI (n44))] ∧ Mem C w [.row byteRep A42 c43 5 xs41 true, .box b5 [vI (0), vI (0), vS (([] : Str))] 27] [.lit b2 (o3) [vI (g1.Rows), vI (g1.Cols), vS (g1.Cells)], .dat (ptrRep GridRep) g1 [vP b2 o3]] ∧ R64 n44) ?_ ?_
          · exact ⟨xs17, 0, A18, c19, rfl, hf.keep ⟨rfl, rfl, rfl, rfl, rfl, trivial⟩, hM.pick [0, 1] rfl, (R64_lit rfl)⟩
          · rintro s o52 a w46 ⟨xs41, n44, A42, c43, rfl, hf, hM, hv45⟩ h53 hd54
            replace h53 : m_spec_l25Turn_l2 g1 r20 xs41 n44 = some o52 := h53
            unfold m_spec_l25Turn_l2 at h53
            refine wp_seq ?_
            refine wp_seq ?_
            refine region_pl ?_
            refine q_ hf rfl rfl rfl (e_move hf rfl) fun a hf => ?_
            refine q_ hf rfl rfl rfl (e_move hf rfl) fun a hf => ?_
            refine q_ hf rfl rfl rfl (e_nil hf rfl) fun a hf => ?_
            refine q_ hf rfl rfl rfl (e_field hf rfl Try.underlying27 rfl Try.sizeOf2 (o' := o3 + 0) rfl) fun a hf => ?_
            refine q_ hf rfl rfl rfl (e_load1 hf rfl Try.isAgg2 (hM.litCell (k := 0) (j := 0) rfl rfl rfl)) fun a hf => ?_
            refine q_ hf rfl rfl rfl (e_lt hf (x := n44) (y := g1.Rows) rfl rfl) fun a hf => ?_
            refine pl_nil ?_
            refine then_n ?_
            rcases cond_some h53 with ⟨hc55, h53⟩ | ⟨hc55, h53⟩
            · refine cond_t hf rfl hc55 ?_
              refine wp_skip ?_
              refine then_n ?_
              refine wp_seq ?_
              refine wp_block ?_
              refine region_pl ?_
              refine q_ hf rfl rfl rfl (e_move hf rfl) fun a hf => ?_
              refine q_ hf rfl rfl rfl (e_move hf rfl) fun a hf => ?_
              refine q_ hf rfl rfl rfl (e_move hf rfl) fun a hf => ?_
              refine q_ hf rfl rfl rfl (e_move hf rfl) fun a hf => ?_
              obtain ⟨y56, hz57, h53⟩ := bind_some h53
              refine pl_l hf rfl rfl rfl (w_call hf Try.call108 rfl (r_spec_l25At ⟨_, Sh C _ _, none_, hM.sh_lt, none_not⟩ g1 _ _ (hM.dat (k := 1) rfl) n44 hv45 r20 hv21 _ hz57) ?_)
              rintro _ w58 ⟨rfl, hM2⟩
              obtain ⟨hM, hx59, hup60⟩ := hM.back hM2
              dsimp only [List.cons_append, List.nil_append] at hM hup60
              clear hM2
              refine ⟨_, rfl, fun a hf => ?_⟩
              refine pl_l hf rfl rfl rfl (w_slice hf hM (K := byteRep) (xs := ([y56] : Str)) (os := [.tmp 27]) Try.underlying63 ei_5 rfl rfl rfl rfl rfl ⟨⟨[vB (y56)], rfl, rfl⟩, trivial⟩ rfl fun b61 w62 hx63 hM a hf => ?_)
              obtain ⟨xs64, hz65, h53⟩ := bind_some h53
              refine pl_l hf rfl rfl rfl (w_append hf hM Try.underlying63 ei_5 rfl rfl rfl (k := 1) rfl (hM.srcRow (k := 0) rfl) hz65 fun A66 c67 w68 hM a hf => ?_)
              dsimp only [List.set] at hM
              refine q_ hf rfl rfl rfl (e_assign hf rfl) fun a hf => ?_
              refine pl_nil ?_
              refine blk_n ?_
              refine then_n ?_
              refine region_pl ?_
              refine q_ hf rfl rfl rfl (e_move hf rfl) fun a hf => ?_
              obtain ⟨z71, hz72, h53⟩ := bind_some h53
              refine q_ hf rfl rfl rfl (e_add hf rfl rfl hz72) fun a hf => ?_
              refine q_ hf rfl rfl rfl (e_assign hf rfl) fun a hf => ?_
              refine pl_nil ?_
              obtain rfl := some_inj h53
              refine then_n ⟨_, rfl, ?_⟩
              exact ⟨xs64, z71, A66, c67, rfl, hf.keep ⟨rfl, rfl, rfl, rfl, rfl, trivial⟩, (hM.drop (.cons _ (.cons_cons _ (.cons_cons _ .slnil)))).pick [0, 1] rfl, (chk_R hz72)⟩
            · refine cond_f hf rfl hc55 ?_
              refine wp_exit ?_
              refine then_x ?_
              obtain rfl := some_inj h53
              obtain rfl := hd54 _ rfl
              try dsimp only at h40
              refine then_x ?_
              refine exit_hit ?_
              refine blk_n ?_
              obtain rfl := some_inj h40
              refine then_n ?_
              exact ⟨xs41, A42, c43, rfl, hf.keep ⟨rfl, rfl, rfl, rfl, trivial⟩, hM.pick [0, 1] rfl⟩
        · rintro a w78 ⟨xs36, A37, c38, rfl, hf, hM⟩
          try dsimp only at h29
          refine region_pl ?_
          refine q_ hf rfl rfl rfl (e_move hf rfl) fun a hf => ?_
          obtain ⟨z79, hz80, h29⟩ := bind_some h29
          refine q_ hf rfl rfl rfl (e_add hf rfl rfl hz80) fun a hf => ?_
          refine q_ hf rfl rfl rfl (e_assign hf rfl) fun a hf => ?_
          refine pl_nil ?_
          obtain rfl := some_inj h29
          refine then_n ⟨_, rfl, ?_⟩
          exact ⟨xs36, z79, A37, c38, rfl, hf.keep ⟨rfl, rfl, rfl, rfl, trivial⟩, hM.pick [1] rfl, (chk_R hz80)⟩
      · refine cond_f hf rfl hc35 ?_
        refine wp_exit ?_
        refine then_x ?_
        obtain rfl := some_inj h29
        obtain rfl := hd30 _ rfl
        try dsimp only at h16
        refine then_x ?_
        refine exit_hit ?_
        obtain rfl := some_inj h16
        refine then_n ?_
        exact ⟨xs17, A18, c19, rfl, hf.keep ⟨rfl, rfl, rfl, trivial⟩, hM.pick [1] rfl⟩
  · rintro a w86 ⟨xs12, A13, c14, rfl, hf, hM⟩
    try dsimp only at h
    refine wp_seq ?_
    obtain ⟨w87, hw⟩ : ∃ x, x = w86.drew := ⟨_, rfl⟩
    refine region_pi (.q 0 (.q 1 (.q 2 (.q 3 (.q 4 (.q 5 (.q 6 (.q 7 (.q 8 (.q 9 (.q 10 (.l 11 (.nil))))))))))))) (Ext w87) rfl (by kernel_rfl) ?_
    have hM := hM.drew
    rw [← hw] at hM ⊢
    clear hw
    refine pi_q hf rfl rfl rfl rfl (Ext.refl _) (e_move hf rfl) fun a hf => ?_
    refine pi_q hf rfl rfl rfl rfl (Ext.refl _) (e_nil hf rfl) fun a hf => ?_
    obtain ⟨_, hr88, hM⟩ := hM.deref (hM.dat (k := 0) rfl)
    obtain ⟨rfl, hv89, hv90, hv91⟩ := GridRep_open hr88
    refine pi_q hf rfl rfl rfl rfl (Ext.refl _) (e_field hf rfl Try.underlying27 rfl Try.sizeOf2 (o' := o3 + 1) rfl) fun a hf => ?_
    refine pi_q hf rfl rfl rfl rfl (Ext.refl _) (e_load1 hf rfl Try.isAgg2 (hM.litCell (k := 0) (j := 1) rfl rfl rfl)) fun a hf => ?_
    refine pi_q hf rfl rfl rfl rfl (Ext.refl _) (e_move hf rfl) fun a hf => ?_
    refine pi_q hf rfl rfl rfl rfl (Ext.refl _) (e_nil hf rfl) fun a hf => ?_
    refine pi_q hf rfl rfl rfl rfl (Ext.refl _) (e_field hf rfl Try.underlying27 rfl Try.sizeOf2 (o' := o3 + 0) rfl) fun a hf => ?_
    refine pi_q hf rfl rfl rfl rfl (Ext.refl _) (e_load1 hf rfl Try.isAgg2 (hM.litCell (k := 0) (j := 0) rfl rfl rfl)) fun a hf => ?_
    refine pi_q hf rfl rfl rfl rfl (Ext.refl _) (e_move hf rfl) fun a hf => ?_
    have hl92 := row_len (hM.ownAt (k := 0) rfl)
    refine pi_q hf rfl rfl rfl rfl (Ext.refl _) (e_bytesStr hf (xs := xs12) rfl Try.underlying63 Try.underlying5 Try.underlying9 (hM.lendRow (k := 0) rfl)) fun a hf => ?_
    refine pi_q hf rfl rfl rfl rfl (Ext.refl _) (e_build hf Try.zeroValue27 Try.underlying27 (bp_27 _ Try.underlying27.symm) rfl (cs := #[vI (g1.Cols), vI (g1.Rows), vS (xs12)]) (by kernel_rfl)) fun a hf => ?_
    refine pi_one ?_
    refine pi_z0 hf rfl rfl rfl (by kernel_rfl) (w_store hf hM (us := [vI (g1.Cols), vI (g1.Rows), vS (xs12)]) (cs' := [vI (g1.Cols), vI (g1.Rows), vS (xs12)]) rfl rfl (k := 1) rfl rfl Try.sizeOf27 rfl rfl rfl fun w93 hM => ?_)
    dsimp only [List.set] at hM
    refine pi_nil ?_
    refine then_n ?_
    refine wp_ret ?_
    obtain rfl := some_inj h
    have hres96 := leaveV1 (P := Try.prog) Try.results84 (res_agg hf rfl ⟨Try.isAgg27, Try.sizeOf27⟩ (us := [vI (g1.Cols), vI (g1.Rows), vS (xs12)]) rfl (hM.boxSub (k := 1) (o := 0) rfl rfl))
    have hM := hM.outs (own' := []) 0 rfl
    exact bodyPost_ret hres96 hf.defers ⟨rfl, hM.fin, hv90, hv89, hl92⟩

set_option maxRecDepth 100000 in
set_option maxHeartbeats 4000000 in
theorem r_spec_l25Slots (C : Cx) (g1 : Grid) (b2 : Nat) (o3 : Nat) (hp4 : (ptrRep GridRep).R C.w0 C.S0 g1 [vP b2 o3]) (r : (List Slot)) (h : m_spec_l25Slots g1 = some r) :
    Calls Try.prog 50 #[vP b2 (o3)] C.w0 fun e w => ∃ (A_1 : Option Addr), ∃ (c_1 : Nat), e = .returned (vL A_1 (r) c_1) ∧ Mem C w [.row SlotRep A_1 c_1 75 r true] [] := by
  have hM := Mem.begin C [.dat (ptrRep GridRep) g1 [vP b2 o3]] ⟨hp4, trivial⟩
  refine enter Try.func50 rfl Try.ntmps50 rfl fun a hf => ?_
  unfold m_spec_l25Slots at h
  refine wp_seq ?_
  refine region_pl ?_
  refine q_ hf rfl rfl rfl (e_assign hf rfl) fun a hf => ?_
  refine pl_nil ?_
  refine then_n ?_
  refine wp_seq ?_
  refine region_pl ?_
  refine q_ hf rfl rfl rfl (e_move hf rfl) fun a hf => ?_
  obtain ⟨y5, hz6, h⟩ := bind_some h
  refine pl_l hf rfl rfl rfl (w_call hf Try.call83 rfl (r_spec_l25Across ⟨_, Sh C _ _, none_, hM.sh_lt, none_not⟩ g1 _ _ (hM.dat (k := 0) rfl) _ hz6) ?_)
  rintro _ w9 ⟨A7, c8, rfl, hM2⟩
  obtain ⟨hM, hx10, hup11⟩ := hM.back hM2
  dsimp only [List.cons_append, List.nil_append] at hM hup11
  clear hM2
  refine ⟨_, rfl, fun a hf => ?_⟩
  refine q_ hf rfl rfl rfl (e_assign hf rfl) fun a hf => ?_
  refine pl_nil ?_
  refine then_n ?_
  refine wp_seq ?_
  refine region_pl ?_
  refine q_ hf rfl rfl rfl (e_move hf rfl) fun a hf => ?_
  obtain ⟨y12, hz13, h⟩ := bind_some h
  refine pl_l hf rfl rfl rfl (w_call hf Try.call84 rfl (r_spec_l25Turn ⟨_, Sh C _ _, none_, hM.sh_lt, none_not⟩ g1 _ _ (hM.dat (k := 0) rfl) _ hz13) ?_)
  rintro _ w17 ⟨rfl, hM2, hv14, hv15, hv16⟩
  obtain ⟨hM, hx18, hup19⟩ := hM.back hM2
  dsimp only [List.cons_append, List.nil_append] at hM hup19
  clear hM2
  refine ⟨_, rfl, fun a hf => ?_⟩
  refine pl_l hf rfl rfl rfl (w_alloc hM (cs := [vI (0), vI (0), vS (([] : Str))]) Try.zeroValue27 rfl fun b20 w21 hx22 hM a hf => ?_)
  refine pl_0 hf rfl rfl (w_store hf hM (us := [vI (y12.Rows), vI (y12.Cols), vS (y12.Cells)]) (cs' := [vI (y12.Rows), vI (y12.Cols), vS (y12.Cells)]) rfl rfl (k := 0) rfl rfl Try.sizeOf27 rfl rfl rfl fun w24 hM => ?_)
  dsimp only [List.set] at hM
  refine pl_nil ?_
  refine then_n ?_
  refine wp_seq ?_
  refine region_pl ?_
  obtain ⟨y27, hz28, h⟩ := bind_some h
  refine pl_l hf rfl rfl rfl (w_call hf Try.call83 rfl (r_spec_l25Across ⟨_, All C _ _, none_, hM.all_lt, none_not⟩ y12 _ _ (hM.lendBox (k := 0) rfl (GridRep_mk (x := y12) hv14 hv15 hv16)) _ hz28) ?_)
  rintro _ w31 ⟨A29, c30, rfl, hM2⟩
  obtain ⟨hM, hx32⟩ := hM.backAF SlotRep_flat hM2
  clear hM2
  refine ⟨_, rfl, fun a hf => ?_⟩
  refine q_ hf rfl rfl rfl (e_assign hf rfl) fun a hf => ?_
  refine pl_nil ?_
  refine then_n ?_
  obtain ⟨x37, h38, h⟩ := bind_some h
  refine seq_join (fun a w => ∃ (xs34 : (List Slot)) (A35 : Option Addr) (c36 : Nat), xs34 = x37 ∧ Has 38 a [(3, vL A35 (xs34) c36)] ∧ Mem C w [.row SlotRep A29 c30 75 y27 true, .box b20 [vI (y12.Rows), vI (y12.Cols), vS (y12.Cells)] 27, .row SlotRep A35 c36 75 xs34 true] [.dat (ptrRep GridRep) g1 [vP b2 o3]]) ?_ ?_
  · refine wp_seq ?_
    refine region_pl ?_
    refine q_ hf rfl rfl rfl (e_assign hf rfl) fun a hf => ?_
    refine pl_nil ?_
    refine then_n ?_
    refine wp_block ?_
    obtain ⟨x48, h49, h38⟩ := bind_some h38
    refine wp_loopM h49 (fun s a w => ∃ (xs39 : (List Slot)) (n42 : Int) (A40 : Option Addr) (c41 : Nat), (xs39, n42) = s ∧ Has 38 a [(3, vL A40 (xs39) c41), (5, vL A29 (y27) c30), (6, vI (n42))] ∧ Mem C w [.row SlotRep A29 c30 75 y27 true, .box b20 [vI (y12.Rows), vI (y12.Cols), vS (y12.Cells)] 27, .row SlotRep A40 c41 75 xs39 true] [.dat (ptrRep GridRep) g1 [vP b2 o3]] ∧ R64 n42) ?_ ?_
    · exact ⟨y5, 0, A7, c8, rfl, hf.keep ⟨rfl, rfl, rfl, trivial⟩, hM.pick [0] rfl, (R64_lit rfl)⟩
    · rintro s o50 a w44 ⟨xs39, n42, A40, c41, rfl, hf, hM, hv43⟩ h51 hd52
      replace h51 : m_spec_l25Slots_l1 y27 xs39 n42 = some o50 := h51
      unfold m_spec_l25Slots_l1 at h51
      refine wp_seq ?_
      refine wp_seq ?_
      refine region_pl ?_
      refine q_ hf rfl rfl rfl (e_move hf rfl) fun a hf => ?_
      refine q_ hf rfl rfl rfl (e_move hf rfl) fun a hf => ?_
      have hl53 := row_len (hM.ownAt (k := 0) rfl)
      refine q_ hf rfl rfl rfl (e_lenL hf (x := y27) rfl Try.underlying30) fun a hf => ?_
      refine q_ hf rfl rfl rfl (e_lt hf (x := n42) (y := (y27.length : Int)) rfl rfl) fun a hf => ?_
      refine pl_nil ?_
      refine then_n ?_
      rcases cond_some h51 with ⟨hc54, h51⟩ | ⟨hc54, h51⟩
      · refine cond_t hf rfl hc54 ?_
        refine wp_skip ?_
        refine then_n ?_
        refine wp_seq ?_
        refine wp_block ?_
        obtain ⟨w55, hw⟩ : ∃ x, x = w44.drew := ⟨_, rfl⟩
        refine region_pi (.q 0 (.q 1 (.q 2 (.q 3 (.q 4 (.q 5 (.q 6 (.q 7 (.q 8 (.q 9 (.q 10 (.q 11 (.q 12 (.q 13 (.q 14 (.q 15 (.q 16 (.l 17 (.l 18 (.q 19 (.nil))))))))))))))))))))) (Ext w55) rfl (by kernel_rfl) ?_
        have hM := hM.drew
        rw [← hw] at hM ⊢
        clear hw
        refine pi_q hf rfl rfl rfl rfl (Ext.refl _) (e_move hf rfl) fun a hf => ?_
        refine pi_q hf rfl rfl rfl rfl (Ext.refl _) (e_move hf rfl) fun a hf => ?_
        refine pi_q hf rfl rfl rfl rfl (Ext.refl _) (e_move hf rfl) fun a hf => ?_
        obtain ⟨e56, hz57, h51⟩ := bind_some h51
        obtain ⟨b62, _, hA63, h58, h59, hr60, hcell61⟩ := hM.rowElemN (k := 0) rfl (n := 4) rfl hz57
        obtain ⟨rfl, hv64, hv65, hv66⟩ := SlotRep_open hr60
        refine pi_q hf rfl rfl rfl rfl (Ext.refl _) (e_indexAddr (A := A29) (b := b62) (o := 0) (xs := y27) (i := n42) hf hA63 rfl rfl Try.underlying30 Try.sizeOf75 h58 h59) fun a hf => ?_
        refine pi_q hf rfl rfl rfl rfl (Ext.refl _) (e_field hf rfl Try.underlying75 rfl Try.sizeOf2 (o' := (0 + (n42 : Int).toNat * 4) + 1) rfl) fun a hf => ?_
        refine pi_q hf rfl rfl rfl rfl (Ext.refl _) (e_load1 hf rfl Try.isAgg2 (hcell61 1 _ rfl)) fun a hf => ?_
        refine pi_q hf rfl rfl rfl rfl (Ext.refl _) (e_move hf rfl) fun a hf => ?_
        refine pi_q hf rfl rfl rfl rfl (Ext.refl _) (e_move hf rfl) fun a hf => ?_
        obtain ⟨e67, hz68, h51⟩ := bind_some h51
        obtain ⟨b73, _, hA74, h69, h70, hr71, hcell72⟩ := hM.rowElemN (k := 0) rfl (n := 4) rfl hz68
        obtain ⟨rfl, hv75, hv76, hv77⟩ := SlotRep_open hr71
        refine pi_q hf rfl rfl rfl rfl (Ext.refl _) (e_indexAddr (A := A29) (b := b73) (o := 0) (xs := y27) (i := n42) hf hA74 rfl rfl Try.underlying30 Try.sizeOf75 h69 h70) fun a hf => ?_
        refine pi_q hf rfl rfl rfl rfl (Ext.refl _) (e_field hf rfl Try.underlying75 rfl Try.sizeOf2 (o' := (0 + (n42 : Int).toNat * 4) + 0) rfl) fun a hf => ?_
        refine pi_q hf rfl rfl rfl rfl (Ext.refl _) (e_load1 hf rfl Try.isAgg2 (hcell72 0 _ rfl)) fun a hf => ?_
        refine pi_q hf rfl rfl rfl rfl (Ext.refl _) (e_move hf rfl) fun a hf => ?_
        refine pi_q hf rfl rfl rfl rfl (Ext.refl _) (e_move hf rfl) fun a hf => ?_
        obtain ⟨e78, hz79, h51⟩ := bind_some h51
        obtain ⟨b84, _, hA85, h80, h81, hr82, hcell83⟩ := hM.rowElemN (k := 0) rfl (n := 4) rfl hz79
        obtain ⟨rfl, hv86, hv87, hv88⟩ := SlotRep_open hr82
        refine pi_q hf rfl rfl rfl rfl (Ext.refl _) (e_indexAddr (A := A29) (b := b84) (o := 0) (xs := y27) (i := n42) hf hA85 rfl rfl Try.underlying30 Try.sizeOf75 h80 h81) fun a hf => ?_
        refine pi_q hf rfl rfl rfl rfl (Ext.refl _) (e_field hf rfl Try.underlying75 rfl Try.sizeOf2 (o' := (0 + (n42 : Int).toNat * 4) + 3) rfl) fun a hf => ?_
        refine pi_q hf rfl rfl rfl rfl (Ext.refl _) (e_load1 hf rfl Try.isAgg2 (hcell83 3 _ rfl)) fun a hf => ?_
        refine pi_q hf rfl rfl rfl rfl (Ext.refl _) (e_build hf Try.zeroValue75 Try.underlying75 (bp_75 _ Try.underlying75.symm) rfl (cs := #[vI (e56.Col), vI (e67.Row), .bool (true), vI (e78.Length)]) (by kernel_rfl)) fun a hf => ?_
        refine pi_one ?_
        refine pi_l hf rfl rfl rfl rfl (w_slice hf hM (K := SlotRep) (xs := ([(⟨e56.Col, e67.Row, true, e78.Length⟩ : Slot)] : (List Slot))) (os := [.tmp 34]) Try.underlying30 ei_75 rfl rfl rfl rfl rfl ⟨⟨[vI (e56.Col), vI (e67.Row), .bool (true), vI (e78.Length)], rfl, (SlotRep_mk (x := (⟨e56.Col, e67.Row, true, e78.Length⟩ : Slot)) hv65 hv75 hv88)⟩, trivial⟩ rfl fun b89 w90 hx91 hM => ⟨Ext w90, fun _ h => Ext.trans hx91 h, Ext.refl _, fun a hf => ?_⟩)
        refine pi_one ?_
        obtain ⟨xs92, hz93, h51⟩ := bind_some h51
        refine pi_z hf rfl rfl rfl rfl (by kernel_rfl) (w_append hf hM Try.underlying30 ei_75 rfl rfl rfl (k := 3) rfl (hM.srcRow (k := 0) rfl) hz93 fun A94 c95 w96 hM a hf => ?_)
        dsimp only [List.set] at hM
        refine pi_q hf rfl rfl rfl rfl (Ext.refl _) (e_assign hf rfl) fun a hf => ?_
        refine pi_nil ?_
        refine blk_n ?_
        refine then_n ?_
        refine region_pl ?_
        refine q_ hf rfl rfl rfl (e_move hf rfl) fun a hf => ?_
        obtain ⟨z99, hz100, h51⟩ := bind_some h51
        refine q_ hf rfl rfl rfl (e_add hf rfl rfl hz100) fun a hf => ?_
        refine q_ hf rfl rfl rfl (e_assign hf rfl) fun a hf => ?_
        refine pl_nil ?_
        obtain rfl := some_inj h51
        refine then_n ⟨_, rfl, ?_⟩
        exact ⟨xs92, z99, A94, c95, rfl, hf.keep ⟨rfl, rfl, rfl, trivial⟩, (hM.drop (.cons _ (.cons_cons _ (.cons_cons _ (.cons_cons _ .slnil))))).pick [0] rfl, (chk_R hz100)⟩
      · refine cond_f hf rfl hc54 ?_
        refine wp_exit ?_
        refine then_x ?_
        obtain rfl := some_inj h51
        obtain rfl := hd52 _ rfl
        try dsimp only at h38
        refine then_x ?_
        refine exit_hit ?_
        obtain rfl := some_inj h38
        refine then_n ?_
        exact ⟨xs39, A40, c41, rfl, hf.keep ⟨rfl, trivial⟩, hM.pick [0] rfl⟩
  · rintro a w106 ⟨xs34, A35, c36, rfl, hf, hM⟩
    try dsimp only at h
    refine wp_seq ?_
    refine region_pl ?_
    refine q_ hf rfl rfl rfl (e_move hf rfl) fun a hf => ?_
    refine q_ hf rfl rfl rfl (e_assign hf rfl) fun a hf => ?_
    refine pl_nil ?_
    refine then_n ?_
    refine wp_ret ?_
    obtain rfl := some_inj h
    have hM := hM.front (k := 2) rfl
    dsimp only [List.eraseIdx] at hM
    have hM := hM.outs (own' := [.row SlotRep A35 c36 75 xs34 true]) 1 rfl
    exact leave1 hf rfl rfl ⟨A35, c36, rfl, hM.fin⟩

set_option maxRecDepth 100000 in
set_option maxHeartbeats 4000000 in
theorem r_spec_l25Code (C : Cx) (g1 : Grid) (b2 : Nat) (o3 : Nat) (hp4 : (ptrRep GridRep).R C.w0 C.S0 g1 [vP b2 o3]) (slot5 : Int) (hp6 : R64 slot5) (r : Int) (h : m_spec_l25Code g1 slot5 = some r) :
    Calls Try.prog 49 #[vP b2 (o3), vI (slot5)] C.w0 fun e w => e = .returned (vI (r)) ∧ Mem C w [] [] ∧ R64 r := by
  have hM := Mem.begin C [.dat (ptrRep GridRep) g1 [vP b2 o3]] ⟨hp4, trivial⟩
  refine enter Try.func49 rfl Try.ntmps49 rfl fun a hf => ?_
  unfold m_spec_l25Code at h
  refine wp_seq ?_
  refine region_pl ?_
  refine q_ hf rfl rfl rfl (e_assign hf rfl) fun a hf => ?_
  refine pl_nil ?_
  refine then_n ?_
  refine wp_seq ?_
  refine wp_seq ?_
  refine region_pl ?_
  refine q_ hf rfl rfl rfl (e_move hf rfl) fun a hf => ?_
  obtain ⟨y7, hz8, h⟩ := bind_some h
  refine pl_l hf rfl rfl rfl (w_call hf Try.call54 rfl (r_spec_l25Ok ⟨_, Sh C _ _, none_, hM.sh_lt, none_not⟩ g1 _ _ (hM.dat (k := 0) rfl) _ hz8) ?_)
  rintro _ w9 ⟨rfl, hM2⟩
  obtain ⟨hM, hx10, hup11⟩ := hM.back hM2
  dsimp only [List.cons_append, List.nil_append] at hM hup11
  clear hM2
  refine ⟨_, rfl, fun a hf => ?_⟩
  refine q_ hf rfl rfl rfl (e_not hf rfl) fun a hf => ?_
  refine pl_nil ?_
  refine then_n ?_
  rcases cond_some h with ⟨hc12, h⟩ | ⟨hc12, h⟩
  · refine cond_t hf rfl hc12 ?_
    refine wp_seq ?_
    refine region_pl ?_
    refine q_ hf rfl rfl rfl (e_assign hf rfl) fun a hf => ?_
    refine pl_nil ?_
    refine then_n ?_
    refine wp_ret ?_
    refine then_r ?_
    obtain rfl := some_inj h
    exact leave1 hf rfl rfl ⟨rfl, hM.fin, (R64_lit rfl)⟩
  · refine cond_f hf rfl hc12 ?_
    refine wp_skip ?_
    refine then_n ?_
    refine wp_seq ?_
    refine wp_seq ?_
    refine region_pl ?_
    refine q_ hf rfl rfl rfl (e_move hf rfl) fun a hf => ?_
    refine q_ hf rfl rfl rfl (e_move hf rfl) fun a hf => ?_
    obtain ⟨y13, hz14, h⟩ := bind_some h
    refine pl_l hf rfl rfl rfl (w_call hf Try.call50 rfl (r_spec_l25Slots ⟨_, Sh C _ _, none_, hM.sh_lt, none_not⟩ g1 _ _ (hM.dat (k := 0) rfl) _ hz14) ?_)
    rintro _ w17 ⟨A15, c16, rfl, hM2⟩
    obtain ⟨hM, hx18, hup19⟩ := hM.back hM2
    dsimp only [List.cons_append, List.nil_append] at hM hup19
    clear hM2
    refine ⟨_, rfl, fun a hf => ?_⟩
    have hl20 := row_len (hM.ownAt (k := 0) rfl)
    refine q_ hf rfl rfl rfl (e_lenL hf (x := y13) rfl Try.underlying30) fun a hf => ?_
    obtain ⟨z21, hz22, h⟩ := bind_some h
    refine q_ hf rfl rfl rfl (e_sub hf rfl rfl hz22) fun a hf => ?_
    obtain ⟨y23, hz24, h⟩ := bind_some h
    refine pl_l hf rfl rfl rfl (w_call hf Try.call82 rfl (r_spec_l00In ⟨_, Sh C _ _, none_, hM.sh_lt, none_not⟩ slot5 hp6 0 (R64_lit rfl) z21 (chk_R hz22) _ hz24) ?_)
    rintro _ w25 ⟨rfl, hM2⟩
    obtain ⟨hM, hx26, hup27⟩ := hM.back hM2
    dsimp only [List.cons_append, List.nil_append] at hM hup27
    clear hM2
    refine ⟨_, rfl, fun a hf => ?_⟩
    refine q_ hf rfl rfl rfl (e_not hf rfl) fun a hf => ?_
    refine pl_nil ?_
    refine then_n ?_
    rcases cond_some h with ⟨hc28, h⟩ | ⟨hc28, h⟩
    · refine cond_t hf rfl hc28 ?_
      refine wp_seq ?_
      refine region_pl ?_
      refine q_ hf rfl rfl rfl (e_assign hf rfl) fun a hf => ?_
      refine pl_nil ?_
      refine then_n ?_
      refine wp_ret ?_
      refine then_r ?_
      obtain rfl := some_inj h
      have hM := hM.outs (own' := []) 0 rfl
      exact leave1 hf rfl rfl ⟨rfl, hM.fin, (R64_lit rfl)⟩
    · refine cond_f hf rfl hc28 ?_
      refine wp_skip ?_
      refine then_n ?_
      refine wp_seq ?_
      refine region_pl ?_
      refine q_ hf rfl rfl rfl (e_assign hf rfl) fun a hf => ?_
      refine pl_nil ?_
      refine then_n ?_
      refine wp_ret ?_
      obtain rfl := some_inj h
      have hM := hM.outs (own' := []) 0 rfl
      exact leave1 hf rfl rfl ⟨rfl, hM.fin, (R64_lit rfl)⟩

set_option maxRecDepth 100000 in
set_option maxHeartbeats 4000000 in
theorem r_spec_IsWord (C : Cx) (s1 : Str) (hp2 : s1.length ≤ maxLen) (r : Bool) (h : m_spec_IsWord s1 = some r) :
    Calls Try.prog 57 #[vS (s1)] C.w0 fun e w => e = .returned (.bool (r)) ∧ Mem C w [] [] := by
  have hM := Mem.begin C [] trivial
  refine enter Try.func57 rfl Try.ntmps57 rfl fun a hf => ?_
  unfold m_spec_IsWord at h
  refine wp_seq ?_
  refine region_pl ?_
  refine q_ hf rfl rfl rfl (e_assign hf rfl) fun a hf => ?_
  refine pl_nil ?_
  refine then_n ?_
  obtain ⟨x3, h4, h⟩ := bind_some h
  refine seq_join (fun a w => (.inl ()) = x3 ∧ Has 18 a [(0, vS (s1))] ∧ Mem C w [] []) ?_ ?_
  · refine wp_seq ?_
    refine region_pl ?_
    refine q_ hf rfl rfl rfl (e_assign hf rfl) fun a hf => ?_
    refine pl_nil ?_
    refine then_n ?_
    refine wp_block ?_
    obtain ⟨x8, h9, h4⟩ := bind_some h4
    refine wp_loopM h9 (fun s a w => ∃ (n5 : Int), n5 = s ∧ Has 18 a [(0, vS (s1)), (3, vI (n5))] ∧ Mem C w [] [] ∧ R64 n5) ?_ ?_
    · exact ⟨0, rfl, hf.keep ⟨rfl, rfl, trivial⟩, hM.pick [] rfl, (R64_lit rfl)⟩
    · rintro s o10 a w7 ⟨n5, rfl, hf, hM, hv6⟩ h11 hd12
      replace h11 : m_spec_IsWord_l1 s1 n5 = some o10 := h11
      unfold m_spec_IsWord_l1 at h11
      refine wp_seq ?_
      refine wp_seq ?_
      refine region_pl ?_
      refine q_ hf rfl rfl rfl (e_move hf rfl) fun a hf => ?_
      refine q_ hf rfl rfl rfl (e_move hf rfl) fun a hf => ?_
      refine q_ hf rfl rfl rfl (e_lenS hf (x := s1) rfl Try.underlying9) fun a hf => ?_
      refine q_ hf rfl rfl rfl (e_lt hf (x := n5) (y := (s1.length : Int)) rfl rfl) fun a hf => ?_
      refine pl_nil ?_
      refine then_n ?_
      rcases cond_some h11 with ⟨hc13, h11⟩ | ⟨hc13, h11⟩
      · refine cond_t hf rfl hc13 ?_
        refine wp_skip ?_
        refine then_n ?_
        refine wp_seq ?_
        refine wp_block ?_
        refine wp_seq ?_
        refine region_pl ?_
        refine q_ hf rfl rfl rfl (e_move hf rfl) fun a hf => ?_
        refine q_ hf rfl rfl rfl (e_move hf rfl) fun a hf => ?_
        obtain ⟨c14, hz15, h11⟩ := bind_some h11
        refine q_ hf rfl rfl rfl (e_indexS hf (x := s1) rfl rfl Try.underlying9 hz15) fun a hf => ?_
        obtain ⟨y16, hz17, h11⟩ := bind_some h11
        refine pl_l hf rfl rfl rfl (w_call hf Try.call87 rfl (r_spec_l01Small ⟨_, Sh C _ _, none_, hM.sh_lt, none_not⟩ c14 _ hz17) ?_)
        rintro _ w18 ⟨rfl, hM2⟩
        obtain ⟨hM, hx19, hup20⟩ := hM.back hM2
        dsimp only [List.cons_append, List.nil_append] at hM hup20
        clear hM2
        refine ⟨_, rfl, fun a hf => ?_⟩
        refine q_ hf rfl rfl rfl (e_not hf rfl) fun a hf => ?_
        refine pl_nil ?_
        refine then_n ?_
        rcases cond_some h11 with ⟨hc21, h11⟩ | ⟨hc21, h11⟩
        · refine cond_t hf rfl hc21 ?_
          refine wp_seq ?_
          refine region_pl ?_
          refine q_ hf rfl rfl rfl (e_assign hf rfl) fun a hf => ?_
          refine pl_nil ?_
          refine then_n ?_
          refine wp_ret ?_
          refine blk_r ?_
          refine then_r ?_
          obtain rfl := some_inj h11
          obtain rfl := hd12 _ rfl
          try dsimp only at h4
          refine then_r ?_
          refine blk_r ?_
          obtain rfl := some_inj h4
          try dsimp only at h
          refine then_r ?_
          obtain rfl := some_inj h
          exact leave1 hf rfl rfl ⟨rfl, hM.fin⟩
        · refine cond_f hf rfl hc21 ?_
          refine wp_skip ?_
          refine blk_n ?_
          refine then_n ?_
          refine region_pl ?_
          refine q_ hf rfl rfl rfl (e_move hf rfl) fun a hf => ?_
          obtain ⟨z22, hz23, h11⟩ := bind_some h11
          refine q_ hf rfl rfl rfl (e_add hf rfl rfl hz23) fun a hf => ?_
          refine q_ hf rfl rfl rfl (e_assign hf rfl) fun a hf => ?_
          refine pl_nil ?_
          obtain rfl := some_inj h11
          refine then_n ⟨_, rfl, ?_⟩
          exact ⟨z22, rfl, hf.keep ⟨rfl, rfl, trivial⟩, hM.pick [] rfl, (chk_R hz23)⟩
      · refine cond_f hf rfl hc13 ?_
        refine wp_exit ?_
        refine then_x ?_
        obtain rfl := some_inj h11
        obtain rfl := hd12 _ rfl
        try dsimp only at h4
        refine then_x ?_
        refine exit_hit ?_
        obtain rfl := some_inj h4
        refine then_n ?_
        exact ⟨rfl, hf.keep ⟨rfl, trivial⟩, hM.pick [] rfl⟩
  · rintro a w30 ⟨rfl, hf, hM⟩
    try dsimp only at h
    refine wp_seq ?_
    refine region_pl ?_
    refine q_ hf rfl rfl rfl (e_move hf rfl) fun a hf => ?_
    refine q_ hf rfl rfl rfl (e_lenS hf (x := s1) rfl Try.underlying9) fun a hf => ?_
    obtain ⟨y31, hz32, h⟩ := bind_some h
    refine pl_l hf rfl rfl rfl (w_call hf Try.call82 rfl (r_spec_l00In ⟨_, Sh C _ _, none_, hM.sh_lt, none_not⟩ (s1.length : Int) (R64_len hp2) 1 (R64_lit rfl) 12 (R64_lit rfl) _ hz32) ?_)
    rintro _ w33 ⟨rfl, hM2⟩
    obtain ⟨hM, hx34, hup35⟩ := hM.back hM2
    dsimp only [List.cons_append, List.nil_append] at hM hup35
    clear hM2
    refine ⟨_, rfl, fun a hf => ?_⟩
    refine q_ hf rfl rfl rfl (e_assign hf rfl) fun a hf => ?_
    refine pl_nil ?_
    refine then_n ?_
    refine wp_ret ?_
    obtain rfl := some_inj h
    exact leave1 hf rfl rfl ⟨rfl, hM.fin⟩

set_option maxRecDepth 100000 in
set_option maxHeartbeats 4000000 in
theorem r_spec_l25Square (C : Cx) (g1 : Grid) (b2 : Nat) (o3 : Nat) (hp4 : (ptrRep GridRep).R C.w0 C.S0 g1 [vP b2 o3]) (s5 : Slot) (b6 : Nat) (o7 : Nat) (hp8 : (ptrRep SlotRep).R C.w0 C.S0 s5 [vP b6 o7]) (k9 : Int) (hp10 : R64 k9) (r : Int) (h : m_spec_l25Square g1 s5 k9 = some r) :
    Calls Try.prog 85 #[vP b2 (o3), vP b6 (o7), vI (k9)] C.w0 fun e w => e = .returned (vI (r)) ∧ Mem C w [] [] ∧ R64 r := by
  have hM := Mem.begin C [.dat (ptrRep SlotRep) s5 [vP b6 o7], .dat (ptrRep GridRep) g1 [vP b2 o3]] ⟨hp8, hp4, trivial⟩
  refine enter Try.func85 rfl Try.ntmps85 rfl fun a hf => ?_
  unfold m_spec_l25Square at h
  refine wp_seq ?_
  refine region_pl ?_
  refine q_ hf rfl rfl rfl (e_assign hf rfl) fun a hf => ?_
  refine pl_nil ?_
  refine then_n ?_
  refine wp_seq ?_
  refine wp_seq ?_
  refine region_pl ?_
  refine q_ hf rfl rfl rfl (e_move hf rfl) fun a hf => ?_
  refine q_ hf rfl rfl rfl (e_nil hf rfl) fun a hf => ?_
  obtain ⟨_, hr11, hM⟩ := hM.deref (hM.dat (k := 0) rfl)
  obtain ⟨rfl, hv12, hv13, hv14⟩ := SlotRep_open hr11
  refine q_ hf rfl rfl rfl (e_field hf rfl Try.underlying75 rfl Try.sizeOf4 (o' := o7 + 2) rfl) fun a hf => ?_
  refine q_ hf rfl rfl rfl (e_load1 hf rfl Try.isAgg4 (hM.litCell (k := 0) (j := 2) rfl rfl rfl)) fun a hf => ?_
  refine pl_nil ?_
  refine then_n ?_
  rcases cond_some h with ⟨hc15, h⟩ | ⟨hc15, h⟩
  · refine cond_t hf rfl hc15 ?_
    refine wp_seq ?_
    obtain ⟨w16, hw⟩ : ∃ x, x = C.w0.drew := ⟨_, rfl⟩
    refine region_pi (.q 0 (.q 1 (.q 2 (.q 3 (.q 4 (.q 5 (.q 6 (.q 7 (.q 8 (.q 9 (.q 10 (.q 11 (.q 12 (.q 13 (.q 14 (.q 15 (.q 16 (.nil)))))))))))))))))) (Ext w16) rfl (by kernel_rfl) ?_
    have hM := hM.drew
    rw [← hw] at hM ⊢
    clear hw
    refine pi_q hf rfl rfl rfl rfl (Ext.refl _) (e_move hf rfl) fun a hf => ?_
    refine pi_q hf rfl rfl rfl rfl (Ext.refl _) (e_nil hf rfl) fun a hf => ?_
    refine pi_q hf rfl rfl rfl rfl (Ext.refl _) (e_field hf rfl Try.underlying75 rfl Try.sizeOf2 (o' := o7 + 0) rfl) fun a hf => ?_
    refine pi_q hf rfl rfl rfl rfl (Ext.refl _) (e_load1 hf rfl Try.isAgg2 (hM.litCell (k := 0) (j := 0) rfl rfl rfl)) fun a hf => ?_
    refine pi_q hf rfl rfl rfl rfl (Ext.refl _) (e_move hf rfl) fun a hf => ?_
    obtain ⟨z17, hz18, h⟩ := bind_some h
    refine pi_q hf rfl rfl rfl rfl (Ext.refl _) (e_add hf rfl rfl hz18) fun a hf => ?_
    refine pi_q hf rfl rfl rfl rfl (Ext.refl _) (e_move hf rfl) fun a hf => ?_
    refine pi_q hf rfl rfl rfl rfl (Ext.refl _) (e_nil hf rfl) fun a hf => ?_
    obtain ⟨_, hr19, hM⟩ := hM.deref (hM.dat (k := 2) rfl)
    obtain ⟨rfl, hv20, hv21, hv22⟩ := GridRep_open hr19
    refine pi_q hf rfl rfl rfl rfl (Ext.refl _) (e_field hf rfl Try.underlying27 rfl Try.sizeOf2 (o' := o3 + 1) rfl) fun a hf => ?_
    refine pi_q hf rfl rfl rfl rfl (Ext.refl _) (e_load1 hf rfl Try.isAgg2 (hM.litCell (k := 0) (j := 1) rfl rfl rfl)) fun a hf => ?_
    obtain ⟨z23, hz24, h⟩ := bind_some h
    refine pi_q hf rfl rfl rfl rfl (Ext.refl _) (e_mul hf rfl rfl hz24) fun a hf => ?_
    refine pi_q hf rfl rfl rfl rfl (Ext.refl _) (e_move hf rfl) fun a hf => ?_
    refine pi_q hf rfl rfl rfl rfl (Ext.refl _) (e_nil hf rfl) fun a hf => ?_
    refine pi_q hf rfl rfl rfl rfl (Ext.refl _) (e_field hf rfl Try.underlying75 rfl Try.sizeOf2 (o' := o7 + 1) rfl) fun a hf => ?_
    refine pi_q hf rfl rfl rfl rfl (Ext.refl _) (e_load1 hf rfl Try.isAgg2 (hM.litCell (k := 1) (j := 1) rfl rfl rfl)) fun a hf => ?_
    obtain ⟨z25, hz26, h⟩ := bind_some h
    refine pi_q hf rfl rfl rfl rfl (Ext.refl _) (e_add hf rfl rfl hz26) fun a hf => ?_
    refine pi_q hf rfl rfl rfl rfl (Ext.refl _) (e_assign hf rfl) fun a hf => ?_
    refine pi_nil ?_
    refine then_n ?_
    refine wp_ret ?_
    refine then_r ?_
    obtain rfl := some_inj h
    exact leave1 hf rfl rfl ⟨rfl, hM.fin, (chk_R hz26)⟩
  · refine cond_f hf rfl hc15 ?_
    refine wp_skip ?_
    refine then_n ?_
    refine wp_seq ?_
    obtain ⟨w27, hw⟩ : ∃ x, x = C.w0.drew := ⟨_, rfl⟩
    refine region_pi (.q 0 (.q 1 (.q 2 (.q 3 (.q 4 (.q 5 (.q 6 (.q 7 (.q 8 (.q 9 (.q 10 (.q 11 (.q 12 (.q 13 (.q 14 (.q 15 (.q 16 (.nil)))))))))))))))))) (Ext w27) rfl (by kernel_rfl) ?_
    have hM := hM.drew
    rw [← hw] at hM ⊢
    clear hw
    refine pi_q hf rfl rfl rfl rfl (Ext.refl _) (e_move hf rfl) fun a hf => ?_
    refine pi_q hf rfl rfl rfl rfl (Ext.refl _) (e_nil hf rfl) fun a hf => ?_
    refine pi_q hf rfl rfl rfl rfl (Ext.refl _) (e_field hf rfl Try.underlying75 rfl Try.sizeOf2 (o' := o7 + 0) rfl) fun a hf => ?_
    refine pi_q hf rfl rfl rfl rfl (Ext.refl _) (e_load1 hf rfl Try.isAgg2 (hM.litCell (k := 0) (j := 0) rfl rfl rfl)) fun a hf => ?_
    refine pi_q hf rfl rfl rfl rfl (Ext.refl _) (e_move hf rfl) fun a hf => ?_
    refine pi_q hf rfl rfl rfl rfl (Ext.refl _) (e_nil hf rfl) fun a hf => ?_
    obtain ⟨_, hr28, hM⟩ := hM.deref (hM.dat (k := 2) rfl)
    obtain ⟨rfl, hv29, hv30, hv31⟩ := GridRep_open hr28
    refine pi_q hf rfl rfl rfl rfl (Ext.refl _) (e_field hf rfl Try.underlying27 rfl Try.sizeOf2 (o' := o3 + 1) rfl) fun a hf => ?_
    refine pi_q hf rfl rfl rfl rfl (Ext.refl _) (e_load1 hf rfl Try.isAgg2 (hM.litCell (k := 0) (j := 1) rfl rfl rfl)) fun a hf => ?_
    obtain ⟨z32, hz33, h⟩ := bind_some h
    refine pi_q hf rfl rfl rfl rfl (Ext.refl _) (e_mul hf rfl rfl hz33) fun a hf => ?_
    refine pi_q hf rfl rfl rfl rfl (Ext.refl _) (e_move hf rfl) fun a hf => ?_
    refine pi_q hf rfl rfl rfl rfl (Ext.refl _) (e_nil hf rfl) fun a hf => ?_
    refine pi_q hf rfl rfl rfl rfl (Ext.refl _) (e_field hf rfl Try.underlying75 rfl Try.sizeOf2 (o' := o7 + 1) rfl) fun a hf => ?_
    refine pi_q hf rfl rfl rfl rfl (Ext.refl _) (e_load1 hf rfl Try.isAgg2 (hM.litCell (k := 1) (j := 1) rfl rfl rfl)) fun a hf => ?_
    obtain ⟨z34, hz35, h⟩ := bind_some h
    refine pi_q hf rfl rfl rfl rfl (Ext.refl _) (e_add hf rfl rfl hz35) fun a hf => ?_
    refine pi_q hf rfl rfl rfl rfl (Ext.refl _) (e_move hf rfl) fun a hf => ?_
    obtain ⟨z36, hz37, h⟩ := bind_some h
    refine pi_q hf rfl rfl rfl rfl (Ext.refl _) (e_add hf rfl rfl hz37) fun a hf => ?_
    refine pi_q hf rfl rfl rfl rfl (Ext.refl _) (e_assign hf rfl) fun a hf => ?_
    refine pi_nil ?_
    refine then_n ?_
    refine wp_ret ?_
    obtain rfl := some_inj h
    exact leave1 hf rfl rfl ⟨rfl, hM.fin, (chk_R hz37)⟩

set_option maxRecDepth 100000 in
set_option maxHeartbeats 4000000 in
theorem r_spec_l25Pattern (C : Cx) (g1 : Grid) (b2 : Nat) (o3 : Nat) (hp4 : (ptrRep GridRep).R C.w0 C.S0 g1 [vP b2 o3]) (s5 : Slot) (b6 : Nat) (o7 : Nat) (hp8 : (ptrRep SlotRep).R C.w0 C.S0 s5 [vP b6 o7]) (r : Str) (h : m_spec_l25Pattern g1 s5 = some r) :
    Calls Try.prog 51 #[vP b2 (o3), vP b6 (o7)] C.w0 fun e w => e = .returned (vS (r)) ∧ Mem C w [] [] ∧ r.length ≤ maxLen := by
  have hM := Mem.begin C [.dat (ptrRep SlotRep) s5 [vP b6 o7], .dat (ptrRep GridRep) g1 [vP b2 o3]] ⟨hp8, hp4, trivial⟩
  refine enter Try.func51 rfl Try.ntmps51 rfl fun a hf => ?_
  unfold m_spec_l25Pattern at h
  refine wp_seq ?_
  refine region_pl ?_
  refine q_ hf rfl rfl rfl (e_assign hf rfl) fun a hf => ?_
  refine pl_nil ?_
  refine then_n ?_
  refine wp_seq ?_
  refine region_pl ?_
  refine pl_l hf rfl rfl rfl (w_slice0 (K := byteRep) hM Try.underlying63 ei_5 fun b9 w10 hx11 hM a hf => ?_)
  refine q_ hf rfl rfl rfl (e_assign hf rfl) fun a hf => ?_
  refine pl_nil ?_
  refine then_n ?_
  obtain ⟨x15, h16, h⟩ := bind_some h
  refine seq_join (fun a w => ∃ (xs12 : Str) (A13 : Option Addr) (c14 : Nat), xs12 = x15 ∧ Has 30 a [(5, vL A13 (xs12) c14)] ∧ Mem C w [.row byteRep A13 c14 5 xs12 true] [.dat (ptrRep SlotRep) s5 [vP b6 o7], .dat (ptrRep GridRep) g1 [vP b2 o3]]) ?_ ?_
  · refine wp_seq ?_
    refine region_pl ?_
    refine q_ hf rfl rfl rfl (e_assign hf rfl) fun a hf => ?_
    refine pl_nil ?_
    refine then_n ?_
    refine wp_block ?_
    obtain ⟨x26, h27, h16⟩ := bind_some h16
    refine wp_loopM h27 (fun s a w => ∃ (xs17 : Str) (n20 : Int) (A18 : Option Addr) (c19 : Nat), (xs17, n20) = s ∧ Has 30 a [(0, vP b2 (o3)), (1, vP b6 (o7)), (5, vL A18 (xs17) c19), (6, vI (n20))] ∧ Mem C w [.row byteRep A18 c19 5 xs17 true] [.dat (ptrRep SlotRep) s5 [vP b6 o7], .dat (ptrRep GridRep) g1 [vP b2 o3]] ∧ R64 n20) ?_ ?_
    · exact ⟨([] : Str), 0, (some ⟨b9, 0, none⟩), 0, rfl, hf.keep ⟨rfl, rfl, rfl, rfl, trivial⟩, hM.pick [0, 1] rfl, (R64_lit rfl)⟩
    · rintro s o28 a w22 ⟨xs17, n20, A18, c19, rfl, hf, hM, hv21⟩ h29 hd30
      replace h29 : m_spec_l25Pattern_l1 s5 g1 xs17 n20 = some o28 := h29
      unfold m_spec_l25Pattern_l1 at h29
      refine wp_seq ?_
      refine wp_seq ?_
      refine region_pl ?_
      refine q_ hf rfl rfl rfl (e_move hf rfl) fun a hf => ?_
      refine q_ hf rfl rfl rfl (e_move hf rfl) fun a hf => ?_
      refine q_ hf rfl rfl rfl (e_nil hf rfl) fun a hf => ?_
      obtain ⟨_, hr31, hM⟩ := hM.deref (hM.dat (k := 0) rfl)
      obtain ⟨rfl, hv32, hv33, hv34⟩ := SlotRep_open hr31
      refine q_ hf rfl rfl rfl (e_field hf rfl Try.underlying75 rfl Try.sizeOf2 (o' := o7 + 3) rfl) fun a hf => ?_
      refine q_ hf rfl rfl rfl (e_load1 hf rfl Try.isAgg2 (hM.litCell (k := 0) (j := 3) rfl rfl rfl)) fun a hf => ?_
      refine q_ hf rfl rfl rfl (e_lt hf (x := n20) (y := s5.Length) rfl rfl) fun a hf => ?_
      refine pl_nil ?_
      refine then_n ?_
      rcases cond_some h29 with ⟨hc35, h29⟩ | ⟨hc35, h29⟩
      · refine cond_t hf rfl hc35 ?_
        refine wp_skip ?_
        refine then_n ?_
        refine wp_seq ?_
        refine wp_block ?_
        obtain ⟨w36, hw⟩ : ∃ x, x = w22.drew := ⟨_, rfl⟩
        refine region_pi (.q 0 (.q 1 (.q 2 (.q 3 (.q 4 (.q 5 (.q 6 (.q 7 (.l 8 (.q 9 (.l 10 (.l 11 (.q 12 (.nil)))))))))))))) (Ext w36) rfl (by kernel_rfl) ?_
        have hM := hM.drew
        rw [← hw] at hM ⊢
        clear hw
        refine pi_q hf rfl rfl rfl rfl (Ext.refl _) (e_move hf rfl) fun a hf => ?_
        refine pi_q hf rfl rfl rfl rfl (Ext.refl _) (e_move hf rfl) fun a hf => ?_
        refine pi_q hf rfl rfl rfl rfl (Ext.refl _) (e_nil hf rfl) fun a hf => ?_
        obtain ⟨_, hr37, hM⟩ := hM.deref (hM.dat (k := 2) rfl)
        obtain ⟨rfl, hv38, hv39, hv40⟩ := GridRep_open hr37
        refine pi_q hf rfl rfl rfl rfl (Ext.refl _) (e_field hf rfl Try.underlying27 rfl Try.sizeOf9 (o' := o3 + 2) rfl) fun a hf => ?_
        refine pi_q hf rfl rfl rfl rfl (Ext.refl _) (e_load1 hf rfl Try.isAgg9 (hM.litCell (k := 0) (j := 2) rfl rfl rfl)) fun a hf => ?_
        refine pi_q hf rfl rfl rfl rfl (Ext.refl _) (e_move hf rfl) fun a hf => ?_
        refine pi_q hf rfl rfl rfl rfl (Ext.refl _) (e_move hf rfl) fun a hf => ?_
        refine pi_q hf rfl rfl rfl rfl (Ext.refl _) (e_move hf rfl) fun a hf => ?_
        refine pi_one ?_
        obtain ⟨y41, hz42, h29⟩ := bind_some h29
        refine pi_l hf rfl rfl rfl rfl (w_call hf Try.call85 rfl (r_spec_l25Square ⟨_, Sh C _ _, none_, hM.sh_lt, none_not⟩ g1 _ _ (hM.dat (k := 3) rfl) s5 _ _ (hM.dat (k := 2) rfl) n20 hv21 _ hz42) ?_)
        rintro _ w44 ⟨rfl, hM2, hv43⟩
        obtain ⟨hM, hx45, hup46⟩ := hM.back hM2
        dsimp only [List.cons_append, List.nil_append] at hM hup46
        clear hM2
        refine ⟨_, rfl, Ext w44, fun _ h => Ext.trans hx45 h, Ext.refl _, fun a hf => ?_⟩
        obtain ⟨c47, hz48, h29⟩ := bind_some h29
        refine pi_q hf rfl rfl rfl rfl (Ext.refl _) (e_indexS hf (x := g1.Cells) rfl rfl Try.underlying9 hz48) fun a hf => ?_
        refine pi_one ?_
        refine pi_l hf rfl rfl rfl rfl (w_slice hf hM (K := byteRep) (xs := ([c47] : Str)) (os := [.tmp 25]) Try.underlying63 ei_5 rfl rfl rfl rfl rfl ⟨⟨[vB (c47)], rfl, rfl⟩, trivial⟩ rfl fun b49 w50 hx51 hM => ⟨Ext w50, fun _ h => Ext.trans hx51 h, Ext.refl _, fun a hf => ?_⟩)
        refine pi_one ?_
        obtain ⟨xs52, hz53, h29⟩ := bind_some h29
        refine pi_z hf rfl rfl rfl rfl (by kernel_rfl) (w_append hf hM Try.underlying63 ei_5 rfl rfl rfl (k := 1) rfl (hM.srcRow (k := 0) rfl) hz53 fun A54 c55 w56 hM a hf => ?_)
        dsimp only [List.set] at hM
        refine pi_q hf rfl rfl rfl rfl (Ext.refl _) (e_assign hf rfl) fun a hf => ?_
        refine pi_nil ?_
        refine blk_n ?_
        refine then_n ?_
        refine region_pl ?_
        refine q_ hf rfl rfl rfl (e_move hf rfl) fun a hf => ?_
        obtain ⟨z59, hz60, h29⟩ := bind_some h29
        refine q_ hf rfl rfl rfl (e_add hf rfl rfl hz60) fun a hf => ?_
        refine q_ hf rfl rfl rfl (e_assign hf rfl) fun a hf => ?_
        refine pl_nil ?_
        obtain rfl := some_inj h29
        refine then_n ⟨_, rfl, ?_⟩
        exact ⟨xs52, z59, A54, c55, rfl, hf.keep ⟨rfl, rfl, rfl, rfl, trivial⟩, (hM.drop (.cons _ (.cons_cons _ .slnil))).pick [2, 3] rfl, (chk_R hz60)⟩
      · refine cond_f hf rfl hc35 ?_
        refine wp_exit ?_
        refine then_x ?_
        obtain rfl := some_inj h29
        obtain rfl := hd30 _ rfl
        try dsimp only at h16
        refine then_x ?_
        refine exit_hit ?_
        obtain rfl := some_inj h16
        refine then_n ?_
        exact ⟨xs17, A18, c19, rfl, hf.keep ⟨rfl, trivial⟩, hM.pick [1, 2] rfl⟩
  · rintro a w66 ⟨xs12, A13, c14, rfl, hf, hM⟩
    try dsimp only at h
    refine wp_seq ?_
    refine region_pl ?_
    refine q_ hf rfl rfl rfl (e_move hf rfl) fun a hf => ?_
    have hl67 := row_len (hM.ownAt (k := 0) rfl)
    refine q_ hf rfl rfl rfl (e_bytesStr hf (xs := xs12) rfl Try.underlying63 Try.underlying5 Try.underlying9 (hM.lendRow (k := 0) rfl)) fun a hf => ?_
    refine q_ hf rfl rfl rfl (e_assign hf rfl) fun a hf => ?_
    refine pl_nil ?_
    refine then_n ?_
    refine wp_ret ?_
    obtain rfl := some_inj h
    have hM := hM.outs (own' := []) 0 rfl
    exact leave1 hf rfl rfl ⟨rfl, hM.fin, hl67⟩

set_option maxRecDepth 100000 in
set_option maxHeartbeats 4000000 in
theorem r_spec_l25Fits (C : Cx) (pattern1 : Str) (hp2 : pattern1.length ≤ maxLen) (word3 : Str) (hp4 : word3.length ≤ maxLen) (r : Bool) (h : m_spec_l25Fits pattern1 word3 = some r) :
    Calls Try.prog 58 #[vS (pattern1), vS (word3)] C.w0 fun e w => e = .returned (.bool (r)) ∧ Mem C w [] [] := by
  have hM := Mem.begin C [] trivial
  refine enter Try.func58 rfl Try.ntmps58 rfl fun a hf => ?_
  unfold m_spec_l25Fits at h
  refine wp_seq ?_
  refine region_pl ?_
  refine q_ hf rfl rfl rfl (e_assign hf rfl) fun a hf => ?_
  refine pl_nil ?_
  refine then_n ?_
  refine wp_seq ?_
  refine wp_seq ?_
  refine region_pl ?_
  refine q_ hf rfl rfl rfl (e_move hf rfl) fun a hf => ?_
  refine q_ hf rfl rfl rfl (e_lenS hf (x := pattern1) rfl Try.underlying9) fun a hf => ?_
  refine q_ hf rfl rfl rfl (e_move hf rfl) fun a hf => ?_
  refine q_ hf rfl rfl rfl (e_lenS hf (x := word3) rfl Try.underlying9) fun a hf => ?_
  refine q_ hf rfl rfl rfl (e_ne hf (x := (pattern1.length : Int)) (y := (word3.length : Int)) rfl rfl) fun a hf => ?_
  refine pl_nil ?_
  refine then_n ?_
  rcases cond_some h with ⟨hc5, h⟩ | ⟨hc5, h⟩
  · refine cond_t hf rfl hc5 ?_
    refine wp_seq ?_
    refine region_pl ?_
    refine q_ hf rfl rfl rfl (e_assign hf rfl) fun a hf => ?_
    refine pl_nil ?_
    refine then_n ?_
    refine wp_ret ?_
    refine then_r ?_
    obtain rfl := some_inj h
    exact leave1 hf rfl rfl ⟨rfl, hM.fin⟩
  · refine cond_f hf rfl hc5 ?_
    refine wp_skip ?_
    refine then_n ?_
    obtain ⟨x6, h7, h⟩ := bind_some h
    refine seq_join (fun a w => (.inl ()) = x6 ∧ Has 30 a [] ∧ Mem C w [] []) ?_ ?_
    · refine wp_seq ?_
      refine region_pl ?_
      refine q_ hf rfl rfl rfl (e_assign hf rfl) fun a hf => ?_
      refine pl_nil ?_
      refine then_n ?_
      refine wp_block ?_
      obtain ⟨x11, h12, h7⟩ := bind_some h7
      refine wp_loopM h12 (fun s a w => ∃ (n8 : Int), n8 = s ∧ Has 30 a [(0, vS (pattern1)), (1, vS (word3)), (5, vI (n8))] ∧ Mem C w [] [] ∧ R64 n8) ?_ ?_
      · exact ⟨0, rfl, hf.keep ⟨rfl, rfl, rfl, trivial⟩, hM.pick [] rfl, (R64_lit rfl)⟩
      · rintro s o13 a w10 ⟨n8, rfl, hf, hM, hv9⟩ h14 hd15
        replace h14 : m_spec_l25Fits_l1 word3 pattern1 n8 = some o13 := h14
        unfold m_spec_l25Fits_l1 at h14
        refine wp_seq ?_
        refine wp_seq ?_
        refine region_pl ?_
        refine q_ hf rfl rfl rfl (e_move hf rfl) fun a hf => ?_
        refine q_ hf rfl rfl rfl (e_move hf rfl) fun a hf => ?_
        refine q_ hf rfl rfl rfl (e_lenS hf (x := word3) rfl Try.underlying9) fun a hf => ?_
        refine q_ hf rfl rfl rfl (e_lt hf (x := n8) (y := (word3.length : Int)) rfl rfl) fun a hf => ?_
        refine pl_nil ?_
        refine then_n ?_
        rcases cond_some h14 with ⟨hc16, h14⟩ | ⟨hc16, h14⟩
        · refine cond_t hf rfl hc16 ?_
          refine wp_skip ?_
          refine then_n ?_
          refine wp_seq ?_
          refine wp_block ?_
          obtain ⟨x19, h20, h14⟩ := bind_some h14
          refine seq_join (fun a w => ∃ (t17 : Bool), t17 = x19 ∧ Has 30 a [(0, vS (pattern1)), (1, vS (word3)), (5, vI (n8)), (29, .bool (t17))] ∧ Mem C w [] []) ?_ ?_
          · obtain ⟨w21, hw⟩ : ∃ x, x = w10.drew := ⟨_, rfl⟩
            refine region_pi (.q 0 (.q 1 (.q 2 (.q 3 (.q 4 (.q 5 (.q 6 (.q 7 (.q 8 (.q 9 (.q 10 (.q 11 (.q 12 (.nil)))))))))))))) (Ext w21) rfl (by kernel_rfl) ?_
            have hM := hM.drew
            rw [← hw] at hM ⊢
            clear hw
            refine pi_q hf rfl rfl rfl rfl (Ext.refl _) (e_move hf rfl) fun a hf => ?_
            refine pi_q hf rfl rfl rfl rfl (Ext.refl _) (e_move hf rfl) fun a hf => ?_
            obtain ⟨c22, hz23, h20⟩ := bind_some h20
            refine pi_q hf rfl rfl rfl rfl (Ext.refl _) (e_indexS hf (x := pattern1) rfl rfl Try.underlying9 hz23) fun a hf => ?_
            refine pi_q hf rfl rfl rfl rfl (Ext.refl _) (e_neB hf (x := c22) (y := 46) rfl rfl) fun a hf => ?_
            refine pi_q hf rfl rfl rfl rfl (Ext.refl _) (e_move hf rfl) fun a hf => ?_
            rcases cond_some h20 with ⟨hc24, h20⟩ | ⟨hc24, h20⟩
            · refine pi_gq hf rfl (wanted_t hf rfl rfl rfl rfl hc24) rfl rfl (Ext.refl _) (e_move hf rfl) fun a hf => ?_
              refine pi_gq hf rfl (wanted_t hf rfl rfl rfl rfl hc24) rfl rfl (Ext.refl _) (e_move hf rfl) fun a hf => ?_
              obtain ⟨c25, hz26, h20⟩ := bind_some h20
              refine pi_gq hf rfl (wanted_t hf rfl rfl rfl rfl hc24) rfl rfl (Ext.refl _) (e_indexS hf (x := pattern1) rfl rfl Try.underlying9 hz26) fun a hf => ?_
              refine pi_gq hf rfl (wanted_t hf rfl rfl rfl rfl hc24) rfl rfl (Ext.refl _) (e_move hf rfl) fun a hf => ?_
              refine pi_gq hf rfl (wanted_t hf rfl rfl rfl rfl hc24) rfl rfl (Ext.refl _) (e_move hf rfl) fun a hf => ?_
              obtain ⟨c27, hz28, h20⟩ := bind_some h20
              refine pi_gq hf rfl (wanted_t hf rfl rfl rfl rfl hc24) rfl rfl (Ext.refl _) (e_indexS hf (x := word3) rfl rfl Try.underlying9 hz28) fun a hf => ?_
              refine pi_gq hf rfl (wanted_t hf rfl rfl rfl rfl hc24) rfl rfl (Ext.refl _) (e_neB hf (x := c25) (y := c27) rfl rfl) fun a hf => ?_
              refine pi_q hf rfl rfl rfl rfl (Ext.refl _) (e_pick_t hf rfl hc24 rfl) fun a hf => ?_
              refine pi_nil ?_
              obtain rfl := some_inj h20
              refine then_n ?_
              exact ⟨(c25 != c27), rfl, hf.keep ⟨rfl, rfl, rfl, rfl, trivial⟩, hM.pick [] rfl⟩
            · refine pi_gs hf rfl (wanted_f hf rfl rfl rfl rfl hc24) rfl rfl (Ext.refl _) fun a hf => ?_
              refine pi_gs hf rfl (wanted_f hf rfl rfl rfl rfl hc24) rfl rfl (Ext.refl _) fun a hf => ?_
              refine pi_gs hf rfl (wanted_f hf rfl rfl rfl rfl hc24) rfl rfl (Ext.refl _) fun a hf => ?_
              refine pi_gs hf rfl (wanted_f hf rfl rfl rfl rfl hc24) rfl rfl (Ext.refl _) fun a hf => ?_
              refine pi_gs hf rfl (wanted_f hf rfl rfl rfl rfl hc24) rfl rfl (Ext.refl _) fun a hf => ?_
              refine pi_gs hf rfl (wanted_f hf rfl rfl rfl rfl hc24) rfl rfl (Ext.refl _) fun a hf => ?_
              refine pi_gs hf rfl (wanted_f hf rfl rfl rfl rfl hc24) rfl rfl (Ext.refl _) fun a hf => ?_
              refine pi_q hf rfl rfl rfl rfl (Ext.refl _) (e_pick_f hf rfl hc24 rfl) fun a hf => ?_
              refine pi_nil ?_
              obtain rfl := some_inj h20
              refine then_n ?_
              exact ⟨false, rfl, hf.keep ⟨rfl, rfl, rfl, rfl, trivial⟩, hM.pick [] rfl⟩
          · rintro a w31 ⟨t17, rfl, hf, hM⟩
            try dsimp only at h14
            rcases cond_some h14 with ⟨hc32, h14⟩ | ⟨hc32, h14⟩
            · refine cond_t hf rfl hc32 ?_
              refine wp_seq ?_
              refine region_pl ?_
              refine q_ hf rfl rfl rfl (e_assign hf rfl) fun a hf => ?_
              refine pl_nil ?_
              refine then_n ?_
              refine wp_ret ?_
              refine blk_r ?_
              refine then_r ?_
              obtain rfl := some_inj h14
              obtain rfl := hd15 _ rfl
              try dsimp only at h7
              refine then_r ?_
              refine blk_r ?_
              obtain rfl := some_inj h7
              try dsimp only at h
              refine then_r ?_
              obtain rfl := some_inj h
              exact leave1 hf rfl rfl ⟨rfl, hM.fin⟩
            · refine cond_f hf rfl hc32 ?_
              refine wp_skip ?_
              refine blk_n ?_
              refine then_n ?_
              refine region_pl ?_
              refine q_ hf rfl rfl rfl (e_move hf rfl) fun a hf => ?_
              obtain ⟨z33, hz34, h14⟩ := bind_some h14
              refine q_ hf rfl rfl rfl (e_add hf rfl rfl hz34) fun a hf => ?_
              refine q_ hf rfl rfl rfl (e_assign hf rfl) fun a hf => ?_
              refine pl_nil ?_
              obtain rfl := some_inj h14
              refine then_n ⟨_, rfl, ?_⟩
              exact ⟨z33, rfl, hf.keep ⟨rfl, rfl, rfl, trivial⟩, hM.pick [] rfl, (chk_R hz34)⟩
        · refine cond_f hf rfl hc16 ?_
          refine wp_exit ?_
          refine then_x ?_
          obtain rfl := some_inj h14
          obtain rfl := hd15 _ rfl
          try dsimp only at h7
          refine then_x ?_
          refine exit_hit ?_
          obtain rfl := some_inj h7
          refine then_n ?_
          exact ⟨rfl, hf.keep trivial, hM.pick [] rfl⟩
    · rintro a w41 ⟨rfl, hf, hM⟩
      try dsimp only at h
      refine wp_seq ?_
      refine region_pl ?_
      refine q_ hf rfl rfl rfl (e_assign hf rfl) fun a hf => ?_
      refine pl_nil ?_
      refine then_n ?_
      refine wp_ret ?_
      obtain rfl := some_inj h
      exact leave1 hf rfl rfl ⟨rfl, hM.fin⟩

set_option maxRecDepth 100000 in
set_option maxHeartbeats 4000000 in
theorem r_spec_l25Put (C : Cx) (g1 : Grid) (b2 : Nat) (o3 : Nat) (hp4 : (ptrRep GridRep).R C.w0 C.S0 g1 [vP b2 o3]) (s5 : Slot) (b6 : Nat) (o7 : Nat) (hp8 : (ptrRep SlotRep).R C.w0 C.S0 s5 [vP b6 o7]) (word9 : Str) (hp10 : word9.length ≤ maxLen) (r : Grid) (h : m_spec_l25Put g1 s5 word9 = some r) :
    Calls Try.prog 59 #[vP b2 (o3), vP b6 (o7), vS (word9)] C.w0 fun e w => e = .returned (.agg #[vI (r.Rows), vI (r.Cols), vS (r.Cells)]) ∧ Mem C w [] [] ∧ R64 r.Rows ∧ R64 r.Cols ∧ r.Cells.length ≤ maxLen := by
  have hM := Mem.begin C [.dat (ptrRep SlotRep) s5 [vP b6 o7], .dat (ptrRep GridRep) g1 [vP b2 o3]] ⟨hp8, hp4, trivial⟩
  refine enter Try.func59 rfl Try.ntmps59 rfl fun a hf => ?_
  unfold m_spec_l25Put at h
  refine wp_seq ?_
  refine region_pl ?_
  refine pl_l hf rfl rfl rfl (w_alloc hM (cs := [vI (0), vI (0), vS (([] : Str))]) Try.zeroValue27 rfl fun b11 w12 hx13 hM a hf => ?_)
  refine pl_nil ?_
  refine then_n ?_
  refine wp_seq ?_
  refine region_pl ?_
  refine q_ hf rfl rfl rfl (e_move hf rfl) fun a hf => ?_
  refine q_ hf rfl rfl rfl (e_nil hf rfl) fun a hf => ?_
  obtain ⟨_, hr15, hM⟩ := hM.deref (hM.dat (k := 1) rfl)
  obtain ⟨rfl, hv16, hv17, hv18⟩ := GridRep_open hr15
  refine q_ hf rfl rfl rfl (e_field hf rfl Try.underlying27 rfl Try.sizeOf9 (o' := o3 + 2) rfl) fun a hf => ?_
  refine q_ hf rfl rfl rfl (e_load1 hf rfl Try.isAgg9 (hM.litCell (k := 0) (j := 2) rfl rfl rfl)) fun a hf => ?_
  refine pl_l hf rfl rfl rfl (w_bytes hf hM (x := g1.Cells) rfl Try.underlying9 Try.underlying63 Try.underlying5 hv18 fun A19 c20 w21 hx22 hM a hf => ?_)
  refine q_ hf rfl rfl rfl (e_assign hf rfl) fun a hf => ?_
  refine pl_nil ?_
  refine then_n ?_
  obtain ⟨x24, h25, h⟩ := bind_some h
  refine seq_join (fun a w => ∃ (xs23 : Str), xs23 = x24 ∧ Has 42 a [(0, vP b2 (o3)), (6, vP b11 (0)), (7, vL A19 (xs23) c20)] ∧ Mem C w [.row byteRep A19 c20 5 xs23 false, .box b11 [vI (0), vI (0), vS (([] : Str))] 27] [.lit b2 (o3) [vI (g1.Rows), vI (g1.Cols), vS (g1.Cells)], .dat (ptrRep SlotRep) s5 [vP b6 o7], .dat (ptrRep GridRep) g1 [vP b2 o3]]) ?_ ?_
  · refine wp_seq ?_
    refine region_pl ?_
    refine q_ hf rfl rfl rfl (e_assign hf rfl) fun a hf => ?_
    refine pl_nil ?_
    refine then_n ?_
    refine wp_block ?_
    obtain ⟨x31, h32, h25⟩ := bind_some h25
    refine wp_loopM h32 (fun s a w => ∃ (xs26 : Str) (n27 : Int), (xs26, n27) = s ∧ Has 42 a [(0, vP b2 (o3)), (1, vP b6 (o7)), (2, vS (word9)), (6, vP b11 (0)), (7, vL A19 (xs26) c20), (8, vI (n27))] ∧ Mem C w [.row byteRep A19 c20 5 xs26 false, .box b11 [vI (0), vI (0), vS (([] : Str))] 27] [.lit b2 (o3) [vI (g1.Rows), vI (g1.Cols), vS (g1.Cells)], .dat (ptrRep SlotRep) s5 [vP b6 o7], .dat (ptrRep GridRep) g1 [vP b2 o3]] ∧ R64 n27) ?_ ?_
    · exact ⟨g1.Cells, 0, rfl, hf.keep ⟨rfl, rfl, rfl, rfl, rfl, rfl, trivial⟩, hM.pick [0, 1, 2] rfl, (R64_lit rfl)⟩
    · rintro s o33 a w29 ⟨xs26, n27, rfl, hf, hM, hv28⟩ h34 hd35
      replace h34 : m_spec_l25Put_l1 s5 word9 g1 xs26 n27 = some o33 := h34
      unfold m_spec_l25Put_l1 at h34
      refine wp_seq ?_
      refine wp_seq ?_
      refine region_pl ?_
      refine q_ hf rfl rfl rfl (e_move hf rfl) fun a hf => ?_
      refine q_ hf rfl rfl rfl (e_move hf rfl) fun a hf => ?_
      refine q_ hf rfl rfl rfl (e_nil hf rfl) fun a hf => ?_
      obtain ⟨_, hr36, hM⟩ := hM.deref (hM.dat (k := 1) rfl)
      obtain ⟨rfl, hv37, hv38, hv39⟩ := SlotRep_open hr36
      refine q_ hf rfl rfl rfl (e_field hf rfl Try.underlying75 rfl Try.sizeOf2 (o' := o7 + 3) rfl) fun a hf => ?_
      refine q_ hf rfl rfl rfl (e_load1 hf rfl Try.isAgg2 (hM.litCell (k := 0) (j := 3) rfl rfl rfl)) fun a hf => ?_
      refine q_ hf rfl rfl rfl (e_lt hf (x := n27) (y := s5.Length) rfl rfl) fun a hf => ?_
      refine pl_nil ?_
      refine then_n ?_
      rcases cond_some h34 with ⟨hc40, h34⟩ | ⟨hc40, h34⟩
      · refine cond_t hf rfl hc40 ?_
        refine wp_skip ?_
        refine then_n ?_
        refine wp_seq ?_
        refine wp_block ?_
        obtain ⟨w41, hw⟩ : ∃ x, x = w29.drew := ⟨_, rfl⟩
        refine region_pi (.q 0 (.q 1 (.q 2 (.q 3 (.q 5 (.q 6 (.q 7 (.l 4 (.q 8 (.l 9 (.nil))))))))))) (Ext w41) rfl (by kernel_rfl) ?_
        have hM := hM.drew
        rw [← hw] at hM ⊢
        clear hw
        refine pi_q hf rfl rfl rfl rfl (Ext.refl _) (e_move hf rfl) fun a hf => ?_
        refine pi_q hf rfl rfl rfl rfl (Ext.refl _) (e_move hf rfl) fun a hf => ?_
        refine pi_q hf rfl rfl rfl rfl (Ext.refl _) (e_move hf rfl) fun a hf => ?_
        refine pi_q hf rfl rfl rfl rfl (Ext.refl _) (e_move hf rfl) fun a hf => ?_
        refine pi_q hf rfl rfl rfl rfl (Ext.refl _) (e_move hf rfl) fun a hf => ?_
        refine pi_q hf rfl rfl rfl rfl (Ext.refl _) (e_move hf rfl) fun a hf => ?_
        obtain ⟨c42, hz43, h34⟩ := bind_some h34
        refine pi_q hf rfl rfl rfl rfl (Ext.refl _) (e_indexS hf (x := word9) rfl rfl Try.underlying9 hz43) fun a hf => ?_
        refine pi_one ?_
        obtain ⟨y44, hz45, h34⟩ := bind_some h34
        refine pi_l hf rfl rfl rfl rfl (w_call hf Try.call85 rfl (r_spec_l25Square ⟨_, Sh C _ _, none_, hM.sh_lt, none_not⟩ g1 _ _ (hM.dat (k := 3) rfl) s5 _ _ (hM.dat (k := 2) rfl) n27 hv28 _ hz45) ?_)
        rintro _ w47 ⟨rfl, hM2, hv46⟩
        obtain ⟨hM, hx48, hup49⟩ := hM.back hM2
        dsimp only [List.cons_append, List.nil_append] at hM hup49
        clear hM2
        refine ⟨_, rfl, Ext w47, fun _ h => Ext.trans hx48 h, Ext.refl _, fun a hf => ?_⟩
        obtain ⟨e50, hz51, h34⟩ := bind_some h34
        obtain ⟨b56, _, hA57, h52, h53, hr54, hcell55⟩ := hM.rowElemN (k := 0) rfl (n := 1) rfl hz51
        obtain rfl : _ = _ := hr54
        refine pi_q hf rfl rfl rfl rfl (Ext.refl _) (e_indexAddr (A := A19) (b := b56) (o := 0) (xs := xs26) (i := y44) hf hA57 rfl rfl Try.underlying63 Try.sizeOf5 h52 h53) fun a hf => ?_
        refine pi_one ?_
        obtain ⟨xs59, hz60, h34⟩ := bind_some h34
        refine pi_z0 hf rfl rfl rfl (by kernel_rfl) (w_storeElem hf hM (x := c42) (row := [vB (c42)]) (i := y44) rfl rfl rfl hA57 (k := 0) rfl rfl Try.sizeOf5 rfl hz60 fun w58 hM => ?_)
        dsimp only [List.set] at hM
        have hf := hf.alter (d := 7) (v := vL A19 (xs59) c20) rfl (vL_len (setL_len hz60))
        have hf := hf.alter (d := 22) (v := vL A19 (xs59) c20) rfl (vL_len (setL_len hz60))
        refine pi_nil ?_
        refine blk_n ?_
        refine then_n ?_
        refine region_pl ?_
        refine q_ hf rfl rfl rfl (e_move hf rfl) fun a hf => ?_
        obtain ⟨z61, hz62, h34⟩ := bind_some h34
        refine q_ hf rfl rfl rfl (e_add hf rfl rfl hz62) fun a hf => ?_
        refine q_ hf rfl rfl rfl (e_assign hf rfl) fun a hf => ?_
        refine pl_nil ?_
        obtain rfl := some_inj h34
        refine then_n ⟨_, rfl, ?_⟩
        exact ⟨xs59, z61, rfl, hf.keep ⟨rfl, rfl, rfl, rfl, rfl, rfl, trivial⟩, hM.pick [1, 2, 3] rfl, (chk_R hz62)⟩
      · refine cond_f hf rfl hc40 ?_
        refine wp_exit ?_
        refine then_x ?_
        obtain rfl := some_inj h34
        obtain rfl := hd35 _ rfl
        try dsimp only at h25
        refine then_x ?_
        refine exit_hit ?_
        obtain rfl := some_inj h25
        refine then_n ?_
        exact ⟨xs26, rfl, hf.keep ⟨rfl, rfl, rfl, trivial⟩, hM.pick [1, 2, 3] rfl⟩
  · rintro a w68 ⟨xs23, rfl, hf, hM⟩
    try dsimp only at h
    refine wp_seq ?_
    obtain ⟨w69, hw⟩ : ∃ x, x = w68.drew := ⟨_, rfl⟩
    refine region_pi (.q 0 (.q 1 (.q 2 (.q 3 (.q 4 (.q 5 (.q 6 (.q 7 (.q 8 (.q 9 (.q 10 (.l 11 (.nil))))))))))))) (Ext w69) rfl (by kernel_rfl) ?_
    have hM := hM.drew
    rw [← hw] at hM ⊢
    clear hw
    refine pi_q hf rfl rfl rfl rfl (Ext.refl _) (e_move hf rfl) fun a hf => ?_
    refine pi_q hf rfl rfl rfl rfl (Ext.refl _) (e_nil hf rfl) fun a hf => ?_
    refine pi_q hf rfl rfl rfl rfl (Ext.refl _) (e_field hf rfl Try.underlying27 rfl Try.sizeOf2 (o' := o3 + 0) rfl) fun a hf => ?_
    refine pi_q hf rfl rfl rfl rfl (Ext.refl _) (e_load1 hf rfl Try.isAgg2 (hM.litCell (k := 0) (j := 0) rfl rfl rfl)) fun a hf => ?_
    refine pi_q hf rfl rfl rfl rfl (Ext.refl _) (e_move hf rfl) fun a hf => ?_
    refine pi_q hf rfl rfl rfl rfl (Ext.refl _) (e_nil hf rfl) fun a hf => ?_
    refine pi_q hf rfl rfl rfl rfl (Ext.refl _) (e_field hf rfl Try.underlying27 rfl Try.sizeOf2 (o' := o3 + 1) rfl) fun a hf => ?_
    refine pi_q hf rfl rfl rfl rfl (Ext.refl _) (e_load1 hf rfl Try.isAgg2 (hM.litCell (k := 0) (j := 1) rfl rfl rfl)) fun a hf => ?_
    refine pi_q hf rfl rfl rfl rfl (Ext.refl _) (e_move hf rfl) fun a hf => ?_
    have hl70 := row_len (hM.ownAt (k := 0) rfl)
    refine pi_q hf rfl rfl rfl rfl (Ext.refl _) (e_bytesStr hf (xs := xs23) rfl Try.underlying63 Try.underlying5 Try.underlying9 (hM.lendRow (k := 0) rfl)) fun a hf => ?_
    refine pi_q hf rfl rfl rfl rfl (Ext.refl _) (e_build hf Try.zeroValue27 Try.underlying27 (bp_27 _ Try.underlying27.symm) rfl (cs := #[vI (g1.Rows), vI (g1.Cols), vS (xs23)]) (by kernel_rfl)) fun a hf => ?_
    refine pi_one ?_
    refine pi_z0 hf rfl rfl rfl (by kernel_rfl) (w_store hf hM (us := [vI (g1.Rows), vI (g1.Cols), vS (xs23)]) (cs' := [vI (g1.Rows), vI (g1.Cols), vS (xs23)]) rfl rfl (k := 1) rfl rfl Try.sizeOf27 rfl rfl rfl fun w71 hM => ?_)
    dsimp only [List.set] at hM
    refine pi_nil ?_
    refine then_n ?_
    refine wp_ret ?_
    obtain rfl := some_inj h
    have hres74 := leaveV1 (P := Try.prog) Try.results59 (res_agg hf rfl ⟨Try.isAgg27, Try.sizeOf27⟩ (us := [vI (g1.Rows), vI (g1.Cols), vS (xs23)]) rfl (hM.boxSub (k := 1) (o := 0) rfl rfl))
    have hM := hM.outs (own' := []) 0 rfl
    exact bodyPost_ret hres74 hf.defers ⟨rfl, hM.fin, hv16, hv17, hl70⟩

set_option maxRecDepth 100000 in
set_option maxHeartbeats 4000000 in
theorem r_spec_PutWord (C : Cx) (g1 : Grid) (hp2 : R64 g1.Rows) (hp3 : R64 g1.Cols) (hp4 : g1.Cells.length ≤ maxLen) (slot5 : Int) (hp6 : R64 slot5) (word7 : Str) (hp8 : word7.length ≤ maxLen) (r : (Grid × Int)) (h : m_spec_PutWord g1 slot5 word7 = some r) :
    Calls Try.prog 21 #[.agg #[vI (g1.Rows), vI (g1.Cols), vS (g1.Cells)], vI (slot5), vS (word7)] C.w0 fun e w => e = .returned (.tuple #[.agg #[vI (r.1.Rows), vI (r.1.Cols), vS (r.1.Cells)], vI (r.2)]) ∧ Mem C w [] [] ∧ R64 r.1.Rows ∧ R64 r.1.Cols ∧ r.1.Cells.length ≤ maxLen ∧ R64 r.2 := by
  have hM := Mem.begin C [] trivial
  refine enter Try.func21 rfl Try.ntmps21 rfl fun a hf => ?_
  unfold m_spec_PutWord at h
  refine wp_seq ?_
  refine region_pl ?_
  refine pl_l hf rfl rfl rfl (w_box hf hM (cs := [vI (g1.Rows), vI (g1.Cols), vS (g1.Cells)]) rfl rfl fun b9 w10 hx11 hM a hf => ?_)
  refine pl_l hf rfl rfl rfl (w_alloc hM (cs := [vI (0), vI (0), vS (([] : Str))]) Try.zeroValue27 rfl fun b13 w14 hx15 hM a hf => ?_)
  refine q_ hf rfl rfl rfl (e_assign hf rfl) fun a hf => ?_
  refine pl_nil ?_
  refine then_n ?_
  refine wp_seq ?_
  refine region_pl ?_
  refine q_ hf rfl rfl rfl (e_move hf rfl) fun a hf => ?_
  obtain ⟨y17, hz18, h⟩ := bind_some h
  refine pl_l hf rfl rfl rfl (w_call hf Try.call49 rfl (r_spec_l25Code ⟨_, All C _ _, none_, hM.all_lt, none_not⟩ g1 _ _ (hM.lendBox (k := 1) rfl (GridRep_mk (x := g1) hp2 hp3 hp4)) slot5 hp6 _ hz18) ?_)
  rintro _ w20 ⟨rfl, hM2, hv19⟩
  obtain ⟨hM, hx21⟩ := hM.backA hM2
  clear hM2
  refine ⟨_, rfl, fun a hf => ?_⟩
  refine q_ hf rfl rfl rfl (e_assign hf rfl) fun a hf => ?_
  refine pl_nil ?_
  refine then_n ?_
  refine wp_seq ?_
  refine wp_seq ?_
  refine region_pl ?_
  refine q_ hf rfl rfl rfl (e_move hf rfl) fun a hf => ?_
  refine q_ hf rfl rfl rfl (e_ne hf (x := y17) (y := 0) rfl rfl) fun a hf => ?_
  refine pl_nil ?_
  refine then_n ?_
  rcases cond_some h with ⟨hc23, h⟩ | ⟨hc23, h⟩
  · refine cond_t hf rfl hc23 ?_
    refine wp_seq ?_
    refine region_pl ?_
    refine q_ hf rfl rfl rfl (e_build hf Try.zeroValue27 Try.underlying27 (bp_27 _ Try.underlying27.symm) rfl (cs := #[vI (0), vI (0), vS (([] : Str))]) (by kernel_rfl)) fun a hf => ?_
    refine q_ hf rfl rfl rfl (e_move hf rfl) fun a hf => ?_
    refine pl_0 hf rfl rfl (w_store hf hM (us := [vI (0), vI (0), vS (([] : Str))]) (cs' := [vI (0), vI (0), vS (([] : Str))]) rfl rfl (k := 0) rfl rfl Try.sizeOf27 rfl rfl rfl fun w24 hM => ?_)
    dsimp only [List.set] at hM
    refine q_ hf rfl rfl rfl (e_assign hf rfl) fun a hf => ?_
    refine pl_nil ?_
    refine then_n ?_
    refine wp_ret ?_
    refine then_r ?_
    obtain rfl := some_inj h
    have hres27 := leaveV2 (P := Try.prog) Try.results21 (res_agg hf rfl ⟨Try.isAgg27, Try.sizeOf27⟩ (us := [vI (0), vI (0), vS (([] : Str))]) rfl (hM.boxSub (k := 0) (o := 0) rfl rfl)) (res_tmp hf rfl)
    have hM := hM.outs (own' := []) 0 rfl
    exact bodyPost_ret hres27 hf.defers ⟨rfl, hM.fin, (R64_lit rfl), (R64_lit rfl), (lit_len rfl), hv19⟩
  · refine cond_f hf rfl hc23 ?_
    refine wp_skip ?_
    refine then_n ?_
    refine wp_seq ?_
    refine wp_seq ?_
    refine region_pl ?_
    refine q_ hf rfl rfl rfl (e_move hf rfl) fun a hf => ?_
    obtain ⟨y28, hz29, h⟩ := bind_some h
    refine pl_l hf rfl rfl rfl (w_call hf Try.call57 rfl (r_spec_IsWord ⟨_, Sh C _ _, none_, hM.sh_lt, none_not⟩ word7 hp8 _ hz29) ?_)
    rintro _ w30 ⟨rfl, hM2⟩
    obtain ⟨hM, hx31, hup32⟩ := hM.back hM2
    dsimp only [List.cons_append, List.nil_append] at hM hup32
    clear hM2
    refine ⟨_, rfl, fun a hf => ?_⟩
    refine q_ hf rfl rfl rfl (e_not hf rfl) fun a hf => ?_
    refine pl_nil ?_
    refine then_n ?_
    rcases cond_some h with ⟨hc33, h⟩ | ⟨hc33, h⟩
    · refine cond_t hf rfl hc33 ?_
      refine wp_seq ?_
      refine region_pl ?_
      refine q_ hf rfl rfl rfl (e_build hf Try.zeroValue27 Try.underlying27 (bp_27 _ Try.underlying27.symm) rfl (cs := #[vI (0), vI (0), vS (([] : Str))]) (by kernel_rfl)) fun a hf => ?_
      refine pl_0 hf rfl rfl (w_store hf hM (us := [vI (0), vI (0), vS (([] : Str))]) (cs' := [vI (0), vI (0), vS (([] : Str))]) rfl rfl (k := 0) rfl rfl Try.sizeOf27 rfl rfl rfl fun w34 hM => ?_)
      dsimp only [List.set] at hM
      refine q_ hf rfl rfl rfl (e_assign hf rfl) fun a hf => ?_
      refine pl_nil ?_
      refine then_n ?_
      refine wp_ret ?_
      refine then_r ?_
      obtain rfl := some_inj h
      have hres37 := leaveV2 (P := Try.prog) Try.results21 (res_agg hf rfl ⟨Try.isAgg27, Try.sizeOf27⟩ (us := [vI (0), vI (0), vS (([] : Str))]) rfl (hM.boxSub (k := 0) (o := 0) rfl rfl)) (res_tmp hf rfl)
      have hM := hM.outs (own' := []) 0 rfl
      exact bodyPost_ret hres37 hf.defers ⟨rfl, hM.fin, (R64_lit rfl), (R64_lit rfl), (lit_len rfl), (R64_lit rfl)⟩
    · refine cond_f hf rfl hc33 ?_
      refine wp_skip ?_
      refine then_n ?_
      refine wp_seq ?_
      refine region_pl ?_
      obtain ⟨y38, hz39, h⟩ := bind_some h
      refine pl_l hf rfl rfl rfl (w_call hf Try.call50 rfl (r_spec_l25Slots ⟨_, All C _ _, none_, hM.all_lt, none_not⟩ g1 _ _ (hM.lendBox (k := 1) rfl (GridRep_mk (x := g1) hp2 hp3 hp4)) _ hz39) ?_)
      rintro _ w42 ⟨A40, c41, rfl, hM2⟩
      obtain ⟨hM, hx43⟩ := hM.backAF SlotRep_flat hM2
      clear hM2
      refine ⟨_, rfl, fun a hf => ?_⟩
      refine q_ hf rfl rfl rfl (e_assign hf rfl) fun a hf => ?_
      refine pl_nil ?_
      refine then_n ?_
      refine wp_seq ?_
      refine wp_seq ?_
      refine region_pl ?_
      refine q_ hf rfl rfl rfl (e_move hf rfl) fun a hf => ?_
      refine q_ hf rfl rfl rfl (e_move hf rfl) fun a hf => ?_
      obtain ⟨e45, hz46, h⟩ := bind_some h
      obtain ⟨b51, _, hA52, h47, h48, hr49, hcell50⟩ := hM.rowElemN (k := 0) rfl (n := 4) rfl hz46
      obtain ⟨rfl, hv53, hv54, hv55⟩ := SlotRep_open hr49
      refine q_ hf rfl rfl rfl (e_indexAddr (A := A40) (b := b51) (o := 0) (xs := y38) (i := slot5) hf hA52 rfl rfl Try.underlying30 Try.sizeOf75 h47 h48) fun a hf => ?_
      obtain ⟨y56, hz57, h⟩ := bind_some h
      refine pl_l hf rfl rfl rfl (w_call hf Try.call51 rfl (r_spec_l25Pattern ⟨_, All C _ _, none_, hM.all_lt, none_not⟩ g1 _ _ (hM.lendBox (k := 2) rfl (GridRep_mk (x := g1) hp2 hp3 hp4)) e45 _ _ (hM.lendElem hA52 (k := 0) rfl (n := 4) rfl hz46) _ hz57) ?_)
      rintro _ w59 ⟨rfl, hM2, hv58⟩
      obtain ⟨hM, hx60⟩ := hM.backA hM2
      clear hM2
      refine ⟨_, rfl, fun a hf => ?_⟩
      refine q_ hf rfl rfl rfl (e_move hf rfl) fun a hf => ?_
      obtain ⟨y62, hz63, h⟩ := bind_some h
      refine pl_l hf rfl rfl rfl (w_call hf Try.call58 rfl (r_spec_l25Fits ⟨_, Sh C _ _, none_, hM.sh_lt, none_not⟩ y56 hv58 word7 hp8 _ hz63) ?_)
      rintro _ w64 ⟨rfl, hM2⟩
      obtain ⟨hM, hx65, hup66⟩ := hM.back hM2
      dsimp only [List.cons_append, List.nil_append] at hM hup66
      clear hM2
      refine ⟨_, rfl, fun a hf => ?_⟩
      refine q_ hf rfl rfl rfl (e_not hf rfl) fun a hf => ?_
      refine pl_nil ?_
      refine then_n ?_
      rcases cond_some h with ⟨hc67, h⟩ | ⟨hc67, h⟩
      · refine cond_t hf rfl hc67 ?_
        refine wp_seq ?_
        refine region_pl ?_
        refine q_ hf rfl rfl rfl (e_build hf Try.zeroValue27 Try.underlying27 (bp_27 _ Try.underlying27.symm) rfl (cs := #[vI (0), vI (0), vS (([] : Str))]) (by kernel_rfl)) fun a hf => ?_
        refine pl_0 hf rfl rfl (w_store hf hM (us := [vI (0), vI (0), vS (([] : Str))]) (cs' := [vI (0), vI (0), vS (([] : Str))]) rfl rfl (k := 1) rfl rfl Try.sizeOf27 rfl rfl rfl fun w68 hM => ?_)
        dsimp only [List.set] at hM
        refine q_ hf rfl rfl rfl (e_assign hf rfl) fun a hf => ?_
        refine pl_nil ?_
        refine then_n ?_
        refine wp_ret ?_
        refine then_r ?_
        obtain rfl := some_inj h
        have hres71 := leaveV2 (P := Try.prog) Try.results21 (res_agg hf rfl ⟨Try.isAgg27, Try.sizeOf27⟩ (us := [vI (0), vI (0), vS (([] : Str))]) rfl (hM.boxSub (k := 1) (o := 0) rfl rfl)) (res_tmp hf rfl)
        have hM := hM.outs (own' := []) 0 rfl
        exact bodyPost_ret hres71 hf.defers ⟨rfl, hM.fin, (R64_lit rfl), (R64_lit rfl), (lit_len rfl), (R64_lit rfl)⟩
      · refine cond_f hf rfl hc67 ?_
        refine wp_skip ?_
        refine then_n ?_
        refine wp_seq ?_
        refine region_pl ?_
        refine q_ hf rfl rfl rfl (e_move hf rfl) fun a hf => ?_
        refine q_ hf rfl rfl rfl (e_move hf rfl) fun a hf => ?_
        obtain ⟨e72, hz73, h⟩ := bind_some h
        obtain ⟨b78, _, hA79, h74, h75, hr76, hcell77⟩ := hM.rowElemN (k := 0) rfl (n := 4) rfl hz73
        obtain ⟨rfl, hv80, hv81, hv82⟩ := SlotRep_open hr76
        refine q_ hf rfl rfl rfl (e_indexAddr (A := A40) (b := b78) (o := 0) (xs := y38) (i := slot5) hf hA79 rfl rfl Try.underlying30 Try.sizeOf75 h74 h75) fun a hf => ?_
        refine q_ hf rfl rfl rfl (e_move hf rfl) fun a hf => ?_
        obtain ⟨y83, hz84, h⟩ := bind_some h
        refine pl_l hf rfl rfl rfl (w_call hf Try.call59 rfl (r_spec_l25Put ⟨_, All C _ _, none_, hM.all_lt, none_not⟩ g1 _ _ (hM.lendBox (k := 2) rfl (GridRep_mk (x := g1) hp2 hp3 hp4)) e72 _ _ (hM.lendElem hA79 (k := 0) rfl (n := 4) rfl hz73) word7 hp8 _ hz84) ?_)
        rintro _ w88 ⟨rfl, hM2, hv85, hv86, hv87⟩
        obtain ⟨hM, hx89⟩ := hM.backA hM2
        clear hM2
        refine ⟨_, rfl, fun a hf => ?_⟩
        refine pl_0 hf rfl rfl (w_store hf hM (us := [vI (y83.Rows), vI (y83.Cols), vS (y83.Cells)]) (cs' := [vI (y83.Rows), vI (y83.Cols), vS (y83.Cells)]) rfl rfl (k := 1) rfl rfl Try.sizeOf27 rfl rfl rfl fun w91 hM => ?_)
        dsimp only [List.set] at hM
        refine q_ hf rfl rfl rfl (e_assign hf rfl) fun a hf => ?_
        refine pl_nil ?_
        refine then_n ?_
        refine wp_ret ?_
        obtain rfl := some_inj h
        have hres94 := leaveV2 (P := Try.prog) Try.results21 (res_agg hf rfl ⟨Try.isAgg27, Try.sizeOf27⟩ (us := [vI (y83.Rows), vI (y83.Cols), vS (y83.Cells)]) rfl (hM.boxSub (k := 1) (o := 0) rfl rfl)) (res_tmp hf rfl)
        have hM := hM.outs (own' := []) 0 rfl
        exact bodyPost_ret hres94 hf.defers ⟨rfl, hM.fin, hv85, hv86, hv87, (R64_lit rfl)⟩

set_option maxRecDepth 100000 in
set_option maxHeartbeats 4000000 in
theorem r_impl_within (C : Cx) (x1 : Int) (hp2 : R64 x1) (low3 : Int) (hp4 : R64 low3) (high5 : Int) (hp6 : R64 high5) (r : Bool) (h : m_impl_within x1 low3 high5 = some r) :
    Calls Try.prog 78 #[vI (x1), vI (low3), vI (high5)] C.w0 fun e w => e = .returned (.bool (r)) ∧ Mem C w [] [] := by
  have hM := Mem.begin C [] trivial
  refine enter Try.func78 rfl Try.ntmps78 rfl fun a hf => ?_
  unfold m_impl_within at h
  refine wp_seq ?_
  refine region_pl ?_
  refine q_ hf rfl rfl rfl (e_assign hf rfl) fun a hf => ?_
  refine pl_nil ?_
  refine then_n ?_
  obtain ⟨x9, h10, h⟩ := bind_some h
  refine seq_join (fun a w => ∃ (t7 : Bool), t7 = x9 ∧ Has 15 a [(6, .bool (t7))] ∧ Mem C w [] []) ?_ ?_
  · refine region_pl ?_
    refine q_ hf rfl rfl rfl (e_move hf rfl) fun a hf => ?_
    refine q_ hf rfl rfl rfl (e_move hf rfl) fun a hf => ?_
    refine q_ hf rfl rfl rfl (e_le hf (x := low3) (y := x1) rfl rfl) fun a hf => ?_
    refine q_ hf rfl rfl rfl (e_move hf rfl) fun a hf => ?_
    rcases cond_some h10 with ⟨hc11, h10⟩ | ⟨hc11, h10⟩
    · refine gq (wanted_t hf rfl rfl rfl rfl hc11) hf rfl rfl (e_move hf rfl) fun a hf => ?_
      refine gq (wanted_t hf rfl rfl rfl rfl hc11) hf rfl rfl (e_move hf rfl) fun a hf => ?_
      refine gq (wanted_t hf rfl rfl rfl rfl hc11) hf rfl rfl (e_le hf (x := x1) (y := high5) rfl rfl) fun a hf => ?_
      refine q_ hf rfl rfl rfl (e_pick_t hf rfl hc11 rfl) fun a hf => ?_
      refine q_ hf rfl rfl rfl (e_assign hf rfl) fun a hf => ?_
      refine pl_nil ?_
      obtain rfl := some_inj h10
      refine then_n ?_
      exact ⟨(decide (x1 ≤ high5)), rfl, hf.keep ⟨rfl, trivial⟩, hM.pick [] rfl⟩
    · refine pl_gs (wanted_f hf rfl rfl rfl rfl hc11) hf rfl rfl fun a hf => ?_
      refine pl_gs (wanted_f hf rfl rfl rfl rfl hc11) hf rfl rfl fun a hf => ?_
      refine pl_gs (wanted_f hf rfl rfl rfl rfl hc11) hf rfl rfl fun a hf => ?_
      refine q_ hf rfl rfl rfl (e_pick_f hf rfl hc11 rfl) fun a hf => ?_
      refine q_ hf rfl rfl rfl (e_assign hf rfl) fun a hf => ?_
      refine pl_nil ?_
      obtain rfl := some_inj h10
      refine then_n ?_
      exact ⟨false, rfl, hf.keep ⟨rfl, trivial⟩, hM.pick [] rfl⟩
  · rintro a w14 ⟨t7, rfl, hf, hM⟩
    try dsimp only at h
    refine wp_ret ?_
    obtain rfl := some_inj h
    exact leave1 hf rfl rfl ⟨rfl, hM.fin⟩

set_option maxRecDepth 100000 in
set_option maxHeartbeats 4000000 in
theorem r_impl_allBytes (C : Cx) (s1 : Str) (hp2 : s1.length ≤ maxLen) (is3 : (UInt8 → Option Bool)) (fk4 : FuncId) (fc5 : List Value) (hfn6 : FnOk Try.prog C fk4 (FnC_UInt8_to_Bool fk4 fc5 is3)) (r : Bool) (h : m_impl_allBytes s1 is3 = some r) :
    Calls Try.prog 79 #[vS (s1), .func (.func fk4) #[] fc5.toArray] C.w0 fun e w => e = .returned (.bool (r)) ∧ Mem C w [] [] := by
  have hM := Mem.begin C [] trivial
  refine enter Try.func79 rfl Try.ntmps79 rfl fun a hf => ?_
  unfold m_impl_allBytes at h
  refine wp_seq ?_
  refine region_pl ?_
  refine q_ hf rfl rfl rfl (e_assign hf rfl) fun a hf => ?_
  refine pl_nil ?_
  refine then_n ?_
  obtain ⟨x7, h8, h⟩ := bind_some h
  refine seq_join (fun a w => (.inl ()) = x7 ∧ Has 18 a [] ∧ Mem C w [] []) ?_ ?_
  · refine wp_seq ?_
    refine region_pl ?_
    refine q_ hf rfl rfl rfl (e_assign hf rfl) fun a hf => ?_
    refine pl_nil ?_
    refine then_n ?_
    refine wp_block ?_
    obtain ⟨x12, h13, h8⟩ := bind_some h8
    refine wp_loopM h13 (fun s a w => ∃ (n9 : Int), n9 = s ∧ Has 18 a [(0, vS (s1)), (1, .func (.func fk4) #[] fc5.toArray), (5, vI (n9))] ∧ Mem C w [] [] ∧ R64 n9) ?_ ?_
    · exact ⟨0, rfl, hf.keep ⟨rfl, rfl, rfl, trivial⟩, hM.pick [] rfl, (R64_lit rfl)⟩
    · rintro s o14 a w11 ⟨n9, rfl, hf, hM, hv10⟩ h15 hd16
      replace h15 : m_impl_allBytes_l1 s1 is3 n9 = some o14 := h15
      unfold m_impl_allBytes_l1 at h15
      refine wp_seq ?_
      refine wp_seq ?_
      refine region_pl ?_
      refine q_ hf rfl rfl rfl (e_move hf rfl) fun a hf => ?_
      refine q_ hf rfl rfl rfl (e_move hf rfl) fun a hf => ?_
      refine q_ hf rfl rfl rfl (e_lenS hf (x := s1) rfl Try.underlying9) fun a hf => ?_
      refine q_ hf rfl rfl rfl (e_lt hf (x := n9) (y := (s1.length : Int)) rfl rfl) fun a hf => ?_
      refine pl_nil ?_
      refine then_n ?_
      rcases cond_some h15 with ⟨hc17, h15⟩ | ⟨hc17, h15⟩
      · refine cond_t hf rfl hc17 ?_
        refine wp_skip ?_
        refine then_n ?_
        refine wp_seq ?_
        refine wp_block ?_
        refine wp_seq ?_
        refine region_pl ?_
        refine q_ hf rfl rfl rfl (e_move hf rfl) fun a hf => ?_
        refine q_ hf rfl rfl rfl (e_move hf rfl) fun a hf => ?_
        refine q_ hf rfl rfl rfl (e_move hf rfl) fun a hf => ?_
        obtain ⟨c18, hz19, h15⟩ := bind_some h15
        refine q_ hf rfl rfl rfl (e_indexS hf (x := s1) rfl rfl Try.underlying9 hz19) fun a hf => ?_
        obtain ⟨y20, hz21, h15⟩ := bind_some h15
        refine pl_l hf rfl rfl rfl (w_callV hf rfl hfn6.1 rfl (hfn6.2 ⟨_, Sh C _ _, none_, hM.sh_lt, none_not⟩ hM.sameS hM.s0sh c18 _ hz21) ?_)
        rintro _ w22 ⟨rfl, hM2⟩
        obtain ⟨hM, hx23, hup24⟩ := hM.back hM2
        dsimp only [List.cons_append, List.nil_append] at hM hup24
        clear hM2
        refine ⟨_, rfl, fun a hf => ?_⟩
        refine q_ hf rfl rfl rfl (e_not hf rfl) fun a hf => ?_
        refine pl_nil ?_
        refine then_n ?_
        rcases cond_some h15 with ⟨hc25, h15⟩ | ⟨hc25, h15⟩
        · refine cond_t hf rfl hc25 ?_
          refine wp_seq ?_
          refine region_pl ?_
          refine q_ hf rfl rfl rfl (e_assign hf rfl) fun a hf => ?_
          refine pl_nil ?_
          refine then_n ?_
          refine wp_ret ?_
          refine blk_r ?_
          refine then_r ?_
          obtain rfl := some_inj h15
          obtain rfl := hd16 _ rfl
          try dsimp only at h8
          refine then_r ?_
          refine blk_r ?_
          obtain rfl := some_inj h8
          try dsimp only at h
          refine then_r ?_
          obtain rfl := some_inj h
          exact leave1 hf rfl rfl ⟨rfl, hM.fin⟩
        · refine cond_f hf rfl hc25 ?_
          refine wp_skip ?_
          refine blk_n ?_
          refine then_n ?_
          refine region_pl ?_
          refine q_ hf rfl rfl rfl (e_move hf rfl) fun a hf => ?_
          obtain ⟨z26, hz27, h15⟩ := bind_some h15
          refine q_ hf rfl rfl rfl (e_add hf rfl rfl hz27) fun a hf => ?_
          refine q_ hf rfl rfl rfl (e_assign hf rfl) fun a hf => ?_
          refine pl_nil ?_
          obtain rfl := some_inj h15
          refine then_n ⟨_, rfl, ?_⟩
          exact ⟨z26, rfl, hf.keep ⟨rfl, rfl, rfl, trivial⟩, hM.pick [] rfl, (chk_R hz27)⟩
      · refine cond_f hf rfl hc17 ?_
        refine wp_exit ?_
        refine then_x ?_
        obtain rfl := some_inj h15
        obtain rfl := hd16 _ rfl
        try dsimp only at h8
        refine then_x ?_
        refine exit_hit ?_
        obtain rfl := some_inj h8
        refine then_n ?_
        exact ⟨rfl, hf.keep trivial, hM.pick [] rfl⟩
  · rintro a w34 ⟨rfl, hf, hM⟩
    try dsimp only at h
    refine wp_seq ?_
    refine region_pl ?_
    refine q_ hf rfl rfl rfl (e_assign hf rfl) fun a hf => ?_
    refine pl_nil ?_
    refine then_n ?_
    refine wp_ret ?_
    obtain rfl := some_inj h
    exact leave1 hf rfl rfl ⟨rfl, hM.fin⟩

set_option maxRecDepth 100000 in
set_option maxHeartbeats 4000000 in
theorem r_impl_small (C : Cx) (c1 : UInt8) (r : Bool) (h : m_impl_small c1 = some r) :
    Calls Try.prog 107 #[vB (c1)] C.w0 fun e w => e = .returned (.bool (r)) ∧ Mem C w [] [] := by
  have hM := Mem.begin C [] trivial
  refine enter Try.func107 rfl Try.ntmps107 rfl fun a hf => ?_
  unfold m_impl_small at h
  refine wp_seq ?_
  refine region_pl ?_
  refine q_ hf rfl rfl rfl (e_assign hf rfl) fun a hf => ?_
  refine pl_nil ?_
  refine then_n ?_
  obtain ⟨x4, h5, h⟩ := bind_some h
  refine seq_join (fun a w => ∃ (t2 : Bool), t2 = x4 ∧ Has 9 a [(2, .bool (t2))] ∧ Mem C w [] []) ?_ ?_
  · refine region_pl ?_
    refine q_ hf rfl rfl rfl (e_move hf rfl) fun a hf => ?_
    refine q_ hf rfl rfl rfl (e_leB hf (x := 97) (y := c1) rfl rfl) fun a hf => ?_
    refine q_ hf rfl rfl rfl (e_move hf rfl) fun a hf => ?_
    rcases cond_some h5 with ⟨hc6, h5⟩ | ⟨hc6, h5⟩
    · refine gq (wanted_t hf rfl rfl rfl rfl hc6) hf rfl rfl (e_move hf rfl) fun a hf => ?_
      refine gq (wanted_t hf rfl rfl rfl rfl hc6) hf rfl rfl (e_leB hf (x := c1) (y := 122) rfl rfl) fun a hf => ?_
      refine q_ hf rfl rfl rfl (e_pick_t hf rfl hc6 rfl) fun a hf => ?_
      refine q_ hf rfl rfl rfl (e_assign hf rfl) fun a hf => ?_
      refine pl_nil ?_
      obtain rfl := some_inj h5
      refine then_n ?_
      exact ⟨(decide (c1 ≤ 122)), rfl, hf.keep ⟨rfl, trivial⟩, hM.pick [] rfl⟩
    · refine pl_gs (wanted_f hf rfl rfl rfl rfl hc6) hf rfl rfl fun a hf => ?_
      refine pl_gs (wanted_f hf rfl rfl rfl rfl hc6) hf rfl rfl fun a hf => ?_
      refine q_ hf rfl rfl rfl (e_pick_f hf rfl hc6 rfl) fun a hf => ?_
      refine q_ hf rfl rfl rfl (e_assign hf rfl) fun a hf => ?_
      refine pl_nil ?_
      obtain rfl := some_inj h5
      refine then_n ?_
      exact ⟨false, rfl, hf.keep ⟨rfl, trivial⟩, hM.pick [] rfl⟩
  · rintro a w9 ⟨t2, rfl, hf, hM⟩
    try dsimp only at h
    refine wp_ret ?_
    obtain rfl := some_inj h
    exact leave1 hf rfl rfl ⟨rfl, hM.fin⟩

set_option maxRecDepth 100000 in
set_option maxHeartbeats 4000000 in
theorem r_impl_gridByte (C : Cx) (c1 : UInt8) (r : Bool) (h : m_impl_gridByte c1 = some r) :
    Calls Try.prog 80 #[vB (c1)] C.w0 fun e w => e = .returned (.bool (r)) ∧ Mem C w [] [] := by
  have hM := Mem.begin C [] trivial
  refine enter Try.func80 rfl Try.ntmps80 rfl fun a hf => ?_
  unfold m_impl_gridByte at h
  refine wp_seq ?_
  refine region_pl ?_
  refine q_ hf rfl rfl rfl (e_assign hf rfl) fun a hf => ?_
  refine pl_nil ?_
  refine then_n ?_
  obtain ⟨x4, h5, h⟩ := bind_some h
  refine seq_join (fun a w => ∃ (t2 : Bool), t2 = x4 ∧ Has 13 a [(2, .bool (t2))] ∧ Mem C w [] []) ?_ ?_
  · refine region_pl ?_
    refine q_ hf rfl rfl rfl (e_move hf rfl) fun a hf => ?_
    refine q_ hf rfl rfl rfl (e_eqB hf (x := c1) (y := 35) rfl rfl) fun a hf => ?_
    refine q_ hf rfl rfl rfl (e_move hf rfl) fun a hf => ?_
    rcases cond_some h5 with ⟨hc6, h5⟩ | ⟨hc6, h5⟩
    · refine pl_gs (wanted_f hf rfl rfl rfl rfl hc6) hf rfl rfl fun a hf => ?_
      refine pl_gs (wanted_f hf rfl rfl rfl rfl hc6) hf rfl rfl fun a hf => ?_
      refine q_ hf rfl rfl rfl (e_pick_t hf rfl hc6 rfl) fun a hf => ?_
      refine q_ hf rfl rfl rfl (e_move hf rfl) fun a hf => ?_
      refine pl_gs (wanted_f hf rfl rfl rfl rfl rfl) hf rfl rfl fun a hf => ?_
      refine pl_gs (wanted_f hf rfl rfl rfl rfl rfl) hf rfl rfl fun a hf => ?_
      refine q_ hf rfl rfl rfl (e_pick_t hf rfl rfl rfl) fun a hf => ?_
      refine q_ hf rfl rfl rfl (e_assign hf rfl) fun a hf => ?_
      refine pl_nil ?_
      obtain rfl := some_inj h5
      refine then_n ?_
      exact ⟨true, rfl, hf.keep ⟨rfl, trivial⟩, hM.pick [] rfl⟩
    · refine gq (wanted_t hf rfl rfl rfl rfl hc6) hf rfl rfl (e_move hf rfl) fun a hf => ?_
      refine gq (wanted_t hf rfl rfl rfl rfl hc6) hf rfl rfl (e_eqB hf (x := c1) (y := 46) rfl rfl) fun a hf => ?_
      refine q_ hf rfl rfl rfl (e_pick_f hf rfl hc6 rfl) fun a hf => ?_
      refine q_ hf rfl rfl rfl (e_move hf rfl) fun a hf => ?_
      rcases cond_some h5 with ⟨hc8, h5⟩ | ⟨hc8, h5⟩
      · refine pl_gs (wanted_f hf rfl rfl rfl rfl hc8) hf rfl rfl fun a hf => ?_
        refine pl_gs (wanted_f hf rfl rfl rfl rfl hc8) hf rfl rfl fun a hf => ?_
        refine q_ hf rfl rfl rfl (e_pick_t hf rfl hc8 rfl) fun a hf => ?_
        refine q_ hf rfl rfl rfl (e_assign hf rfl) fun a hf => ?_
        refine pl_nil ?_
        obtain rfl := some_inj h5
        refine then_n ?_
        exact ⟨true, rfl, hf.keep ⟨rfl, trivial⟩, hM.pick [] rfl⟩
      · refine gq (wanted_t hf rfl rfl rfl rfl hc8) hf rfl rfl (e_move hf rfl) fun a hf => ?_
        obtain ⟨y10, hz11, h5⟩ := bind_some h5
        refine pl_gl (wanted_t hf rfl rfl rfl rfl hc8) hf rfl rfl (w_call hf Try.call107 rfl (r_impl_small ⟨_, Sh C _ _, none_, hM.sh_lt, none_not⟩ c1 _ hz11) ?_)
        rintro _ w12 ⟨rfl, hM2⟩
        obtain ⟨hM, hx13, hup14⟩ := hM.back hM2
        dsimp only [List.cons_append, List.nil_append] at hM hup14
        clear hM2
        refine ⟨_, rfl, fun a hf => ?_⟩
        refine q_ hf rfl rfl rfl (e_pick_f hf rfl hc8 rfl) fun a hf => ?_
        refine q_ hf rfl rfl rfl (e_assign hf rfl) fun a hf => ?_
        refine pl_nil ?_
        obtain rfl := some_inj h5
        refine then_n ?_
        exact ⟨y10, rfl, hf.keep ⟨rfl, trivial⟩, hM.pick [] rfl⟩
  · rintro a w16 ⟨t2, rfl, hf, hM⟩
    try dsimp only at h
    refine wp_ret ?_
    obtain rfl := some_inj h
    exact leave1 hf rfl rfl ⟨rfl, hM.fin⟩

set_option maxRecDepth 100000 in
set_option maxHeartbeats 4000000 in
theorem r_impl_ValidGrid (C : Cx) (g1 : Grid) (hp2 : R64 g1.Rows) (hp3 : R64 g1.Cols) (hp4 : g1.Cells.length ≤ maxLen) (r : Bool) (h : m_impl_ValidGrid g1 = some r) :
    Calls Try.prog 46 #[.agg #[vI (g1.Rows), vI (g1.Cols), vS (g1.Cells)]] C.w0 fun e w => e = .returned (.bool (r)) ∧ Mem C w [] [] := by
  have hM := Mem.begin C [] trivial
  refine enter Try.func46 rfl Try.ntmps46 rfl fun a hf => ?_
  unfold m_impl_ValidGrid at h
  refine wp_seq ?_
  refine region_pl ?_
  refine pl_l hf rfl rfl rfl (w_box hf hM (cs := [vI (g1.Rows), vI (g1.Cols), vS (g1.Cells)]) rfl rfl fun b5 w6 hx7 hM a hf => ?_)
  refine q_ hf rfl rfl rfl (e_assign hf rfl) fun a hf => ?_
  refine pl_nil ?_
  refine then_n ?_
  obtain ⟨x11, h12, h⟩ := bind_some h
  refine seq_join (fun a w => ∃ (t9 : Bool), t9 = x11 ∧ Has 27 a [(2, .bool (t9))] ∧ Mem C w [.box b5 [vI (g1.Rows), vI (g1.Cols), vS (g1.Cells)] 27] []) ?_ ?_
  · refine region_pl ?_
    refine q_ hf rfl rfl rfl (e_field hf rfl Try.underlying27 rfl Try.sizeOf2 (o' := 0) rfl) fun a hf => ?_
    refine q_ hf rfl rfl rfl (e_load1 hf rfl Try.isAgg2 (hM.boxCell (k := 0) rfl rfl)) fun a hf => ?_
    obtain ⟨y13, hz14, h12⟩ := bind_some h12
    refine pl_l hf rfl rfl rfl (w_call hf Try.call78 rfl (r_impl_within ⟨_, Sh C _ _, none_, hM.sh_lt, none_not⟩ g1.Rows hp2 1 (R64_lit rfl) 5 (R64_lit rfl) _ hz14) ?_)
    rintro _ w15 ⟨rfl, hM2⟩
    obtain ⟨hM, hx16, hup17⟩ := hM.back hM2
    dsimp only [List.cons_append, List.nil_append] at hM hup17
    clear hM2
    refine ⟨_, rfl, fun a hf => ?_⟩
    refine q_ hf rfl rfl rfl (e_move hf rfl) fun a hf => ?_
    rcases cond_some h12 with ⟨hc18, h12⟩ | ⟨hc18, h12⟩
    · refine gq (wanted_t hf rfl rfl rfl rfl hc18) hf rfl rfl (e_field hf rfl Try.underlying27 rfl Try.sizeOf2 (o' := 1) rfl) fun a hf => ?_
      refine gq (wanted_t hf rfl rfl rfl rfl hc18) hf rfl rfl (e_load1 hf rfl Try.isAgg2 (hM.boxCell (k := 0) rfl rfl)) fun a hf => ?_
      obtain ⟨y19, hz20, h12⟩ := bind_some h12
      refine pl_gl (wanted_t hf rfl rfl rfl rfl hc18) hf rfl rfl (w_call hf Try.call78 rfl (r_impl_within ⟨_, Sh C _ _, none_, hM.sh_lt, none_not⟩ g1.Cols hp3 1 (R64_lit rfl) 5 (R64_lit rfl) _ hz20) ?_)
      rintro _ w21 ⟨rfl, hM2⟩
      obtain ⟨hM, hx22, hup23⟩ := hM.back hM2
      dsimp only [List.cons_append, List.nil_append] at hM hup23
      clear hM2
      refine ⟨_, rfl, fun a hf => ?_⟩
      refine q_ hf rfl rfl rfl (e_pick_t hf rfl hc18 rfl) fun a hf => ?_
      refine q_ hf rfl rfl rfl (e_move hf rfl) fun a hf => ?_
      rcases cond_some h12 with ⟨hc24, h12⟩ | ⟨hc24, h12⟩
      · refine gq (wanted_t hf rfl rfl rfl rfl hc24) hf rfl rfl (e_field hf rfl Try.underlying27 rfl Try.sizeOf9 (o' := 2) rfl) fun a hf => ?_
        refine gq (wanted_t hf rfl rfl rfl rfl hc24) hf rfl rfl (e_load1 hf rfl Try.isAgg9 (hM.boxCell (k := 0) rfl rfl)) fun a hf => ?_
        refine gq (wanted_t hf rfl rfl rfl rfl hc24) hf rfl rfl (e_lenS hf (x := g1.Cells) rfl Try.underlying9) fun a hf => ?_
        refine gq (wanted_t hf rfl rfl rfl rfl hc24) hf rfl rfl (e_field hf rfl Try.underlying27 rfl Try.sizeOf2 (o' := 0) rfl) fun a hf => ?_
        refine gq (wanted_t hf rfl rfl rfl rfl hc24) hf rfl rfl (e_load1 hf rfl Try.isAgg2 (hM.boxCell (k := 0) rfl rfl)) fun a hf => ?_
        refine gq (wanted_t hf rfl rfl rfl rfl hc24) hf rfl rfl (e_field hf rfl Try.underlying27 rfl Try.sizeOf2 (o' := 1) rfl) fun a hf => ?_
        refine gq (wanted_t hf rfl rfl rfl rfl hc24) hf rfl rfl (e_load1 hf rfl Try.isAgg2 (hM.boxCell (k := 0) rfl rfl)) fun a hf => ?_
        obtain ⟨z25, hz26, h12⟩ := bind_some h12
        refine gq (wanted_t hf rfl rfl rfl rfl hc24) hf rfl rfl (e_mul hf rfl rfl hz26) fun a hf => ?_
        refine gq (wanted_t hf rfl rfl rfl rfl hc24) hf rfl rfl (e_eq hf (x := (g1.Cells.length : Int)) (y := z25) rfl rfl) fun a hf => ?_
        refine q_ hf rfl rfl rfl (e_pick_t hf rfl hc24 rfl) fun a hf => ?_
        refine q_ hf rfl rfl rfl (e_move hf rfl) fun a hf => ?_
        rcases cond_some h12 with ⟨hc27, h12⟩ | ⟨hc27, h12⟩
        · refine gq (wanted_t hf rfl rfl rfl rfl hc27) hf rfl rfl (e_field hf rfl Try.underlying27 rfl Try.sizeOf9 (o' := 2) rfl) fun a hf => ?_
          refine gq (wanted_t hf rfl rfl rfl rfl hc27) hf rfl rfl (e_load1 hf rfl Try.isAgg9 (hM.boxCell (k := 0) rfl rfl)) fun a hf => ?_
          obtain ⟨y28, hz29, h12⟩ := bind_some h12
          refine pl_gl (wanted_t hf rfl rfl rfl rfl hc27) hf rfl rfl (w_call hf Try.call79 rfl (r_impl_allBytes ⟨_, Sh C _ _, none_, hM.sh_lt, none_not⟩ g1.Cells hp4 m_impl_gridByte 80 [] ⟨Try.call80, fun C1 _ _ => r_impl_gridByte C1⟩ _ hz29) ?_)
          rintro _ w30 ⟨rfl, hM2⟩
          obtain ⟨hM, hx31, hup32⟩ := hM.back hM2
          dsimp only [List.cons_append, List.nil_append] at hM hup32
          clear hM2
          refine ⟨_, rfl, fun a hf => ?_⟩
          refine q_ hf rfl rfl rfl (e_pick_t hf rfl hc27 rfl) fun a hf => ?_
          refine q_ hf rfl rfl rfl (e_assign hf rfl) fun a hf => ?_
          refine pl_nil ?_
          obtain rfl := some_inj h12
          refine then_n ?_
          exact ⟨y28, rfl, hf.keep ⟨rfl, trivial⟩, hM.pick [] rfl⟩
        · refine pl_gs (wanted_f hf rfl rfl rfl rfl hc27) hf rfl rfl fun a hf => ?_
          refine pl_gs (wanted_f hf rfl rfl rfl rfl hc27) hf rfl rfl fun a hf => ?_
          refine pl_gs (wanted_f hf rfl rfl rfl rfl hc27) hf rfl rfl fun a hf => ?_
          refine q_ hf rfl rfl rfl (e_pick_f hf rfl hc27 rfl) fun a hf => ?_
          refine q_ hf rfl rfl rfl (e_assign hf rfl) fun a hf => ?_
          refine pl_nil ?_
          obtain rfl := some_inj h12
          refine then_n ?_
          exact ⟨false, rfl, hf.keep ⟨rfl, trivial⟩, hM.pick [] rfl⟩
      · refine pl_gs (wanted_f hf rfl rfl rfl rfl hc24) hf rfl rfl fun a hf => ?_
        refine pl_gs (wanted_f hf rfl rfl rfl rfl hc24) hf rfl rfl fun a hf => ?_
        refine pl_gs (wanted_f hf rfl rfl rfl rfl hc24) hf rfl rfl fun a hf => ?_
        refine pl_gs (wanted_f hf rfl rfl rfl rfl hc24) hf rfl rfl fun a hf => ?_
        refine pl_gs (wanted_f hf rfl rfl rfl rfl hc24) hf rfl rfl fun a hf => ?_
        refine pl_gs (wanted_f hf rfl rfl rfl rfl hc24) hf rfl rfl fun a hf => ?_
        refine pl_gs (wanted_f hf rfl rfl rfl rfl hc24) hf rfl rfl fun a hf => ?_
        refine pl_gs (wanted_f hf rfl rfl rfl rfl hc24) hf rfl rfl fun a hf => ?_
        refine pl_gs (wanted_f hf rfl rfl rfl rfl hc24) hf rfl rfl fun a hf => ?_
        refine q_ hf rfl rfl rfl (e_pick_f hf rfl hc24 rfl) fun a hf => ?_
        refine q_ hf rfl rfl rfl (e_move hf rfl) fun a hf => ?_
        refine pl_gs (wanted_f hf rfl rfl rfl rfl rfl) hf rfl rfl fun a hf => ?_
        refine pl_gs (wanted_f hf rfl rfl rfl rfl rfl) hf rfl rfl fun a hf => ?_
        refine pl_gs (wanted_f hf rfl rfl rfl rfl rfl) hf rfl rfl fun a hf => ?_
        refine q_ hf rfl rfl rfl (e_pick_f hf rfl rfl rfl) fun a hf => ?_
        refine q_ hf rfl rfl rfl (e_assign hf rfl) fun a hf => ?_
        refine pl_nil ?_
        obtain rfl := some_inj h12
        refine then_n ?_
        exact ⟨false, rfl, hf.keep ⟨rfl, trivial⟩, hM.pick [] rfl⟩
    · refine pl_gs (wanted_f hf rfl rfl rfl rfl hc18) hf rfl rfl fun a hf => ?_
      refine pl_gs (wanted_f hf rfl rfl rfl rfl hc18) hf rfl rfl fun a hf => ?_
      refine pl_gs (wanted_f hf rfl rfl rfl rfl hc18) hf rfl rfl fun a hf => ?_
      refine q_ hf rfl rfl rfl (e_pick_f hf rfl hc18 rfl) fun a hf => ?_
      refine q_ hf rfl rfl rfl (e_move hf rfl) fun a hf => ?_
      refine pl_gs (wanted_f hf rfl rfl rfl rfl rfl) hf rfl rfl fun a hf => ?_
      refine pl_gs (wanted_f hf rfl rfl rfl rfl rfl) hf rfl rfl fun a hf => ?_
      refine pl_gs (wanted_f hf rfl rfl rfl rfl rfl) hf rfl rfl fun a hf => ?_
      refine pl_gs (wanted_f hf rfl rfl rfl rfl rfl) hf rfl rfl fun a hf => ?_
      refine pl_gs (wanted_f hf rfl rfl rfl rfl rfl) hf rfl rfl fun a hf => ?_
      refine pl_gs (wanted_f hf rfl rfl rfl rfl rfl) hf rfl rfl fun a hf => ?_
      refine pl_gs (wanted_f hf rfl rfl rfl rfl rfl) hf rfl rfl fun a hf => ?_
      refine pl_gs (wanted_f hf rfl rfl rfl rfl rfl) hf rfl rfl fun a hf => ?_
      refine pl_gs (wanted_f hf rfl rfl rfl rfl rfl) hf rfl rfl fun a hf => ?_
      refine q_ hf rfl rfl rfl (e_pick_f hf rfl rfl rfl) fun a hf => ?_
      refine q_ hf rfl rfl rfl (e_move hf rfl) fun a hf => ?_
      refine pl_gs (wanted_f hf rfl rfl rfl rfl rfl) hf rfl rfl fun a hf => ?_
      refine pl_gs (wanted_f hf rfl rfl rfl rfl rfl) hf rfl rfl fun a hf => ?_
      refine pl_gs (wanted_f hf rfl rfl rfl rfl rfl) hf rfl rfl fun a hf => ?_
      refine q_ hf rfl rfl rfl (e_pick_f hf rfl rfl rfl) fun a hf => ?_
      refine q_ hf rfl rfl rfl (e_assign hf rfl) fun a hf => ?_
      refine pl_nil ?_
      obtain rfl := some_inj h12
      refine then_n ?_
      exact ⟨false, rfl, hf.keep ⟨rfl, trivial⟩, hM.pick [] rfl⟩
  · rintro a w37 ⟨t9, rfl, hf, hM⟩
    try dsimp only at h
    refine wp_ret ?_
    obtain rfl := some_inj h
    have hM := hM.outs (own' := []) 0 rfl
    exact leave1 hf rfl rfl ⟨rfl, hM.fin⟩

set_option maxRecDepth 100000 in
set_option maxHeartbeats 4000000 in
theorem r_impl_Grid_across (C : Cx) (g1 : Grid) (hp2 : R64 g1.Rows) (hp3 : R64 g1.Cols) (hp4 : g1.Cells.length ≤ maxLen) (r : (List Slot)) (h : m_impl_Grid_across g1 = some r) :
    Calls Try.prog 88 #[.agg #[vI (g1.Rows), vI (g1.Cols), vS (g1.Cells)]] C.w0 fun e w => ∃ (A_1 : Option Addr), ∃ (c_1 : Nat), e = .returned (vL A_1 (r) c_1) ∧ Mem C w [.row SlotRep A_1 c_1 75 r true] [] := by
  have hM := Mem.begin C [] trivial
  refine enter Try.func88 rfl Try.ntmps88 rfl fun a hf => ?_
  unfold m_impl_Grid_across at h
  refine wp_seq ?_
  refine region_pl ?_
  refine pl_l hf rfl rfl rfl (w_box hf hM (cs := [vI (g1.Rows), vI (g1.Cols), vS (g1.Cells)]) rfl rfl fun b5 w6 hx7 hM a hf => ?_)
  refine q_ hf rfl rfl rfl (e_assign hf rfl) fun a hf => ?_
  refine pl_nil ?_
  refine then_n ?_
  refine wp_seq ?_
  refine region_pl ?_
  refine pl_l hf rfl rfl rfl (w_slice0 (K := SlotRep) hM Try.underlying30 ei_75 fun b9 w10 hx11 hM a hf => ?_)
  refine q_ hf rfl rfl rfl (e_assign hf rfl) fun a hf => ?_
  refine pl_nil ?_
  refine then_n ?_
  obtain ⟨x15, h16, h⟩ := bind_some h
  refine seq_join (fun a w => ∃ (xs12 : (List Slot)) (A13 : Option Addr) (c14 : Nat), xs12 = x15 ∧ Has 52 a [(3, vL A13 (xs12) c14)] ∧ Mem C w [.row SlotRep A13 c14 75 xs12 true, .box b5 [vI (g1.Rows), vI (g1.Cols), vS (g1.Cells)] 27] []) ?_ ?_
  · refine wp_seq ?_
    refine region_pl ?_
    refine q_ hf rfl rfl rfl (e_assign hf rfl) fun a hf => ?_
    refine pl_nil ?_
    refine then_n ?_
    refine wp_block ?_
    obtain ⟨x26, h27, h16⟩ := bind_some h16
    refine wp_loopM h27 (fun s a w => ∃ (xs17 : (List Slot)) (start20 : Int) (A18 : Option Addr) (c19 : Nat), (xs17, start20) = s ∧ Has 52 a [(1, vP b5 (0)), (3, vL A18 (xs17) c19), (4, vI (start20))] ∧ Mem C w [.row SlotRep A18 c19 75 xs17 true, .box b5 [vI (g1.Rows), vI (g1.Cols), vS (g1.Cells)] 27] [] ∧ R64 start20) ?_ ?_
    · exact ⟨([] : (List Slot)), 0, (some ⟨b9, 0, none⟩), 0, rfl, hf.keep ⟨rfl, rfl, rfl, trivial⟩, hM.pick [] rfl, (R64_lit rfl)⟩
    · rintro s o28 a w22 ⟨xs17, start20, A18, c19, rfl, hf, hM, hv21⟩ h29 hd30
      replace h29 : m_impl_Grid_across_l1 g1 xs17 start20 = some o28 := h29
      unfold m_impl_Grid_across_l1 at h29
      refine wp_seq ?_
      refine wp_seq ?_
      refine region_pl ?_
      refine q_ hf rfl rfl rfl (e_move hf rfl) fun a hf => ?_
      refine q_ hf rfl rfl rfl (e_field hf rfl Try.underlying27 rfl Try.sizeOf2 (o' := 0) rfl) fun a hf => ?_
      refine q_ hf rfl rfl rfl (e_load1 hf rfl Try.isAgg2 (hM.boxCell (k := 1) rfl rfl)) fun a hf => ?_
      refine q_ hf rfl rfl rfl (e_lt hf (x := start20) (y := g1.Rows) rfl rfl) fun a hf => ?_
      refine pl_nil ?_
      refine then_n ?_
      rcases cond_some h29 with ⟨hc31, h29⟩ | ⟨hc31, h29⟩
      · refine cond_t hf rfl hc31 ?_
        refine wp_skip ?_
        refine then_n ?_
        obtain ⟨x35, h36, h29⟩ := bind_some h29
        refine seq_join (fun a w => ∃ (xs32 : (List Slot)) (A33 : Option Addr) (c34 : Nat), xs32 = x35 ∧ Has 52 a [(1, vP b5 (0)), (3, vL A33 (xs32) c34), (4, vI (start20))] ∧ Mem C w [.row SlotRep A33 c34 75 xs32 true, .box b5 [vI (g1.Rows), vI (g1.Cols), vS (g1.Cells)] 27] []) ?_ ?_
        · refine wp_block ?_
          refine wp_seq ?_
          refine region_pl ?_
          refine q_ hf rfl rfl rfl (e_assign hf rfl) fun a hf => ?_
          refine pl_nil ?_
          refine then_n ?_
          refine wp_seq ?_
          refine region_pl ?_
          refine q_ hf rfl rfl rfl (e_assign hf rfl) fun a hf => ?_
          refine pl_nil ?_
          refine then_n ?_
          refine wp_block ?_
          obtain ⟨x48, h49, h36⟩ := bind_some h36
          refine wp_loopM h49 (fun s a w => ∃ (xs37 : (List Slot)) (col40 : Int) (n42 : Int) (A38 : Option Addr) (c39 : Nat), (xs37, col40, n42) = s ∧ Has 52 a [(1, vP b5 (0)), (3, vL A38 (xs37) c39), (4, vI (start20)), (5, vI (col40)), (6, vI (n42))] ∧ Mem C w [.row SlotRep A38 c39 75 xs37 true, .box b5 [vI (g1.Rows), vI (g1.Cols), vS (g1.Cells)] 27] [] ∧ R64 col40 ∧ R64 n42) ?_ ?_
          · exact ⟨xs17, 0, 0, A18, c19, rfl, hf.keep ⟨rfl, rfl, rfl, rfl, rfl, trivial⟩, hM.pick [] rfl, (R64_lit rfl), (R64_lit rfl)⟩
          · rintro s o50 a w44 ⟨xs37, col40, n42, A38, c39, rfl, hf, hM, hv41, hv43⟩ h51 hd52
            replace h51 : m_impl_Grid_across_l2 g1 start20 xs37 col40 n42 = some o50 := h51
            unfold m_impl_Grid_across_l2 at h51
            refine wp_seq ?_
            refine wp_seq ?_
            refine region_pl ?_
            refine q_ hf rfl rfl rfl (e_move hf rfl) fun a hf => ?_
            refine q_ hf rfl rfl rfl (e_field hf rfl Try.underlying27 rfl Try.sizeOf2 (o' := 1) rfl) fun a hf => ?_
            refine q_ hf rfl rfl rfl (e_load1 hf rfl Try.isAgg2 (hM.boxCell (k := 1) rfl rfl)) fun a hf => ?_
            refine q_ hf rfl rfl rfl (e_le hf (x := n42) (y := g1.Cols) rfl rfl) fun a hf => ?_
            refine pl_nil ?_
            refine then_n ?_
            rcases cond_some h51 with ⟨hc53, h51⟩ | ⟨hc53, h51⟩
            · refine cond_t hf rfl hc53 ?_
              refine wp_skip ?_
              refine then_n ?_
              obtain ⟨x59, h60, h51⟩ := bind_some h51
              refine seq_join (fun a w => ∃ (xs54 : (List Slot)) (col57 : Int) (A55 : Option Addr) (c56 : Nat), (xs54, col57) = x59 ∧ Has 52 a [(1, vP b5 (0)), (3, vL A55 (xs54) c56), (4, vI (start20)), (5, vI (col57)), (6, vI (n42))] ∧ Mem C w [.row SlotRep A55 c56 75 xs54 true, .box b5 [vI (g1.Rows), vI (g1.Cols), vS (g1.Cells)] 27] [] ∧ R64 col57) ?_ ?_
              · refine wp_block ?_
                refine wp_seq ?_
                obtain ⟨x63, h64, h60⟩ := bind_some h60
                refine seq_join (fun a w => ∃ (t61 : Bool), t61 = x63 ∧ Has 52 a [(1, vP b5 (0)), (3, vL A38 (xs37) c39), (4, vI (start20)), (5, vI (col40)), (6, vI (n42)), (35, .bool (t61))] ∧ Mem C w [.row SlotRep A38 c39 75 xs37 true, .box b5 [vI (g1.Rows), vI (g1.Cols), vS (g1.Cells)] 27] []) ?_ ?_
                · refine region_pl ?_
                  refine q_ hf rfl rfl rfl (e_move hf rfl) fun a hf => ?_
                  refine q_ hf rfl rfl rfl (e_field hf rfl Try.underlying27 rfl Try.sizeOf2 (o' := 1) rfl) fun a hf => ?_
                  refine q_ hf rfl rfl rfl (e_load1 hf rfl Try.isAgg2 (hM.boxCell (k := 1) rfl rfl)) fun a hf => ?_
                  refine q_ hf rfl rfl rfl (e_lt hf (x := n42) (y := g1.Cols) rfl rfl) fun a hf => ?_
                  refine q_ hf rfl rfl rfl (e_move hf rfl) fun a hf => ?_
                  rcases cond_some h64 with ⟨hc65, h64⟩ | ⟨hc65, h64⟩
                  · refine gq (wanted_t hf rfl rfl rfl rfl hc65) hf rfl rfl (e_field hf rfl Try.underlying27 rfl Try.sizeOf9 (o' := 2) rfl) fun a hf => ?_
                    refine gq (wanted_t hf rfl rfl rfl rfl hc65) hf rfl rfl (e_load1 hf rfl Try.isAgg9 (hM.boxCell (k := 1) rfl rfl)) fun a hf => ?_
                    refine gq (wanted_t hf rfl rfl rfl rfl hc65) hf rfl rfl (e_move hf rfl) fun a hf => ?_
                    refine gq (wanted_t hf rfl rfl rfl rfl hc65) hf rfl rfl (e_field hf rfl Try.underlying27 rfl Try.sizeOf2 (o' := 1) rfl) fun a hf => ?_
                    refine gq (wanted_t hf rfl rfl rfl rfl hc65) hf rfl rfl (e_load1 hf rfl Try.isAgg2 (hM.boxCell (k := 1) rfl rfl)) fun a hf => ?_
                    obtain ⟨z66, hz67, h64⟩ := bind_some h64
                    refine gq (wanted_t hf rfl rfl rfl rfl hc65) hf rfl rfl (e_mul hf rfl rfl hz67) fun a hf => ?_
                    refine gq (wanted_t hf rfl rfl rfl rfl hc65) hf rfl rfl (e_move hf rfl) fun a hf => ?_
                    obtain ⟨z68, hz69, h64⟩ := bind_some h64
                    refine gq (wanted_t hf rfl rfl rfl rfl hc65) hf rfl rfl (e_add hf rfl rfl hz69) fun a hf => ?_
                    obtain ⟨c70, hz71, h64⟩ := bind_some h64
                    refine gq (wanted_t hf rfl rfl rfl rfl hc65) hf rfl rfl (e_indexS hf (x := g1.Cells) rfl rfl Try.underlying9 hz71) fun a hf => ?_
                    refine gq (wanted_t hf rfl rfl rfl rfl hc65) hf rfl rfl (e_neB hf (x := c70) (y := 35) rfl rfl) fun a hf => ?_
                    refine q_ hf rfl rfl rfl (e_pick_t hf rfl hc65 rfl) fun a hf => ?_
                    refine pl_nil ?_
                    obtain rfl := some_inj h64
                    refine then_n ?_
                    exact ⟨(c70 != 35), rfl, hf.keep ⟨rfl, rfl, rfl, rfl, rfl, rfl, trivial⟩, hM.pick [] rfl⟩
                  · refine pl_gs (wanted_f hf rfl rfl rfl rfl hc65) hf rfl rfl fun a hf => ?_
                    refine pl_gs (wanted_f hf rfl rfl rfl rfl hc65) hf rfl rfl fun a hf => ?_
                    refine pl_gs (wanted_f hf rfl rfl rfl rfl hc65) hf rfl rfl fun a hf => ?_
                    refine pl_gs (wanted_f hf rfl rfl rfl rfl hc65) hf rfl rfl fun a hf => ?_
                    refine pl_gs (wanted_f hf rfl rfl rfl rfl hc65) hf rfl rfl fun a hf => ?_
                    refine pl_gs (wanted_f hf rfl rfl rfl rfl hc65) hf rfl rfl fun a hf => ?_
                    refine pl_gs (wanted_f hf rfl rfl rfl rfl hc65) hf rfl rfl fun a hf => ?_
                    refine pl_gs (wanted_f hf rfl rfl rfl rfl hc65) hf rfl rfl fun a hf => ?_
                    refine pl_gs (wanted_f hf rfl rfl rfl rfl hc65) hf rfl rfl fun a hf => ?_
                    refine pl_gs (wanted_f hf rfl rfl rfl rfl hc65) hf rfl rfl fun a hf => ?_
                    refine q_ hf rfl rfl rfl (e_pick_f hf rfl hc65 rfl) fun a hf => ?_
                    refine pl_nil ?_
                    obtain rfl := some_inj h64
                    refine then_n ?_
                    exact ⟨false, rfl, hf.keep ⟨rfl, rfl, rfl, rfl, rfl, rfl, trivial⟩, hM.pick [] rfl⟩
                · rintro a w74 ⟨t61, rfl, hf, hM⟩
                  try dsimp only at h60
                  rcases cond_some h60 with ⟨hc75, h60⟩ | ⟨hc75, h60⟩
                  · refine cond_t hf rfl hc75 ?_
                    refine wp_exit ?_
                    refine then_x ?_
                    refine exit_hit ?_
                    obtain rfl := some_inj h60
                    refine then_n ?_
                    exact ⟨xs37, col40, A38, c39, rfl, hf.keep ⟨rfl, rfl, rfl, rfl, rfl, trivial⟩, hM.pick [] rfl, hv41⟩
                  · refine cond_f hf rfl hc75 ?_
                    refine wp_skip ?_
                    refine then_n ?_
                    obtain ⟨x80, h81, h60⟩ := bind_some h60
                    refine seq_join (fun a w => ∃ (xs77 : (List Slot)) (A78 : Option Addr) (c79 : Nat), xs77 = x80 ∧ Has 52 a [(1, vP b5 (0)), (3, vL A78 (xs77) c79), (4, vI (start20)), (6, vI (n42))] ∧ Mem C w [.row SlotRep A78 c79 75 xs77 true, .box b5 [vI (g1.Rows), vI (g1.Cols), vS (g1.Cells)] 27] []) ?_ ?_
                    · refine wp_seq ?_
                      refine region_pl ?_
                      refine q_ hf rfl rfl rfl (e_move hf rfl) fun a hf => ?_
                      refine q_ hf rfl rfl rfl (e_move hf rfl) fun a hf => ?_
                      obtain ⟨z82, hz83, h81⟩ := bind_some h81
                      refine q_ hf rfl rfl rfl (e_sub hf rfl rfl hz83) fun a hf => ?_
                      refine q_ hf rfl rfl rfl (e_ge hf (x := z82) (y := 2) rfl rfl) fun a hf => ?_
                      refine pl_nil ?_
                      refine then_n ?_
                      rcases cond_some h81 with ⟨hc84, h81⟩ | ⟨hc84, h81⟩
                      · refine cond_t hf rfl hc84 ?_
                        refine region_pl ?_
                        refine q_ hf rfl rfl rfl (e_move hf rfl) fun a hf => ?_
                        refine q_ hf rfl rfl rfl (e_move hf rfl) fun a hf => ?_
                        refine q_ hf rfl rfl rfl (e_move hf rfl) fun a hf => ?_
                        refine q_ hf rfl rfl rfl (e_move hf rfl) fun a hf => ?_
                        refine q_ hf rfl rfl rfl (e_move hf rfl) fun a hf => ?_
                        obtain ⟨z85, hz86, h81⟩ := bind_some h81
                        refine q_ hf rfl rfl rfl (e_sub hf rfl rfl hz86) fun a hf => ?_
                        refine q_ hf rfl rfl rfl (e_build hf Try.zeroValue75 Try.underlying75 (bp_75 _ Try.underlying75.symm) rfl (cs := #[vI (start20), vI (col40), .bool (false), vI (z85)]) (by kernel_rfl)) fun a hf => ?_
                        refine pl_l hf rfl rfl rfl (w_slice hf hM (K := SlotRep) (xs := ([(⟨start20, col40, false, z85⟩ : Slot)] : (List Slot))) (os := [.tmp 46]) Try.underlying30 ei_75 rfl rfl rfl rfl rfl ⟨⟨[vI (start20), vI (col40), .bool (false), vI (z85)], rfl, (SlotRep_mk (x := (⟨start20, col40, false, z85⟩ : Slot)) hv21 hv41 (chk_R hz86))⟩, trivial⟩ rfl fun b87 w88 hx89 hM a hf => ?_)
                        obtain ⟨xs90, hz91, h81⟩ := bind_some h81
                        refine pl_l hf rfl rfl rfl (w_append hf hM Try.underlying30 ei_75 rfl rfl rfl (k := 1) rfl (hM.srcRow (k := 0) rfl) hz91 fun A92 c93 w94 hM a hf => ?_)
                        dsimp only [List.set] at hM
                        refine q_ hf rfl rfl rfl (e_assign hf rfl) fun a hf => ?_
                        refine pl_nil ?_
                        obtain rfl := some_inj h81
                        refine then_n ?_
                        exact ⟨xs90, A92, c93, rfl, hf.keep ⟨rfl, rfl, rfl, rfl, trivial⟩, (hM.drop (.cons _ (.cons_cons _ (.cons_cons _ .slnil)))).pick [] rfl⟩
                      · refine cond_f hf rfl hc84 ?_
                        refine wp_skip ?_
                        obtain rfl := some_inj h81
                        refine then_n ?_
                        exact ⟨xs37, A38, c39, rfl, hf.keep ⟨rfl, rfl, rfl, rfl, trivial⟩, hM.pick [] rfl⟩
                    · rintro a w99 ⟨xs77, A78, c79, rfl, hf, hM⟩
                      try dsimp only at h60
                      refine region_pl ?_
                      refine q_ hf rfl rfl rfl (e_move hf rfl) fun a hf => ?_
                      obtain ⟨z100, hz101, h60⟩ := bind_some h60
                      refine q_ hf rfl rfl rfl (e_add hf rfl rfl hz101) fun a hf => ?_
                      refine q_ hf rfl rfl rfl (e_assign hf rfl) fun a hf => ?_
                      refine pl_nil ?_
                      refine blk_n ?_
                      obtain rfl := some_inj h60
                      refine then_n ?_
                      exact ⟨xs77, z100, A78, c79, rfl, hf.keep ⟨rfl, rfl, rfl, rfl, rfl, trivial⟩, hM.pick [] rfl, (chk_R hz101)⟩
              · rintro a w103 ⟨xs54, col57, A55, c56, rfl, hf, hM, hv58⟩
                try dsimp only at h51
                refine region_pl ?_
                refine q_ hf rfl rfl rfl (e_move hf rfl) fun a hf => ?_
                obtain ⟨z104, hz105, h51⟩ := bind_some h51
                refine q_ hf rfl rfl rfl (e_add hf rfl rfl hz105) fun a hf => ?_
                refine q_ hf rfl rfl rfl (e_assign hf rfl) fun a hf => ?_
                refine pl_nil ?_
                obtain rfl := some_inj h51
                refine then_n ⟨_, rfl, ?_⟩
                exact ⟨xs54, col57, z104, A55, c56, rfl, hf.keep ⟨rfl, rfl, rfl, rfl, rfl, trivial⟩, hM.pick [] rfl, hv58, (chk_R hz105)⟩
            · refine cond_f hf rfl hc53 ?_
              refine wp_exit ?_
              refine then_x ?_
              obtain rfl := some_inj h51
              obtain rfl := hd52 _ rfl
              try dsimp only at h36
              refine then_x ?_
              refine exit_hit ?_
              refine blk_n ?_
              obtain rfl := some_inj h36
              refine then_n ?_
              exact ⟨xs37, A38, c39, rfl, hf.keep ⟨rfl, rfl, rfl, trivial⟩, hM.pick [] rfl⟩
        · rintro a w111 ⟨xs32, A33, c34, rfl, hf, hM⟩
          try dsimp only at h29
          refine region_pl ?_
          refine q_ hf rfl rfl rfl (e_move hf rfl) fun a hf => ?_
          obtain ⟨z112, hz113, h29⟩ := bind_some h29
          refine q_ hf rfl rfl rfl (e_add hf rfl rfl hz113) fun a hf => ?_
          refine q_ hf rfl rfl rfl (e_assign hf rfl) fun a hf => ?_
          refine pl_nil ?_
          obtain rfl := some_inj h29
          refine then_n ⟨_, rfl, ?_⟩
          exact ⟨xs32, z112, A33, c34, rfl, hf.keep ⟨rfl, rfl, rfl, trivial⟩, hM.pick [] rfl, (chk_R hz113)⟩
      · refine cond_f hf rfl hc31 ?_
        refine wp_exit ?_
        refine then_x ?_
        obtain rfl := some_inj h29
        obtain rfl := hd30 _ rfl
        try dsimp only at h16
        refine then_x ?_
        refine exit_hit ?_
        obtain rfl := some_inj h16
        refine then_n ?_
        exact ⟨xs17, A18, c19, rfl, hf.keep ⟨rfl, trivial⟩, hM.pick [] rfl⟩
  · rintro a w119 ⟨xs12, A13, c14, rfl, hf, hM⟩
    try dsimp only at h
    refine wp_seq ?_
    refine region_pl ?_
    refine q_ hf rfl rfl rfl (e_move hf rfl) fun a hf => ?_
    refine q_ hf rfl rfl rfl (e_assign hf rfl) fun a hf => ?_
    refine pl_nil ?_
    refine then_n ?_
    refine wp_ret ?_
    obtain rfl := some_inj h
    have hM := hM.outs (own' := [.row SlotRep A13 c14 75 xs12 true]) 1 rfl
    exact leave1 hf rfl rfl ⟨A13, c14, rfl, hM.fin⟩

set_option maxRecDepth 100000 in
set_option maxHeartbeats 4000000 in
theorem r_impl_Grid_turned (C : Cx) (g1 : Grid) (hp2 : R64 g1.Rows) (hp3 : R64 g1.Cols) (hp4 : g1.Cells.length ≤ maxLen) (r : Grid) (h : m_impl_Grid_turned g1 = some r) :
    Calls Try.prog 81 #[.agg #[vI (g1.Rows), vI (g1.Cols), vS (g1.Cells)]] C.w0 fun e w => e = .returned (.agg #[vI (r.Rows), vI (r.Cols), vS (r.Cells)]) ∧ Mem C w [] [] ∧ R64 r.Rows ∧ R64 r.Cols ∧ r.Cells.length ≤ maxLen := by
  have hM := Mem.begin C [] trivial
  refine enter Try.func81 rfl Try.ntmps81 rfl fun a hf => ?_
  unfold m_impl_Grid_turned at h
  refine wp_seq ?_
  refine region_pl ?_
  refine pl_l hf rfl rfl rfl (w_box hf hM (cs := [vI (g1.Rows), vI (g1.Cols), vS (g1.Cells)]) rfl rfl fun b5 w6 hx7 hM a hf => ?_)
  refine pl_l hf rfl rfl rfl (w_alloc hM (cs := [vI (0), vI (0), vS (([] : Str))]) Try.zeroValue27 rfl fun b9 w10 hx11 hM a hf => ?_)
  refine pl_nil ?_
  refine then_n ?_
  refine wp_seq ?_
  refine region_pl ?_
  refine pl_l hf rfl rfl rfl (w_slice0 (K := byteRep) hM Try.underlying63 ei_5 fun b13 w14 hx15 hM a hf => ?_)
  refine q_ hf rfl rfl rfl (e_assign hf rfl) fun a hf => ?_
  refine pl_nil ?_
  refine then_n ?_
  obtain ⟨x19, h20, h⟩ := bind_some h
  refine seq_join (fun a w => ∃ (xs16 : Str) (A17 : Option Addr) (c18 : Nat), xs16 = x19 ∧ Has 38 a [(1, vP b5 (0)), (2, vP b9 (0)), (3, vL A17 (xs16) c18)] ∧ Mem C w [.row byteRep A17 c18 5 xs16 true, .box b9 [vI (0), vI (0), vS (([] : Str))] 27, .box b5 [vI (g1.Rows), vI (g1.Cols), vS (g1.Cells)] 27] []) ?_ ?_
  · refine wp_seq ?_
    refine region_pl ?_
    refine q_ hf rfl rfl rfl (e_assign hf rfl) fun a hf => ?_
    refine pl_nil ?_
    refine then_n ?_
    refine wp_block ?_
    obtain ⟨x30, h31, h20⟩ := bind_some h20
    refine wp_loopM h31 (fun s a w => ∃ (xs21 : Str) (row24 : Int) (A22 : Option Addr) (c23 : Nat), (xs21, row24) = s ∧ Has 38 a [(1, vP b5 (0)), (2, vP b9 (0)), (3, vL A22 (xs21) c23), (4, vI (row24))] ∧ Mem C w [.row byteRep A22 c23 5 xs21 true, .box b9 [vI (0), vI (0), vS (([] : Str))] 27, .box b5 [vI (g1.Rows), vI (g1.Cols), vS (g1.Cells)] 27] [] ∧ R64 row24) ?_ ?_
    · exact ⟨([] : Str), 0, (some ⟨b13, 0, none⟩), 0, rfl, hf.keep ⟨rfl, rfl, rfl, rfl, trivial⟩, hM.pick [] rfl, (R64_lit rfl)⟩
    · rintro s o32 a w26 ⟨xs21, row24, A22, c23, rfl, hf, hM, hv25⟩ h33 hd34
      replace h33 : m_impl_Grid_turned_l1 g1 xs21 row24 = some o32 := h33
      unfold m_impl_Grid_turned_l1 at h33
      refine wp_seq ?_
      refine wp_seq ?_
      refine region_pl ?_
      refine q_ hf rfl rfl rfl (e_move hf rfl) fun a hf => ?_
      refine q_ hf rfl rfl rfl (e_field hf rfl Try.underlying27 rfl Try.sizeOf2 (o' := 1) rfl) fun a hf => ?_
      refine q_ hf rfl rfl rfl (e_load1 hf rfl Try.isAgg2 (hM.boxCell (k := 2) rfl rfl)) fun a hf => ?_
      refine q_ hf rfl rfl rfl (e_lt hf (x := row24) (y := g1.Cols) rfl rfl) fun a hf => ?_
      refine pl_nil ?_
      refine then_n ?_
      rcases cond_some h33 with ⟨hc35, h33⟩ | ⟨hc35, h33⟩
      · refine cond_t hf rfl hc35 ?_
        refine wp_skip ?_
        refine then_n ?_
        obtain ⟨x39, h40, h33⟩ := bind_some h33
        refine seq_join (fun a w => ∃ (xs36 : Str) (A37 : Option Addr) (c38 : Nat), xs36 = x39 ∧ Has 38 a [(1, vP b5 (0)), (2, vP b9 (0)), (3, vL A37 (xs36) c38), (4, vI (row24))] ∧ Mem C w [.row byteRep A37 c38 5 xs36 true, .box b9 [vI (0), vI (0), vS (([] : Str))] 27, .box b5 [vI (g1.Rows), vI (g1.Cols), vS (g1.Cells)] 27] []) ?_ ?_
        · refine wp_block ?_
          refine wp_seq ?_
          refine region_pl ?_
          refine q_ hf rfl rfl rfl (e_assign hf rfl) fun a hf => ?_
          refine pl_nil ?_
          refine then_n ?_
          refine wp_block ?_
          obtain ⟨x50, h51, h40⟩ := bind_some h40
          refine wp_loopM h51 (fun s a w => ∃ (xs41 : Str) (n44 : Int) (A42 : Option Addr) (c43 : Nat), (xs41, n44) = s ∧ Has 38 a [(1, vP b5 (0)), (2, vP b9 (0)), (3, vL A42 (xs41) c43), (4, vI (row24)), (5, vI (n44))] ∧ Mem C w [.row byteRep A42 c43 5 xs41 true, .box b9 [vI (0), vI (0), vS (([] : Str))] 27, .box b5 [vI (g1.Rows), vI (g1.Cols), vS (g1.Cells)] 27] [] ∧ R64 n44) ?_ ?_
          · exact ⟨xs21, 0, A22, c23, rfl, hf.keep ⟨rfl, rfl, rfl, rfl, rfl, trivial⟩, hM.pick [] rfl, (R64_lit rfl)⟩
          · rintro s o52 a w46 ⟨xs41, n44, A42, c43, rfl, hf, hM, hv45⟩ h53 hd54
            replace h53 : m_impl_Grid_turned_l2 g1 row24 xs41 n44 = some o52 := h53
            unfold m_impl_Grid_turned_l2 at h53
            refine wp_seq ?_
            refine wp_seq ?_
            refine region_pl ?_
            refine q_ hf rfl rfl rfl (e_move hf rfl) fun a hf => ?_
            refine q_ hf rfl rfl rfl (e_field hf rfl Try.underlying27 rfl Try.sizeOf2 (o' := 0) rfl) fun a hf => ?_
            refine q_ hf rfl rfl rfl (e_load1 hf rfl Try.isAgg2 (hM.boxCell (k := 2) rfl rfl)) fun a hf => ?_
            refine q_ hf rfl rfl rfl (e_lt hf (x := n44) (y := g1.Rows) rfl rfl) fun a hf => ?_
            refine pl_nil ?_
            refine then_n ?_
            rcases cond_some h53 with ⟨hc55, h53⟩ | ⟨hc55, h53⟩
            · refine cond_t hf rfl hc55 ?_
              refine wp_skip ?_
              refine then_n ?_
              refine wp_seq ?_
              refine wp_block ?_
              refine region_pl ?_
              refine q_ hf rfl rfl rfl (e_move hf rfl) fun a hf => ?_
              refine q_ hf rfl rfl rfl (e_field hf rfl Try.underlying27 rfl Try.sizeOf9 (o' := 2) rfl) fun a hf => ?_
              refine q_ hf rfl rfl rfl (e_load1 hf rfl Try.isAgg9 (hM.boxCell (k := 2) rfl rfl)) fun a hf => ?_
              refine q_ hf rfl rfl rfl (e_move hf rfl) fun a hf => ?_
              refine q_ hf rfl rfl rfl (e_field hf rfl Try.underlying27 rfl Try.sizeOf2 (o' := 1) rfl) fun a hf => ?_
              refine q_ hf rfl rfl rfl (e_load1 hf rfl Try.isAgg2 (hM.boxCell (k := 2) rfl rfl)) fun a hf => ?_
              obtain ⟨z56, hz57, h53⟩ := bind_some h53
              refine q_ hf rfl rfl rfl (e_mul hf rfl rfl hz57) fun a hf => ?_
              refine q_ hf rfl rfl rfl (e_move hf rfl) fun a hf => ?_
              obtain ⟨z58, hz59, h53⟩ := bind_some h53
              refine q_ hf rfl rfl rfl (e_add hf rfl rfl hz59) fun a hf => ?_
              obtain ⟨c60, hz61, h53⟩ := bind_some h53
              refine q_ hf rfl rfl rfl (e_indexS hf (x := g1.Cells) rfl rfl Try.underlying9 hz61) fun a hf => ?_
              refine pl_l hf rfl rfl rfl (w_slice hf hM (K := byteRep) (xs := ([c60] : Str)) (os := [.tmp 28]) Try.underlying63 ei_5 rfl rfl rfl rfl rfl ⟨⟨[vB (c60)], rfl, rfl⟩, trivial⟩ rfl fun b62 w63 hx64 hM a hf => ?_)
              obtain ⟨xs65, hz66, h53⟩ := bind_some h53
              refine pl_l hf rfl rfl rfl (w_append hf hM Try.underlying63 ei_5 rfl rfl rfl (k := 1) rfl (hM.srcRow (k := 0) rfl) hz66 fun A67 c68 w69 hM a hf => ?_)
              dsimp only [List.set] at hM
              refine q_ hf rfl rfl rfl (e_assign hf rfl) fun a hf => ?_
              refine pl_nil ?_
              refine blk_n ?_
              refine then_n ?_
              refine region_pl ?_
              refine q_ hf rfl rfl rfl (e_move hf rfl) fun a hf => ?_
              obtain ⟨z72, hz73, h53⟩ := bind_some h53
              refine q_ hf rfl rfl rfl (e_add hf rfl rfl hz73) fun a hf => ?_
              refine q_ hf rfl rfl rfl (e_assign hf rfl) fun a hf => ?_
              refine pl_nil ?_
              obtain rfl := some_inj h53
              refine then_n ⟨_, rfl, ?_⟩
              exact ⟨xs65, z72, A67, c68, rfl, hf.keep ⟨rfl, rfl, rfl, rfl, rfl, trivial⟩, (hM.drop (.cons _ (.cons_cons _ (.cons_cons _ (.cons_cons _ .slnil))))).pick [] rfl, (chk_R hz73)⟩
            · refine cond_f hf rfl hc55 ?_
              refine wp_exit ?_
              refine then_x ?_
              obtain rfl := some_inj h53
              obtain rfl := hd54 _ rfl
              try dsimp only at h40
              refine then_x ?_
              refine exit_hit ?_
              refine blk_n ?_
              obtain rfl := some_inj h40
              refine then_n ?_
              exact ⟨xs41, A42, c43, rfl, hf.keep ⟨rfl, rfl, rfl, rfl, trivial⟩, hM.pick [] rfl⟩
        · rintro a w79 ⟨xs36, A37, c38, rfl, hf, hM⟩
          try dsimp only at h33
          refine region_pl ?_
          refine q_ hf rfl rfl rfl (e_move hf rfl) fun a hf => ?_
          obtain ⟨z80, hz81, h33⟩ := bind_some h33
          refine q_ hf rfl rfl rfl (e_add hf rfl rfl hz81) fun a hf => ?_
          refine q_ hf rfl rfl rfl (e_assign hf rfl) fun a hf => ?_
          refine pl_nil ?_
          obtain rfl := some_inj h33
          refine then_n ⟨_, rfl, ?_⟩
          exact ⟨xs36, z80, A37, c38, rfl, hf.keep ⟨rfl, rfl, rfl, rfl, trivial⟩, hM.pick [] rfl, (chk_R hz81)⟩
      · refine cond_f hf rfl hc35 ?_
        refine wp_exit ?_
        refine then_x ?_
        obtain rfl := some_inj h33
        obtain rfl := hd34 _ rfl
        try dsimp only at h20
        refine then_x ?_
        refine exit_hit ?_
        obtain rfl := some_inj h20
        refine then_n ?_
        exact ⟨xs21, A22, c23, rfl, hf.keep ⟨rfl, rfl, rfl, trivial⟩, hM.pick [] rfl⟩
  · rintro a w87 ⟨xs16, A17, c18, rfl, hf, hM⟩
    try dsimp only at h
    refine wp_seq ?_
    refine region_pl ?_
    refine q_ hf rfl rfl rfl (e_field hf rfl Try.underlying27 rfl Try.sizeOf2 (o' := 1) rfl) fun a hf => ?_
    refine q_ hf rfl rfl rfl (e_load1 hf rfl Try.isAgg2 (hM.boxCell (k := 2) rfl rfl)) fun a hf => ?_
    refine q_ hf rfl rfl rfl (e_field hf rfl Try.underlying27 rfl Try.sizeOf2 (o' := 0) rfl) fun a hf => ?_
    refine q_ hf rfl rfl rfl (e_load1 hf rfl Try.isAgg2 (hM.boxCell (k := 2) rfl rfl)) fun a hf => ?_
    refine q_ hf rfl rfl rfl (e_move hf rfl) fun a hf => ?_
    have hl88 := row_len (hM.ownAt (k := 0) rfl)
    refine q_ hf rfl rfl rfl (e_bytesStr hf (xs := xs16) rfl Try.underlying63 Try.underlying5 Try.underlying9 (hM.lendRow (k := 0) rfl)) fun a hf => ?_
    refine q_ hf rfl rfl rfl (e_build hf Try.zeroValue27 Try.underlying27 (bp_27 _ Try.underlying27.symm) rfl (cs := #[vI (g1.Cols), vI (g1.Rows), vS (xs16)]) (by kernel_rfl)) fun a hf => ?_
    refine pl_0 hf rfl rfl (w_store hf hM (us := [vI (g1.Cols), vI (g1.Rows), vS (xs16)]) (cs' := [vI (g1.Cols), vI (g1.Rows), vS (xs16)]) rfl rfl (k := 1) rfl rfl Try.sizeOf27 rfl rfl rfl fun w89 hM => ?_)
    dsimp only [List.set] at hM
    refine pl_nil ?_
    refine then_n ?_
    refine wp_ret ?_
    obtain rfl := some_inj h
    have hres92 := leaveV1 (P := Try.prog) Try.results81 (res_agg hf rfl ⟨Try.isAgg27, Try.sizeOf27⟩ (us := [vI (g1.Cols), vI (g1.Rows), vS (xs16)]) rfl (hM.boxSub (k := 1) (o := 0) rfl rfl))
    have hM := hM.outs (own' := []) 0 rfl
    exact bodyPost_ret hres92 hf.defers ⟨rfl, hM.fin, hp3, hp2, hl88⟩

set_option maxRecDepth 100000 in
set_option maxHeartbeats 4000000 in
theorem r_impl_Grid_slots (C : Cx) (g1 : Grid) (hp2 : R64 g1.Rows) (hp3 : R64 g1.Cols) (hp4 : g1.Cells.length ≤ maxLen) (r : (List Slot)) (h : m_impl_Grid_slots g1 = some r) :
    Calls Try.prog 55 #[.agg #[vI (g1.Rows), vI (g1.Cols), vS (g1.Cells)]] C.w0 fun e w => ∃ (A_1 : Option Addr), ∃ (c_1 : Nat), e = .returned (vL A_1 (r) c_1) ∧ Mem C w [.row SlotRep A_1 c_1 75 r true] [] := by
  have hM := Mem.begin C [] trivial
  refine enter Try.func55 rfl Try.ntmps55 rfl fun a hf => ?_
  unfold m_impl_Grid_slots at h
  refine wp_seq ?_
  refine region_pl ?_
  refine pl_l hf rfl rfl rfl (w_box hf hM (cs := [vI (g1.Rows), vI (g1.Cols), vS (g1.Cells)]) rfl rfl fun b5 w6 hx7 hM a hf => ?_)
  refine q_ hf rfl rfl rfl (e_assign hf rfl) fun a hf => ?_
  refine pl_nil ?_
  refine then_n ?_
  refine wp_seq ?_
  refine region_pl ?_
  refine q_ hf rfl rfl rfl (e_loadA hf (us := [vI (g1.Rows), vI (g1.Cols), vS (g1.Cells)]) rfl ⟨Try.isAgg27, Try.sizeOf27⟩ rfl (hM.boxSub (k := 0) (us := [vI (g1.Rows), vI (g1.Cols), vS (g1.Cells)]) (o := 0) rfl rfl)) fun a hf => ?_
  obtain ⟨y9, hz10, h⟩ := bind_some h
  refine pl_l hf rfl rfl rfl (w_call hf Try.call88 rfl (r_impl_Grid_across ⟨_, Sh C _ _, none_, hM.sh_lt, none_not⟩ g1 hp2 hp3 hp4 _ hz10) ?_)
  rintro _ w13 ⟨A11, c12, rfl, hM2⟩
  obtain ⟨hM, hx14, hup15⟩ := hM.back hM2
  dsimp only [List.cons_append, List.nil_append] at hM hup15
  clear hM2
  refine ⟨_, rfl, fun a hf => ?_⟩
  refine q_ hf rfl rfl rfl (e_assign hf rfl) fun a hf => ?_
  refine pl_nil ?_
  refine then_n ?_
  obtain ⟨x19, h20, h⟩ := bind_some h
  refine seq_join (fun a w => ∃ (xs16 : (List Slot)) (A17 : Option Addr) (c18 : Nat), xs16 = x19 ∧ Has 28 a [(3, vL A17 (xs16) c18)] ∧ Mem C w [.row SlotRep A17 c18 75 xs16 true, .box b5 [vI (g1.Rows), vI (g1.Cols), vS (g1.Cells)] 27] []) ?_ ?_
  · refine wp_seq ?_
    refine region_pl ?_
    refine q_ hf rfl rfl rfl (e_loadA hf (us := [vI (g1.Rows), vI (g1.Cols), vS (g1.Cells)]) rfl ⟨Try.isAgg27, Try.sizeOf27⟩ rfl (hM.boxSub (k := 1) (us := [vI (g1.Rows), vI (g1.Cols), vS (g1.Cells)]) (o := 0) rfl rfl)) fun a hf => ?_
    obtain ⟨y21, hz22, h20⟩ := bind_some h20
    refine pl_l hf rfl rfl rfl (w_call hf Try.call81 rfl (r_impl_Grid_turned ⟨_, Sh C _ _, none_, hM.sh_lt, none_not⟩ g1 hp2 hp3 hp4 _ hz22) ?_)
    rintro _ w26 ⟨rfl, hM2, hv23, hv24, hv25⟩
    obtain ⟨hM, hx27, hup28⟩ := hM.back hM2
    dsimp only [List.cons_append, List.nil_append] at hM hup28
    clear hM2
    refine ⟨_, rfl, fun a hf => ?_⟩
    obtain ⟨y29, hz30, h20⟩ := bind_some h20
    refine pl_l hf rfl rfl rfl (w_call hf Try.call88 rfl (r_impl_Grid_across ⟨_, Sh C _ _, none_, hM.sh_lt, none_not⟩ y21 hv23 hv24 hv25 _ hz30) ?_)
    rintro _ w33 ⟨A31, c32, rfl, hM2⟩
    obtain ⟨hM, hx34, hup35⟩ := hM.back hM2
    dsimp only [List.cons_append, List.nil_append] at hM hup35
    clear hM2
    refine ⟨_, rfl, fun a hf => ?_⟩
    have hl36 := row_len (hM.ownAt (k := 0) rfl)
    refine q_ hf rfl rfl rfl (e_lenL hf (x := y29) rfl Try.underlying30) fun a hf => ?_
    refine q_ hf rfl rfl rfl (e_move hf rfl) fun a hf => ?_
    refine pl_nil ?_
    refine then_n ?_
    refine wp_block ?_
    obtain ⟨x46, h47, h20⟩ := bind_some h20
    refine wp_loopM h47 (fun s a w => ∃ (xs37 : (List Slot)) (n40 : Int) (A38 : Option Addr) (c39 : Nat), (xs37, n40) = s ∧ Has 28 a [(3, vL A38 (xs37) c39), (10, vL A31 (y29) c32), (11, vI ((y29.length : Int))), (12, vI (n40))] ∧ Mem C w [.row SlotRep A31 c32 75 y29 true, .row SlotRep A38 c39 75 xs37 true, .box b5 [vI (g1.Rows), vI (g1.Cols), vS (g1.Cells)] 27] [] ∧ R64 n40) ?_ ?_
    · exact ⟨y9, 0, A11, c12, rfl, hf.keep ⟨rfl, rfl, rfl, rfl, trivial⟩, hM.pick [] rfl, (R64_lit rfl)⟩
    · rintro s o48 a w42 ⟨xs37, n40, A38, c39, rfl, hf, hM, hv41⟩ h49 hd50
      replace h49 : m_impl_Grid_slots_l1 y29 xs37 n40 = some o48 := h49
      unfold m_impl_Grid_slots_l1 at h49
      refine wp_seq ?_
      refine region_pl ?_
      refine q_ hf rfl rfl rfl (e_lt hf (x := n40) (y := (y29.length : Int)) rfl rfl) fun a hf => ?_
      refine pl_nil ?_
      refine then_n ?_
      refine wp_seq ?_
      rcases cond_some h49 with ⟨hc51, h49⟩ | ⟨hc51, h49⟩
      · refine cond_t hf rfl hc51 ?_
        refine wp_skip ?_
        refine then_n ?_
        refine wp_seq ?_
        refine wp_block ?_
        refine wp_seq ?_
        refine region_pl ?_
        obtain ⟨e52, hz53, h49⟩ := bind_some h49
        obtain ⟨b58, _, hA59, h54, h55, hr56, hcell57⟩ := hM.rowElemN (k := 0) rfl (n := 4) rfl hz53
        obtain ⟨rfl, hv60, hv61, hv62⟩ := SlotRep_open hr56
        refine q_ hf rfl rfl rfl (e_indexAddr (A := A31) (b := b58) (o := 0) (xs := y29) (i := n40) hf hA59 rfl rfl Try.underlying30 Try.sizeOf75 h54 h55) fun a hf => ?_
        refine q_ hf rfl rfl rfl (e_loadA hf (us := [vI (e52.Row), vI (e52.Col), .bool (e52.Down), vI (e52.Length)]) rfl ⟨Try.isAgg75, Try.sizeOf75⟩ rfl hcell57) fun a hf => ?_
        refine pl_l hf rfl rfl rfl (w_alloc hM (cs := [vI (0), vI (0), .bool (false), vI (0)]) Try.zeroValue75 rfl fun b63 w64 hx65 hM a hf => ?_)
        refine pl_0 hf rfl rfl (w_store hf hM (us := [vI (e52.Row), vI (e52.Col), .bool (e52.Down), vI (e52.Length)]) (cs' := [vI (e52.Row), vI (e52.Col), .bool (e52.Down), vI (e52.Length)]) rfl rfl (k := 0) rfl rfl Try.sizeOf75 rfl rfl rfl fun w67 hM => ?_)
        dsimp only [List.set] at hM
        refine pl_nil ?_
        refine then_n ?_
        refine region_pl ?_
        refine q_ hf rfl rfl rfl (e_move hf rfl) fun a hf => ?_
        refine q_ hf rfl rfl rfl (e_field hf rfl Try.underlying75 rfl Try.sizeOf2 (o' := 1) rfl) fun a hf => ?_
        refine q_ hf rfl rfl rfl (e_load1 hf rfl Try.isAgg2 (hM.boxCell (k := 0) rfl rfl)) fun a hf => ?_
        refine q_ hf rfl rfl rfl (e_field hf rfl Try.underlying75 rfl Try.sizeOf2 (o' := 0) rfl) fun a hf => ?_
        refine q_ hf rfl rfl rfl (e_load1 hf rfl Try.isAgg2 (hM.boxCell (k := 0) rfl rfl)) fun a hf => ?_
        refine q_ hf rfl rfl rfl (e_field hf rfl Try.underlying75 rfl Try.sizeOf2 (o' := 3) rfl) fun a hf => ?_
        refine q_ hf rfl rfl rfl (e_load1 hf rfl Try.isAgg2 (hM.boxCell (k := 0) rfl rfl)) fun a hf => ?_
        refine q_ hf rfl rfl rfl (e_build hf Try.zeroValue75 Try.underlying75 (bp_75 _ Try.underlying75.symm) rfl (cs := #[vI (e52.Col), vI (e52.Row), .bool (true), vI (e52.Length)]) (by kernel_rfl)) fun a hf => ?_
        refine pl_l hf rfl rfl rfl (w_slice hf hM (K := SlotRep) (xs := ([(⟨e52.Col, e52.Row, true, e52.Length⟩ : Slot)] : (List Slot))) (os := [.tmp 23]) Try.underlying30 ei_75 rfl rfl rfl rfl rfl ⟨⟨[vI (e52.Col), vI (e52.Row), .bool (true), vI (e52.Length)], rfl, (SlotRep_mk (x := (⟨e52.Col, e52.Row, true, e52.Length⟩ : Slot)) hv61 hv60 hv62)⟩, trivial⟩ rfl fun b70 w71 hx72 hM a hf => ?_)
        obtain ⟨xs73, hz74, h49⟩ := bind_some h49
        refine pl_l hf rfl rfl rfl (w_append hf hM Try.underlying30 ei_75 rfl rfl rfl (k := 3) rfl (hM.srcRow (k := 0) rfl) hz74 fun A75 c76 w77 hM a hf => ?_)
        dsimp only [List.set] at hM
        refine q_ hf rfl rfl rfl (e_assign hf rfl) fun a hf => ?_
        refine pl_nil ?_
        refine blk_n ?_
        refine then_n ?_
        refine region_pl ?_
        obtain ⟨z80, hz81, h49⟩ := bind_some h49
        refine q_ hf rfl rfl rfl (e_add hf rfl rfl hz81) fun a hf => ?_
        refine q_ hf rfl rfl rfl (e_move hf rfl) fun a hf => ?_
        refine pl_nil ?_
        obtain rfl := some_inj h49
        refine then_n ⟨_, rfl, ?_⟩
        exact ⟨xs73, z80, A75, c76, rfl, hf.keep ⟨rfl, rfl, rfl, rfl, trivial⟩, (hM.drop (.cons _ (.cons _ (.cons_cons _ (.cons_cons _ (.cons_cons _ .slnil)))))).pick [] rfl, (chk_R hz81)⟩
      · refine cond_f hf rfl hc51 ?_
        refine wp_exit ?_
        refine then_x ?_
        obtain rfl := some_inj h49
        obtain rfl := hd50 _ rfl
        try dsimp only at h20
        refine then_x ?_
        refine exit_hit ?_
        obtain rfl := some_inj h20
        refine then_n ?_
        exact ⟨xs37, A38, c39, rfl, hf.keep ⟨rfl, trivial⟩, (hM.drop (.cons _ (.cons_cons _ (.cons_cons _ .slnil)))).pick [] rfl⟩
  · rintro a w87 ⟨xs16, A17, c18, rfl, hf, hM⟩
    try dsimp only at h
    refine wp_seq ?_
    refine region_pl ?_
    refine q_ hf rfl rfl rfl (e_move hf rfl) fun a hf => ?_
    refine q_ hf rfl rfl rfl (e_assign hf rfl) fun a hf => ?_
    refine pl_nil ?_
    refine then_n ?_
    refine wp_ret ?_
    obtain rfl := some_inj h
    have hM := hM.outs (own' := [.row SlotRep A17 c18 75 xs16 true]) 1 rfl
    exact leave1 hf rfl rfl ⟨A17, c18, rfl, hM.fin⟩

set_option maxRecDepth 100000 in
set_option maxHeartbeats 4000000 in
theorem r_impl_Grid_slotAt (C : Cx) (g1 : Grid) (hp2 : R64 g1.Rows) (hp3 : R64 g1.Cols) (hp4 : g1.Cells.length ≤ maxLen) (slot5 : Int) (hp6 : R64 slot5) (r : (Slot × Bool)) (h : m_impl_Grid_slotAt g1 slot5 = some r) :
    Calls Try.prog 52 #[.agg #[vI (g1.Rows), vI (g1.Cols), vS (g1.Cells)], vI (slot5)] C.w0 fun e w => e = .returned (.tuple #[.agg #[vI (r.1.Row), vI (r.1.Col), .bool (r.1.Down), vI (r.1.Length)], .bool (r.2)]) ∧ Mem C w [] [] ∧ R64 r.1.Row ∧ R64 r.1.Col ∧ R64 r.1.Length := by
  have hM := Mem.begin C [] trivial
  refine enter Try.func52 rfl Try.ntmps52 rfl fun a hf => ?_
  unfold m_impl_Grid_slotAt at h
  refine wp_seq ?_
  refine region_pl ?_
  refine pl_l hf rfl rfl rfl (w_box hf hM (cs := [vI (g1.Rows), vI (g1.Cols), vS (g1.Cells)]) rfl rfl fun b7 w8 hx9 hM a hf => ?_)
  refine pl_l hf rfl rfl rfl (w_alloc hM (cs := [vI (0), vI (0), .bool (false), vI (0)]) Try.zeroValue75 rfl fun b11 w12 hx13 hM a hf => ?_)
  refine q_ hf rfl rfl rfl (e_assign hf rfl) fun a hf => ?_
  refine pl_nil ?_
  refine then_n ?_
  refine wp_seq ?_
  refine region_pl ?_
  refine q_ hf rfl rfl rfl (e_loadA hf (us := [vI (g1.Rows), vI (g1.Cols), vS (g1.Cells)]) rfl ⟨Try.isAgg27, Try.sizeOf27⟩ rfl (hM.boxSub (k := 1) (us := [vI (g1.Rows), vI (g1.Cols), vS (g1.Cells)]) (o := 0) rfl rfl)) fun a hf => ?_
  obtain ⟨y15, hz16, h⟩ := bind_some h
  refine pl_l hf rfl rfl rfl (w_call hf Try.call55 rfl (r_impl_Grid_slots ⟨_, Sh C _ _, none_, hM.sh_lt, none_not⟩ g1 hp2 hp3 hp4 _ hz16) ?_)
  rintro _ w19 ⟨A17, c18, rfl, hM2⟩
  obtain ⟨hM, hx20, hup21⟩ := hM.back hM2
  dsimp only [List.cons_append, List.nil_append] at hM hup21
  clear hM2
  refine ⟨_, rfl, fun a hf => ?_⟩
  refine q_ hf rfl rfl rfl (e_assign hf rfl) fun a hf => ?_
  refine pl_nil ?_
  refine then_n ?_
  refine wp_seq ?_
  refine wp_seq ?_
  refine region_pl ?_
  refine q_ hf rfl rfl rfl (e_move hf rfl) fun a hf => ?_
  refine q_ hf rfl rfl rfl (e_move hf rfl) fun a hf => ?_
  have hl22 := row_len (hM.ownAt (k := 0) rfl)
  refine q_ hf rfl rfl rfl (e_lenL hf (x := y15) rfl Try.underlying30) fun a hf => ?_
  obtain ⟨z23, hz24, h⟩ := bind_some h
  refine q_ hf rfl rfl rfl (e_sub hf rfl rfl hz24) fun a hf => ?_
  obtain ⟨y25, hz26, h⟩ := bind_some h
  refine pl_l hf rfl rfl rfl (w_call hf Try.call78 rfl (r_impl_within ⟨_, Sh C _ _, none_, hM.sh_lt, none_not⟩ slot5 hp6 0 (R64_lit rfl) z23 (chk_R hz24) _ hz26) ?_)
  rintro _ w27 ⟨rfl, hM2⟩
  obtain ⟨hM, hx28, hup29⟩ := hM.back hM2
  dsimp only [List.cons_append, List.nil_append] at hM hup29
  clear hM2
  refine ⟨_, rfl, fun a hf => ?_⟩
  refine q_ hf rfl rfl rfl (e_not hf rfl) fun a hf => ?_
  refine pl_nil ?_
  refine then_n ?_
  rcases cond_some h with ⟨hc30, h⟩ | ⟨hc30, h⟩
  · refine cond_t hf rfl hc30 ?_
    refine wp_seq ?_
    refine region_pl ?_
    refine q_ hf rfl rfl rfl (e_build hf Try.zeroValue75 Try.underlying75 (bp_75 _ Try.underlying75.symm) rfl (cs := #[vI (0), vI (0), .bool (false), vI (0)]) (by kernel_rfl)) fun a hf => ?_
    refine pl_0 hf rfl rfl (w_store hf hM (us := [vI (0), vI (0), .bool (false), vI (0)]) (cs' := [vI (0), vI (0), .bool (false), vI (0)]) rfl rfl (k := 1) rfl rfl Try.sizeOf75 rfl rfl rfl fun w31 hM => ?_)
    dsimp only [List.set] at hM
    refine q_ hf rfl rfl rfl (e_assign hf rfl) fun a hf => ?_
    refine pl_nil ?_
    refine then_n ?_
    refine wp_ret ?_
    refine then_r ?_
    obtain rfl := some_inj h
    have hres34 := leaveV2 (P := Try.prog) Try.results52 (res_agg hf rfl ⟨Try.isAgg75, Try.sizeOf75⟩ (us := [vI (0), vI (0), .bool (false), vI (0)]) rfl (hM.boxSub (k := 1) (o := 0) rfl rfl)) (res_tmp hf rfl)
    have hM := hM.outs (own' := []) 0 rfl
    exact bodyPost_ret hres34 hf.defers ⟨rfl, hM.fin, (R64_lit rfl), (R64_lit rfl), (R64_lit rfl)⟩
  · refine cond_f hf rfl hc30 ?_
    refine wp_skip ?_
    refine then_n ?_
    refine wp_seq ?_
    refine region_pl ?_
    refine q_ hf rfl rfl rfl (e_move hf rfl) fun a hf => ?_
    refine q_ hf rfl rfl rfl (e_move hf rfl) fun a hf => ?_
    obtain ⟨e35, hz36, h⟩ := bind_some h
    obtain ⟨b41, _, hA42, h37, h38, hr39, hcell40⟩ := hM.rowElemN (k := 0) rfl (n := 4) rfl hz36
    obtain ⟨rfl, hv43, hv44, hv45⟩ := SlotRep_open hr39
    refine q_ hf rfl rfl rfl (e_indexAddr (A := A17) (b := b41) (o := 0) (xs := y15) (i := slot5) hf hA42 rfl rfl Try.underlying30 Try.sizeOf75 h37 h38) fun a hf => ?_
    refine q_ hf rfl rfl rfl (e_loadA hf (us := [vI (e35.Row), vI (e35.Col), .bool (e35.Down), vI (e35.Length)]) rfl ⟨Try.isAgg75, Try.sizeOf75⟩ rfl hcell40) fun a hf => ?_
    refine pl_0 hf rfl rfl (w_store hf hM (us := [vI (e35.Row), vI (e35.Col), .bool (e35.Down), vI (e35.Length)]) (cs' := [vI (e35.Row), vI (e35.Col), .bool (e35.Down), vI (e35.Length)]) rfl rfl (k := 1) rfl rfl Try.sizeOf75 rfl rfl rfl fun w46 hM => ?_)
    dsimp only [List.set] at hM
    refine q_ hf rfl rfl rfl (e_assign hf rfl) fun a hf => ?_
    refine pl_nil ?_
    refine then_n ?_
    refine wp_ret ?_
    obtain rfl := some_inj h
    have hres49 := leaveV2 (P := Try.prog) Try.results52 (res_agg hf rfl ⟨Try.isAgg75, Try.sizeOf75⟩ (us := [vI (e35.Row), vI (e35.Col), .bool (e35.Down), vI (e35.Length)]) rfl (hM.boxSub (k := 1) (o := 0) rfl rfl)) (res_tmp hf rfl)
    have hM := hM.outs (own' := []) 0 rfl
    exact bodyPost_ret hres49 hf.defers ⟨rfl, hM.fin, hv43, hv44, hv45⟩

set_option maxRecDepth 100000 in
set_option maxHeartbeats 4000000 in
theorem r_impl_onlySmall (C : Cx) (s1 : Str) (hp2 : s1.length ≤ maxLen) (r : Bool) (h : m_impl_onlySmall s1 = some r) :
    Calls Try.prog 89 #[vS (s1)] C.w0 fun e w => e = .returned (.bool (r)) ∧ Mem C w [] [] := by
  have hM := Mem.begin C [] trivial
  refine enter Try.func89 rfl Try.ntmps89 rfl fun a hf => ?_
  unfold m_impl_onlySmall at h
  refine wp_seq ?_
  refine region_pl ?_
  refine q_ hf rfl rfl rfl (e_assign hf rfl) fun a hf => ?_
  refine pl_nil ?_
  refine then_n ?_
  obtain ⟨x3, h4, h⟩ := bind_some h
  refine seq_join (fun a w => (.inl ()) = x3 ∧ Has 16 a [] ∧ Mem C w [] []) ?_ ?_
  · refine wp_seq ?_
    refine region_pl ?_
    refine q_ hf rfl rfl rfl (e_move hf rfl) fun a hf => ?_
    refine pl_l hf rfl rfl rfl (w_bytes hf hM (x := s1) rfl Try.underlying9 Try.underlying63 Try.underlying5 hp2 fun A5 c6 w7 hx8 hM a hf => ?_)
    have hl9 := row_len (hM.ownAt (k := 0) rfl)
    refine q_ hf rfl rfl rfl (e_lenL hf (x := s1) rfl Try.underlying63) fun a hf => ?_
    refine q_ hf rfl rfl rfl (e_move hf rfl) fun a hf => ?_
    refine pl_nil ?_
    refine then_n ?_
    refine wp_block ?_
    obtain ⟨x13, h14, h4⟩ := bind_some h4
    refine wp_loopM h14 (fun s a w => ∃ (n10 : Int), n10 = s ∧ Has 16 a [(6, vL A5 (s1) c6), (7, vI ((s1.length : Int))), (8, vI (n10))] ∧ Mem C w [.row byteRep A5 c6 5 s1 false] [] ∧ R64 n10) ?_ ?_
    · exact ⟨0, rfl, hf.keep ⟨rfl, rfl, rfl, trivial⟩, hM.pick [] rfl, (R64_lit rfl)⟩
    · rintro s o15 a w12 ⟨n10, rfl, hf, hM, hv11⟩ h16 hd17
      replace h16 : m_impl_onlySmall_l1 s1 n10 = some o15 := h16
      unfold m_impl_onlySmall_l1 at h16
      refine wp_seq ?_
      refine region_pl ?_
      refine q_ hf rfl rfl rfl (e_lt hf (x := n10) (y := (s1.length : Int)) rfl rfl) fun a hf => ?_
      refine pl_nil ?_
      refine then_n ?_
      refine wp_seq ?_
      rcases cond_some h16 with ⟨hc18, h16⟩ | ⟨hc18, h16⟩
      · refine cond_t hf rfl hc18 ?_
        refine wp_skip ?_
        refine then_n ?_
        refine wp_seq ?_
        refine wp_block ?_
        refine wp_seq ?_
        refine region_pl ?_
        obtain ⟨e19, hz20, h16⟩ := bind_some h16
        obtain ⟨b25, _, hA26, h21, h22, hr23, hcell24⟩ := hM.rowElemN (k := 0) rfl (n := 1) rfl hz20
        obtain rfl : _ = _ := hr23
        refine q_ hf rfl rfl rfl (e_indexAddr (A := A5) (b := b25) (o := 0) (xs := s1) (i := n10) hf hA26 rfl rfl Try.underlying63 Try.sizeOf5 h21 h22) fun a hf => ?_
        refine q_ hf rfl rfl rfl (e_load1 hf rfl Try.isAgg5 (hcell24 0 _ rfl)) fun a hf => ?_
        refine q_ hf rfl rfl rfl (e_assign hf rfl) fun a hf => ?_
        refine pl_nil ?_
        refine then_n ?_
        refine wp_seq ?_
        refine region_pl ?_
        refine q_ hf rfl rfl rfl (e_move hf rfl) fun a hf => ?_
        obtain ⟨y27, hz28, h16⟩ := bind_some h16
        refine pl_l hf rfl rfl rfl (w_call hf Try.call107 rfl (r_impl_small ⟨_, Sh C _ _, none_, hM.sh_lt, none_not⟩ e19 _ hz28) ?_)
        rintro _ w29 ⟨rfl, hM2⟩
        obtain ⟨hM, hx30, hup31⟩ := hM.back hM2
        dsimp only [List.cons_append, List.nil_append] at hM hup31
        clear hM2
        refine ⟨_, rfl, fun a hf => ?_⟩
        refine q_ hf rfl rfl rfl (e_not hf rfl) fun a hf => ?_
        refine pl_nil ?_
        refine then_n ?_
        rcases cond_some h16 with ⟨hc32, h16⟩ | ⟨hc32, h16⟩
        · refine cond_t hf rfl hc32 ?_
          refine wp_seq ?_
          refine region_pl ?_
          refine q_ hf rfl rfl rfl (e_assign hf rfl) fun a hf => ?_
          refine pl_nil ?_
          refine then_n ?_
          refine wp_ret ?_
          refine blk_r ?_
          refine then_r ?_
          obtain rfl := some_inj h16
          obtain rfl := hd17 _ rfl
          try dsimp only at h4
          refine then_r ?_
          refine blk_r ?_
          obtain rfl := some_inj h4
          try dsimp only at h
          refine then_r ?_
          obtain rfl := some_inj h
          have hM := hM.outs (own' := []) 0 rfl
          exact leave1 hf rfl rfl ⟨rfl, hM.fin⟩
        · refine cond_f hf rfl hc32 ?_
          refine wp_skip ?_
          refine blk_n ?_
          refine then_n ?_
          refine region_pl ?_
          obtain ⟨z33, hz34, h16⟩ := bind_some h16
          refine q_ hf rfl rfl rfl (e_add hf rfl rfl hz34) fun a hf => ?_
          refine q_ hf rfl rfl rfl (e_move hf rfl) fun a hf => ?_
          refine pl_nil ?_
          obtain rfl := some_inj h16
          refine then_n ⟨_, rfl, ?_⟩
          exact ⟨z33, rfl, hf.keep ⟨rfl, rfl, rfl, trivial⟩, hM.pick [] rfl, (chk_R hz34)⟩
      · refine cond_f hf rfl hc18 ?_
        refine wp_exit ?_
        refine then_x ?_
        obtain rfl := some_inj h16
        obtain rfl := hd17 _ rfl
        try dsimp only at h4
        refine then_x ?_
        refine exit_hit ?_
        obtain rfl := some_inj h4
        refine then_n ?_
        exact ⟨rfl, hf.keep trivial, (hM.drop (.cons _ .slnil)).pick [] rfl⟩
  · rintro a w41 ⟨rfl, hf, hM⟩
    try dsimp only at h
    refine wp_seq ?_
    refine region_pl ?_
    refine q_ hf rfl rfl rfl (e_assign hf rfl) fun a hf => ?_
    refine pl_nil ?_
    refine then_n ?_
    refine wp_ret ?_
    obtain rfl := some_inj h
    exact leave1 hf rfl rfl ⟨rfl, hM.fin⟩

set_option maxRecDepth 100000 in
set_option maxHeartbeats 4000000 in
theorem r_impl_IsWord (C : Cx) (s1 : Str) (hp2 : s1.length ≤ maxLen) (r : Bool) (h : m_impl_IsWord s1 = some r) :
    Calls Try.prog 60 #[vS (s1)] C.w0 fun e w => e = .returned (.bool (r)) ∧ Mem C w [] [] := by
  have hM := Mem.begin C [] trivial
  refine enter Try.func60 rfl Try.ntmps60 rfl fun a hf => ?_
  unfold m_impl_IsWord at h
  refine wp_seq ?_
  refine region_pl ?_
  refine q_ hf rfl rfl rfl (e_assign hf rfl) fun a hf => ?_
  refine pl_nil ?_
  refine then_n ?_
  obtain ⟨x5, h6, h⟩ := bind_some h
  refine seq_join (fun a w => ∃ (t3 : Bool), t3 = x5 ∧ Has 15 a [(2, .bool (t3))] ∧ Mem C w [] []) ?_ ?_
  · refine region_pl ?_
    refine q_ hf rfl rfl rfl (e_move hf rfl) fun a hf => ?_
    refine q_ hf rfl rfl rfl (e_lenS hf (x := s1) rfl Try.underlying9) fun a hf => ?_
    refine q_ hf rfl rfl rfl (e_ge hf (x := (s1.length : Int)) (y := 1) rfl rfl) fun a hf => ?_
    refine q_ hf rfl rfl rfl (e_move hf rfl) fun a hf => ?_
    rcases cond_some h6 with ⟨hc7, h6⟩ | ⟨hc7, h6⟩
    · refine gq (wanted_t hf rfl rfl rfl rfl hc7) hf rfl rfl (e_move hf rfl) fun a hf => ?_
      refine gq (wanted_t hf rfl rfl rfl rfl hc7) hf rfl rfl (e_lenS hf (x := s1) rfl Try.underlying9) fun a hf => ?_
      refine gq (wanted_t hf rfl rfl rfl rfl hc7) hf rfl rfl (e_le hf (x := (s1.length : Int)) (y := 12) rfl rfl) fun a hf => ?_
      refine q_ hf rfl rfl rfl (e_pick_t hf rfl hc7 rfl) fun a hf => ?_
      refine q_ hf rfl rfl rfl (e_move hf rfl) fun a hf => ?_
      rcases cond_some h6 with ⟨hc8, h6⟩ | ⟨hc8, h6⟩
      · refine gq (wanted_t hf rfl rfl rfl rfl hc8) hf rfl rfl (e_move hf rfl) fun a hf => ?_
        obtain ⟨y9, hz10, h6⟩ := bind_some h6
        refine pl_gl (wanted_t hf rfl rfl rfl rfl hc8) hf rfl rfl (w_call hf Try.call89 rfl (r_impl_onlySmall ⟨_, Sh C _ _, none_, hM.sh_lt, none_not⟩ s1 hp2 _ hz10) ?_)
        rintro _ w11 ⟨rfl, hM2⟩
        obtain ⟨hM, hx12, hup13⟩ := hM.back hM2
        dsimp only [List.cons_append, List.nil_append] at hM hup13
        clear hM2
        refine ⟨_, rfl, fun a hf => ?_⟩
        refine q_ hf rfl rfl rfl (e_pick_t hf rfl hc8 rfl) fun a hf => ?_
        refine q_ hf rfl rfl rfl (e_assign hf rfl) fun a hf => ?_
        refine pl_nil ?_
        obtain rfl := some_inj h6
        refine then_n ?_
        exact ⟨y9, rfl, hf.keep ⟨rfl, trivial⟩, hM.pick [] rfl⟩
      · refine pl_gs (wanted_f hf rfl rfl rfl rfl hc8) hf rfl rfl fun a hf => ?_
        refine pl_gs (wanted_f hf rfl rfl rfl rfl hc8) hf rfl rfl fun a hf => ?_
        refine q_ hf rfl rfl rfl (e_pick_f hf rfl hc8 rfl) fun a hf => ?_
        refine q_ hf rfl rfl rfl (e_assign hf rfl) fun a hf => ?_
        refine pl_nil ?_
        obtain rfl := some_inj h6
        refine then_n ?_
        exact ⟨false, rfl, hf.keep ⟨rfl, trivial⟩, hM.pick [] rfl⟩
    · refine pl_gs (wanted_f hf rfl rfl rfl rfl hc7) hf rfl rfl fun a hf => ?_
      refine pl_gs (wanted_f hf rfl rfl rfl rfl hc7) hf rfl rfl fun a hf => ?_
      refine pl_gs (wanted_f hf rfl rfl rfl rfl hc7) hf rfl rfl fun a hf => ?_
      refine q_ hf rfl rfl rfl (e_pick_f hf rfl hc7 rfl) fun a hf => ?_
      refine q_ hf rfl rfl rfl (e_move hf rfl) fun a hf => ?_
      refine pl_gs (wanted_f hf rfl rfl rfl rfl rfl) hf rfl rfl fun a hf => ?_
      refine pl_gs (wanted_f hf rfl rfl rfl rfl rfl) hf rfl rfl fun a hf => ?_
      refine q_ hf rfl rfl rfl (e_pick_f hf rfl rfl rfl) fun a hf => ?_
      refine q_ hf rfl rfl rfl (e_assign hf rfl) fun a hf => ?_
      refine pl_nil ?_
      obtain rfl := some_inj h6
      refine then_n ?_
      exact ⟨false, rfl, hf.keep ⟨rfl, trivial⟩, hM.pick [] rfl⟩
  · rintro a w17 ⟨t3, rfl, hf, hM⟩
    try dsimp only at h
    refine wp_ret ?_
    obtain rfl := some_inj h
    exact leave1 hf rfl rfl ⟨rfl, hM.fin⟩

set_option maxRecDepth 100000 in
set_option maxHeartbeats 4000000 in
theorem r_impl_Grid_index (C : Cx) (g1 : Grid) (hp2 : R64 g1.Rows) (hp3 : R64 g1.Cols) (hp4 : g1.Cells.length ≤ maxLen) (s5 : Slot) (hp6 : R64 s5.Row) (hp7 : R64 s5.Col) (hp8 : R64 s5.Length) (n9 : Int) (hp10 : R64 n9) (r : Int) (h : m_impl_Grid_index g1 s5 n9 = some r) :
    Calls Try.prog 86 #[.agg #[vI (g1.Rows), vI (g1.Cols), vS (g1.Cells)], .agg #[vI (s5.Row), vI (s5.Col), .bool (s5.Down), vI (s5.Length)], vI (n9)] C.w0 fun e w => e = .returned (vI (r)) ∧ Mem C w [] [] ∧ R64 r := by
  have hM := Mem.begin C [] trivial
  refine enter Try.func86 rfl Try.ntmps86 rfl fun a hf => ?_
  unfold m_impl_Grid_index at h
  refine wp_seq ?_
  refine region_pl ?_
  refine pl_l hf rfl rfl rfl (w_box hf hM (cs := [vI (g1.Rows), vI (g1.Cols), vS (g1.Cells)]) rfl rfl fun b11 w12 hx13 hM a hf => ?_)
  refine pl_l hf rfl rfl rfl (w_box hf hM (cs := [vI (s5.Row), vI (s5.Col), .bool (s5.Down), vI (s5.Length)]) rfl rfl fun b15 w16 hx17 hM a hf => ?_)
  refine q_ hf rfl rfl rfl (e_assign hf rfl) fun a hf => ?_
  refine pl_nil ?_
  refine then_n ?_
  refine wp_seq ?_
  refine wp_seq ?_
  refine region_pl ?_
  refine q_ hf rfl rfl rfl (e_field hf rfl Try.underlying75 rfl Try.sizeOf4 (o' := 2) rfl) fun a hf => ?_
  refine q_ hf rfl rfl rfl (e_load1 hf rfl Try.isAgg4 (hM.boxCell (k := 0) rfl rfl)) fun a hf => ?_
  refine pl_nil ?_
  refine then_n ?_
  rcases cond_some h with ⟨hc19, h⟩ | ⟨hc19, h⟩
  · refine cond_t hf rfl hc19 ?_
    refine wp_seq ?_
    refine region_pl ?_
    refine q_ hf rfl rfl rfl (e_field hf rfl Try.underlying75 rfl Try.sizeOf2 (o' := 0) rfl) fun a hf => ?_
    refine q_ hf rfl rfl rfl (e_load1 hf rfl Try.isAgg2 (hM.boxCell (k := 0) rfl rfl)) fun a hf => ?_
    refine q_ hf rfl rfl rfl (e_move hf rfl) fun a hf => ?_
    obtain ⟨z20, hz21, h⟩ := bind_some h
    refine q_ hf rfl rfl rfl (e_add hf rfl rfl hz21) fun a hf => ?_
    refine q_ hf rfl rfl rfl (e_field hf rfl Try.underlying27 rfl Try.sizeOf2 (o' := 1) rfl) fun a hf => ?_
    refine q_ hf rfl rfl rfl (e_load1 hf rfl Try.isAgg2 (hM.boxCell (k := 1) rfl rfl)) fun a hf => ?_
    obtain ⟨z22, hz23, h⟩ := bind_some h
    refine q_ hf rfl rfl rfl (e_mul hf rfl rfl hz23) fun a hf => ?_
    refine q_ hf rfl rfl rfl (e_field hf rfl Try.underlying75 rfl Try.sizeOf2 (o' := 1) rfl) fun a hf => ?_
    refine q_ hf rfl rfl rfl (e_load1 hf rfl Try.isAgg2 (hM.boxCell (k := 0) rfl rfl)) fun a hf => ?_
    obtain ⟨z24, hz25, h⟩ := bind_some h
    refine q_ hf rfl rfl rfl (e_add hf rfl rfl hz25) fun a hf => ?_
    refine q_ hf rfl rfl rfl (e_assign hf rfl) fun a hf => ?_
    refine pl_nil ?_
    refine then_n ?_
    refine wp_ret ?_
    refine then_r ?_
    obtain rfl := some_inj h
    have hM := hM.outs (own' := []) 0 rfl
    exact leave1 hf rfl rfl ⟨rfl, hM.fin, (chk_R hz25)⟩
  · refine cond_f hf rfl hc19 ?_
    refine wp_skip ?_
    refine then_n ?_
    refine wp_seq ?_
    refine region_pl ?_
    refine q_ hf rfl rfl rfl (e_field hf rfl Try.underlying75 rfl Try.sizeOf2 (o' := 0) rfl) fun a hf => ?_
    refine q_ hf rfl rfl rfl (e_load1 hf rfl Try.isAgg2 (hM.boxCell (k := 0) rfl rfl)) fun a hf => ?_
    refine q_ hf rfl rfl rfl (e_field hf rfl Try.underlying27 rfl Try.sizeOf2 (o' := 1) rfl) fun a hf => ?_
    refine q_ hf rfl rfl rfl (e_load1 hf rfl Try.isAgg2 (hM.boxCell (k := 1) rfl rfl)) fun a hf => ?_
    obtain ⟨z26, hz27, h⟩ := bind_some h
    refine q_ hf rfl rfl rfl (e_mul hf rfl rfl hz27) fun a hf => ?_
    refine q_ hf rfl rfl rfl (e_field hf rfl Try.underlying75 rfl Try.sizeOf2 (o' := 1) rfl) fun a hf => ?_
    refine q_ hf rfl rfl rfl (e_load1 hf rfl Try.isAgg2 (hM.boxCell (k := 0) rfl rfl)) fun a hf => ?_
    obtain ⟨z28, hz29, h⟩ := bind_some h
    refine q_ hf rfl rfl rfl (e_add hf rfl rfl hz29) fun a hf => ?_
    refine q_ hf rfl rfl rfl (e_move hf rfl) fun a hf => ?_
    obtain ⟨z30, hz31, h⟩ := bind_some h
    refine q_ hf rfl rfl rfl (e_add hf rfl rfl hz31) fun a hf => ?_
    refine q_ hf rfl rfl rfl (e_assign hf rfl) fun a hf => ?_
    refine pl_nil ?_
    refine then_n ?_
    refine wp_ret ?_
    obtain rfl := some_inj h
    have hM := hM.outs (own' := []) 0 rfl
    exact leave1 hf rfl rfl ⟨rfl, hM.fin, (chk_R hz31)⟩

set_option maxRecDepth 100000 in
set_option maxHeartbeats 4000000 in
theorem r_impl_Grid_pattern (C : Cx) (g1 : Grid) (hp2 : R64 g1.Rows) (hp3 : R64 g1.Cols) (hp4 : g1.Cells.length ≤ maxLen) (s5 : Slot) (hp6 : R64 s5.Row) (hp7 : R64 s5.Col) (hp8 : R64 s5.Length) (r : Str) (h : m_impl_Grid_pattern g1 s5 = some r) :
    Calls Try.prog 53 #[.agg #[vI (g1.Rows), vI (g1.Cols), vS (g1.Cells)], .agg #[vI (s5.Row), vI (s5.Col), .bool (s5.Down), vI (s5.Length)]] C.w0 fun e w => e = .returned (vS (r)) ∧ Mem C w [] [] ∧ r.length ≤ maxLen := by
  have hM := Mem.begin C [] trivial
  refine enter Try.func53 rfl Try.ntmps53 rfl fun a hf => ?_
  unfold m_impl_Grid_pattern at h
  refine wp_seq ?_
  refine region_pl ?_
  refine pl_l hf rfl rfl rfl (w_box hf hM (cs := [vI (g1.Rows), vI (g1.Cols), vS (g1.Cells)]) rfl rfl fun b9 w10 hx11 hM a hf => ?_)
  refine pl_l hf rfl rfl rfl (w_box hf hM (cs := [vI (s5.Row), vI (s5.Col), .bool (s5.Down), vI (s5.Length)]) rfl rfl fun b13 w14 hx15 hM a hf => ?_)
  refine q_ hf rfl rfl rfl (e_assign hf rfl) fun a hf => ?_
  refine pl_nil ?_
  refine then_n ?_
  refine wp_seq ?_
  refine region_pl ?_
  refine pl_l hf rfl rfl rfl (w_slice0 (K := byteRep) hM Try.underlying63 ei_5 fun b17 w18 hx19 hM a hf => ?_)
  refine q_ hf rfl rfl rfl (e_assign hf rfl) fun a hf => ?_
  refine pl_nil ?_
  refine then_n ?_
  obtain ⟨x23, h24, h⟩ := bind_some h
  refine seq_join (fun a w => ∃ (xs20 : Str) (A21 : Option Addr) (c22 : Nat), xs20 = x23 ∧ Has 26 a [(5, vL A21 (xs20) c22)] ∧ Mem C w [.row byteRep A21 c22 5 xs20 true, .box b13 [vI (s5.Row), vI (s5.Col), .bool (s5.Down), vI (s5.Length)] 75, .box b9 [vI (g1.Rows), vI (g1.Cols), vS (g1.Cells)] 27] []) ?_ ?_
  · refine wp_seq ?_
    refine region_pl ?_
    refine q_ hf rfl rfl rfl (e_assign hf rfl) fun a hf => ?_
    refine pl_nil ?_
    refine then_n ?_
    refine wp_block ?_
    obtain ⟨x34, h35, h24⟩ := bind_some h24
    refine wp_loopM h35 (fun s a w => ∃ (xs25 : Str) (n28 : Int) (A26 : Option Addr) (c27 : Nat), (xs25, n28) = s ∧ Has 26 a [(2, vP b9 (0)), (3, vP b13 (0)), (5, vL A26 (xs25) c27), (6, vI (n28))] ∧ Mem C w [.row byteRep A26 c27 5 xs25 true, .box b13 [vI (s5.Row), vI (s5.Col), .bool (s5.Down), vI (s5.Length)] 75, .box b9 [vI (g1.Rows), vI (g1.Cols), vS (g1.Cells)] 27] [] ∧ R64 n28) ?_ ?_
    · exact ⟨([] : Str), 0, (some ⟨b17, 0, none⟩), 0, rfl, hf.keep ⟨rfl, rfl, rfl, rfl, trivial⟩, hM.pick [] rfl, (R64_lit rfl)⟩
    · rintro s o36 a w30 ⟨xs25, n28, A26, c27, rfl, hf, hM, hv29⟩ h37 hd38
      replace h37 : m_impl_Grid_pattern_l1 s5 g1 xs25 n28 = some o36 := h37
      unfold m_impl_Grid_pattern_l1 at h37
      refine wp_seq ?_
      refine wp_seq ?_
      refine region_pl ?_
      refine q_ hf rfl rfl rfl (e_move hf rfl) fun a hf => ?_
      refine q_ hf rfl rfl rfl (e_field hf rfl Try.underlying75 rfl Try.sizeOf2 (o' := 3) rfl) fun a hf => ?_
      refine q_ hf rfl rfl rfl (e_load1 hf rfl Try.isAgg2 (hM.boxCell (k := 1) rfl rfl)) fun a hf => ?_
      refine q_ hf rfl rfl rfl (e_lt hf (x := n28) (y := s5.Length) rfl rfl) fun a hf => ?_
      refine pl_nil ?_
      refine then_n ?_
      rcases cond_some h37 with ⟨hc39, h37⟩ | ⟨hc39, h37⟩
      · refine cond_t hf rfl hc39 ?_
        refine wp_skip ?_
        refine then_n ?_
        refine wp_seq ?_
        refine wp_block ?_
        obtain ⟨w40, hw⟩ : ∃ x, x = w30.drew := ⟨_, rfl⟩
        refine region_pi (.q 0 (.q 1 (.q 2 (.q 3 (.q 4 (.q 5 (.l 6 (.q 7 (.l 8 (.l 9 (.q 10 (.nil)))))))))))) (Ext w40) rfl (by kernel_rfl) ?_
        have hM := hM.drew
        rw [← hw] at hM ⊢
        clear hw
        refine pi_q hf rfl rfl rfl rfl (Ext.refl _) (e_move hf rfl) fun a hf => ?_
        refine pi_q hf rfl rfl rfl rfl (Ext.refl _) (e_field hf rfl Try.underlying27 rfl Try.sizeOf9 (o' := 2) rfl) fun a hf => ?_
        refine pi_q hf rfl rfl rfl rfl (Ext.refl _) (e_load1 hf rfl Try.isAgg9 (hM.boxCell (k := 2) rfl rfl)) fun a hf => ?_
        refine pi_q hf rfl rfl rfl rfl (Ext.refl _) (e_loadA hf (us := [vI (g1.Rows), vI (g1.Cols), vS (g1.Cells)]) rfl ⟨Try.isAgg27, Try.sizeOf27⟩ rfl (hM.boxSub (k := 2) (us := [vI (g1.Rows), vI (g1.Cols), vS (g1.Cells)]) (o := 0) rfl rfl)) fun a hf => ?_
        refine pi_q hf rfl rfl rfl rfl (Ext.refl _) (e_loadA hf (us := [vI (s5.Row), vI (s5.Col), .bool (s5.Down), vI (s5.Length)]) rfl ⟨Try.isAgg75, Try.sizeOf75⟩ rfl (hM.boxSub (k := 1) (us := [vI (s5.Row), vI (s5.Col), .bool (s5.Down), vI (s5.Length)]) (o := 0) rfl rfl)) fun a hf => ?_
        refine pi_q hf rfl rfl rfl rfl (Ext.refl _) (e_move hf rfl) fun a hf => ?_
        refine pi_one ?_
        obtain ⟨y41, hz42, h37⟩ := bind_some h37
        refine pi_l hf rfl rfl rfl rfl (w_call hf Try.call86 rfl (r_impl_Grid_index ⟨_, Sh C _ _, none_, hM.sh_lt, none_not⟩ g1 hp2 hp3 hp4 s5 hp6 hp7 hp8 n28 hv29 _ hz42) ?_)
        rintro _ w44 ⟨rfl, hM2, hv43⟩
        obtain ⟨hM, hx45, hup46⟩ := hM.back hM2
        dsimp only [List.cons_append, List.nil_append] at hM hup46
        clear hM2
        refine ⟨_, rfl, Ext w44, fun _ h => Ext.trans hx45 h, Ext.refl _, fun a hf => ?_⟩
        obtain ⟨c47, hz48, h37⟩ := bind_some h37
        refine pi_q hf rfl rfl rfl rfl (Ext.refl _) (e_indexS hf (x := g1.Cells) rfl rfl Try.underlying9 hz48) fun a hf => ?_
        refine pi_one ?_
        refine pi_l hf rfl rfl rfl rfl (w_slice hf hM (K := byteRep) (xs := ([c47] : Str)) (os := [.tmp 21]) Try.underlying63 ei_5 rfl rfl rfl rfl rfl ⟨⟨[vB (c47)], rfl, rfl⟩, trivial⟩ rfl fun b49 w50 hx51 hM => ⟨Ext w50, fun _ h => Ext.trans hx51 h, Ext.refl _, fun a hf => ?_⟩)
        refine pi_one ?_
        obtain ⟨xs52, hz53, h37⟩ := bind_some h37
        refine pi_z hf rfl rfl rfl rfl (by kernel_rfl) (w_append hf hM Try.underlying63 ei_5 rfl rfl rfl (k := 1) rfl (hM.srcRow (k := 0) rfl) hz53 fun A54 c55 w56 hM a hf => ?_)
        dsimp only [List.set] at hM
        refine pi_q hf rfl rfl rfl rfl (Ext.refl _) (e_assign hf rfl) fun a hf => ?_
        refine pi_nil ?_
        refine blk_n ?_
        refine then_n ?_
        refine region_pl ?_
        refine q_ hf rfl rfl rfl (e_move hf rfl) fun a hf => ?_
        obtain ⟨z59, hz60, h37⟩ := bind_some h37
        refine q_ hf rfl rfl rfl (e_add hf rfl rfl hz60) fun a hf => ?_
        refine q_ hf rfl rfl rfl (e_assign hf rfl) fun a hf => ?_
        refine pl_nil ?_
        obtain rfl := some_inj h37
        refine then_n ⟨_, rfl, ?_⟩
        exact ⟨xs52, z59, A54, c55, rfl, hf.keep ⟨rfl, rfl, rfl, rfl, trivial⟩, (hM.drop (.cons _ (.cons_cons _ (.cons_cons _ (.cons_cons _ .slnil))))).pick [] rfl, (chk_R hz60)⟩
      · refine cond_f hf rfl hc39 ?_
        refine wp_exit ?_
        refine then_x ?_
        obtain rfl := some_inj h37
        obtain rfl := hd38 _ rfl
        try dsimp only at h24
        refine then_x ?_
        refine exit_hit ?_
        obtain rfl := some_inj h24
        refine then_n ?_
        exact ⟨xs25, A26, c27, rfl, hf.keep ⟨rfl, trivial⟩, hM.pick [] rfl⟩
  · rintro a w66 ⟨xs20, A21, c22, rfl, hf, hM⟩
    try dsimp only at h
    refine wp_seq ?_
    refine region_pl ?_
    refine q_ hf rfl rfl rfl (e_move hf rfl) fun a hf => ?_
    have hl67 := row_len (hM.ownAt (k := 0) rfl)
    refine q_ hf rfl rfl rfl (e_bytesStr hf (xs := xs20) rfl Try.underlying63 Try.underlying5 Try.underlying9 (hM.lendRow (k := 0) rfl)) fun a hf => ?_
    refine q_ hf rfl rfl rfl (e_assign hf rfl) fun a hf => ?_
    refine pl_nil ?_
    refine then_n ?_
    refine wp_ret ?_
    obtain rfl := some_inj h
    have hM := hM.outs (own' := []) 0 rfl
    exact leave1 hf rfl rfl ⟨rfl, hM.fin, hl67⟩

set_option maxRecDepth 100000 in
set_option maxHeartbeats 4000000 in
theorem r_impl_fitsPattern (C : Cx) (pattern1 : Str) (hp2 : pattern1.length ≤ maxLen) (word3 : Str) (hp4 : word3.length ≤ maxLen) (r : Bool) (h : m_impl_fitsPattern pattern1 word3 = some r) :
    Calls Try.prog 61 #[vS (pattern1), vS (word3)] C.w0 fun e w => e = .returned (.bool (r)) ∧ Mem C w [] [] := by
  have hM := Mem.begin C [] trivial
  refine enter Try.func61 rfl Try.ntmps61 rfl fun a hf => ?_
  unfold m_impl_fitsPattern at h
  refine wp_seq ?_
  refine region_pl ?_
  refine q_ hf rfl rfl rfl (e_assign hf rfl) fun a hf => ?_
  refine pl_nil ?_
  refine then_n ?_
  refine wp_seq ?_
  refine wp_seq ?_
  refine region_pl ?_
  refine q_ hf rfl rfl rfl (e_move hf rfl) fun a hf => ?_
  refine q_ hf rfl rfl rfl (e_lenS hf (x := pattern1) rfl Try.underlying9) fun a hf => ?_
  refine q_ hf rfl rfl rfl (e_move hf rfl) fun a hf => ?_
  refine q_ hf rfl rfl rfl (e_lenS hf (x := word3) rfl Try.underlying9) fun a hf => ?_
  refine q_ hf rfl rfl rfl (e_ne hf (x := (pattern1.length : Int)) (y := (word3.length : Int)) rfl rfl) fun a hf => ?_
  refine pl_nil ?_
  refine then_n ?_
  rcases cond_some h with ⟨hc5, h⟩ | ⟨hc5, h⟩
  · refine cond_t hf rfl hc5 ?_
    refine wp_seq ?_
    refine region_pl ?_
    refine q_ hf rfl rfl rfl (e_assign hf rfl) fun a hf => ?_
    refine pl_nil ?_
    refine then_n ?_
    refine wp_ret ?_
    refine then_r ?_
    obtain rfl := some_inj h
    exact leave1 hf rfl rfl ⟨rfl, hM.fin⟩
  · refine cond_f hf rfl hc5 ?_
    refine wp_skip ?_
    refine then_n ?_
    obtain ⟨x6, h7, h⟩ := bind_some h
    refine seq_join (fun a w => (.inl ()) = x6 ∧ Has 29 a [] ∧ Mem C w [] []) ?_ ?_
    · refine wp_seq ?_
      refine region_pl ?_
      refine q_ hf rfl rfl rfl (e_move hf rfl) fun a hf => ?_
      refine pl_l hf rfl rfl rfl (w_range hf hM (x := word3) rfl Try.underlying9 fun b8 w9 hx10 hM a hf => ?_)
      refine pl_nil ?_
      refine then_n ?_
      refine wp_block ?_
      obtain ⟨x14, h15, h7⟩ := bind_some h7
      refine wp_loopM h15 (fun s a w => ∃ (pos11 : Nat), pos11 = s ∧ Has 29 a [(0, vS (pattern1)), (1, vS (word3)), (12, vP b8 0)] ∧ Mem C w [.obj b8 (.stringIter ⟨List.toArray word3⟩ pos11)] []) ?_ ?_
      · exact ⟨0, rfl, hf.keep ⟨rfl, rfl, rfl, trivial⟩, hM.pick [] rfl⟩
      · rintro s o16 a w12 ⟨pos11, rfl, hf, hM⟩ h17 hd18
        replace h17 : m_impl_fitsPattern_l1 word3 pattern1 pos11 = some o16 := h17
        unfold m_impl_fitsPattern_l1 at h17
        refine wp_seq ?_
        refine region_pl ?_
        rcases cond_some h17 with ⟨hc19, h17⟩ | ⟨hc19, h17⟩
        · refine pl_l hf rfl rfl rfl (w_next hf hM rfl (k := 0) rfl hc19 fun w20 hM a hf => ?_)
          dsimp only [List.set] at hM
          refine q_ hf rfl rfl rfl (e_extract hf rfl rfl) fun a hf => ?_
          refine pl_nil ?_
          refine then_n ?_
          refine wp_seq ?_
          refine cond_t hf rfl rfl ?_
          refine wp_skip ?_
          refine then_n ?_
          refine wp_block ?_
          refine wp_seq ?_
          refine region_pl ?_
          refine q_ hf rfl rfl rfl (e_extract hf rfl rfl) fun a hf => ?_
          refine q_ hf rfl rfl rfl (e_assign hf rfl) fun a hf => ?_
          refine pl_nil ?_
          refine then_n ?_
          obtain ⟨x24, h25, h17⟩ := bind_some h17
          refine seq_join (fun a w => ∃ (t22 : Bool), t22 = x24 ∧ Has 29 a [(0, vS (pattern1)), (1, vS (word3)), (12, vP b8 0), (28, .bool (t22))] ∧ Mem C w [.obj b8 (.stringIter ⟨List.toArray word3⟩ (pos11 + runeW word3 pos11))] []) ?_ ?_
          · obtain ⟨w26, hw⟩ : ∃ x, x = w20.drew := ⟨_, rfl⟩
            refine region_pi (.q 0 (.q 1 (.q 2 (.q 3 (.q 4 (.q 5 (.q 6 (.q 7 (.q 8 (.q 9 (.q 10 (.q 11 (.q 12 (.nil)))))))))))))) (Ext w26) rfl (by kernel_rfl) ?_
            have hM := hM.drew
            rw [← hw] at hM ⊢
            clear hw
            refine pi_q hf rfl rfl rfl rfl (Ext.refl _) (e_move hf rfl) fun a hf => ?_
            refine pi_q hf rfl rfl rfl rfl (Ext.refl _) (e_move hf rfl) fun a hf => ?_
            obtain ⟨c27, hz28, h25⟩ := bind_some h25
            refine pi_q hf rfl rfl rfl rfl (Ext.refl _) (e_indexS hf (x := pattern1) rfl rfl Try.underlying9 hz28) fun a hf => ?_
            refine pi_q hf rfl rfl rfl rfl (Ext.refl _) (e_neB hf (x := c27) (y := 46) rfl rfl) fun a hf => ?_
            refine pi_q hf rfl rfl rfl rfl (Ext.refl _) (e_move hf rfl) fun a hf => ?_
            rcases cond_some h25 with ⟨hc29, h25⟩ | ⟨hc29, h25⟩
            · refine pi_gq hf rfl (wanted_t hf rfl rfl rfl rfl hc29) rfl rfl (Ext.refl _) (e_move hf rfl) fun a hf => ?_
              refine pi_gq hf rfl (wanted_t hf rfl rfl rfl rfl hc29) rfl rfl (Ext.refl _) (e_move hf rfl) fun a hf => ?_
              obtain ⟨c30, hz31, h25⟩ := bind_some h25
              refine pi_gq hf rfl (wanted_t hf rfl rfl rfl rfl hc29) rfl rfl (Ext.refl _) (e_indexS hf (x := pattern1) rfl rfl Try.underlying9 hz31) fun a hf => ?_
              refine pi_gq hf rfl (wanted_t hf rfl rfl rfl rfl hc29) rfl rfl (Ext.refl _) (e_move hf rfl) fun a hf => ?_
              refine pi_gq hf rfl (wanted_t hf rfl rfl rfl rfl hc29) rfl rfl (Ext.refl _) (e_move hf rfl) fun a hf => ?_
              obtain ⟨c32, hz33, h25⟩ := bind_some h25
              refine pi_gq hf rfl (wanted_t hf rfl rfl rfl rfl hc29) rfl rfl (Ext.refl _) (e_indexS hf (x := word3) rfl rfl Try.underlying9 hz33) fun a hf => ?_
              refine pi_gq hf rfl (wanted_t hf rfl rfl rfl rfl hc29) rfl rfl (Ext.refl _) (e_neB hf (x := c30) (y := c32) rfl rfl) fun a hf => ?_
              refine pi_q hf rfl rfl rfl rfl (Ext.refl _) (e_pick_t hf rfl hc29 rfl) fun a hf => ?_
              refine pi_nil ?_
              obtain rfl := some_inj h25
              refine then_n ?_
              exact ⟨(c30 != c32), rfl, hf.keep ⟨rfl, rfl, rfl, rfl, trivial⟩, hM.pick [] rfl⟩
            · refine pi_gs hf rfl (wanted_f hf rfl rfl rfl rfl hc29) rfl rfl (Ext.refl _) fun a hf => ?_
              refine pi_gs hf rfl (wanted_f hf rfl rfl rfl rfl hc29) rfl rfl (Ext.refl _) fun a hf => ?_
              refine pi_gs hf rfl (wanted_f hf rfl rfl rfl rfl hc29) rfl rfl (Ext.refl _) fun a hf => ?_
              refine pi_gs hf rfl (wanted_f hf rfl rfl rfl rfl hc29) rfl rfl (Ext.refl _) fun a hf => ?_
              refine pi_gs hf rfl (wanted_f hf rfl rfl rfl rfl hc29) rfl rfl (Ext.refl _) fun a hf => ?_
              refine pi_gs hf rfl (wanted_f hf rfl rfl rfl rfl hc29) rfl rfl (Ext.refl _) fun a hf => ?_
              refine pi_gs hf rfl (wanted_f hf rfl rfl rfl rfl hc29) rfl rfl (Ext.refl _) fun a hf => ?_
              refine pi_q hf rfl rfl rfl rfl (Ext.refl _) (e_pick_f hf rfl hc29 rfl) fun a hf => ?_
              refine pi_nil ?_
              obtain rfl := some_inj h25
              refine then_n ?_
              exact ⟨false, rfl, hf.keep ⟨rfl, rfl, rfl, rfl, trivial⟩, hM.pick [] rfl⟩
          · rintro a w36 ⟨t22, rfl, hf, hM⟩
            try dsimp only at h17
            rcases cond_some h17 with ⟨hc37, h17⟩ | ⟨hc37, h17⟩
            · refine cond_t hf rfl hc37 ?_
              refine wp_seq ?_
              refine region_pl ?_
              refine q_ hf rfl rfl rfl (e_assign hf rfl) fun a hf => ?_
              refine pl_nil ?_
              refine then_n ?_
              refine wp_ret ?_
              refine blk_r ?_
              obtain rfl := some_inj h17
              obtain rfl := hd18 _ rfl
              try dsimp only at h7
              refine then_r ?_
              refine blk_r ?_
              obtain rfl := some_inj h7
              try dsimp only at h
              refine then_r ?_
              obtain rfl := some_inj h
              have hM := hM.outs (own' := []) 0 rfl
              exact leave1 hf rfl rfl ⟨rfl, hM.fin⟩
            · refine cond_f hf rfl hc37 ?_
              refine wp_skip ?_
              refine blk_n ?_
              obtain rfl := some_inj h17
              refine then_n ⟨_, rfl, ?_⟩
              exact ⟨(pos11 + runeW word3 pos11), rfl, hf.keep ⟨rfl, rfl, rfl, trivial⟩, hM.pick [] rfl⟩
        · refine pl_l hf rfl rfl rfl (w_nextEnd hf hM rfl (k := 0) rfl hc19 fun w39 hx40 hM a hf => ?_)
          refine q_ hf rfl rfl rfl (e_extract hf rfl rfl) fun a hf => ?_
          refine pl_nil ?_
          refine then_n ?_
          refine wp_seq ?_
          refine cond_f hf rfl rfl ?_
          refine wp_exit ?_
          refine then_x ?_
          obtain rfl := some_inj h17
          obtain rfl := hd18 _ rfl
          try dsimp only at h7
          refine then_x ?_
          refine exit_hit ?_
          obtain rfl := some_inj h7
          refine then_n ?_
          exact ⟨rfl, hf.keep trivial, (hM.drop (.cons _ .slnil)).pick [] rfl⟩
    · rintro a w46 ⟨rfl, hf, hM⟩
      try dsimp only at h
      refine wp_seq ?_
      refine region_pl ?_
      refine q_ hf rfl rfl rfl (e_assign hf rfl) fun a hf => ?_
      refine pl_nil ?_
      refine then_n ?_
      refine wp_ret ?_
      obtain rfl := some_inj h
      exact leave1 hf rfl rfl ⟨rfl, hM.fin⟩

set_option maxRecDepth 100000 in
set_option maxHeartbeats 4000000 in
theorem r_impl_Grid_put (C : Cx) (g1 : Grid) (hp2 : R64 g1.Rows) (hp3 : R64 g1.Cols) (hp4 : g1.Cells.length ≤ maxLen) (s5 : Slot) (hp6 : R64 s5.Row) (hp7 : R64 s5.Col) (hp8 : R64 s5.Length) (word9 : Str) (hp10 : word9.length ≤ maxLen) (r : Grid) (h : m_impl_Grid_put g1 s5 word9 = some r) :
    Calls Try.prog 62 #[.agg #[vI (g1.Rows), vI (g1.Cols), vS (g1.Cells)], .agg #[vI (s5.Row), vI (s5.Col), .bool (s5.Down), vI (s5.Length)], vS (word9)] C.w0 fun e w => e = .returned (.agg #[vI (r.Rows), vI (r.Cols), vS (r.Cells)]) ∧ Mem C w [] [] ∧ R64 r.Rows ∧ R64 r.Cols ∧ r.Cells.length ≤ maxLen := by
  have hM := Mem.begin C [] trivial
  refine enter Try.func62 rfl Try.ntmps62 rfl fun a hf => ?_
  unfold m_impl_Grid_put at h
  refine wp_seq ?_
  refine region_pl ?_
  refine pl_l hf rfl rfl rfl (w_box hf hM (cs := [vI (g1.Rows), vI (g1.Cols), vS (g1.Cells)]) rfl rfl fun b11 w12 hx13 hM a hf => ?_)
  refine pl_l hf rfl rfl rfl (w_box hf hM (cs := [vI (s5.Row), vI (s5.Col), .bool (s5.Down), vI (s5.Length)]) rfl rfl fun b15 w16 hx17 hM a hf => ?_)
  refine pl_l hf rfl rfl rfl (w_alloc hM (cs := [vI (0), vI (0), vS (([] : Str))]) Try.zeroValue27 rfl fun b19 w20 hx21 hM a hf => ?_)
  refine pl_nil ?_
  refine then_n ?_
  refine wp_seq ?_
  refine region_pl ?_
  refine q_ hf rfl rfl rfl (e_field hf rfl Try.underlying27 rfl Try.sizeOf9 (o' := 2) rfl) fun a hf => ?_
  refine q_ hf rfl rfl rfl (e_load1 hf rfl Try.isAgg9 (hM.boxCell (k := 2) rfl rfl)) fun a hf => ?_
  refine pl_l hf rfl rfl rfl (w_bytes hf hM (x := g1.Cells) rfl Try.underlying9 Try.underlying63 Try.underlying5 hp4 fun A23 c24 w25 hx26 hM a hf => ?_)
  refine q_ hf rfl rfl rfl (e_assign hf rfl) fun a hf => ?_
  refine pl_nil ?_
  refine then_n ?_
  obtain ⟨x28, h29, h⟩ := bind_some h
  refine seq_join (fun a w => ∃ (xs27 : Str), xs27 = x28 ∧ Has 30 a [(3, vP b11 (0)), (6, vP b19 (0)), (7, vL A23 (xs27) c24)] ∧ Mem C w [.row byteRep A23 c24 5 xs27 false, .box b19 [vI (0), vI (0), vS (([] : Str))] 27, .box b15 [vI (s5.Row), vI (s5.Col), .bool (s5.Down), vI (s5.Length)] 75, .box b11 [vI (g1.Rows), vI (g1.Cols), vS (g1.Cells)] 27] []) ?_ ?_
  · refine wp_seq ?_
    refine region_pl ?_
    refine q_ hf rfl rfl rfl (e_move hf rfl) fun a hf => ?_
    refine pl_l hf rfl rfl rfl (w_range hf hM (x := word9) rfl Try.underlying9 fun b30 w31 hx32 hM a hf => ?_)
    refine pl_nil ?_
    refine then_n ?_
    refine wp_block ?_
    obtain ⟨x38, h39, h29⟩ := bind_some h29
    refine wp_loopM h39 (fun s a w => ∃ (pos33 : Nat) (xs34 : Str), (pos33, xs34) = s ∧ Has 30 a [(2, vS (word9)), (3, vP b11 (0)), (4, vP b15 (0)), (6, vP b19 (0)), (7, vL A23 (xs34) c24), (13, vP b30 0)] ∧ Mem C w [.obj b30 (.stringIter ⟨List.toArray word9⟩ pos33), .row byteRep A23 c24 5 xs34 false, .box b19 [vI (0), vI (0), vS (([] : Str))] 27, .box b15 [vI (s5.Row), vI (s5.Col), .bool (s5.Down), vI (s5.Length)] 75, .box b11 [vI (g1.Rows), vI (g1.Cols), vS (g1.Cells)] 27] []) ?_ ?_
    · exact ⟨0, g1.Cells, rfl, hf.keep ⟨rfl, rfl, rfl, rfl, rfl, rfl, trivial⟩, hM.pick [] rfl⟩
    · rintro s o40 a w35 ⟨pos33, xs34, rfl, hf, hM⟩ h41 hd42
      replace h41 : m_impl_Grid_put_l1 word9 g1 s5 pos33 xs34 = some o40 := h41
      unfold m_impl_Grid_put_l1 at h41
      refine wp_seq ?_
      refine region_pl ?_
      rcases cond_some h41 with ⟨hc43, h41⟩ | ⟨hc43, h41⟩
      · refine pl_l hf rfl rfl rfl (w_next hf hM rfl (k := 0) rfl hc43 fun w44 hM a hf => ?_)
        dsimp only [List.set] at hM
        refine q_ hf rfl rfl rfl (e_extract hf rfl rfl) fun a hf => ?_
        refine pl_nil ?_
        refine then_n ?_
        refine wp_seq ?_
        refine cond_t hf rfl rfl ?_
        refine wp_skip ?_
        refine then_n ?_
        refine wp_block ?_
        refine wp_seq ?_
        refine region_pl ?_
        refine q_ hf rfl rfl rfl (e_extract hf rfl rfl) fun a hf => ?_
        refine q_ hf rfl rfl rfl (e_assign hf rfl) fun a hf => ?_
        refine pl_nil ?_
        refine then_n ?_
        obtain ⟨w46, hw⟩ : ∃ x, x = w44.drew := ⟨_, rfl⟩
        refine region_pi (.q 0 (.q 1 (.q 2 (.q 3 (.q 5 (.q 6 (.q 7 (.l 4 (.q 8 (.l 9 (.nil))))))))))) (Ext w46) rfl (by kernel_rfl) ?_
        have hM := hM.drew
        rw [← hw] at hM ⊢
        clear hw
        refine pi_q hf rfl rfl rfl rfl (Ext.refl _) (e_move hf rfl) fun a hf => ?_
        refine pi_q hf rfl rfl rfl rfl (Ext.refl _) (e_loadA hf (us := [vI (g1.Rows), vI (g1.Cols), vS (g1.Cells)]) rfl ⟨Try.isAgg27, Try.sizeOf27⟩ rfl (hM.boxSub (k := 4) (us := [vI (g1.Rows), vI (g1.Cols), vS (g1.Cells)]) (o := 0) rfl rfl)) fun a hf => ?_
        refine pi_q hf rfl rfl rfl rfl (Ext.refl _) (e_loadA hf (us := [vI (s5.Row), vI (s5.Col), .bool (s5.Down), vI (s5.Length)]) rfl ⟨Try.isAgg75, Try.sizeOf75⟩ rfl (hM.boxSub (k := 3) (us := [vI (s5.Row), vI (s5.Col), .bool (s5.Down), vI (s5.Length)]) (o := 0) rfl rfl)) fun a hf => ?_
        refine pi_q hf rfl rfl rfl rfl (Ext.refl _) (e_move hf rfl) fun a hf => ?_
        refine pi_q hf rfl rfl rfl rfl (Ext.refl _) (e_move hf rfl) fun a hf => ?_
        refine pi_q hf rfl rfl rfl rfl (Ext.refl _) (e_move hf rfl) fun a hf => ?_
        obtain ⟨c47, hz48, h41⟩ := bind_some h41
        refine pi_q hf rfl rfl rfl rfl (Ext.refl _) (e_indexS hf (x := word9) rfl rfl Try.underlying9 hz48) fun a hf => ?_
        refine pi_one ?_
        obtain ⟨y49, hz50, h41⟩ := bind_some h41
        refine pi_l hf rfl rfl rfl rfl (w_call hf Try.call86 rfl (r_impl_Grid_index ⟨_, Sh C _ _, none_, hM.sh_lt, none_not⟩ g1 hp2 hp3 hp4 s5 hp6 hp7 hp8 (pos33 : Int) (R64_pos hc43 hp10) _ hz50) ?_)
        rintro _ w52 ⟨rfl, hM2, hv51⟩
        obtain ⟨hM, hx53, hup54⟩ := hM.back hM2
        dsimp only [List.cons_append, List.nil_append] at hM hup54
        clear hM2
        refine ⟨_, rfl, Ext w52, fun _ h => Ext.trans hx53 h, Ext.refl _, fun a hf => ?_⟩
        obtain ⟨e55, hz56, h41⟩ := bind_some h41
        obtain ⟨b61, _, hA62, h57, h58, hr59, hcell60⟩ := hM.rowElemN (k := 1) rfl (n := 1) rfl hz56
        obtain rfl : _ = _ := hr59
        refine pi_q hf rfl rfl rfl rfl (Ext.refl _) (e_indexAddr (A := A23) (b := b61) (o := 0) (xs := xs34) (i := y49) hf hA62 rfl rfl Try.underlying63 Try.sizeOf5 h57 h58) fun a hf => ?_
        refine pi_one ?_
        obtain ⟨xs64, hz65, h41⟩ := bind_some h41
        refine pi_z0 hf rfl rfl rfl (by kernel_rfl) (w_storeElem hf hM (x := c47) (row := [vB (c47)]) (i := y49) rfl rfl rfl hA62 (k := 1) rfl rfl Try.sizeOf5 rfl hz65 fun w63 hM => ?_)
        dsimp only [List.set] at hM
        have hf := hf.alter (d := 7) (v := vL A23 (xs64) c24) rfl (vL_len (setL_len hz65))
        have hf := hf.alter (d := 17) (v := vL A23 (xs64) c24) rfl (vL_len (setL_len hz65))
        refine pi_nil ?_
        refine blk_n ?_
        obtain rfl := some_inj h41
        refine then_n ⟨_, rfl, ?_⟩
        exact ⟨(pos33 + runeW word9 pos33), xs64, rfl, hf.keep ⟨rfl, rfl, rfl, rfl, rfl, rfl, trivial⟩, hM.pick [] rfl⟩
      · refine pl_l hf rfl rfl rfl (w_nextEnd hf hM rfl (k := 0) rfl hc43 fun w67 hx68 hM a hf => ?_)
        refine q_ hf rfl rfl rfl (e_extract hf rfl rfl) fun a hf => ?_
        refine pl_nil ?_
        refine then_n ?_
        refine wp_seq ?_
        refine cond_f hf rfl rfl ?_
        refine wp_exit ?_
        refine then_x ?_
        obtain rfl := some_inj h41
        obtain rfl := hd42 _ rfl
        try dsimp only at h29
        refine then_x ?_
        refine exit_hit ?_
        obtain rfl := some_inj h29
        refine then_n ?_
        exact ⟨xs34, rfl, hf.keep ⟨rfl, rfl, rfl, trivial⟩, (hM.drop (.cons _ (.cons_cons _ (.cons_cons _ (.cons_cons _ (.cons_cons _ .slnil)))))).pick [] rfl⟩
  · rintro a w73 ⟨xs27, rfl, hf, hM⟩
    try dsimp only at h
    refine wp_seq ?_
    refine region_pl ?_
    refine q_ hf rfl rfl rfl (e_move hf rfl) fun a hf => ?_
    have hl74 := row_len (hM.ownAt (k := 0) rfl)
    refine q_ hf rfl rfl rfl (e_bytesStr hf (xs := xs27) rfl Try.underlying63 Try.underlying5 Try.underlying9 (hM.lendRow (k := 0) rfl)) fun a hf => ?_
    refine q_ hf rfl rfl rfl (e_field hf rfl Try.underlying27 rfl Try.sizeOf9 (o' := 2) rfl) fun a hf => ?_
    refine pl_0 hf rfl rfl (w_store hf hM (us := [vS (xs27)]) (cs' := [vI (g1.Rows), vI (g1.Cols), vS (xs27)]) rfl rfl (k := 3) rfl rfl Try.sizeOf9 rfl rfl rfl fun w75 hM => ?_)
    dsimp only [List.set] at hM
    refine pl_nil ?_
    refine then_n ?_
    refine wp_seq ?_
    refine region_pl ?_
    refine q_ hf rfl rfl rfl (e_loadA hf (us := [vI (g1.Rows), vI (g1.Cols), vS (xs27)]) rfl ⟨Try.isAgg27, Try.sizeOf27⟩ rfl (hM.boxSub (k := 3) (us := [vI (g1.Rows), vI (g1.Cols), vS (xs27)]) (o := 0) rfl rfl)) fun a hf => ?_
    refine pl_0 hf rfl rfl (w_store hf hM (us := [vI (g1.Rows), vI (g1.Cols), vS (xs27)]) (cs' := [vI (g1.Rows), vI (g1.Cols), vS (xs27)]) rfl rfl (k := 1) rfl rfl Try.sizeOf27 rfl rfl rfl fun w78 hM => ?_)
    dsimp only [List.set] at hM
    refine pl_nil ?_
    refine then_n ?_
    refine wp_ret ?_
    obtain rfl := some_inj h
    have hres81 := leaveV1 (P := Try.prog) Try.results62 (res_agg hf rfl ⟨Try.isAgg27, Try.sizeOf27⟩ (us := [vI (g1.Rows), vI (g1.Cols), vS (xs27)]) rfl (hM.boxSub (k := 1) (o := 0) rfl rfl))
    have hM := hM.outs (own' := []) 0 rfl
    exact bodyPost_ret hres81 hf.defers ⟨rfl, hM.fin, hp2, hp3, hl74⟩

set_option maxRecDepth 100000 in
set_option maxHeartbeats 4000000 in
theorem r_impl_PutWord (C : Cx) (g1 : Grid) (hp2 : R64 g1.Rows) (hp3 : R64 g1.Cols) (hp4 : g1.Cells.length ≤ maxLen) (slot5 : Int) (hp6 : R64 slot5) (word7 : Str) (hp8 : word7.length ≤ maxLen) (r : (Grid × Int)) (h : m_impl_PutWord g1 slot5 word7 = some r) :
    Calls Try.prog 22 #[.agg #[vI (g1.Rows), vI (g1.Cols), vS (g1.Cells)], vI (slot5), vS (word7)] C.w0 fun e w => e = .returned (.tuple #[.agg #[vI (r.1.Rows), vI (r.1.Cols), vS (r.1.Cells)], vI (r.2)]) ∧ Mem C w [] [] ∧ R64 r.1.Rows ∧ R64 r.1.Cols ∧ r.1.Cells.length ≤ maxLen ∧ R64 r.2 := by
  have hM := Mem.begin C [] trivial
  refine enter Try.func22 rfl Try.ntmps22 rfl fun a hf => ?_
  unfold m_impl_PutWord at h
  refine wp_seq ?_
  refine region_pl ?_
  refine pl_l hf rfl rfl rfl (w_box hf hM (cs := [vI (g1.Rows), vI (g1.Cols), vS (g1.Cells)]) rfl rfl fun b9 w10 hx11 hM a hf => ?_)
  refine pl_l hf rfl rfl rfl (w_alloc hM (cs := [vI (0), vI (0), vS (([] : Str))]) Try.zeroValue27 rfl fun b13 w14 hx15 hM a hf => ?_)
  refine q_ hf rfl rfl rfl (e_assign hf rfl) fun a hf => ?_
  refine pl_nil ?_
  refine then_n ?_
  refine wp_seq ?_
  refine wp_seq ?_
  refine region_pl ?_
  refine q_ hf rfl rfl rfl (e_loadA hf (us := [vI (g1.Rows), vI (g1.Cols), vS (g1.Cells)]) rfl ⟨Try.isAgg27, Try.sizeOf27⟩ rfl (hM.boxSub (k := 1) (us := [vI (g1.Rows), vI (g1.Cols), vS (g1.Cells)]) (o := 0) rfl rfl)) fun a hf => ?_
  obtain ⟨y17, hz18, h⟩ := bind_some h
  refine pl_l hf rfl rfl rfl (w_call hf Try.call46 rfl (r_impl_ValidGrid ⟨_, Sh C _ _, none_, hM.sh_lt, none_not⟩ g1 hp2 hp3 hp4 _ hz18) ?_)
  rintro _ w19 ⟨rfl, hM2⟩
  obtain ⟨hM, hx20, hup21⟩ := hM.back hM2
  dsimp only [List.cons_append, List.nil_append] at hM hup21
  clear hM2
  refine ⟨_, rfl, fun a hf => ?_⟩
  refine q_ hf rfl rfl rfl (e_not hf rfl) fun a hf => ?_
  refine pl_nil ?_
  refine then_n ?_
  rcases cond_some h with ⟨hc22, h⟩ | ⟨hc22, h⟩
  · refine cond_t hf rfl hc22 ?_
    refine wp_seq ?_
    refine region_pl ?_
    refine q_ hf rfl rfl rfl (e_build hf Try.zeroValue27 Try.underlying27 (bp_27 _ Try.underlying27.symm) rfl (cs := #[vI (0), vI (0), vS (([] : Str))]) (by kernel_rfl)) fun a hf => ?_
    refine pl_0 hf rfl rfl (w_store hf hM (us := [vI (0), vI (0), vS (([] : Str))]) (cs' := [vI (0), vI (0), vS (([] : Str))]) rfl rfl (k := 0) rfl rfl Try.sizeOf27 rfl rfl rfl fun w23 hM => ?_)
    dsimp only [List.set] at hM
    refine q_ hf rfl rfl rfl (e_assign hf rfl) fun a hf => ?_
    refine pl_nil ?_
    refine then_n ?_
    refine wp_ret ?_
    refine then_r ?_
    obtain rfl := some_inj h
    have hres26 := leaveV2 (P := Try.prog) Try.results22 (res_agg hf rfl ⟨Try.isAgg27, Try.sizeOf27⟩ (us := [vI (0), vI (0), vS (([] : Str))]) rfl (hM.boxSub (k := 0) (o := 0) rfl rfl)) (res_tmp hf rfl)
    have hM := hM.outs (own' := []) 0 rfl
    exact bodyPost_ret hres26 hf.defers ⟨rfl, hM.fin, (R64_lit rfl), (R64_lit rfl), (lit_len rfl), (R64_lit rfl)⟩
  · refine cond_f hf rfl hc22 ?_
    refine wp_skip ?_
    refine then_n ?_
    refine wp_seq ?_
    refine region_pl ?_
    refine q_ hf rfl rfl rfl (e_loadA hf (us := [vI (g1.Rows), vI (g1.Cols), vS (g1.Cells)]) rfl ⟨Try.isAgg27, Try.sizeOf27⟩ rfl (hM.boxSub (k := 1) (us := [vI (g1.Rows), vI (g1.Cols), vS (g1.Cells)]) (o := 0) rfl rfl)) fun a hf => ?_
    refine q_ hf rfl rfl rfl (e_move hf rfl) fun a hf => ?_
    obtain ⟨y27, hz28, h⟩ := bind_some h
    refine pl_l hf rfl rfl rfl (w_call hf Try.call52 rfl (r_impl_Grid_slotAt ⟨_, Sh C _ _, none_, hM.sh_lt, none_not⟩ g1 hp2 hp3 hp4 slot5 hp6 _ hz28) ?_)
    rintro _ w32 ⟨rfl, hM2, hv29, hv30, hv31⟩
    obtain ⟨hM, hx33, hup34⟩ := hM.back hM2
    dsimp only [List.cons_append, List.nil_append] at hM hup34
    clear hM2
    refine ⟨_, rfl, fun a hf => ?_⟩
    refine q_ hf rfl rfl rfl (e_move hf rfl) fun a hf => ?_
    refine q_ hf rfl rfl rfl (e_extract hf rfl rfl) fun a hf => ?_
    refine q_ hf rfl rfl rfl (e_extract hf rfl rfl) fun a hf => ?_
    refine pl_l hf rfl rfl rfl (w_alloc hM (cs := [vI (0), vI (0), .bool (false), vI (0)]) Try.zeroValue75 rfl fun b35 w36 hx37 hM a hf => ?_)
    refine pl_0 hf rfl rfl (w_store hf hM (us := [vI (y27.1.Row), vI (y27.1.Col), .bool (y27.1.Down), vI (y27.1.Length)]) (cs' := [vI (y27.1.Row), vI (y27.1.Col), .bool (y27.1.Down), vI (y27.1.Length)]) rfl rfl (k := 0) rfl rfl Try.sizeOf75 rfl rfl rfl fun w39 hM => ?_)
    dsimp only [List.set] at hM
    refine q_ hf rfl rfl rfl (e_assign hf rfl) fun a hf => ?_
    refine pl_nil ?_
    refine then_n ?_
    refine wp_seq ?_
    refine wp_block ?_
    refine wp_seq ?_
    refine region_pl ?_
    refine q_ hf rfl rfl rfl (e_move hf rfl) fun a hf => ?_
    refine q_ hf rfl rfl rfl (e_not hf rfl) fun a hf => ?_
    refine q_ hf rfl rfl rfl (e_assign hf rfl) fun a hf => ?_
    refine pl_nil ?_
    refine then_n ?_
    rcases cond_some h with ⟨hc42, h⟩ | ⟨hc42, h⟩
    · refine cond_t hf rfl hc42 ?_
      refine wp_seq ?_
      refine region_pl ?_
      refine q_ hf rfl rfl rfl (e_build hf Try.zeroValue27 Try.underlying27 (bp_27 _ Try.underlying27.symm) rfl (cs := #[vI (0), vI (0), vS (([] : Str))]) (by kernel_rfl)) fun a hf => ?_
      refine pl_0 hf rfl rfl (w_store hf hM (us := [vI (0), vI (0), vS (([] : Str))]) (cs' := [vI (0), vI (0), vS (([] : Str))]) rfl rfl (k := 1) rfl rfl Try.sizeOf27 rfl rfl rfl fun w43 hM => ?_)
      dsimp only [List.set] at hM
      refine q_ hf rfl rfl rfl (e_assign hf rfl) fun a hf => ?_
      refine pl_nil ?_
      refine then_n ?_
      refine wp_ret ?_
      refine blk_r ?_
      refine then_r ?_
      obtain rfl := some_inj h
      have hres46 := leaveV2 (P := Try.prog) Try.results22 (res_agg hf rfl ⟨Try.isAgg27, Try.sizeOf27⟩ (us := [vI (0), vI (0), vS (([] : Str))]) rfl (hM.boxSub (k := 1) (o := 0) rfl rfl)) (res_tmp hf rfl)
      have hM := hM.outs (own' := []) 0 rfl
      exact bodyPost_ret hres46 hf.defers ⟨rfl, hM.fin, (R64_lit rfl), (R64_lit rfl), (lit_len rfl), (R64_lit rfl)⟩
    · refine cond_f hf rfl hc42 ?_
      refine wp_seq ?_
      refine region_pl ?_
      refine q_ hf rfl rfl rfl (e_move hf rfl) fun a hf => ?_
      obtain ⟨y47, hz48, h⟩ := bind_some h
      refine pl_l hf rfl rfl rfl (w_call hf Try.call60 rfl (r_impl_IsWord ⟨_, Sh C _ _, none_, hM.sh_lt, none_not⟩ word7 hp8 _ hz48) ?_)
      rintro _ w49 ⟨rfl, hM2⟩
      obtain ⟨hM, hx50, hup51⟩ := hM.back hM2
      dsimp only [List.cons_append, List.nil_append] at hM hup51
      clear hM2
      refine ⟨_, rfl, fun a hf => ?_⟩
      refine q_ hf rfl rfl rfl (e_not hf rfl) fun a hf => ?_
      refine q_ hf rfl rfl rfl (e_assign hf rfl) fun a hf => ?_
      refine pl_nil ?_
      refine then_n ?_
      rcases cond_some h with ⟨hc52, h⟩ | ⟨hc52, h⟩
      · refine cond_t hf rfl hc52 ?_
        refine wp_seq ?_
        refine region_pl ?_
        refine q_ hf rfl rfl rfl (e_build hf Try.zeroValue27 Try.underlying27 (bp_27 _ Try.underlying27.symm) rfl (cs := #[vI (0), vI (0), vS (([] : Str))]) (by kernel_rfl)) fun a hf => ?_
        refine pl_0 hf rfl rfl (w_store hf hM (us := [vI (0), vI (0), vS (([] : Str))]) (cs' := [vI (0), vI (0), vS (([] : Str))]) rfl rfl (k := 1) rfl rfl Try.sizeOf27 rfl rfl rfl fun w53 hM => ?_)
        dsimp only [List.set] at hM
        refine q_ hf rfl rfl rfl (e_assign hf rfl) fun a hf => ?_
        refine pl_nil ?_
        refine then_n ?_
        refine wp_ret ?_
        refine blk_r ?_
        refine then_r ?_
        obtain rfl := some_inj h
        have hres56 := leaveV2 (P := Try.prog) Try.results22 (res_agg hf rfl ⟨Try.isAgg27, Try.sizeOf27⟩ (us := [vI (0), vI (0), vS (([] : Str))]) rfl (hM.boxSub (k := 1) (o := 0) rfl rfl)) (res_tmp hf rfl)
        have hM := hM.outs (own' := []) 0 rfl
        exact bodyPost_ret hres56 hf.defers ⟨rfl, hM.fin, (R64_lit rfl), (R64_lit rfl), (lit_len rfl), (R64_lit rfl)⟩
      · refine cond_f hf rfl hc52 ?_
        refine wp_seq ?_
        refine region_pl ?_
        refine q_ hf rfl rfl rfl (e_loadA hf (us := [vI (g1.Rows), vI (g1.Cols), vS (g1.Cells)]) rfl ⟨Try.isAgg27, Try.sizeOf27⟩ rfl (hM.boxSub (k := 2) (us := [vI (g1.Rows), vI (g1.Cols), vS (g1.Cells)]) (o := 0) rfl rfl)) fun a hf => ?_
        refine q_ hf rfl rfl rfl (e_loadA hf (us := [vI (y27.1.Row), vI (y27.1.Col), .bool (y27.1.Down), vI (y27.1.Length)]) rfl ⟨Try.isAgg75, Try.sizeOf75⟩ rfl (hM.boxSub (k := 0) (us := [vI (y27.1.Row), vI (y27.1.Col), .bool (y27.1.Down), vI (y27.1.Length)]) (o := 0) rfl rfl)) fun a hf => ?_
        obtain ⟨y57, hz58, h⟩ := bind_some h
        refine pl_l hf rfl rfl rfl (w_call hf Try.call53 rfl (r_impl_Grid_pattern ⟨_, Sh C _ _, none_, hM.sh_lt, none_not⟩ g1 hp2 hp3 hp4 y27.1 hv29 hv30 hv31 _ hz58) ?_)
        rintro _ w60 ⟨rfl, hM2, hv59⟩
        obtain ⟨hM, hx61, hup62⟩ := hM.back hM2
        dsimp only [List.cons_append, List.nil_append] at hM hup62
        clear hM2
        refine ⟨_, rfl, fun a hf => ?_⟩
        refine q_ hf rfl rfl rfl (e_move hf rfl) fun a hf => ?_
        obtain ⟨y63, hz64, h⟩ := bind_some h
        refine pl_l hf rfl rfl rfl (w_call hf Try.call61 rfl (r_impl_fitsPattern ⟨_, Sh C _ _, none_, hM.sh_lt, none_not⟩ y57 hv59 word7 hp8 _ hz64) ?_)
        rintro _ w65 ⟨rfl, hM2⟩
        obtain ⟨hM, hx66, hup67⟩ := hM.back hM2
        dsimp only [List.cons_append, List.nil_append] at hM hup67
        clear hM2
        refine ⟨_, rfl, fun a hf => ?_⟩
        refine q_ hf rfl rfl rfl (e_not hf rfl) fun a hf => ?_
        refine q_ hf rfl rfl rfl (e_assign hf rfl) fun a hf => ?_
        refine pl_nil ?_
        refine then_n ?_
        rcases cond_some h with ⟨hc68, h⟩ | ⟨hc68, h⟩
        · refine cond_t hf rfl hc68 ?_
          refine wp_seq ?_
          refine region_pl ?_
          refine q_ hf rfl rfl rfl (e_build hf Try.zeroValue27 Try.underlying27 (bp_27 _ Try.underlying27.symm) rfl (cs := #[vI (0), vI (0), vS (([] : Str))]) (by kernel_rfl)) fun a hf => ?_
          refine pl_0 hf rfl rfl (w_store hf hM (us := [vI (0), vI (0), vS (([] : Str))]) (cs' := [vI (0), vI (0), vS (([] : Str))]) rfl rfl (k := 1) rfl rfl Try.sizeOf27 rfl rfl rfl fun w69 hM => ?_)
          dsimp only [List.set] at hM
          refine q_ hf rfl rfl rfl (e_assign hf rfl) fun a hf => ?_
          refine pl_nil ?_
          refine then_n ?_
          refine wp_ret ?_
          refine blk_r ?_
          refine then_r ?_
          obtain rfl := some_inj h
          have hres72 := leaveV2 (P := Try.prog) Try.results22 (res_agg hf rfl ⟨Try.isAgg27, Try.sizeOf27⟩ (us := [vI (0), vI (0), vS (([] : Str))]) rfl (hM.boxSub (k := 1) (o := 0) rfl rfl)) (res_tmp hf rfl)
          have hM := hM.outs (own' := []) 0 rfl
          exact bodyPost_ret hres72 hf.defers ⟨rfl, hM.fin, (R64_lit rfl), (R64_lit rfl), (lit_len rfl), (R64_lit rfl)⟩
        · refine cond_f hf rfl hc68 ?_
          refine wp_skip ?_
          refine blk_n ?_
          refine then_n ?_
          refine wp_seq ?_
          refine region_pl ?_
          refine q_ hf rfl rfl rfl (e_loadA hf (us := [vI (g1.Rows), vI (g1.Cols), vS (g1.Cells)]) rfl ⟨Try.isAgg27, Try.sizeOf27⟩ rfl (hM.boxSub (k := 2) (us := [vI (g1.Rows), vI (g1.Cols), vS (g1.Cells)]) (o := 0) rfl rfl)) fun a hf => ?_
          refine q_ hf rfl rfl rfl (e_loadA hf (us := [vI (y27.1.Row), vI (y27.1.Col), .bool (y27.1.Down), vI (y27.1.Length)]) rfl ⟨Try.isAgg75, Try.sizeOf75⟩ rfl (hM.boxSub (k := 0) (us := [vI (y27.1.Row), vI (y27.1.Col), .bool (y27.1.Down), vI (y27.1.Length)]) (o := 0) rfl rfl)) fun a hf => ?_
          refine q_ hf rfl rfl rfl (e_move hf rfl) fun a hf => ?_
          obtain ⟨y73, hz74, h⟩ := bind_some h
          refine pl_l hf rfl rfl rfl (w_call hf Try.call62 rfl (r_impl_Grid_put ⟨_, Sh C _ _, none_, hM.sh_lt, none_not⟩ g1 hp2 hp3 hp4 y27.1 hv29 hv30 hv31 word7 hp8 _ hz74) ?_)
          rintro _ w78 ⟨rfl, hM2, hv75, hv76, hv77⟩
          obtain ⟨hM, hx79, hup80⟩ := hM.back hM2
          dsimp only [List.cons_append, List.nil_append] at hM hup80
          clear hM2
          refine ⟨_, rfl, fun a hf => ?_⟩
          refine pl_0 hf rfl rfl (w_store hf hM (us := [vI (y73.Rows), vI (y73.Cols), vS (y73.Cells)]) (cs' := [vI (y73.Rows), vI (y73.Cols), vS (y73.Cells)]) rfl rfl (k := 1) rfl rfl Try.sizeOf27 rfl rfl rfl fun w81 hM => ?_)
          dsimp only [List.set] at hM
          refine q_ hf rfl rfl rfl (e_assign hf rfl) fun a hf => ?_
          refine pl_nil ?_
          refine then_n ?_
          refine wp_ret ?_
          obtain rfl := some_inj h
          have hres84 := leaveV2 (P := Try.prog) Try.results22 (res_agg hf rfl ⟨Try.isAgg27, Try.sizeOf27⟩ (us := [vI (y73.Rows), vI (y73.Cols), vS (y73.Cells)]) rfl (hM.boxSub (k := 1) (o := 0) rfl rfl)) (res_tmp hf rfl)
          have hM := hM.outs (own' := []) 0 rfl
          exact bodyPost_ret hres84 hf.defers ⟨rfl, hM.fin, hv75, hv76, hv77, (R64_lit rfl)⟩

set_option maxRecDepth 100000 in
set_option maxHeartbeats 4000000 in
theorem r_laws_eqGrid (C : Cx) (a1 : Grid) (hp2 : R64 a1.Rows) (hp3 : R64 a1.Cols) (hp4 : a1.Cells.length ≤ maxLen) (b5 : Grid) (hp6 : R64 b5.Rows) (hp7 : R64 b5.Cols) (hp8 : b5.Cells.length ≤ maxLen) (r : Bool) (h : m_laws_eqGrid a1 b5 = some r) :
    Calls Try.prog 23 #[.agg #[vI (a1.Rows), vI (a1.Cols), vS (a1.Cells)], .agg #[vI (b5.Rows), vI (b5.Cols), vS (b5.Cells)]] C.w0 fun e w => e = .returned (.bool (r)) ∧ Mem C w [] [] := by
  have hM := Mem.begin C [] trivial
  refine enter Try.func23 rfl Try.ntmps23 rfl fun a hf => ?_
  unfold m_laws_eqGrid at h
  refine wp_seq ?_
  refine region_pl ?_
  refine pl_l hf rfl rfl rfl (w_box hf hM (cs := [vI (a1.Rows), vI (a1.Cols), vS (a1.Cells)]) rfl rfl fun b9 w10 hx11 hM a hf => ?_)
  refine pl_l hf rfl rfl rfl (w_box hf hM (cs := [vI (b5.Rows), vI (b5.Cols), vS (b5.Cells)]) rfl rfl fun b13 w14 hx15 hM a hf => ?_)
  refine q_ hf rfl rfl rfl (e_assign hf rfl) fun a hf => ?_
  refine pl_nil ?_
  refine then_n ?_
  refine wp_seq ?_
  refine wp_seq ?_
  refine region_pl ?_
  refine q_ hf rfl rfl rfl (e_field hf rfl Try.underlying27 rfl Try.sizeOf2 (o' := 0) rfl) fun a hf => ?_
  refine q_ hf rfl rfl rfl (e_load1 hf rfl Try.isAgg2 (hM.boxCell (k := 1) rfl rfl)) fun a hf => ?_
  refine q_ hf rfl rfl rfl (e_field hf rfl Try.underlying27 rfl Try.sizeOf2 (o' := 0) rfl) fun a hf => ?_
  refine q_ hf rfl rfl rfl (e_load1 hf rfl Try.isAgg2 (hM.boxCell (k := 0) rfl rfl)) fun a hf => ?_
  refine q_ hf rfl rfl rfl (e_ne hf (x := a1.Rows) (y := b5.Rows) rfl rfl) fun a hf => ?_
  refine pl_nil ?_
  refine then_n ?_
  rcases cond_some h with ⟨hc17, h⟩ | ⟨hc17, h⟩
  · refine cond_t hf rfl hc17 ?_
    refine wp_seq ?_
    refine region_pl ?_
    refine q_ hf rfl rfl rfl (e_assign hf rfl) fun a hf => ?_
    refine pl_nil ?_
    refine then_n ?_
    refine wp_ret ?_
    refine then_r ?_
    obtain rfl := some_inj h
    have hM := hM.outs (own' := []) 0 rfl
    exact leave1 hf rfl rfl ⟨rfl, hM.fin⟩
  · refine cond_f hf rfl hc17 ?_
    refine wp_skip ?_
    refine then_n ?_
    refine wp_seq ?_
    refine wp_seq ?_
    refine region_pl ?_
    refine q_ hf rfl rfl rfl (e_field hf rfl Try.underlying27 rfl Try.sizeOf2 (o' := 1) rfl) fun a hf => ?_
    refine q_ hf rfl rfl rfl (e_load1 hf rfl Try.isAgg2 (hM.boxCell (k := 1) rfl rfl)) fun a hf => ?_
    refine q_ hf rfl rfl rfl (e_field hf rfl Try.underlying27 rfl Try.sizeOf2 (o' := 1) rfl) fun a hf => ?_
    refine q_ hf rfl rfl rfl (e_load1 hf rfl Try.isAgg2 (hM.boxCell (k := 0) rfl rfl)) fun a hf => ?_
    refine q_ hf rfl rfl rfl (e_ne hf (x := a1.Cols) (y := b5.Cols) rfl rfl) fun a hf => ?_
    refine pl_nil ?_
    refine then_n ?_
    rcases cond_some h with ⟨hc18, h⟩ | ⟨hc18, h⟩
    · refine cond_t hf rfl hc18 ?_
      refine wp_seq ?_
      refine region_pl ?_
      refine q_ hf rfl rfl rfl (e_assign hf rfl) fun a hf => ?_
      refine pl_nil ?_
      refine then_n ?_
      refine wp_ret ?_
      refine then_r ?_
      obtain rfl := some_inj h
      have hM := hM.outs (own' := []) 0 rfl
      exact leave1 hf rfl rfl ⟨rfl, hM.fin⟩
    · refine cond_f hf rfl hc18 ?_
      refine wp_skip ?_
      refine then_n ?_
      refine wp_seq ?_
      refine wp_seq ?_
      refine region_pl ?_
      refine q_ hf rfl rfl rfl (e_field hf rfl Try.underlying27 rfl Try.sizeOf9 (o' := 2) rfl) fun a hf => ?_
      refine q_ hf rfl rfl rfl (e_load1 hf rfl Try.isAgg9 (hM.boxCell (k := 1) rfl rfl)) fun a hf => ?_
      refine q_ hf rfl rfl rfl (e_field hf rfl Try.underlying27 rfl Try.sizeOf9 (o' := 2) rfl) fun a hf => ?_
      refine q_ hf rfl rfl rfl (e_load1 hf rfl Try.isAgg9 (hM.boxCell (k := 0) rfl rfl)) fun a hf => ?_
      refine q_ hf rfl rfl rfl (e_neS hf (x := a1.Cells) (y := b5.Cells) rfl rfl) fun a hf => ?_
      refine pl_nil ?_
      refine then_n ?_
      rcases cond_some h with ⟨hc19, h⟩ | ⟨hc19, h⟩
      · refine cond_t hf rfl hc19 ?_
        refine wp_seq ?_
        refine region_pl ?_
        refine q_ hf rfl rfl rfl (e_assign hf rfl) fun a hf => ?_
        refine pl_nil ?_
        refine then_n ?_
        refine wp_ret ?_
        refine then_r ?_
        obtain rfl := some_inj h
        have hM := hM.outs (own' := []) 0 rfl
        exact leave1 hf rfl rfl ⟨rfl, hM.fin⟩
      · refine cond_f hf rfl hc19 ?_
        refine wp_skip ?_
        refine then_n ?_
        refine wp_seq ?_
        refine region_pl ?_
        refine q_ hf rfl rfl rfl (e_assign hf rfl) fun a hf => ?_
        refine pl_nil ?_
        refine then_n ?_
        refine wp_ret ?_
        obtain rfl := some_inj h
        have hM := hM.outs (own' := []) 0 rfl
        exact leave1 hf rfl rfl ⟨rfl, hM.fin⟩

set_option maxRecDepth 100000 in
set_option maxHeartbeats 4000000 in
theorem r_laws_FnExactPutWord (C : Cx) (aG1 : Grid) (hp2 : R64 aG1.Rows) (hp3 : R64 aG1.Cols) (hp4 : aG1.Cells.length ≤ maxLen) (aSlot5 : Int) (hp6 : R64 aSlot5) (aWord7 : Str) (hp8 : aWord7.length ≤ maxLen) (r : Bool) (h : m_laws_FnExactPutWord aG1 aSlot5 aWord7 = some r) :
    Calls Try.prog 5 #[.agg #[vI (aG1.Rows), vI (aG1.Cols), vS (aG1.Cells)], vI (aSlot5), vS (aWord7)] C.w0 fun e w => e = .returned (.bool (r)) ∧ Mem C w [] [] := by
  have hM := Mem.begin C [] trivial
  refine enter Try.func5 rfl Try.ntmps5 rfl fun a hf => ?_
  unfold m_laws_FnExactPutWord at h
  refine wp_seq ?_
  refine region_pl ?_
  refine pl_l hf rfl rfl rfl (w_box hf hM (cs := [vI (aG1.Rows), vI (aG1.Cols), vS (aG1.Cells)]) rfl rfl fun b9 w10 hx11 hM a hf => ?_)
  refine q_ hf rfl rfl rfl (e_assign hf rfl) fun a hf => ?_
  refine pl_nil ?_
  refine then_n ?_
  refine wp_seq ?_
  refine wp_seq ?_
  refine region_pl ?_
  refine q_ hf rfl rfl rfl (e_move hf rfl) fun a hf => ?_
  refine q_ hf rfl rfl rfl (e_lenS hf (x := aWord7) rfl Try.underlying9) fun a hf => ?_
  refine q_ hf rfl rfl rfl (e_gt hf (x := (aWord7.length : Int)) (y := 1048576) rfl rfl) fun a hf => ?_
  refine pl_nil ?_
  refine then_n ?_
  rcases cond_some h with ⟨hc13, h⟩ | ⟨hc13, h⟩
  · refine cond_t hf rfl hc13 ?_
    refine wp_seq ?_
    refine region_pl ?_
    refine q_ hf rfl rfl rfl (e_assign hf rfl) fun a hf => ?_
    refine pl_nil ?_
    refine then_n ?_
    refine wp_ret ?_
    refine then_r ?_
    obtain rfl := some_inj h
    have hM := hM.outs (own' := []) 0 rfl
    exact leave1 hf rfl rfl ⟨rfl, hM.fin⟩
  · refine cond_f hf rfl hc13 ?_
    refine wp_skip ?_
    refine then_n ?_
    refine wp_seq ?_
    refine region_pl ?_
    refine q_ hf rfl rfl rfl (e_assign hf rfl) fun a hf => ?_
    refine pl_nil ?_
    refine then_n ?_
    refine wp_seq ?_
    refine region_pl ?_
    refine q_ hf rfl rfl rfl (e_loadA hf (us := [vI (aG1.Rows), vI (aG1.Cols), vS (aG1.Cells)]) rfl ⟨Try.isAgg23, Try.sizeOf23⟩ rfl (hM.boxSub (k := 0) (us := [vI (aG1.Rows), vI (aG1.Cols), vS (aG1.Cells)]) (o := 0) rfl rfl)) fun a hf => ?_
    refine q_ hf rfl rfl rfl (e_move hf rfl) fun a hf => ?_
    obtain ⟨y14, hz15, h⟩ := bind_some h
    refine pl_l hf rfl rfl rfl (w_call hf Try.call12 rfl (r_laws_szGrid ⟨_, Sh C _ _, none_, hM.sh_lt, none_not⟩ aG1 hp2 hp3 hp4 1048576 (R64_lit rfl) _ hz15) ?_)
    rintro _ w17 ⟨rfl, hM2, hv16⟩
    obtain ⟨hM, hx18, hup19⟩ := hM.back hM2
    dsimp only [List.cons_append, List.nil_append] at hM hup19
    clear hM2
    refine ⟨_, rfl, fun a hf => ?_⟩
    refine q_ hf rfl rfl rfl (e_assign hf rfl) fun a hf => ?_
    refine pl_nil ?_
    refine then_n ?_
    refine wp_seq ?_
    refine wp_seq ?_
    refine region_pl ?_
    refine q_ hf rfl rfl rfl (e_move hf rfl) fun a hf => ?_
    refine q_ hf rfl rfl rfl (e_lt hf (x := y14) (y := 0) rfl rfl) fun a hf => ?_
    refine pl_nil ?_
    refine then_n ?_
    rcases cond_some h with ⟨hc20, h⟩ | ⟨hc20, h⟩
    · refine cond_t hf rfl hc20 ?_
      refine wp_seq ?_
      refine region_pl ?_
      refine q_ hf rfl rfl rfl (e_assign hf rfl) fun a hf => ?_
      refine pl_nil ?_
      refine then_n ?_
      refine wp_ret ?_
      refine then_r ?_
      obtain rfl := some_inj h
      have hM := hM.outs (own' := []) 0 rfl
      exact leave1 hf rfl rfl ⟨rfl, hM.fin⟩
    · refine cond_f hf rfl hc20 ?_
      refine wp_skip ?_
      refine then_n ?_
      refine wp_seq ?_
      refine region_pl ?_
      refine q_ hf rfl rfl rfl (e_loadA hf (us := [vI (aG1.Rows), vI (aG1.Cols), vS (aG1.Cells)]) rfl ⟨Try.isAgg23, Try.sizeOf23⟩ rfl (hM.boxSub (k := 0) (us := [vI (aG1.Rows), vI (aG1.Cols), vS (aG1.Cells)]) (o := 0) rfl rfl)) fun a hf => ?_
      obtain ⟨y21, hz22, h⟩ := bind_some h
      refine pl_l hf rfl rfl rfl (w_call hf Try.call14 rfl (r_laws_toGrid ⟨_, Sh C _ _, none_, hM.sh_lt, none_not⟩ aG1 hp2 hp3 hp4 _ hz22) ?_)
      rintro _ w26 ⟨rfl, hM2, hv23, hv24, hv25⟩
      obtain ⟨hM, hx27, hup28⟩ := hM.back hM2
      dsimp only [List.cons_append, List.nil_append] at hM hup28
      clear hM2
      refine ⟨_, rfl, fun a hf => ?_⟩
      refine q_ hf rfl rfl rfl (e_move hf rfl) fun a hf => ?_
      refine q_ hf rfl rfl rfl (e_move hf rfl) fun a hf => ?_
      obtain ⟨y29, hz30, h⟩ := bind_some h
      refine pl_l hf rfl rfl rfl (w_call hf Try.call21 rfl (r_spec_PutWord ⟨_, Sh C _ _, none_, hM.sh_lt, none_not⟩ y21 hv23 hv24 hv25 aSlot5 hp6 aWord7 hp8 _ hz30) ?_)
      rintro _ w35 ⟨rfl, hM2, hv31, hv32, hv33, hv34⟩
      obtain ⟨hM, hx36, hup37⟩ := hM.back hM2
      dsimp only [List.cons_append, List.nil_append] at hM hup37
      clear hM2
      refine ⟨_, rfl, fun a hf => ?_⟩
      refine q_ hf rfl rfl rfl (e_move hf rfl) fun a hf => ?_
      refine q_ hf rfl rfl rfl (e_extract hf rfl rfl) fun a hf => ?_
      refine q_ hf rfl rfl rfl (e_extract hf rfl rfl) fun a hf => ?_
      refine pl_l hf rfl rfl rfl (w_alloc hM (cs := [vI (0), vI (0), vS (([] : Str))]) Try.zeroValue27 rfl fun b38 w39 hx40 hM a hf => ?_)
      refine pl_0 hf rfl rfl (w_store hf hM (us := [vI (y29.1.Rows), vI (y29.1.Cols), vS (y29.1.Cells)]) (cs' := [vI (y29.1.Rows), vI (y29.1.Cols), vS (y29.1.Cells)]) rfl rfl (k := 0) rfl rfl Try.sizeOf27 rfl rfl rfl fun w42 hM => ?_)
      dsimp only [List.set] at hM
      refine q_ hf rfl rfl rfl (e_assign hf rfl) fun a hf => ?_
      refine pl_nil ?_
      refine then_n ?_
      refine wp_seq ?_
      refine region_pl ?_
      refine q_ hf rfl rfl rfl (e_loadA hf (us := [vI (aG1.Rows), vI (aG1.Cols), vS (aG1.Cells)]) rfl ⟨Try.isAgg23, Try.sizeOf23⟩ rfl (hM.boxSub (k := 1) (us := [vI (aG1.Rows), vI (aG1.Cols), vS (aG1.Cells)]) (o := 0) rfl rfl)) fun a hf => ?_
      obtain ⟨y45, hz46, h⟩ := bind_some h
      refine pl_l hf rfl rfl rfl (w_call hf Try.call14 rfl (r_laws_toGrid ⟨_, Sh C _ _, none_, hM.sh_lt, none_not⟩ aG1 hp2 hp3 hp4 _ hz46) ?_)
      rintro _ w50 ⟨rfl, hM2, hv47, hv48, hv49⟩
      obtain ⟨hM, hx51, hup52⟩ := hM.back hM2
      dsimp only [List.cons_append, List.nil_append] at hM hup52
      clear hM2
      refine ⟨_, rfl, fun a hf => ?_⟩
      refine q_ hf rfl rfl rfl (e_move hf rfl) fun a hf => ?_
      refine q_ hf rfl rfl rfl (e_move hf rfl) fun a hf => ?_
      obtain ⟨y53, hz54, h⟩ := bind_some h
      refine pl_l hf rfl rfl rfl (w_call hf Try.call22 rfl (r_impl_PutWord ⟨_, Sh C _ _, none_, hM.sh_lt, none_not⟩ y45 hv47 hv48 hv49 aSlot5 hp6 aWord7 hp8 _ hz54) ?_)
      rintro _ w59 ⟨rfl, hM2, hv55, hv56, hv57, hv58⟩
      obtain ⟨hM, hx60, hup61⟩ := hM.back hM2
      dsimp only [List.cons_append, List.nil_append] at hM hup61
      clear hM2
      refine ⟨_, rfl, fun a hf => ?_⟩
      refine q_ hf rfl rfl rfl (e_move hf rfl) fun a hf => ?_
      refine q_ hf rfl rfl rfl (e_extract hf rfl rfl) fun a hf => ?_
      refine q_ hf rfl rfl rfl (e_extract hf rfl rfl) fun a hf => ?_
      refine pl_l hf rfl rfl rfl (w_alloc hM (cs := [vI (0), vI (0), vS (([] : Str))]) Try.zeroValue27 rfl fun b62 w63 hx64 hM a hf => ?_)
      refine pl_0 hf rfl rfl (w_store hf hM (us := [vI (y53.1.Rows), vI (y53.1.Cols), vS (y53.1.Cells)]) (cs' := [vI (y53.1.Rows), vI (y53.1.Cols), vS (y53.1.Cells)]) rfl rfl (k := 0) rfl rfl Try.sizeOf27 rfl rfl rfl fun w66 hM => ?_)
      dsimp only [List.set] at hM
      refine q_ hf rfl rfl rfl (e_assign hf rfl) fun a hf => ?_
      refine pl_nil ?_
      refine then_n ?_
      refine wp_seq ?_
      obtain ⟨x71, h72, h⟩ := bind_some h
      refine seq_join (fun a w => ∃ (t69 : Bool), t69 = x71 ∧ Has 45 a [(44, .bool (t69))] ∧ Mem C w [.box b62 [vI (y53.1.Rows), vI (y53.1.Cols), vS (y53.1.Cells)] 27, .box b38 [vI (y29.1.Rows), vI (y29.1.Cols), vS (y29.1.Cells)] 27, .box b9 [vI (aG1.Rows), vI (aG1.Cols), vS (aG1.Cells)] 23] []) ?_ ?_
      · refine region_pl ?_
        refine q_ hf rfl rfl rfl (e_loadA hf (us := [vI (y53.1.Rows), vI (y53.1.Cols), vS (y53.1.Cells)]) rfl ⟨Try.isAgg27, Try.sizeOf27⟩ rfl (hM.boxSub (k := 0) (us := [vI (y53.1.Rows), vI (y53.1.Cols), vS (y53.1.Cells)]) (o := 0) rfl rfl)) fun a hf => ?_
        refine q_ hf rfl rfl rfl (e_loadA hf (us := [vI (y29.1.Rows), vI (y29.1.Cols), vS (y29.1.Cells)]) rfl ⟨Try.isAgg27, Try.sizeOf27⟩ rfl (hM.boxSub (k := 1) (us := [vI (y29.1.Rows), vI (y29.1.Cols), vS (y29.1.Cells)]) (o := 0) rfl rfl)) fun a hf => ?_
        obtain ⟨y73, hz74, h72⟩ := bind_some h72
        refine pl_l hf rfl rfl rfl (w_call hf Try.call23 rfl (r_laws_eqGrid ⟨_, Sh C _ _, none_, hM.sh_lt, none_not⟩ y53.1 hv55 hv56 hv57 y29.1 hv31 hv32 hv33 _ hz74) ?_)
        rintro _ w75 ⟨rfl, hM2⟩
        obtain ⟨hM, hx76, hup77⟩ := hM.back hM2
        dsimp only [List.cons_append, List.nil_append] at hM hup77
        clear hM2
        refine ⟨_, rfl, fun a hf => ?_⟩
        refine q_ hf rfl rfl rfl (e_not hf rfl) fun a hf => ?_
        refine q_ hf rfl rfl rfl (e_move hf rfl) fun a hf => ?_
        rcases cond_some h72 with ⟨hc78, h72⟩ | ⟨hc78, h72⟩
        · refine pl_gs (wanted_f hf rfl rfl rfl rfl hc78) hf rfl rfl fun a hf => ?_
          refine pl_gs (wanted_f hf rfl rfl rfl rfl hc78) hf rfl rfl fun a hf => ?_
          refine pl_gs (wanted_f hf rfl rfl rfl rfl hc78) hf rfl rfl fun a hf => ?_
          refine q_ hf rfl rfl rfl (e_pick_t hf rfl hc78 rfl) fun a hf => ?_
          refine pl_nil ?_
          obtain rfl := some_inj h72
          refine then_n ?_
          exact ⟨true, rfl, hf.keep ⟨rfl, trivial⟩, hM.pick [] rfl⟩
        · refine gq (wanted_t hf rfl rfl rfl rfl hc78) hf rfl rfl (e_move hf rfl) fun a hf => ?_
          refine gq (wanted_t hf rfl rfl rfl rfl hc78) hf rfl rfl (e_move hf rfl) fun a hf => ?_
          refine gq (wanted_t hf rfl rfl rfl rfl hc78) hf rfl rfl (e_ne hf (x := y53.2) (y := y29.2) rfl rfl) fun a hf => ?_
          refine q_ hf rfl rfl rfl (e_pick_f hf rfl hc78 rfl) fun a hf => ?_
          refine pl_nil ?_
          obtain rfl := some_inj h72
          refine then_n ?_
          exact ⟨(y53.2 != y29.2), rfl, hf.keep ⟨rfl, trivial⟩, hM.pick [] rfl⟩
      · rintro a w81 ⟨t69, rfl, hf, hM⟩
        try dsimp only at h
        rcases cond_some h with ⟨hc82, h⟩ | ⟨hc82, h⟩
        · refine cond_t hf rfl hc82 ?_
          refine wp_seq ?_
          refine region_pl ?_
          refine q_ hf rfl rfl rfl (e_assign hf rfl) fun a hf => ?_
          refine pl_nil ?_
          refine then_n ?_
          refine wp_ret ?_
          refine then_r ?_
          obtain rfl := some_inj h
          have hM := hM.outs (own' := []) 0 rfl
          exact leave1 hf rfl rfl ⟨rfl, hM.fin⟩
        · refine cond_f hf rfl hc82 ?_
          refine wp_skip ?_
          refine then_n ?_
          refine wp_seq ?_
          refine region_pl ?_
          refine q_ hf rfl rfl rfl (e_assign hf rfl) fun a hf => ?_
          refine pl_nil ?_
          refine then_n ?_
          refine wp_ret ?_
          obtain rfl := some_inj h
          have hM := hM.outs (own' := []) 0 rfl
          exact leave1 hf rfl rfl ⟨rfl, hM.fin⟩

end Go.Proofs.Ytgmikhdealhlfaa
