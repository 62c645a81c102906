/- The functions that this law reaches do what their models say. Printed by gen.py. -/
import Derived.Test.YtgmikhdealhlfaaMod
import Derived.Test.YtgmikhdealhlfaaFnFillingsRefC
namespace Go.Proofs.Ytgmikhdealhlfaa
open Go Go.RowKit
set_option linter.unusedSimpArgs false
set_option linter.unusedVariables false

set_option maxRecDepth 100000 in
set_option maxHeartbeats 4000000 in
theorem r_laws_FnFillings (C : Cx) (code1 : Str) (A2 : Option Addr) (c3 : Nat) (hp4 : (sliceRep byteRep).R C.w0 C.S0 code1 [vL A2 code1 c3]) (r : Bool) (h : m_laws_FnFillings code1 = some r) :
    Calls Try.prog 11 #[vL A2 (code1) c3] C.w0 fun e w => e = .returned (.bool (r)) ∧ Mem C w [] [] := by
  have hM := Mem.begin C [.dat (sliceRep byteRep) code1 [vL A2 code1 c3]] ⟨hp4, trivial⟩
  refine enter Try.func11 rfl Try.ntmps11 rfl fun a hf => ?_
  unfold m_laws_FnFillings at h
  refine wp_seq ?_
  refine region_pl ?_
  refine q_ hf rfl rfl rfl (e_assign hf rfl) fun a hf => ?_
  refine pl_nil ?_
  refine then_n ?_
  refine wp_seq ?_
  refine wp_seq ?_
  refine region_pl ?_
  refine q_ hf rfl rfl rfl (e_move hf rfl) fun a hf => ?_
  obtain ⟨y5, hz6, h⟩ := bind_some h
  refine pl_l hf rfl rfl rfl (w_call hf Try.call44 rfl (r_laws_f6big ⟨_, Sh C _ _, none_, hM.sh_lt, none_not, C.G, hM.g_lt, g_none, hM.tabs⟩ code1 _ _ (hM.dat (k := 0) rfl) _ hz6) ?_)
  rintro _ w7 ⟨rfl, hM2⟩
  obtain ⟨hM, hx8, hup9⟩ := hM.back hM2
  dsimp only [List.cons_append, List.nil_append] at hM hup9
  clear hM2
  refine ⟨_, rfl, fun a hf => ?_⟩
  refine pl_nil ?_
  refine then_n ?_
  rcases cond_some h with ⟨hc10, h⟩ | ⟨hc10, h⟩
  · refine cond_t hf rfl hc10 ?_
    refine wp_seq ?_
    refine region_pl ?_
    refine q_ hf rfl rfl rfl (e_assign hf rfl) fun a hf => ?_
    refine pl_nil ?_
    refine then_n ?_
    refine wp_ret ?_
    refine then_r ?_
    obtain rfl := some_inj h
    exact leave1 hf rfl rfl ⟨rfl, hM.fin⟩
  · refine cond_f hf rfl hc10 ?_
    refine wp_skip ?_
    refine then_n ?_
    refine wp_seq ?_
    refine region_pl ?_
    refine q_ hf rfl rfl rfl (e_move hf rfl) fun a hf => ?_
    obtain ⟨y11, hz12, h⟩ := bind_some h
    refine pl_l hf rfl rfl rfl (w_call hf Try.call45 rfl (r_spec_DrawFillGrid ⟨_, Sh C _ _, none_, hM.sh_lt, none_not, C.G, hM.g_lt, g_none, hM.tabs⟩ code1 _ _ (hM.dat (k := 0) rfl) _ hz12) ?_)
    rintro _ w18 ⟨A16, c17, rfl, hM2, hv13, hv14, hv15⟩
    obtain ⟨hM, hx19, hup20⟩ := hM.back hM2
    dsimp only [List.cons_append, List.nil_append] at hM hup20
    clear hM2
    refine ⟨_, rfl, fun a hf => ?_⟩
    refine q_ hf rfl rfl rfl (e_move hf rfl) fun a hf => ?_
    refine q_ hf rfl rfl rfl (e_extract hf rfl rfl) fun a hf => ?_
    refine q_ hf rfl rfl rfl (e_extract hf rfl rfl) fun a hf => ?_
    refine pl_l hf rfl rfl rfl (w_alloc hM (cs := [vI (0), vI (0), vS (([] : Str))]) Try.zeroValue27 rfl fun b21 w22 hx23 hM a hf => ?_)
    refine pl_l hf rfl rfl rfl (w_alloc hM (cs := [vL none (([] : (List Str))) 0]) Try.zeroValue45 rfl fun b25 w26 hx27 hM a hf => ?_)
    refine pl_0 hf rfl rfl (w_store hf hM (us := [vI (y11.1.Rows), vI (y11.1.Cols), vS (y11.1.Cells)]) (cs' := [vI (y11.1.Rows), vI (y11.1.Cols), vS (y11.1.Cells)]) rfl rfl (k := 1) rfl rfl Try.sizeOf27 rfl rfl rfl fun w29 hM => ?_)
    dsimp only [List.set] at hM
    refine pl_0 hf rfl rfl (w_store hf hM (us := [vL A16 (y11.2.Words) c17]) (cs' := [vL A16 (y11.2.Words) c17]) rfl rfl (k := 0) rfl rfl Try.sizeOf45 rfl rfl rfl fun w32 hM => ?_)
    dsimp only [List.set] at hM
    refine pl_nil ?_
    refine then_n ?_
    refine wp_seq ?_
    refine region_pl ?_
    refine q_ hf rfl rfl rfl (e_loadA hf (us := [vI (y11.1.Rows), vI (y11.1.Cols), vS (y11.1.Cells)]) rfl ⟨Try.isAgg27, Try.sizeOf27⟩ rfl (hM.boxSub (k := 1) (us := [vI (y11.1.Rows), vI (y11.1.Cols), vS (y11.1.Cells)]) (o := 0) rfl rfl)) fun a hf => ?_
    refine q_ hf rfl rfl rfl (e_loadA hf (us := [vL A16 (y11.2.Words) c17]) rfl ⟨Try.isAgg45, Try.sizeOf45⟩ rfl (hM.boxSub (k := 0) (us := [vL A16 (y11.2.Words) c17]) (o := 0) rfl rfl)) fun a hf => ?_
    obtain ⟨y35, hz36, h⟩ := bind_some h
    refine pl_l hf rfl rfl rfl (w_call hf Try.call38 rfl (r_impl_FillGrid ⟨_, All C _ _, none_, hM.all_lt, none_not, C.G, hM.g_lt, g_none, hM.tabs⟩ y11.1 hv13 hv14 hv15 y11.2 _ _ (hM.lendRow (k := 2) rfl) _ hz36) ?_)
    rintro _ w41 ⟨rfl, hM2, hv37, hv38, hv39, hv40⟩
    obtain ⟨hM, hx42⟩ := hM.backA hM2
    clear hM2
    refine ⟨_, rfl, fun a hf => ?_⟩
    refine q_ hf rfl rfl rfl (e_move hf rfl) fun a hf => ?_
    refine q_ hf rfl rfl rfl (e_extract hf rfl rfl) fun a hf => ?_
    refine q_ hf rfl rfl rfl (e_extract hf rfl rfl) fun a hf => ?_
    refine pl_l hf rfl rfl rfl (w_alloc hM (cs := [vI (0), vI (0), vS (([] : Str))]) Try.zeroValue27 rfl fun b44 w45 hx46 hM a hf => ?_)
    refine pl_0 hf rfl rfl (w_store hf hM (us := [vI (y35.1.Rows), vI (y35.1.Cols), vS (y35.1.Cells)]) (cs' := [vI (y35.1.Rows), vI (y35.1.Cols), vS (y35.1.Cells)]) rfl rfl (k := 0) rfl rfl Try.sizeOf27 rfl rfl rfl fun w48 hM => ?_)
    dsimp only [List.set] at hM
    refine q_ hf rfl rfl rfl (e_assign hf rfl) fun a hf => ?_
    refine pl_nil ?_
    refine then_n ?_
    refine wp_seq ?_
    refine region_pl ?_
    refine q_ hf rfl rfl rfl (e_loadA hf (us := [vI (y11.1.Rows), vI (y11.1.Cols), vS (y11.1.Cells)]) rfl ⟨Try.isAgg27, Try.sizeOf27⟩ rfl (hM.boxSub (k := 2) (us := [vI (y11.1.Rows), vI (y11.1.Cols), vS (y11.1.Cells)]) (o := 0) rfl rfl)) fun a hf => ?_
    refine q_ hf rfl rfl rfl (e_loadA hf (us := [vL A16 (y11.2.Words) c17]) rfl ⟨Try.isAgg45, Try.sizeOf45⟩ rfl (hM.boxSub (k := 1) (us := [vL A16 (y11.2.Words) c17]) (o := 0) rfl rfl)) fun a hf => ?_
    obtain ⟨y51, hz52, h⟩ := bind_some h
    refine pl_l hf rfl rfl rfl (w_call hf Try.call37 rfl (r_spec_FillGrid ⟨_, All C _ _, none_, hM.all_lt, none_not, C.G, hM.g_lt, g_none, hM.tabs⟩ y11.1 hv13 hv14 hv15 y11.2 _ _ (hM.lendRow (k := 3) rfl) _ hz52) ?_)
    rintro _ w57 ⟨rfl, hM2, hv53, hv54, hv55, hv56⟩
    obtain ⟨hM, hx58⟩ := hM.backA hM2
    clear hM2
    refine ⟨_, rfl, fun a hf => ?_⟩
    refine q_ hf rfl rfl rfl (e_move hf rfl) fun a hf => ?_
    refine q_ hf rfl rfl rfl (e_extract hf rfl rfl) fun a hf => ?_
    refine q_ hf rfl rfl rfl (e_extract hf rfl rfl) fun a hf => ?_
    refine pl_l hf rfl rfl rfl (w_alloc hM (cs := [vI (0), vI (0), vS (([] : Str))]) Try.zeroValue27 rfl fun b60 w61 hx62 hM a hf => ?_)
    refine pl_0 hf rfl rfl (w_store hf hM (us := [vI (y51.1.Rows), vI (y51.1.Cols), vS (y51.1.Cells)]) (cs' := [vI (y51.1.Rows), vI (y51.1.Cols), vS (y51.1.Cells)]) rfl rfl (k := 0) rfl rfl Try.sizeOf27 rfl rfl rfl fun w64 hM => ?_)
    dsimp only [List.set] at hM
    refine q_ hf rfl rfl rfl (e_assign hf rfl) fun a hf => ?_
    refine pl_nil ?_
    refine then_n ?_
    refine wp_seq ?_
    refine region_pl ?_
    refine q_ hf rfl rfl rfl (e_loadA hf (us := [vI (y11.1.Rows), vI (y11.1.Cols), vS (y11.1.Cells)]) rfl ⟨Try.isAgg27, Try.sizeOf27⟩ rfl (hM.boxSub (k := 3) (us := [vI (y11.1.Rows), vI (y11.1.Cols), vS (y11.1.Cells)]) (o := 0) rfl rfl)) fun a hf => ?_
    refine q_ hf rfl rfl rfl (e_loadA hf (us := [vL A16 (y11.2.Words) c17]) rfl ⟨Try.isAgg45, Try.sizeOf45⟩ rfl (hM.boxSub (k := 2) (us := [vL A16 (y11.2.Words) c17]) (o := 0) rfl rfl)) fun a hf => ?_
    obtain ⟨y67, hz68, h⟩ := bind_some h
    refine pl_l hf rfl rfl rfl (w_call hf Try.call36 rfl (r_impl_CountFillings ⟨_, All C _ _, none_, hM.all_lt, none_not, C.G, hM.g_lt, g_none, hM.tabs⟩ y11.1 hv13 hv14 hv15 y11.2 _ _ (hM.lendRow (k := 4) rfl) _ hz68) ?_)
    rintro _ w71 ⟨rfl, hM2, hv69, hv70⟩
    obtain ⟨hM, hx72⟩ := hM.backA hM2
    clear hM2
    refine ⟨_, rfl, fun a hf => ?_⟩
    refine q_ hf rfl rfl rfl (e_move hf rfl) fun a hf => ?_
    refine q_ hf rfl rfl rfl (e_extract hf rfl rfl) fun a hf => ?_
    refine q_ hf rfl rfl rfl (e_extract hf rfl rfl) fun a hf => ?_
    refine q_ hf rfl rfl rfl (e_assign hf rfl) fun a hf => ?_
    refine q_ hf rfl rfl rfl (e_assign hf rfl) fun a hf => ?_
    refine pl_nil ?_
    refine then_n ?_
    refine wp_seq ?_
    refine region_pl ?_
    refine q_ hf rfl rfl rfl (e_loadA hf (us := [vI (y11.1.Rows), vI (y11.1.Cols), vS (y11.1.Cells)]) rfl ⟨Try.isAgg27, Try.sizeOf27⟩ rfl (hM.boxSub (k := 3) (us := [vI (y11.1.Rows), vI (y11.1.Cols), vS (y11.1.Cells)]) (o := 0) rfl rfl)) fun a hf => ?_
    refine q_ hf rfl rfl rfl (e_loadA hf (us := [vL A16 (y11.2.Words) c17]) rfl ⟨Try.isAgg45, Try.sizeOf45⟩ rfl (hM.boxSub (k := 2) (us := [vL A16 (y11.2.Words) c17]) (o := 0) rfl rfl)) fun a hf => ?_
    obtain ⟨y74, hz75, h⟩ := bind_some h
    refine pl_l hf rfl rfl rfl (w_call hf Try.call35 rfl (r_spec_CountFillings ⟨_, All C _ _, none_, hM.all_lt, none_not, C.G, hM.g_lt, g_none, hM.tabs⟩ y11.1 hv13 hv14 hv15 y11.2 _ _ (hM.lendRow (k := 4) rfl) _ hz75) ?_)
    rintro _ w78 ⟨rfl, hM2, hv76, hv77⟩
    obtain ⟨hM, hx79⟩ := hM.backA hM2
    clear hM2
    refine ⟨_, rfl, fun a hf => ?_⟩
    refine q_ hf rfl rfl rfl (e_move hf rfl) fun a hf => ?_
    refine q_ hf rfl rfl rfl (e_extract hf rfl rfl) fun a hf => ?_
    refine q_ hf rfl rfl rfl (e_extract hf rfl rfl) fun a hf => ?_
    refine q_ hf rfl rfl rfl (e_assign hf rfl) fun a hf => ?_
    refine q_ hf rfl rfl rfl (e_assign hf rfl) fun a hf => ?_
    refine pl_nil ?_
    refine then_n ?_
    refine wp_seq ?_
    obtain ⟨x83, h84, h⟩ := bind_some h
    refine seq_join (fun a w => ∃ (t81 : Bool), t81 = x83 ∧ Has 170 a [(3, vP b21 (0)), (4, vP b25 (0)), (5, vP b44 (0)), (6, vI (y35.2)), (9, vI (y67.1)), (10, vI (y67.2)), (84, .bool (t81))] ∧ Mem C w [.box b60 [vI (y51.1.Rows), vI (y51.1.Cols), vS (y51.1.Cells)] 27, .box b44 [vI (y35.1.Rows), vI (y35.1.Cols), vS (y35.1.Cells)] 27, .box b25 [vL A16 (y11.2.Words) c17] 45, .box b21 [vI (y11.1.Rows), vI (y11.1.Cols), vS (y11.1.Cells)] 27, .row strRep A16 c17 9 y11.2.Words true] [.dat (sliceRep byteRep) code1 [vL A2 code1 c3]]) ?_ ?_
    · obtain ⟨w85, hw⟩ : ∃ x, x = w78.drew := ⟨_, rfl⟩
      refine region_pi (.q 0 (.q 1 (.q 2 (.q 3 (.q 4 (.q 5 (.q 6 (.q 7 (.q 8 (.q 9 (.q 10 (.q 11 (.q 12 (.q 13 (.q 14 (.q 15 (.q 16 (.q 17 (.q 18 (.q 19 (.q 21 (.l 20 (.l 22 (.q 23 (.q 24 (.q 25 (.q 26 (.q 27 (.q 29 (.q 30 (.l 28 (.l 31 (.q 32 (.q 33 (.nil))))))))))))))))))))))))))))))))))) (Ext w85) rfl (by kernel_rfl) ?_
      have hM := hM.drew
      rw [← hw] at hM ⊢
      clear hw
      refine pi_q hf rfl rfl rfl rfl (Ext.refl _) (e_move hf rfl) fun a hf => ?_
      refine pi_q hf rfl rfl rfl rfl (Ext.refl _) (e_move hf rfl) fun a hf => ?_
      refine pi_q hf rfl rfl rfl rfl (Ext.refl _) (e_ne hf (x := y35.2) (y := y51.2) rfl rfl) fun a hf => ?_
      refine pi_q hf rfl rfl rfl rfl (Ext.refl _) (e_move hf rfl) fun a hf => ?_
      rcases cond_some h84 with ⟨hc86, h84⟩ | ⟨hc86, h84⟩
      · refine pi_gs hf rfl (wanted_f hf rfl rfl rfl rfl hc86) rfl rfl (Ext.refl _) fun a hf => ?_
        refine pi_gs hf rfl (wanted_f hf rfl rfl rfl rfl hc86) rfl rfl (Ext.refl _) fun a hf => ?_
        refine pi_gs hf rfl (wanted_f hf rfl rfl rfl rfl hc86) rfl rfl (Ext.refl _) fun a hf => ?_
        refine pi_q hf rfl rfl rfl rfl (Ext.refl _) (e_pick_t hf rfl hc86 rfl) fun a hf => ?_
        refine pi_q hf rfl rfl rfl rfl (Ext.refl _) (e_move hf rfl) fun a hf => ?_
        refine pi_gs hf rfl (wanted_f hf rfl rfl rfl rfl rfl) rfl rfl (Ext.refl _) fun a hf => ?_
        refine pi_gs hf rfl (wanted_f hf rfl rfl rfl rfl rfl) rfl rfl (Ext.refl _) fun a hf => ?_
        refine pi_gs hf rfl (wanted_f hf rfl rfl rfl rfl rfl) rfl rfl (Ext.refl _) fun a hf => ?_
        refine pi_q hf rfl rfl rfl rfl (Ext.refl _) (e_pick_t hf rfl rfl rfl) fun a hf => ?_
        refine pi_q hf rfl rfl rfl rfl (Ext.refl _) (e_move hf rfl) fun a hf => ?_
        refine pi_gs hf rfl (wanted_f hf rfl rfl rfl rfl rfl) rfl rfl (Ext.refl _) fun a hf => ?_
        refine pi_gs hf rfl (wanted_f hf rfl rfl rfl rfl rfl) rfl rfl (Ext.refl _) fun a hf => ?_
        refine pi_gs hf rfl (wanted_f hf rfl rfl rfl rfl rfl) rfl rfl (Ext.refl _) fun a hf => ?_
        refine pi_q hf rfl rfl rfl rfl (Ext.refl _) (e_pick_t hf rfl rfl rfl) fun a hf => ?_
        refine pi_q hf rfl rfl rfl rfl (Ext.refl _) (e_move hf rfl) fun a hf => ?_
        refine pi_gs hf rfl (wanted_f hf rfl rfl rfl rfl rfl) rfl rfl (Ext.refl _) fun a hf => ?_
        refine pi_gs hf rfl (wanted_f hf rfl rfl rfl rfl rfl) rfl rfl (Ext.refl _) fun a hf => ?_
        refine pi_one ?_
        refine pi_ls hf rfl (wanted_f hf rfl rfl rfl rfl rfl) rfl rfl (Ext.refl _) fun a hf => ?_
        refine pi_one ?_
        refine pi_ls hf rfl (wanted_f hf rfl rfl rfl rfl rfl) rfl rfl (Ext.refl _) fun a hf => ?_
        refine pi_gs hf rfl (wanted_f hf rfl rfl rfl rfl rfl) rfl rfl (Ext.refl _) fun a hf => ?_
        refine pi_q hf rfl rfl rfl rfl (Ext.refl _) (e_pick_t hf rfl rfl rfl) fun a hf => ?_
        refine pi_q hf rfl rfl rfl rfl (Ext.refl _) (e_move hf rfl) fun a hf => ?_
        refine pi_gs hf rfl (wanted_f hf rfl rfl rfl rfl rfl) rfl rfl (Ext.refl _) fun a hf => ?_
        refine pi_gs hf rfl (wanted_f hf rfl rfl rfl rfl rfl) rfl rfl (Ext.refl _) fun a hf => ?_
        refine pi_gs hf rfl (wanted_f hf rfl rfl rfl rfl rfl) rfl rfl (Ext.refl _) fun a hf => ?_
        refine pi_gs hf rfl (wanted_f hf rfl rfl rfl rfl rfl) rfl rfl (Ext.refl _) fun a hf => ?_
        refine pi_one ?_
        refine pi_ls hf rfl (wanted_f hf rfl rfl rfl rfl rfl) rfl rfl (Ext.refl _) fun a hf => ?_
        refine pi_one ?_
        refine pi_ls hf rfl (wanted_f hf rfl rfl rfl rfl rfl) rfl rfl (Ext.refl _) fun a hf => ?_
        refine pi_gs hf rfl (wanted_f hf rfl rfl rfl rfl rfl) rfl rfl (Ext.refl _) fun a hf => ?_
        refine pi_q hf rfl rfl rfl rfl (Ext.refl _) (e_pick_t hf rfl rfl rfl) fun a hf => ?_
        refine pi_nil ?_
        obtain rfl := some_inj h84
        refine then_n ?_
        exact ⟨true, rfl, hf.keep ⟨rfl, rfl, rfl, rfl, rfl, rfl, rfl, trivial⟩, hM.pick [0] rfl⟩
      · refine pi_gq hf rfl (wanted_t hf rfl rfl rfl rfl hc86) rfl rfl (Ext.refl _) (e_loadA hf (us := [vI (y35.1.Rows), vI (y35.1.Cols), vS (y35.1.Cells)]) rfl ⟨Try.isAgg27, Try.sizeOf27⟩ rfl (hM.boxSub (k := 1) (us := [vI (y35.1.Rows), vI (y35.1.Cols), vS (y35.1.Cells)]) (o := 0) rfl rfl)) fun a hf => ?_
        refine pi_gq hf rfl (wanted_t hf rfl rfl rfl rfl hc86) rfl rfl (Ext.refl _) (e_loadA hf (us := [vI (y51.1.Rows), vI (y51.1.Cols), vS (y51.1.Cells)]) rfl ⟨Try.isAgg27, Try.sizeOf27⟩ rfl (hM.boxSub (k := 0) (us := [vI (y51.1.Rows), vI (y51.1.Cols), vS (y51.1.Cells)]) (o := 0) rfl rfl)) fun a hf => ?_
        refine pi_gq hf rfl (wanted_t hf rfl rfl rfl rfl hc86) rfl rfl (Ext.refl _) (Grid_neq hf (x := y35.1) (y := y51.1) rfl rfl) fun a hf => ?_
        refine pi_q hf rfl rfl rfl rfl (Ext.refl _) (e_pick_f hf rfl hc86 rfl) fun a hf => ?_
        refine pi_q hf rfl rfl rfl rfl (Ext.refl _) (e_move hf rfl) fun a hf => ?_
        rcases cond_some h84 with ⟨hc88, h84⟩ | ⟨hc88, h84⟩
        · refine pi_gs hf rfl (wanted_f hf rfl rfl rfl rfl hc88) rfl rfl (Ext.refl _) fun a hf => ?_
          refine pi_gs hf rfl (wanted_f hf rfl rfl rfl rfl hc88) rfl rfl (Ext.refl _) fun a hf => ?_
          refine pi_gs hf rfl (wanted_f hf rfl rfl rfl rfl hc88) rfl rfl (Ext.refl _) fun a hf => ?_
          refine pi_q hf rfl rfl rfl rfl (Ext.refl _) (e_pick_t hf rfl hc88 rfl) fun a hf => ?_
          refine pi_q hf rfl rfl rfl rfl (Ext.refl _) (e_move hf rfl) fun a hf => ?_
          refine pi_gs hf rfl (wanted_f hf rfl rfl rfl rfl rfl) rfl rfl (Ext.refl _) fun a hf => ?_
          refine pi_gs hf rfl (wanted_f hf rfl rfl rfl rfl rfl) rfl rfl (Ext.refl _) fun a hf => ?_
          refine pi_gs hf rfl (wanted_f hf rfl rfl rfl rfl rfl) rfl rfl (Ext.refl _) fun a hf => ?_
          refine pi_q hf rfl rfl rfl rfl (Ext.refl _) (e_pick_t hf rfl rfl rfl) fun a hf => ?_
          refine pi_q hf rfl rfl rfl rfl (Ext.refl _) (e_move hf rfl) fun a hf => ?_
          refine pi_gs hf rfl (wanted_f hf rfl rfl rfl rfl rfl) rfl rfl (Ext.refl _) fun a hf => ?_
          refine pi_gs hf rfl (wanted_f hf rfl rfl rfl rfl rfl) rfl rfl (Ext.refl _) fun a hf => ?_
          refine pi_one ?_
          refine pi_ls hf rfl (wanted_f hf rfl rfl rfl rfl rfl) rfl rfl (Ext.refl _) fun a hf => ?_
          refine pi_one ?_
          refine pi_ls hf rfl (wanted_f hf rfl rfl rfl rfl rfl) rfl rfl (Ext.refl _) fun a hf => ?_
          refine pi_gs hf rfl (wanted_f hf rfl rfl rfl rfl rfl) rfl rfl (Ext.refl _) fun a hf => ?_
          refine pi_q hf rfl rfl rfl rfl (Ext.refl _) (e_pick_t hf rfl rfl rfl) fun a hf => ?_
          refine pi_q hf rfl rfl rfl rfl (Ext.refl _) (e_move hf rfl) fun a hf => ?_
          refine pi_gs hf rfl (wanted_f hf rfl rfl rfl rfl rfl) rfl rfl (Ext.refl _) fun a hf => ?_
          refine pi_gs hf rfl (wanted_f hf rfl rfl rfl rfl rfl) rfl rfl (Ext.refl _) fun a hf => ?_
          refine pi_gs hf rfl (wanted_f hf rfl rfl rfl rfl rfl) rfl rfl (Ext.refl _) fun a hf => ?_
          refine pi_gs hf rfl (wanted_f hf rfl rfl rfl rfl rfl) rfl rfl (Ext.refl _) fun a hf => ?_
          refine pi_one ?_
          refine pi_ls hf rfl (wanted_f hf rfl rfl rfl rfl rfl) rfl rfl (Ext.refl _) fun a hf => ?_
          refine pi_one ?_
          refine pi_ls hf rfl (wanted_f hf rfl rfl rfl rfl rfl) rfl rfl (Ext.refl _) fun a hf => ?_
          refine pi_gs hf rfl (wanted_f hf rfl rfl rfl rfl rfl) rfl rfl (Ext.refl _) fun a hf => ?_
          refine pi_q hf rfl rfl rfl rfl (Ext.refl _) (e_pick_t hf rfl rfl rfl) fun a hf => ?_
          refine pi_nil ?_
          obtain rfl := some_inj h84
          refine then_n ?_
          exact ⟨true, rfl, hf.keep ⟨rfl, rfl, rfl, rfl, rfl, rfl, rfl, trivial⟩, hM.pick [0] rfl⟩
        · refine pi_gq hf rfl (wanted_t hf rfl rfl rfl rfl hc88) rfl rfl (Ext.refl _) (e_move hf rfl) fun a hf => ?_
          refine pi_gq hf rfl (wanted_t hf rfl rfl rfl rfl hc88) rfl rfl (Ext.refl _) (e_move hf rfl) fun a hf => ?_
          refine pi_gq hf rfl (wanted_t hf rfl rfl rfl rfl hc88) rfl rfl (Ext.refl _) (e_ne hf (x := y67.2) (y := y74.2) rfl rfl) fun a hf => ?_
          refine pi_q hf rfl rfl rfl rfl (Ext.refl _) (e_pick_f hf rfl hc88 rfl) fun a hf => ?_
          refine pi_q hf rfl rfl rfl rfl (Ext.refl _) (e_move hf rfl) fun a hf => ?_
          rcases cond_some h84 with ⟨hc90, h84⟩ | ⟨hc90, h84⟩
          · refine pi_gs hf rfl (wanted_f hf rfl rfl rfl rfl hc90) rfl rfl (Ext.refl _) fun a hf => ?_
            refine pi_gs hf rfl (wanted_f hf rfl rfl rfl rfl hc90) rfl rfl (Ext.refl _) fun a hf => ?_
            refine pi_gs hf rfl (wanted_f hf rfl rfl rfl rfl hc90) rfl rfl (Ext.refl _) fun a hf => ?_
            refine pi_q hf rfl rfl rfl rfl (Ext.refl _) (e_pick_t hf rfl hc90 rfl) fun a hf => ?_
            refine pi_q hf rfl rfl rfl rfl (Ext.refl _) (e_move hf rfl) fun a hf => ?_
            refine pi_gs hf rfl (wanted_f hf rfl rfl rfl rfl rfl) rfl rfl (Ext.refl _) fun a hf => ?_
            refine pi_gs hf rfl (wanted_f hf rfl rfl rfl rfl rfl) rfl rfl (Ext.refl _) fun a hf => ?_
            refine pi_one ?_
            refine pi_ls hf rfl (wanted_f hf rfl rfl rfl rfl rfl) rfl rfl (Ext.refl _) fun a hf => ?_
            refine pi_one ?_
            refine pi_ls hf rfl (wanted_f hf rfl rfl rfl rfl rfl) rfl rfl (Ext.refl _) fun a hf => ?_
            refine pi_gs hf rfl (wanted_f hf rfl rfl rfl rfl rfl) rfl rfl (Ext.refl _) fun a hf => ?_
            refine pi_q hf rfl rfl rfl rfl (Ext.refl _) (e_pick_t hf rfl rfl rfl) fun a hf => ?_
            refine pi_q hf rfl rfl rfl rfl (Ext.refl _) (e_move hf rfl) fun a hf => ?_
            refine pi_gs hf rfl (wanted_f hf rfl rfl rfl rfl rfl) rfl rfl (Ext.refl _) fun a hf => ?_
            refine pi_gs hf rfl (wanted_f hf rfl rfl rfl rfl rfl) rfl rfl (Ext.refl _) fun a hf => ?_
            refine pi_gs hf rfl (wanted_f hf rfl rfl rfl rfl rfl) rfl rfl (Ext.refl _) fun a hf => ?_
            refine pi_gs hf rfl (wanted_f hf rfl rfl rfl rfl rfl) rfl rfl (Ext.refl _) fun a hf => ?_
            refine pi_one ?_
            refine pi_ls hf rfl (wanted_f hf rfl rfl rfl rfl rfl) rfl rfl (Ext.refl _) fun a hf => ?_
            refine pi_one ?_
            refine pi_ls hf rfl (wanted_f hf rfl rfl rfl rfl rfl) rfl rfl (Ext.refl _) fun a hf => ?_
            refine pi_gs hf rfl (wanted_f hf rfl rfl rfl rfl rfl) rfl rfl (Ext.refl _) fun a hf => ?_
            refine pi_q hf rfl rfl rfl rfl (Ext.refl _) (e_pick_t hf rfl rfl rfl) fun a hf => ?_
            refine pi_nil ?_
            obtain rfl := some_inj h84
            refine then_n ?_
            exact ⟨true, rfl, hf.keep ⟨rfl, rfl, rfl, rfl, rfl, rfl, rfl, trivial⟩, hM.pick [0] rfl⟩
          · refine pi_gq hf rfl (wanted_t hf rfl rfl rfl rfl hc90) rfl rfl (Ext.refl _) (e_move hf rfl) fun a hf => ?_
            refine pi_gq hf rfl (wanted_t hf rfl rfl rfl rfl hc90) rfl rfl (Ext.refl _) (e_move hf rfl) fun a hf => ?_
            refine pi_gq hf rfl (wanted_t hf rfl rfl rfl rfl hc90) rfl rfl (Ext.refl _) (e_ne hf (x := y67.1) (y := y74.1) rfl rfl) fun a hf => ?_
            refine pi_q hf rfl rfl rfl rfl (Ext.refl _) (e_pick_f hf rfl hc90 rfl) fun a hf => ?_
            refine pi_q hf rfl rfl rfl rfl (Ext.refl _) (e_move hf rfl) fun a hf => ?_
            rcases cond_some h84 with ⟨hc92, h84⟩ | ⟨hc92, h84⟩
            · refine pi_gs hf rfl (wanted_f hf rfl rfl rfl rfl hc92) rfl rfl (Ext.refl _) fun a hf => ?_
              refine pi_gs hf rfl (wanted_f hf rfl rfl rfl rfl hc92) rfl rfl (Ext.refl _) fun a hf => ?_
              refine pi_one ?_
              refine pi_ls hf rfl (wanted_f hf rfl rfl rfl rfl hc92) rfl rfl (Ext.refl _) fun a hf => ?_
              refine pi_one ?_
              refine pi_ls hf rfl (wanted_f hf rfl rfl rfl rfl hc92) rfl rfl (Ext.refl _) fun a hf => ?_
              refine pi_gs hf rfl (wanted_f hf rfl rfl rfl rfl hc92) rfl rfl (Ext.refl _) fun a hf => ?_
              refine pi_q hf rfl rfl rfl rfl (Ext.refl _) (e_pick_t hf rfl hc92 rfl) fun a hf => ?_
              refine pi_q hf rfl rfl rfl rfl (Ext.refl _) (e_move hf rfl) fun a hf => ?_
              refine pi_gs hf rfl (wanted_f hf rfl rfl rfl rfl rfl) rfl rfl (Ext.refl _) fun a hf => ?_
              refine pi_gs hf rfl (wanted_f hf rfl rfl rfl rfl rfl) rfl rfl (Ext.refl _) fun a hf => ?_
              refine pi_gs hf rfl (wanted_f hf rfl rfl rfl rfl rfl) rfl rfl (Ext.refl _) fun a hf => ?_
              refine pi_gs hf rfl (wanted_f hf rfl rfl rfl rfl rfl) rfl rfl (Ext.refl _) fun a hf => ?_
              refine pi_one ?_
              refine pi_ls hf rfl (wanted_f hf rfl rfl rfl rfl rfl) rfl rfl (Ext.refl _) fun a hf => ?_
              refine pi_one ?_
              refine pi_ls hf rfl (wanted_f hf rfl rfl rfl rfl rfl) rfl rfl (Ext.refl _) fun a hf => ?_
              refine pi_gs hf rfl (wanted_f hf rfl rfl rfl rfl rfl) rfl rfl (Ext.refl _) fun a hf => ?_
              refine pi_q hf rfl rfl rfl rfl (Ext.refl _) (e_pick_t hf rfl rfl rfl) fun a hf => ?_
              refine pi_nil ?_
              obtain rfl := some_inj h84
              refine then_n ?_
              exact ⟨true, rfl, hf.keep ⟨rfl, rfl, rfl, rfl, rfl, rfl, rfl, trivial⟩, hM.pick [0] rfl⟩
            · refine pi_gq hf rfl (wanted_t hf rfl rfl rfl rfl hc92) rfl rfl (Ext.refl _) (e_loadA hf (us := [vI (y11.1.Rows), vI (y11.1.Cols), vS (y11.1.Cells)]) rfl ⟨Try.isAgg27, Try.sizeOf27⟩ rfl (hM.boxSub (k := 3) (us := [vI (y11.1.Rows), vI (y11.1.Cols), vS (y11.1.Cells)]) (o := 0) rfl rfl)) fun a hf => ?_
              refine pi_gq hf rfl (wanted_t hf rfl rfl rfl rfl hc92) rfl rfl (Ext.refl _) (e_loadA hf (us := [vI (y11.1.Rows), vI (y11.1.Cols), vS (y11.1.Cells)]) rfl ⟨Try.isAgg27, Try.sizeOf27⟩ rfl (hM.boxSub (k := 3) (us := [vI (y11.1.Rows), vI (y11.1.Cols), vS (y11.1.Cells)]) (o := 0) rfl rfl)) fun a hf => ?_
              refine pi_one ?_
              obtain ⟨y94, hz95, h84⟩ := bind_some h84
              refine pi_gl hf rfl (wanted_t hf rfl rfl rfl rfl hc92) rfl rfl (w_call hf Try.call46 rfl (r_impl_ValidGrid ⟨_, Sh C _ _, none_, hM.sh_lt, none_not, C.G, hM.g_lt, g_none, hM.tabs⟩ y11.1 hv13 hv14 hv15 _ hz95) ?_)
              rintro _ w96 ⟨rfl, hM2⟩
              obtain ⟨hM, hx97, hup98⟩ := hM.back hM2
              dsimp only [List.cons_append, List.nil_append] at hM hup98
              clear hM2
              refine ⟨_, rfl, Ext w96, fun _ h => Ext.trans hx97 h, Ext.refl _, fun a hf => ?_⟩
              refine pi_one ?_
              obtain ⟨y99, hz100, h84⟩ := bind_some h84
              refine pi_gl hf rfl (wanted_t hf rfl rfl rfl rfl hc92) rfl rfl (w_call hf Try.call47 rfl (r_spec_ValidGrid ⟨_, Sh C _ _, none_, hM.sh_lt, none_not, C.G, hM.g_lt, g_none, hM.tabs⟩ y11.1 hv13 hv14 hv15 _ hz100) ?_)
              rintro _ w101 ⟨rfl, hM2⟩
              obtain ⟨hM, hx102, hup103⟩ := hM.back hM2
              dsimp only [List.cons_append, List.nil_append] at hM hup103
              clear hM2
              refine ⟨_, rfl, Ext w101, fun _ h => Ext.trans hx102 h, Ext.refl _, fun a hf => ?_⟩
              refine pi_gq hf rfl (wanted_t hf rfl rfl rfl rfl hc92) rfl rfl (Ext.refl _) (e_neT hf rfl rfl Try.underlying4) fun a hf => ?_
              refine pi_q hf rfl rfl rfl rfl (Ext.refl _) (e_pick_f hf rfl hc92 rfl) fun a hf => ?_
              refine pi_q hf rfl rfl rfl rfl (Ext.refl _) (e_move hf rfl) fun a hf => ?_
              rcases cond_some h84 with ⟨hc104, h84⟩ | ⟨hc104, h84⟩
              · refine pi_gs hf rfl (wanted_f hf rfl rfl rfl rfl hc104) rfl rfl (Ext.refl _) fun a hf => ?_
                refine pi_gs hf rfl (wanted_f hf rfl rfl rfl rfl hc104) rfl rfl (Ext.refl _) fun a hf => ?_
                refine pi_gs hf rfl (wanted_f hf rfl rfl rfl rfl hc104) rfl rfl (Ext.refl _) fun a hf => ?_
                refine pi_gs hf rfl (wanted_f hf rfl rfl rfl rfl hc104) rfl rfl (Ext.refl _) fun a hf => ?_
                refine pi_one ?_
                refine pi_ls hf rfl (wanted_f hf rfl rfl rfl rfl hc104) rfl rfl (Ext.refl _) fun a hf => ?_
                refine pi_one ?_
                refine pi_ls hf rfl (wanted_f hf rfl rfl rfl rfl hc104) rfl rfl (Ext.refl _) fun a hf => ?_
                refine pi_gs hf rfl (wanted_f hf rfl rfl rfl rfl hc104) rfl rfl (Ext.refl _) fun a hf => ?_
                refine pi_q hf rfl rfl rfl rfl (Ext.refl _) (e_pick_t hf rfl hc104 rfl) fun a hf => ?_
                refine pi_nil ?_
                obtain rfl := some_inj h84
                refine then_n ?_
                exact ⟨true, rfl, hf.keep ⟨rfl, rfl, rfl, rfl, rfl, rfl, rfl, trivial⟩, hM.pick [0] rfl⟩
              · refine pi_gq hf rfl (wanted_t hf rfl rfl rfl rfl hc104) rfl rfl (Ext.refl _) (e_loadA hf (us := [vI (y11.1.Rows), vI (y11.1.Cols), vS (y11.1.Cells)]) rfl ⟨Try.isAgg27, Try.sizeOf27⟩ rfl (hM.boxSub (k := 3) (us := [vI (y11.1.Rows), vI (y11.1.Cols), vS (y11.1.Cells)]) (o := 0) rfl rfl)) fun a hf => ?_
                refine pi_gq hf rfl (wanted_t hf rfl rfl rfl rfl hc104) rfl rfl (Ext.refl _) (e_loadA hf (us := [vL A16 (y11.2.Words) c17]) rfl ⟨Try.isAgg45, Try.sizeOf45⟩ rfl (hM.boxSub (k := 2) (us := [vL A16 (y11.2.Words) c17]) (o := 0) rfl rfl)) fun a hf => ?_
                refine pi_gq hf rfl (wanted_t hf rfl rfl rfl rfl hc104) rfl rfl (Ext.refl _) (e_loadA hf (us := [vI (y11.1.Rows), vI (y11.1.Cols), vS (y11.1.Cells)]) rfl ⟨Try.isAgg27, Try.sizeOf27⟩ rfl (hM.boxSub (k := 3) (us := [vI (y11.1.Rows), vI (y11.1.Cols), vS (y11.1.Cells)]) (o := 0) rfl rfl)) fun a hf => ?_
                refine pi_gq hf rfl (wanted_t hf rfl rfl rfl rfl hc104) rfl rfl (Ext.refl _) (e_loadA hf (us := [vL A16 (y11.2.Words) c17]) rfl ⟨Try.isAgg45, Try.sizeOf45⟩ rfl (hM.boxSub (k := 2) (us := [vL A16 (y11.2.Words) c17]) (o := 0) rfl rfl)) fun a hf => ?_
                refine pi_one ?_
                obtain ⟨y106, hz107, h84⟩ := bind_some h84
                refine pi_gl hf rfl (wanted_t hf rfl rfl rfl rfl hc104) rfl rfl (w_call hf Try.call27 rfl (r_impl_IsFilled ⟨_, All C _ _, none_, hM.all_lt, none_not, C.G, hM.g_lt, g_none, hM.tabs⟩ y11.1 hv13 hv14 hv15 y11.2 _ _ (hM.lendRow (k := 4) rfl) _ hz107) ?_)
                rintro _ w108 ⟨rfl, hM2⟩
                obtain ⟨hM, hx109⟩ := hM.backA hM2
                clear hM2
                refine ⟨_, rfl, Ext w108, fun _ h => Ext.trans hx109 h, Ext.refl _, fun a hf => ?_⟩
                refine pi_one ?_
                obtain ⟨y111, hz112, h84⟩ := bind_some h84
                refine pi_gl hf rfl (wanted_t hf rfl rfl rfl rfl hc104) rfl rfl (w_call hf Try.call25 rfl (r_spec_IsFilled ⟨_, All C _ _, none_, hM.all_lt, none_not, C.G, hM.g_lt, g_none, hM.tabs⟩ y11.1 hv13 hv14 hv15 y11.2 _ _ (hM.lendRow (k := 4) rfl) _ hz112) ?_)
                rintro _ w113 ⟨rfl, hM2⟩
                obtain ⟨hM, hx114⟩ := hM.backA hM2
                clear hM2
                refine ⟨_, rfl, Ext w113, fun _ h => Ext.trans hx114 h, Ext.refl _, fun a hf => ?_⟩
                refine pi_gq hf rfl (wanted_t hf rfl rfl rfl rfl hc104) rfl rfl (Ext.refl _) (e_neT hf rfl rfl Try.underlying4) fun a hf => ?_
                refine pi_q hf rfl rfl rfl rfl (Ext.refl _) (e_pick_f hf rfl hc104 rfl) fun a hf => ?_
                refine pi_nil ?_
                obtain rfl := some_inj h84
                refine then_n ?_
                exact ⟨(y106 != y111), rfl, hf.keep ⟨rfl, rfl, rfl, rfl, rfl, rfl, rfl, trivial⟩, hM.pick [0] rfl⟩
    · rintro a w117 ⟨t81, rfl, hf, hM⟩
      try dsimp only at h
      rcases cond_some h with ⟨hc118, h⟩ | ⟨hc118, h⟩
      · refine cond_t hf rfl hc118 ?_
        refine wp_seq ?_
        refine region_pl ?_
        refine q_ hf rfl rfl rfl (e_assign hf rfl) fun a hf => ?_
        refine pl_nil ?_
        refine then_n ?_
        refine wp_ret ?_
        refine then_r ?_
        obtain rfl := some_inj h
        have hM := hM.outs (own' := []) 0 rfl
        exact leave1 hf rfl rfl ⟨rfl, hM.fin⟩
      · refine cond_f hf rfl hc118 ?_
        refine wp_skip ?_
        refine then_n ?_
        refine wp_seq ?_
        obtain ⟨x121, h122, h⟩ := bind_some h
        refine seq_join (fun a w => ∃ (t119 : Bool), t119 = x121 ∧ Has 170 a [(3, vP b21 (0)), (4, vP b25 (0)), (5, vP b44 (0)), (6, vI (y35.2)), (9, vI (y67.1)), (10, vI (y67.2)), (101, .bool (t119))] ∧ Mem C w [.box b60 [vI (y51.1.Rows), vI (y51.1.Cols), vS (y51.1.Cells)] 27, .box b44 [vI (y35.1.Rows), vI (y35.1.Cols), vS (y35.1.Cells)] 27, .box b25 [vL A16 (y11.2.Words) c17] 45, .box b21 [vI (y11.1.Rows), vI (y11.1.Cols), vS (y11.1.Cells)] 27, .row strRep A16 c17 9 y11.2.Words true] [.dat (sliceRep byteRep) code1 [vL A2 code1 c3]]) ?_ ?_
        · refine region_pl ?_
          refine q_ hf rfl rfl rfl (e_move hf rfl) fun a hf => ?_
          refine q_ hf rfl rfl rfl (e_eq hf (x := y67.2) (y := 0) rfl rfl) fun a hf => ?_
          refine q_ hf rfl rfl rfl (e_move hf rfl) fun a hf => ?_
          rcases cond_some h122 with ⟨hc123, h122⟩ | ⟨hc123, h122⟩
          · refine gq (wanted_t hf rfl rfl rfl rfl hc123) hf rfl rfl (e_move hf rfl) fun a hf => ?_
            refine gq (wanted_t hf rfl rfl rfl rfl hc123) hf rfl rfl (e_gt hf (x := y67.1) (y := 0) rfl rfl) fun a hf => ?_
            refine gq (wanted_t hf rfl rfl rfl rfl hc123) hf rfl rfl (e_move hf rfl) fun a hf => ?_
            refine gq (wanted_t hf rfl rfl rfl rfl hc123) hf rfl rfl (e_eq hf (x := y35.2) (y := 0) rfl rfl) fun a hf => ?_
            refine gq (wanted_t hf rfl rfl rfl rfl hc123) hf rfl rfl (e_neT hf rfl rfl Try.underlying4) fun a hf => ?_
            refine q_ hf rfl rfl rfl (e_pick_t hf rfl hc123 rfl) fun a hf => ?_
            refine q_ hf rfl rfl rfl (e_move hf rfl) fun a hf => ?_
            rcases cond_some h122 with ⟨hc124, h122⟩ | ⟨hc124, h122⟩
            · refine pl_gs (wanted_f hf rfl rfl rfl rfl hc124) hf rfl rfl fun a hf => ?_
              refine pl_gs (wanted_f hf rfl rfl rfl rfl hc124) hf rfl rfl fun a hf => ?_
              refine pl_gs (wanted_f hf rfl rfl rfl rfl hc124) hf rfl rfl fun a hf => ?_
              refine pl_gs (wanted_u hf rfl rfl rfl rfl) hf rfl rfl fun a hf => ?_
              refine pl_gs (wanted_u hf rfl rfl rfl rfl) hf rfl rfl fun a hf => ?_
              refine pl_gs (wanted_f hf rfl rfl rfl rfl hc124) hf rfl rfl fun a hf => ?_
              refine q_ hf rfl rfl rfl (e_pick_t hf rfl hc124 rfl) fun a hf => ?_
              refine pl_nil ?_
              obtain rfl := some_inj h122
              refine then_n ?_
              exact ⟨true, rfl, hf.keep ⟨rfl, rfl, rfl, rfl, rfl, rfl, rfl, trivial⟩, hM.pick [0] rfl⟩
            · refine gq (wanted_t hf rfl rfl rfl rfl hc124) hf rfl rfl (e_move hf rfl) fun a hf => ?_
              refine gq (wanted_t hf rfl rfl rfl rfl hc124) hf rfl rfl (e_eq hf (x := y35.2) (y := 3) rfl rfl) fun a hf => ?_
              refine gq (wanted_t hf rfl rfl rfl rfl hc124) hf rfl rfl (e_move hf rfl) fun a hf => ?_
              rcases cond_some h122 with ⟨hc126, h122⟩ | ⟨hc126, h122⟩
              · refine gq (wanted_t hf rfl rfl rfl rfl hc126) hf rfl rfl (e_move hf rfl) fun a hf => ?_
                refine gq (wanted_t hf rfl rfl rfl rfl hc126) hf rfl rfl (e_ne hf (x := y67.1) (y := 0) rfl rfl) fun a hf => ?_
                refine gq (wanted_t hf rfl rfl rfl rfl hc124) hf rfl rfl (e_pick_t hf rfl hc126 rfl) fun a hf => ?_
                refine q_ hf rfl rfl rfl (e_pick_f hf rfl hc124 rfl) fun a hf => ?_
                refine pl_nil ?_
                obtain rfl := some_inj h122
                refine then_n ?_
                exact ⟨(y67.1 != 0), rfl, hf.keep ⟨rfl, rfl, rfl, rfl, rfl, rfl, rfl, trivial⟩, hM.pick [0] rfl⟩
              · refine pl_gs (wanted_f hf rfl rfl rfl rfl hc126) hf rfl rfl fun a hf => ?_
                refine pl_gs (wanted_f hf rfl rfl rfl rfl hc126) hf rfl rfl fun a hf => ?_
                refine gq (wanted_t hf rfl rfl rfl rfl hc124) hf rfl rfl (e_pick_f hf rfl hc126 rfl) fun a hf => ?_
                refine q_ hf rfl rfl rfl (e_pick_f hf rfl hc124 rfl) fun a hf => ?_
                refine pl_nil ?_
                obtain rfl := some_inj h122
                refine then_n ?_
                exact ⟨false, rfl, hf.keep ⟨rfl, rfl, rfl, rfl, rfl, rfl, rfl, trivial⟩, hM.pick [0] rfl⟩
          · refine pl_gs (wanted_f hf rfl rfl rfl rfl hc123) hf rfl rfl fun a hf => ?_
            refine pl_gs (wanted_f hf rfl rfl rfl rfl hc123) hf rfl rfl fun a hf => ?_
            refine pl_gs (wanted_f hf rfl rfl rfl rfl hc123) hf rfl rfl fun a hf => ?_
            refine pl_gs (wanted_f hf rfl rfl rfl rfl hc123) hf rfl rfl fun a hf => ?_
            refine pl_gs (wanted_f hf rfl rfl rfl rfl hc123) hf rfl rfl fun a hf => ?_
            refine q_ hf rfl rfl rfl (e_pick_f hf rfl hc123 rfl) fun a hf => ?_
            refine q_ hf rfl rfl rfl (e_move hf rfl) fun a hf => ?_
            refine gq (wanted_t hf rfl rfl rfl rfl rfl) hf rfl rfl (e_move hf rfl) fun a hf => ?_
            refine gq (wanted_t hf rfl rfl rfl rfl rfl) hf rfl rfl (e_eq hf (x := y35.2) (y := 3) rfl rfl) fun a hf => ?_
            refine gq (wanted_t hf rfl rfl rfl rfl rfl) hf rfl rfl (e_move hf rfl) fun a hf => ?_
            rcases cond_some h122 with ⟨hc129, h122⟩ | ⟨hc129, h122⟩
            · refine gq (wanted_t hf rfl rfl rfl rfl hc129) hf rfl rfl (e_move hf rfl) fun a hf => ?_
              refine gq (wanted_t hf rfl rfl rfl rfl hc129) hf rfl rfl (e_ne hf (x := y67.1) (y := 0) rfl rfl) fun a hf => ?_
              refine gq (wanted_t hf rfl rfl rfl rfl rfl) hf rfl rfl (e_pick_t hf rfl hc129 rfl) fun a hf => ?_
              refine q_ hf rfl rfl rfl (e_pick_f hf rfl rfl rfl) fun a hf => ?_
              refine pl_nil ?_
              obtain rfl := some_inj h122
              refine then_n ?_
              exact ⟨(y67.1 != 0), rfl, hf.keep ⟨rfl, rfl, rfl, rfl, rfl, rfl, rfl, trivial⟩, hM.pick [0] rfl⟩
            · refine pl_gs (wanted_f hf rfl rfl rfl rfl hc129) hf rfl rfl fun a hf => ?_
              refine pl_gs (wanted_f hf rfl rfl rfl rfl hc129) hf rfl rfl fun a hf => ?_
              refine gq (wanted_t hf rfl rfl rfl rfl rfl) hf rfl rfl (e_pick_f hf rfl hc129 rfl) fun a hf => ?_
              refine q_ hf rfl rfl rfl (e_pick_f hf rfl rfl rfl) fun a hf => ?_
              refine pl_nil ?_
              obtain rfl := some_inj h122
              refine then_n ?_
              exact ⟨false, rfl, hf.keep ⟨rfl, rfl, rfl, rfl, rfl, rfl, rfl, trivial⟩, hM.pick [0] rfl⟩
        · rintro a w132 ⟨t119, rfl, hf, hM⟩
          try dsimp only at h
          rcases cond_some h with ⟨hc133, h⟩ | ⟨hc133, h⟩
          · refine cond_t hf rfl hc133 ?_
            refine wp_seq ?_
            refine region_pl ?_
            refine q_ hf rfl rfl rfl (e_assign hf rfl) fun a hf => ?_
            refine pl_nil ?_
            refine then_n ?_
            refine wp_ret ?_
            refine then_r ?_
            obtain rfl := some_inj h
            have hM := hM.outs (own' := []) 0 rfl
            exact leave1 hf rfl rfl ⟨rfl, hM.fin⟩
          · refine cond_f hf rfl hc133 ?_
            refine wp_skip ?_
            refine then_n ?_
            refine wp_seq ?_
            refine wp_seq ?_
            refine region_pl ?_
            refine q_ hf rfl rfl rfl (e_move hf rfl) fun a hf => ?_
            refine q_ hf rfl rfl rfl (e_ne hf (x := y35.2) (y := 0) rfl rfl) fun a hf => ?_
            refine pl_nil ?_
            refine then_n ?_
            rcases cond_some h with ⟨hc134, h⟩ | ⟨hc134, h⟩
            · refine cond_t hf rfl hc134 ?_
              refine wp_seq ?_
              refine region_pl ?_
              refine q_ hf rfl rfl rfl (e_assign hf rfl) fun a hf => ?_
              refine pl_nil ?_
              refine then_n ?_
              refine wp_ret ?_
              refine then_r ?_
              obtain rfl := some_inj h
              have hM := hM.outs (own' := []) 0 rfl
              exact leave1 hf rfl rfl ⟨rfl, hM.fin⟩
            · refine cond_f hf rfl hc134 ?_
              refine wp_skip ?_
              refine then_n ?_
              obtain ⟨x135, h136, h⟩ := bind_some h
              refine seq_join (fun a w => (.inl ()) = x135 ∧ Has 170 a [(3, vP b21 (0)), (4, vP b25 (0)), (5, vP b44 (0)), (9, vI (y67.1)), (10, vI (y67.2))] ∧ Mem C w [.box b60 [vI (y51.1.Rows), vI (y51.1.Cols), vS (y51.1.Cells)] 27, .box b44 [vI (y35.1.Rows), vI (y35.1.Cols), vS (y35.1.Cells)] 27, .box b25 [vL A16 (y11.2.Words) c17] 45, .box b21 [vI (y11.1.Rows), vI (y11.1.Cols), vS (y11.1.Cells)] 27, .row strRep A16 c17 9 y11.2.Words true] [.dat (sliceRep byteRep) code1 [vL A2 code1 c3]]) ?_ ?_
              · refine wp_seq ?_
                refine region_pl ?_
                refine q_ hf rfl rfl rfl (e_assign hf rfl) fun a hf => ?_
                refine pl_nil ?_
                refine then_n ?_
                refine wp_block ?_
                obtain ⟨x140, h141, h136⟩ := bind_some h136
                refine wp_loopM h141 (fun s a w => ∃ (u137 : Int), u137 = s ∧ Has 170 a [(3, vP b21 (0)), (4, vP b25 (0)), (5, vP b44 (0)), (9, vI (y67.1)), (10, vI (y67.2)), (13, vI (u137))] ∧ Mem C w [.box b60 [vI (y51.1.Rows), vI (y51.1.Cols), vS (y51.1.Cells)] 27, .box b44 [vI (y35.1.Rows), vI (y35.1.Cols), vS (y35.1.Cells)] 27, .box b25 [vL A16 (y11.2.Words) c17] 45, .box b21 [vI (y11.1.Rows), vI (y11.1.Cols), vS (y11.1.Cells)] 27, .row strRep A16 c17 9 y11.2.Words true] [.dat (sliceRep byteRep) code1 [vL A2 code1 c3]] ∧ R64 u137) ?_ ?_
                · exact ⟨0, rfl, hf.keep ⟨rfl, rfl, rfl, rfl, rfl, rfl, trivial⟩, hM.pick [0] rfl, (R64_lit rfl)⟩
                · rintro s o142 a w139 ⟨u137, rfl, hf, hM, hv138⟩ h143 hd144
                  replace h143 : m_laws_FnFillings_l1 y11 y35 u137 = some o142 := h143
                  unfold m_laws_FnFillings_l1 at h143
                  refine wp_seq ?_
                  refine wp_seq ?_
                  refine region_pl ?_
                  refine q_ hf rfl rfl rfl (e_move hf rfl) fun a hf => ?_
                  refine q_ hf rfl rfl rfl (e_field hf rfl Try.underlying27 rfl Try.sizeOf9 (o' := 2) rfl) fun a hf => ?_
                  refine q_ hf rfl rfl rfl (e_load1 hf rfl Try.isAgg9 (hM.boxCell (k := 3) rfl rfl)) fun a hf => ?_
                  refine q_ hf rfl rfl rfl (e_lenS hf (x := y11.1.Cells) rfl Try.underlying9) fun a hf => ?_
                  refine q_ hf rfl rfl rfl (e_lt hf (x := u137) (y := (y11.1.Cells.length : Int)) rfl rfl) fun a hf => ?_
                  refine pl_nil ?_
                  refine then_n ?_
                  rcases cond_some h143 with ⟨hc145, h143⟩ | ⟨hc145, h143⟩
                  · refine cond_t hf rfl hc145 ?_
                    refine wp_skip ?_
                    refine then_n ?_
                    refine wp_seq ?_
                    refine wp_block ?_
                    obtain ⟨x148, h149, h143⟩ := bind_some h143
                    refine seq_join (fun a w => ∃ (t146 : Bool), t146 = x148 ∧ Has 170 a [(3, vP b21 (0)), (4, vP b25 (0)), (5, vP b44 (0)), (9, vI (y67.1)), (10, vI (y67.2)), (13, vI (u137)), (126, .bool (t146))] ∧ Mem C w [.box b60 [vI (y51.1.Rows), vI (y51.1.Cols), vS (y51.1.Cells)] 27, .box b44 [vI (y35.1.Rows), vI (y35.1.Cols), vS (y35.1.Cells)] 27, .box b25 [vL A16 (y11.2.Words) c17] 45, .box b21 [vI (y11.1.Rows), vI (y11.1.Cols), vS (y11.1.Cells)] 27, .row strRep A16 c17 9 y11.2.Words true] [.dat (sliceRep byteRep) code1 [vL A2 code1 c3]]) ?_ ?_
                    · obtain ⟨w150, hw⟩ : ∃ x, x = w139.drew := ⟨_, rfl⟩
                      refine region_pi (.q 0 (.q 1 (.q 2 (.q 3 (.q 4 (.q 5 (.q 6 (.q 7 (.q 8 (.q 9 (.q 10 (.q 11 (.q 12 (.q 13 (.q 14 (.q 15 (.nil))))))))))))))))) (Ext w150) rfl (by kernel_rfl) ?_
                      have hM := hM.drew
                      rw [← hw] at hM ⊢
                      clear hw
                      refine pi_q hf rfl rfl rfl rfl (Ext.refl _) (e_field hf rfl Try.underlying27 rfl Try.sizeOf9 (o' := 2) rfl) fun a hf => ?_
                      refine pi_q hf rfl rfl rfl rfl (Ext.refl _) (e_load1 hf rfl Try.isAgg9 (hM.boxCell (k := 3) rfl rfl)) fun a hf => ?_
                      refine pi_q hf rfl rfl rfl rfl (Ext.refl _) (e_move hf rfl) fun a hf => ?_
                      obtain ⟨c151, hz152, h149⟩ := bind_some h149
                      refine pi_q hf rfl rfl rfl rfl (Ext.refl _) (e_indexS hf (x := y11.1.Cells) rfl rfl Try.underlying9 hz152) fun a hf => ?_
                      refine pi_q hf rfl rfl rfl rfl (Ext.refl _) (e_neB hf (x := c151) (y := 46) rfl rfl) fun a hf => ?_
                      refine pi_q hf rfl rfl rfl rfl (Ext.refl _) (e_move hf rfl) fun a hf => ?_
                      rcases cond_some h149 with ⟨hc153, h149⟩ | ⟨hc153, h149⟩
                      · refine pi_gq hf rfl (wanted_t hf rfl rfl rfl rfl hc153) rfl rfl (Ext.refl _) (e_field hf rfl Try.underlying27 rfl Try.sizeOf9 (o' := 2) rfl) fun a hf => ?_
                        refine pi_gq hf rfl (wanted_t hf rfl rfl rfl rfl hc153) rfl rfl (Ext.refl _) (e_load1 hf rfl Try.isAgg9 (hM.boxCell (k := 1) rfl rfl)) fun a hf => ?_
                        refine pi_gq hf rfl (wanted_t hf rfl rfl rfl rfl hc153) rfl rfl (Ext.refl _) (e_move hf rfl) fun a hf => ?_
                        obtain ⟨c154, hz155, h149⟩ := bind_some h149
                        refine pi_gq hf rfl (wanted_t hf rfl rfl rfl rfl hc153) rfl rfl (Ext.refl _) (e_indexS hf (x := y35.1.Cells) rfl rfl Try.underlying9 hz155) fun a hf => ?_
                        refine pi_gq hf rfl (wanted_t hf rfl rfl rfl rfl hc153) rfl rfl (Ext.refl _) (e_field hf rfl Try.underlying27 rfl Try.sizeOf9 (o' := 2) rfl) fun a hf => ?_
                        refine pi_gq hf rfl (wanted_t hf rfl rfl rfl rfl hc153) rfl rfl (Ext.refl _) (e_load1 hf rfl Try.isAgg9 (hM.boxCell (k := 3) rfl rfl)) fun a hf => ?_
                        refine pi_gq hf rfl (wanted_t hf rfl rfl rfl rfl hc153) rfl rfl (Ext.refl _) (e_move hf rfl) fun a hf => ?_
                        obtain ⟨c156, hz157, h149⟩ := bind_some h149
                        refine pi_gq hf rfl (wanted_t hf rfl rfl rfl rfl hc153) rfl rfl (Ext.refl _) (e_indexS hf (x := y11.1.Cells) rfl rfl Try.underlying9 hz157) fun a hf => ?_
                        refine pi_gq hf rfl (wanted_t hf rfl rfl rfl rfl hc153) rfl rfl (Ext.refl _) (e_neB hf (x := c154) (y := c156) rfl rfl) fun a hf => ?_
                        refine pi_q hf rfl rfl rfl rfl (Ext.refl _) (e_pick_t hf rfl hc153 rfl) fun a hf => ?_
                        refine pi_nil ?_
                        obtain rfl := some_inj h149
                        refine then_n ?_
                        exact ⟨(c154 != c156), rfl, hf.keep ⟨rfl, rfl, rfl, rfl, rfl, rfl, rfl, trivial⟩, hM.pick [0] rfl⟩
                      · refine pi_gs hf rfl (wanted_f hf rfl rfl rfl rfl hc153) rfl rfl (Ext.refl _) fun a hf => ?_
                        refine pi_gs hf rfl (wanted_f hf rfl rfl rfl rfl hc153) rfl rfl (Ext.refl _) fun a hf => ?_
                        refine pi_gs hf rfl (wanted_f hf rfl rfl rfl rfl hc153) rfl rfl (Ext.refl _) fun a hf => ?_
                        refine pi_gs hf rfl (wanted_f hf rfl rfl rfl rfl hc153) rfl rfl (Ext.refl _) fun a hf => ?_
                        refine pi_gs hf rfl (wanted_f hf rfl rfl rfl rfl hc153) rfl rfl (Ext.refl _) fun a hf => ?_
                        refine pi_gs hf rfl (wanted_f hf rfl rfl rfl rfl hc153) rfl rfl (Ext.refl _) fun a hf => ?_
                        refine pi_gs hf rfl (wanted_f hf rfl rfl rfl rfl hc153) rfl rfl (Ext.refl _) fun a hf => ?_
                        refine pi_gs hf rfl (wanted_f hf rfl rfl rfl rfl hc153) rfl rfl (Ext.refl _) fun a hf => ?_
                        refine pi_gs hf rfl (wanted_f hf rfl rfl rfl rfl hc153) rfl rfl (Ext.refl _) fun a hf => ?_
                        refine pi_q hf rfl rfl rfl rfl (Ext.refl _) (e_pick_f hf rfl hc153 rfl) fun a hf => ?_
                        refine pi_nil ?_
                        obtain rfl := some_inj h149
                        refine then_n ?_
                        exact ⟨false, rfl, hf.keep ⟨rfl, rfl, rfl, rfl, rfl, rfl, rfl, trivial⟩, hM.pick [0] rfl⟩
                    · rintro a w160 ⟨t146, rfl, hf, hM⟩
                      try dsimp only at h143
                      rcases cond_some h143 with ⟨hc161, h143⟩ | ⟨hc161, h143⟩
                      · refine cond_t hf rfl hc161 ?_
                        refine wp_seq ?_
                        refine region_pl ?_
                        refine q_ hf rfl rfl rfl (e_assign hf rfl) fun a hf => ?_
                        refine pl_nil ?_
                        refine then_n ?_
                        refine wp_ret ?_
                        refine blk_r ?_
                        refine then_r ?_
                        obtain rfl := some_inj h143
                        obtain rfl := hd144 _ rfl
                        try dsimp only at h136
                        refine then_r ?_
                        refine blk_r ?_
                        obtain rfl := some_inj h136
                        try dsimp only at h
                        refine then_r ?_
                        obtain rfl := some_inj h
                        have hM := hM.outs (own' := []) 0 rfl
                        exact leave1 hf rfl rfl ⟨rfl, hM.fin⟩
                      · refine cond_f hf rfl hc161 ?_
                        refine wp_skip ?_
                        refine blk_n ?_
                        refine then_n ?_
                        refine region_pl ?_
                        refine q_ hf rfl rfl rfl (e_move hf rfl) fun a hf => ?_
                        obtain ⟨z162, hz163, h143⟩ := bind_some h143
                        refine q_ hf rfl rfl rfl (e_add hf rfl rfl hz163) fun a hf => ?_
                        refine q_ hf rfl rfl rfl (e_assign hf rfl) fun a hf => ?_
                        refine pl_nil ?_
                        obtain rfl := some_inj h143
                        refine then_n ⟨_, rfl, ?_⟩
                        exact ⟨z162, rfl, hf.keep ⟨rfl, rfl, rfl, rfl, rfl, rfl, trivial⟩, hM.pick [0] rfl, (chk_R hz163)⟩
                  · refine cond_f hf rfl hc145 ?_
                    refine wp_exit ?_
                    refine then_x ?_
                    obtain rfl := some_inj h143
                    obtain rfl := hd144 _ rfl
                    try dsimp only at h136
                    refine then_x ?_
                    refine exit_hit ?_
                    obtain rfl := some_inj h136
                    refine then_n ?_
                    exact ⟨rfl, hf.keep ⟨rfl, rfl, rfl, rfl, rfl, trivial⟩, hM.pick [0] rfl⟩
              · rintro a w170 ⟨rfl, hf, hM⟩
                try dsimp only at h
                refine wp_seq ?_
                refine region_pl ?_
                refine q_ hf rfl rfl rfl (e_loadA hf (us := [vI (y11.1.Rows), vI (y11.1.Cols), vS (y11.1.Cells)]) rfl ⟨Try.isAgg27, Try.sizeOf27⟩ rfl (hM.boxSub (k := 3) (us := [vI (y11.1.Rows), vI (y11.1.Cols), vS (y11.1.Cells)]) (o := 0) rfl rfl)) fun a hf => ?_
                obtain ⟨y171, hz172, h⟩ := bind_some h
                refine pl_l hf rfl rfl rfl (w_call hf Try.call48 rfl (r_impl_TurnGrid ⟨_, Sh C _ _, none_, hM.sh_lt, none_not, C.G, hM.g_lt, g_none, hM.tabs⟩ y11.1 hv13 hv14 hv15 _ hz172) ?_)
                rintro _ w177 ⟨rfl, hM2, hv173, hv174, hv175, hv176⟩
                obtain ⟨hM, hx178, hup179⟩ := hM.back hM2
                dsimp only [List.cons_append, List.nil_append] at hM hup179
                clear hM2
                refine ⟨_, rfl, fun a hf => ?_⟩
                refine q_ hf rfl rfl rfl (e_move hf rfl) fun a hf => ?_
                refine q_ hf rfl rfl rfl (e_extract hf rfl rfl) fun a hf => ?_
                refine q_ hf rfl rfl rfl (e_extract hf rfl rfl) fun a hf => ?_
                refine pl_l hf rfl rfl rfl (w_alloc hM (cs := [vI (0), vI (0), vS (([] : Str))]) Try.zeroValue27 rfl fun b180 w181 hx182 hM a hf => ?_)
                refine pl_0 hf rfl rfl (w_store hf hM (us := [vI (y171.1.Rows), vI (y171.1.Cols), vS (y171.1.Cells)]) (cs' := [vI (y171.1.Rows), vI (y171.1.Cols), vS (y171.1.Cells)]) rfl rfl (k := 0) rfl rfl Try.sizeOf27 rfl rfl rfl fun w184 hM => ?_)
                dsimp only [List.set] at hM
                refine q_ hf rfl rfl rfl (e_assign hf rfl) fun a hf => ?_
                refine pl_nil ?_
                refine then_n ?_
                refine wp_seq ?_
                refine region_pl ?_
                refine q_ hf rfl rfl rfl (e_loadA hf (us := [vI (y171.1.Rows), vI (y171.1.Cols), vS (y171.1.Cells)]) rfl ⟨Try.isAgg27, Try.sizeOf27⟩ rfl (hM.boxSub (k := 0) (us := [vI (y171.1.Rows), vI (y171.1.Cols), vS (y171.1.Cells)]) (o := 0) rfl rfl)) fun a hf => ?_
                refine q_ hf rfl rfl rfl (e_loadA hf (us := [vL A16 (y11.2.Words) c17]) rfl ⟨Try.isAgg45, Try.sizeOf45⟩ rfl (hM.boxSub (k := 3) (us := [vL A16 (y11.2.Words) c17]) (o := 0) rfl rfl)) fun a hf => ?_
                obtain ⟨y187, hz188, h⟩ := bind_some h
                refine pl_l hf rfl rfl rfl (w_call hf Try.call36 rfl (r_impl_CountFillings ⟨_, All C _ _, none_, hM.all_lt, none_not, C.G, hM.g_lt, g_none, hM.tabs⟩ y171.1 hv173 hv174 hv175 y11.2 _ _ (hM.lendRow (k := 5) rfl) _ hz188) ?_)
                rintro _ w191 ⟨rfl, hM2, hv189, hv190⟩
                obtain ⟨hM, hx192⟩ := hM.backA hM2
                clear hM2
                refine ⟨_, rfl, fun a hf => ?_⟩
                refine q_ hf rfl rfl rfl (e_move hf rfl) fun a hf => ?_
                refine q_ hf rfl rfl rfl (e_extract hf rfl rfl) fun a hf => ?_
                refine q_ hf rfl rfl rfl (e_extract hf rfl rfl) fun a hf => ?_
                refine q_ hf rfl rfl rfl (e_assign hf rfl) fun a hf => ?_
                refine q_ hf rfl rfl rfl (e_assign hf rfl) fun a hf => ?_
                refine pl_nil ?_
                refine then_n ?_
                refine wp_seq ?_
                refine region_pl ?_
                refine q_ hf rfl rfl rfl (e_loadA hf (us := [vI (y35.1.Rows), vI (y35.1.Cols), vS (y35.1.Cells)]) rfl ⟨Try.isAgg27, Try.sizeOf27⟩ rfl (hM.boxSub (k := 2) (us := [vI (y35.1.Rows), vI (y35.1.Cols), vS (y35.1.Cells)]) (o := 0) rfl rfl)) fun a hf => ?_
                refine q_ hf rfl rfl rfl (e_loadA hf (us := [vL A16 (y11.2.Words) c17]) rfl ⟨Try.isAgg45, Try.sizeOf45⟩ rfl (hM.boxSub (k := 3) (us := [vL A16 (y11.2.Words) c17]) (o := 0) rfl rfl)) fun a hf => ?_
                obtain ⟨y194, hz195, h⟩ := bind_some h
                refine pl_l hf rfl rfl rfl (w_call hf Try.call38 rfl (r_impl_FillGrid ⟨_, All C _ _, none_, hM.all_lt, none_not, C.G, hM.g_lt, g_none, hM.tabs⟩ y35.1 hv37 hv38 hv39 y11.2 _ _ (hM.lendRow (k := 5) rfl) _ hz195) ?_)
                rintro _ w200 ⟨rfl, hM2, hv196, hv197, hv198, hv199⟩
                obtain ⟨hM, hx201⟩ := hM.backA hM2
                clear hM2
                refine ⟨_, rfl, fun a hf => ?_⟩
                refine q_ hf rfl rfl rfl (e_move hf rfl) fun a hf => ?_
                refine q_ hf rfl rfl rfl (e_extract hf rfl rfl) fun a hf => ?_
                refine q_ hf rfl rfl rfl (e_extract hf rfl rfl) fun a hf => ?_
                refine pl_l hf rfl rfl rfl (w_alloc hM (cs := [vI (0), vI (0), vS (([] : Str))]) Try.zeroValue27 rfl fun b203 w204 hx205 hM a hf => ?_)
                refine pl_0 hf rfl rfl (w_store hf hM (us := [vI (y194.1.Rows), vI (y194.1.Cols), vS (y194.1.Cells)]) (cs' := [vI (y194.1.Rows), vI (y194.1.Cols), vS (y194.1.Cells)]) rfl rfl (k := 0) rfl rfl Try.sizeOf27 rfl rfl rfl fun w207 hM => ?_)
                dsimp only [List.set] at hM
                refine q_ hf rfl rfl rfl (e_assign hf rfl) fun a hf => ?_
                refine pl_nil ?_
                refine then_n ?_
                obtain ⟨x212, h213, h⟩ := bind_some h
                refine seq_join (fun a w => ∃ (g210 : Bool), g210 = x212 ∧ Has 170 a [(2, .bool (g210))] ∧ Mem C w [.box b203 [vI (y194.1.Rows), vI (y194.1.Cols), vS (y194.1.Cells)] 27, .box b180 [vI (y171.1.Rows), vI (y171.1.Cols), vS (y171.1.Cells)] 27, .box b60 [vI (y51.1.Rows), vI (y51.1.Cols), vS (y51.1.Cells)] 27, .box b44 [vI (y35.1.Rows), vI (y35.1.Cols), vS (y35.1.Cells)] 27, .box b25 [vL A16 (y11.2.Words) c17] 45, .box b21 [vI (y11.1.Rows), vI (y11.1.Cols), vS (y11.1.Cells)] 27, .row strRep A16 c17 9 y11.2.Words true] [.dat (sliceRep byteRep) code1 [vL A2 code1 c3]]) ?_ ?_
                · refine region_pl ?_
                  refine q_ hf rfl rfl rfl (e_loadA hf (us := [vI (y35.1.Rows), vI (y35.1.Cols), vS (y35.1.Cells)]) rfl ⟨Try.isAgg27, Try.sizeOf27⟩ rfl (hM.boxSub (k := 3) (us := [vI (y35.1.Rows), vI (y35.1.Cols), vS (y35.1.Cells)]) (o := 0) rfl rfl)) fun a hf => ?_
                  refine q_ hf rfl rfl rfl (e_loadA hf (us := [vL A16 (y11.2.Words) c17]) rfl ⟨Try.isAgg45, Try.sizeOf45⟩ rfl (hM.boxSub (k := 4) (us := [vL A16 (y11.2.Words) c17]) (o := 0) rfl rfl)) fun a hf => ?_
                  obtain ⟨y214, hz215, h213⟩ := bind_some h213
                  refine pl_l hf rfl rfl rfl (w_call hf Try.call27 rfl (r_impl_IsFilled ⟨_, All C _ _, none_, hM.all_lt, none_not, C.G, hM.g_lt, g_none, hM.tabs⟩ y35.1 hv37 hv38 hv39 y11.2 _ _ (hM.lendRow (k := 6) rfl) _ hz215) ?_)
                  rintro _ w216 ⟨rfl, hM2⟩
                  obtain ⟨hM, hx217⟩ := hM.backA hM2
                  clear hM2
                  refine ⟨_, rfl, fun a hf => ?_⟩
                  refine q_ hf rfl rfl rfl (e_move hf rfl) fun a hf => ?_
                  rcases cond_some h213 with ⟨hc219, h213⟩ | ⟨hc219, h213⟩
                  · refine gq (wanted_t hf rfl rfl rfl rfl hc219) hf rfl rfl (e_move hf rfl) fun a hf => ?_
                    refine gq (wanted_t hf rfl rfl rfl rfl hc219) hf rfl rfl (e_eq hf (x := y171.2) (y := 0) rfl rfl) fun a hf => ?_
                    refine q_ hf rfl rfl rfl (e_pick_t hf rfl hc219 rfl) fun a hf => ?_
                    refine q_ hf rfl rfl rfl (e_move hf rfl) fun a hf => ?_
                    rcases cond_some h213 with ⟨hc220, h213⟩ | ⟨hc220, h213⟩
                    · refine gq (wanted_t hf rfl rfl rfl rfl hc220) hf rfl rfl (e_move hf rfl) fun a hf => ?_
                      refine gq (wanted_t hf rfl rfl rfl rfl hc220) hf rfl rfl (e_move hf rfl) fun a hf => ?_
                      refine gq (wanted_t hf rfl rfl rfl rfl hc220) hf rfl rfl (e_eq hf (x := y187.2) (y := y67.2) rfl rfl) fun a hf => ?_
                      refine q_ hf rfl rfl rfl (e_pick_t hf rfl hc220 rfl) fun a hf => ?_
                      refine q_ hf rfl rfl rfl (e_move hf rfl) fun a hf => ?_
                      rcases cond_some h213 with ⟨hc221, h213⟩ | ⟨hc221, h213⟩
                      · refine gq (wanted_t hf rfl rfl rfl rfl hc221) hf rfl rfl (e_move hf rfl) fun a hf => ?_
                        refine gq (wanted_t hf rfl rfl rfl rfl hc221) hf rfl rfl (e_move hf rfl) fun a hf => ?_
                        refine gq (wanted_t hf rfl rfl rfl rfl hc221) hf rfl rfl (e_eq hf (x := y187.1) (y := y67.1) rfl rfl) fun a hf => ?_
                        refine q_ hf rfl rfl rfl (e_pick_t hf rfl hc221 rfl) fun a hf => ?_
                        refine q_ hf rfl rfl rfl (e_move hf rfl) fun a hf => ?_
                        rcases cond_some h213 with ⟨hc222, h213⟩ | ⟨hc222, h213⟩
                        · refine gq (wanted_t hf rfl rfl rfl rfl hc222) hf rfl rfl (e_move hf rfl) fun a hf => ?_
                          refine gq (wanted_t hf rfl rfl rfl rfl hc222) hf rfl rfl (e_eq hf (x := y194.2) (y := 0) rfl rfl) fun a hf => ?_
                          refine q_ hf rfl rfl rfl (e_pick_t hf rfl hc222 rfl) fun a hf => ?_
                          refine q_ hf rfl rfl rfl (e_move hf rfl) fun a hf => ?_
                          rcases cond_some h213 with ⟨hc223, h213⟩ | ⟨hc223, h213⟩
                          · refine gq (wanted_t hf rfl rfl rfl rfl hc223) hf rfl rfl (e_loadA hf (us := [vI (y194.1.Rows), vI (y194.1.Cols), vS (y194.1.Cells)]) rfl ⟨Try.isAgg27, Try.sizeOf27⟩ rfl (hM.boxSub (k := 0) (us := [vI (y194.1.Rows), vI (y194.1.Cols), vS (y194.1.Cells)]) (o := 0) rfl rfl)) fun a hf => ?_
                            refine gq (wanted_t hf rfl rfl rfl rfl hc223) hf rfl rfl (e_loadA hf (us := [vI (y35.1.Rows), vI (y35.1.Cols), vS (y35.1.Cells)]) rfl ⟨Try.isAgg27, Try.sizeOf27⟩ rfl (hM.boxSub (k := 3) (us := [vI (y35.1.Rows), vI (y35.1.Cols), vS (y35.1.Cells)]) (o := 0) rfl rfl)) fun a hf => ?_
                            refine gq (wanted_t hf rfl rfl rfl rfl hc223) hf rfl rfl (Grid_eql hf (x := y194.1) (y := y35.1) rfl rfl) fun a hf => ?_
                            refine q_ hf rfl rfl rfl (e_pick_t hf rfl hc223 rfl) fun a hf => ?_
                            refine q_ hf rfl rfl rfl (e_assign hf rfl) fun a hf => ?_
                            refine pl_nil ?_
                            obtain rfl := some_inj h213
                            refine then_n ?_
                            exact ⟨(y194.1 == y35.1), rfl, hf.keep ⟨rfl, trivial⟩, hM.pick [0] rfl⟩
                          · refine pl_gs (wanted_f hf rfl rfl rfl rfl hc223) hf rfl rfl fun a hf => ?_
                            refine pl_gs (wanted_f hf rfl rfl rfl rfl hc223) hf rfl rfl fun a hf => ?_
                            refine pl_gs (wanted_f hf rfl rfl rfl rfl hc223) hf rfl rfl fun a hf => ?_
                            refine q_ hf rfl rfl rfl (e_pick_f hf rfl hc223 rfl) fun a hf => ?_
                            refine q_ hf rfl rfl rfl (e_assign hf rfl) fun a hf => ?_
                            refine pl_nil ?_
                            obtain rfl := some_inj h213
                            refine then_n ?_
                            exact ⟨false, rfl, hf.keep ⟨rfl, trivial⟩, hM.pick [0] rfl⟩
                        · refine pl_gs (wanted_f hf rfl rfl rfl rfl hc222) hf rfl rfl fun a hf => ?_
                          refine pl_gs (wanted_f hf rfl rfl rfl rfl hc222) hf rfl rfl fun a hf => ?_
                          refine q_ hf rfl rfl rfl (e_pick_f hf rfl hc222 rfl) fun a hf => ?_
                          refine q_ hf rfl rfl rfl (e_move hf rfl) fun a hf => ?_
                          refine pl_gs (wanted_f hf rfl rfl rfl rfl rfl) hf rfl rfl fun a hf => ?_
                          refine pl_gs (wanted_f hf rfl rfl rfl rfl rfl) hf rfl rfl fun a hf => ?_
                          refine pl_gs (wanted_f hf rfl rfl rfl rfl rfl) hf rfl rfl fun a hf => ?_
                          refine q_ hf rfl rfl rfl (e_pick_f hf rfl rfl rfl) fun a hf => ?_
                          refine q_ hf rfl rfl rfl (e_assign hf rfl) fun a hf => ?_
                          refine pl_nil ?_
                          obtain rfl := some_inj h213
                          refine then_n ?_
                          exact ⟨false, rfl, hf.keep ⟨rfl, trivial⟩, hM.pick [0] rfl⟩
                      · refine pl_gs (wanted_f hf rfl rfl rfl rfl hc221) hf rfl rfl fun a hf => ?_
                        refine pl_gs (wanted_f hf rfl rfl rfl rfl hc221) hf rfl rfl fun a hf => ?_
                        refine pl_gs (wanted_f hf rfl rfl rfl rfl hc221) hf rfl rfl fun a hf => ?_
                        refine q_ hf rfl rfl rfl (e_pick_f hf rfl hc221 rfl) fun a hf => ?_
                        refine q_ hf rfl rfl rfl (e_move hf rfl) fun a hf => ?_
                        refine pl_gs (wanted_f hf rfl rfl rfl rfl rfl) hf rfl rfl fun a hf => ?_
                        refine pl_gs (wanted_f hf rfl rfl rfl rfl rfl) hf rfl rfl fun a hf => ?_
                        refine q_ hf rfl rfl rfl (e_pick_f hf rfl rfl rfl) fun a hf => ?_
                        refine q_ hf rfl rfl rfl (e_move hf rfl) fun a hf => ?_
                        refine pl_gs (wanted_f hf rfl rfl rfl rfl rfl) hf rfl rfl fun a hf => ?_
                        refine pl_gs (wanted_f hf rfl rfl rfl rfl rfl) hf rfl rfl fun a hf => ?_
                        refine pl_gs (wanted_f hf rfl rfl rfl rfl rfl) hf rfl rfl fun a hf => ?_
                        refine q_ hf rfl rfl rfl (e_pick_f hf rfl rfl rfl) fun a hf => ?_
                        refine q_ hf rfl rfl rfl (e_assign hf rfl) fun a hf => ?_
                        refine pl_nil ?_
                        obtain rfl := some_inj h213
                        refine then_n ?_
                        exact ⟨false, rfl, hf.keep ⟨rfl, trivial⟩, hM.pick [0] rfl⟩
                    · refine pl_gs (wanted_f hf rfl rfl rfl rfl hc220) hf rfl rfl fun a hf => ?_
                      refine pl_gs (wanted_f hf rfl rfl rfl rfl hc220) hf rfl rfl fun a hf => ?_
                      refine pl_gs (wanted_f hf rfl rfl rfl rfl hc220) hf rfl rfl fun a hf => ?_
                      refine q_ hf rfl rfl rfl (e_pick_f hf rfl hc220 rfl) fun a hf => ?_
                      refine q_ hf rfl rfl rfl (e_move hf rfl) fun a hf => ?_
                      refine pl_gs (wanted_f hf rfl rfl rfl rfl rfl) hf rfl rfl fun a hf => ?_
                      refine pl_gs (wanted_f hf rfl rfl rfl rfl rfl) hf rfl rfl fun a hf => ?_
                      refine pl_gs (wanted_f hf rfl rfl rfl rfl rfl) hf rfl rfl fun a hf => ?_
                      refine q_ hf rfl rfl rfl (e_pick_f hf rfl rfl rfl) fun a hf => ?_
                      refine q_ hf rfl rfl rfl (e_move hf rfl) fun a hf => ?_
                      refine pl_gs (wanted_f hf rfl rfl rfl rfl rfl) hf rfl rfl fun a hf => ?_
                      refine pl_gs (wanted_f hf rfl rfl rfl rfl rfl) hf rfl rfl fun a hf => ?_
                      refine q_ hf rfl rfl rfl (e_pick_f hf rfl rfl rfl) fun a hf => ?_
                      refine q_ hf rfl rfl rfl (e_move hf rfl) fun a hf => ?_
                      refine pl_gs (wanted_f hf rfl rfl rfl rfl rfl) hf rfl rfl fun a hf => ?_
                      refine pl_gs (wanted_f hf rfl rfl rfl rfl rfl) hf rfl rfl fun a hf => ?_
                      refine pl_gs (wanted_f hf rfl rfl rfl rfl rfl) hf rfl rfl fun a hf => ?_
                      refine q_ hf rfl rfl rfl (e_pick_f hf rfl rfl rfl) fun a hf => ?_
                      refine q_ hf rfl rfl rfl (e_assign hf rfl) fun a hf => ?_
                      refine pl_nil ?_
                      obtain rfl := some_inj h213
                      refine then_n ?_
                      exact ⟨false, rfl, hf.keep ⟨rfl, trivial⟩, hM.pick [0] rfl⟩
                  · refine pl_gs (wanted_f hf rfl rfl rfl rfl hc219) hf rfl rfl fun a hf => ?_
                    refine pl_gs (wanted_f hf rfl rfl rfl rfl hc219) hf rfl rfl fun a hf => ?_
                    refine q_ hf rfl rfl rfl (e_pick_f hf rfl hc219 rfl) fun a hf => ?_
                    refine q_ hf rfl rfl rfl (e_move hf rfl) fun a hf => ?_
                    refine pl_gs (wanted_f hf rfl rfl rfl rfl rfl) hf rfl rfl fun a hf => ?_
                    refine pl_gs (wanted_f hf rfl rfl rfl rfl rfl) hf rfl rfl fun a hf => ?_
                    refine pl_gs (wanted_f hf rfl rfl rfl rfl rfl) hf rfl rfl fun a hf => ?_
                    refine q_ hf rfl rfl rfl (e_pick_f hf rfl rfl rfl) fun a hf => ?_
                    refine q_ hf rfl rfl rfl (e_move hf rfl) fun a hf => ?_
                    refine pl_gs (wanted_f hf rfl rfl rfl rfl rfl) hf rfl rfl fun a hf => ?_
                    refine pl_gs (wanted_f hf rfl rfl rfl rfl rfl) hf rfl rfl fun a hf => ?_
                    refine pl_gs (wanted_f hf rfl rfl rfl rfl rfl) hf rfl rfl fun a hf => ?_
                    refine q_ hf rfl rfl rfl (e_pick_f hf rfl rfl rfl) fun a hf => ?_
                    refine q_ hf rfl rfl rfl (e_move hf rfl) fun a hf => ?_
                    refine pl_gs (wanted_f hf rfl rfl rfl rfl rfl) hf rfl rfl fun a hf => ?_
                    refine pl_gs (wanted_f hf rfl rfl rfl rfl rfl) hf rfl rfl fun a hf => ?_
                    refine q_ hf rfl rfl rfl (e_pick_f hf rfl rfl rfl) fun a hf => ?_
                    refine q_ hf rfl rfl rfl (e_move hf rfl) fun a hf => ?_
                    refine pl_gs (wanted_f hf rfl rfl rfl rfl rfl) hf rfl rfl fun a hf => ?_
                    refine pl_gs (wanted_f hf rfl rfl rfl rfl rfl) hf rfl rfl fun a hf => ?_
                    refine pl_gs (wanted_f hf rfl rfl rfl rfl rfl) hf rfl rfl fun a hf => ?_
                    refine q_ hf rfl rfl rfl (e_pick_f hf rfl rfl rfl) fun a hf => ?_
                    refine q_ hf rfl rfl rfl (e_assign hf rfl) fun a hf => ?_
                    refine pl_nil ?_
                    obtain rfl := some_inj h213
                    refine then_n ?_
                    exact ⟨false, rfl, hf.keep ⟨rfl, trivial⟩, hM.pick [0] rfl⟩
                · rintro a w230 ⟨g210, rfl, hf, hM⟩
                  try dsimp only at h
                  refine wp_ret ?_
                  obtain rfl := some_inj h
                  have hM := hM.outs (own' := []) 0 rfl
                  exact leave1 hf rfl rfl ⟨rfl, hM.fin⟩

end Go.Proofs.Ytgmikhdealhlfaa
