/- The functions that this law reaches do what their models say. Printed by gen.py. -/
import Derived.Test.YtgmikhdealhlfaaMod
import Derived.Test.YtgmikhdealhlfaaFillGridRefB
namespace Go.Proofs.Ytgmikhdealhlfaa
open Go Go.RowKit
set_option linter.unusedSimpArgs false
set_option linter.unusedVariables false

set_option maxRecDepth 100000 in
set_option maxHeartbeats 4000000 in
theorem r_laws_FnExactFillGrid (C : Cx) (aG1 : Grid) (hp2 : R64 aG1.Rows) (hp3 : R64 aG1.Cols) (hp4 : aG1.Cells.length ≤ maxLen) (aL5 : Lexicon) (A6 : Option Addr) (c7 : Nat) (hp8 : (sliceRep strRep).R C.w0 C.S0 aL5.Words [vL A6 aL5.Words c7]) (r : Bool) (h : m_laws_FnExactFillGrid aG1 aL5 = some r) :
    Calls Try.prog 9 #[.agg #[vI (aG1.Rows), vI (aG1.Cols), vS (aG1.Cells)], .agg #[vL A6 (aL5.Words) c7]] C.w0 fun e w => e = .returned (.bool (r)) ∧ Mem C w [] [] := by
  have hM := Mem.begin C [.dat (sliceRep strRep) aL5.Words [vL A6 aL5.Words c7]] ⟨hp8, trivial⟩
  refine enter Try.func9 rfl Try.ntmps9 rfl fun a hf => ?_
  unfold m_laws_FnExactFillGrid at h
  refine wp_seq ?_
  refine region_pl ?_
  refine pl_l hf rfl rfl rfl (w_box hf hM (cs := [vI (aG1.Rows), vI (aG1.Cols), vS (aG1.Cells)]) rfl rfl fun b9 w10 hx11 hM a hf => ?_)
  refine pl_l hf rfl rfl rfl (w_box hf hM (cs := [vL A6 (aL5.Words) c7]) rfl rfl fun b13 w14 hx15 hM a hf => ?_)
  refine q_ hf rfl rfl rfl (e_assign hf rfl) fun a hf => ?_
  refine pl_nil ?_
  refine then_n ?_
  refine wp_seq ?_
  refine region_pl ?_
  refine q_ hf rfl rfl rfl (e_assign hf rfl) fun a hf => ?_
  refine pl_nil ?_
  refine then_n ?_
  refine wp_seq ?_
  refine region_pl ?_
  refine q_ hf rfl rfl rfl (e_loadA hf (us := [vI (aG1.Rows), vI (aG1.Cols), vS (aG1.Cells)]) rfl ⟨Try.isAgg23, Try.sizeOf23⟩ rfl (hM.boxSub (k := 1) (us := [vI (aG1.Rows), vI (aG1.Cols), vS (aG1.Cells)]) (o := 0) rfl rfl)) fun a hf => ?_
  refine q_ hf rfl rfl rfl (e_move hf rfl) fun a hf => ?_
  obtain ⟨y17, hz18, h⟩ := bind_some h
  refine pl_l hf rfl rfl rfl (w_call hf Try.call12 rfl (r_laws_szGrid ⟨_, Sh C _ _, none_, hM.sh_lt, none_not, C.G, hM.g_lt, g_none, hM.tabs⟩ aG1 hp2 hp3 hp4 1048576 (R64_lit rfl) _ hz18) ?_)
  rintro _ w20 ⟨rfl, hM2, hv19⟩
  obtain ⟨hM, hx21, hup22⟩ := hM.back hM2
  dsimp only [List.cons_append, List.nil_append] at hM hup22
  clear hM2
  refine ⟨_, rfl, fun a hf => ?_⟩
  refine q_ hf rfl rfl rfl (e_assign hf rfl) fun a hf => ?_
  refine pl_nil ?_
  refine then_n ?_
  refine wp_seq ?_
  refine wp_seq ?_
  refine region_pl ?_
  refine q_ hf rfl rfl rfl (e_move hf rfl) fun a hf => ?_
  refine q_ hf rfl rfl rfl (e_lt hf (x := y17) (y := 0) rfl rfl) fun a hf => ?_
  refine pl_nil ?_
  refine then_n ?_
  rcases cond_some h with ⟨hc23, h⟩ | ⟨hc23, h⟩
  · refine cond_t hf rfl hc23 ?_
    refine wp_seq ?_
    refine region_pl ?_
    refine q_ hf rfl rfl rfl (e_assign hf rfl) fun a hf => ?_
    refine pl_nil ?_
    refine then_n ?_
    refine wp_ret ?_
    refine then_r ?_
    obtain rfl := some_inj h
    have hM := hM.outs (own' := []) 0 rfl
    exact leave1 hf rfl rfl ⟨rfl, hM.fin⟩
  · refine cond_f hf rfl hc23 ?_
    refine wp_skip ?_
    refine then_n ?_
    refine wp_seq ?_
    refine region_pl ?_
    refine q_ hf rfl rfl rfl (e_loadA hf (us := [vL A6 (aL5.Words) c7]) rfl ⟨Try.isAgg42, Try.sizeOf42⟩ rfl (hM.boxSub (k := 0) (us := [vL A6 (aL5.Words) c7]) (o := 0) rfl rfl)) fun a hf => ?_
    refine q_ hf rfl rfl rfl (e_move hf rfl) fun a hf => ?_
    obtain ⟨y24, hz25, h⟩ := bind_some h
    refine pl_l hf rfl rfl rfl (w_call hf Try.call24 rfl (r_laws_szLexicon ⟨_, Sh C _ _, none_, hM.sh_lt, none_not, C.G, hM.g_lt, g_none, hM.tabs⟩ aL5 _ _ (hM.dat (k := 0) rfl) y17 hv19 _ hz25) ?_)
    rintro _ w27 ⟨rfl, hM2, hv26⟩
    obtain ⟨hM, hx28, hup29⟩ := hM.back hM2
    dsimp only [List.cons_append, List.nil_append] at hM hup29
    clear hM2
    refine ⟨_, rfl, fun a hf => ?_⟩
    refine q_ hf rfl rfl rfl (e_assign hf rfl) fun a hf => ?_
    refine pl_nil ?_
    refine then_n ?_
    refine wp_seq ?_
    refine wp_seq ?_
    refine region_pl ?_
    refine q_ hf rfl rfl rfl (e_move hf rfl) fun a hf => ?_
    refine q_ hf rfl rfl rfl (e_lt hf (x := y24) (y := 0) rfl rfl) fun a hf => ?_
    refine pl_nil ?_
    refine then_n ?_
    rcases cond_some h with ⟨hc30, h⟩ | ⟨hc30, h⟩
    · refine cond_t hf rfl hc30 ?_
      refine wp_seq ?_
      refine region_pl ?_
      refine q_ hf rfl rfl rfl (e_assign hf rfl) fun a hf => ?_
      refine pl_nil ?_
      refine then_n ?_
      refine wp_ret ?_
      refine then_r ?_
      obtain rfl := some_inj h
      have hM := hM.outs (own' := []) 0 rfl
      exact leave1 hf rfl rfl ⟨rfl, hM.fin⟩
    · refine cond_f hf rfl hc30 ?_
      refine wp_skip ?_
      refine then_n ?_
      refine wp_seq ?_
      obtain ⟨w31, hw⟩ : ∃ x, x = w27.drew := ⟨_, rfl⟩
      refine region_pi (.q 0 (.q 2 (.b 1 8 (.b 3 8 (.b 4 8 (.q 5 (.q 6 (.q 7 (.l 8 (.l 9 (.q 10 (.nil))))))) (.l 4 (.q 5 (.q 6 (.q 7 (.l 9 (.q 10 (.nil)))))))) (.l 3 (.l 4 (.q 5 (.q 6 (.q 7 (.l 9 (.q 10 (.nil))))))))) (.l 1 (.l 3 (.l 4 (.q 5 (.q 6 (.q 7 (.l 9 (.q 10 (.nil)))))))))))) (ExtM [] w31) rfl (by kernel_rfl) ?_
      have hM := hM.drew
      rw [← hw] at hM ⊢
      clear hw
      refine pi_q hf rfl rfl rfl rfl (ExtM.refl _ _) (e_loadAM hf (us := [vI (aG1.Rows), vI (aG1.Cols), vS (aG1.Cells)]) rfl ⟨Try.isAgg23, Try.sizeOf23⟩ rfl (hM.boxSub (k := 1) (us := [vI (aG1.Rows), vI (aG1.Cols), vS (aG1.Cells)]) (o := 0) rfl rfl) (hM.apart (js := []) rfl (k := 1) rfl rfl rfl)) fun a hf => ?_
      refine pi_q hf rfl rfl rfl rfl (ExtM.refl _ _) (e_loadAM hf (us := [vL A6 (aL5.Words) c7]) rfl ⟨Try.isAgg42, Try.sizeOf42⟩ rfl (hM.boxSub (k := 0) (us := [vL A6 (aL5.Words) c7]) (o := 0) rfl rfl) (hM.apart (js := []) rfl (k := 0) rfl rfl rfl)) fun a hf => ?_
      obtain ⟨y32, hz33, h⟩ := bind_some h
      refine pi_two ?_ ?_
      · refine pi_l hf rfl rfl rfl rfl (w_call hf Try.call14 rfl (r_laws_toGrid ⟨_, Sh C _ _, none_, hM.sh_lt, none_not, C.G, hM.g_lt, g_none, hM.tabs⟩ aG1 hp2 hp3 hp4 _ hz33) ?_)
        rintro _ w47 ⟨rfl, hM2, hv44, hv45, hv46⟩
        obtain ⟨hM, hx48, hup49⟩ := hM.back hM2
        dsimp only [List.cons_append, List.nil_append] at hM hup49
        clear hM2
        refine ⟨_, rfl, ExtM [] w47, fun _ h => ExtM.trans hx48 h, ExtM.refl _ _, fun a hf => ?_⟩
        obtain ⟨y50, hz51, h⟩ := bind_some h
        refine pi_two ?_ ?_
        · refine pi_l hf rfl rfl rfl rfl (w_call hf Try.call26 rfl (r_laws_toLexicon ⟨_, Sh C _ _, none_, hM.sh_lt, none_not, C.G, hM.g_lt, g_none, hM.tabs⟩ aL5 _ _ (hM.dat (k := 0) rfl) _ hz51) ?_)
          rintro _ w59 ⟨A57, c58, rfl, hM2⟩
          obtain ⟨hM, hx60, hup61⟩ := hM.back hM2
          dsimp only [List.cons_append, List.nil_append] at hM hup61
          clear hM2
          refine ⟨_, rfl, ExtM [] w59, fun _ h => ExtM.trans hx60 h, ExtM.refl _ _, fun a hf => ?_⟩
          obtain ⟨y62, hz63, h⟩ := bind_some h
          refine pi_two ?_ ?_
          · refine pi_l hf rfl rfl rfl rfl (w_call hf Try.call37 rfl (r_spec_FillGrid ⟨_, All C _ _, none_, hM.all_lt, none_not, C.G, hM.g_lt, g_none, hM.tabs⟩ y32 hv44 hv45 hv46 y50 _ _ (hM.lendRow (k := 0) rfl) _ hz63) ?_)
            rintro _ w75 ⟨rfl, hM2, hv71, hv72, hv73, hv74⟩
            obtain ⟨hM, hx76⟩ := hM.backA hM2
            clear hM2
            refine ⟨_, rfl, ExtM [] w75, fun _ h => ExtM.trans hx76 h, ExtM.refl _ _, fun a hf => ?_⟩
            refine pi_q hf rfl rfl rfl rfl (ExtM.refl _ _) (e_move hf rfl) fun a hf => ?_
            refine pi_q hf rfl rfl rfl rfl (ExtM.refl _ _) (e_extract hf rfl rfl) fun a hf => ?_
            refine pi_q hf rfl rfl rfl rfl (ExtM.refl _ _) (e_extract hf rfl rfl) fun a hf => ?_
            refine pi_one ?_
            refine pi_l hf rfl rfl rfl rfl (w_allocM hM (cs := [vI (0), vI (0), vS (([] : Str))]) Try.zeroValue27 rfl fun b78 w79 hx80 hn81 hM => ⟨ExtM [some b78] w79, fun _ h => ExtM.grow hx80 hn81 h, ExtM.refl _ _, fun a hf => ?_⟩)
            refine pi_one ?_
            refine pi_l0 hf rfl rfl rfl (w_storeM hf (List.mem_of_getElem? (i := 0) rfl) hM (us := [vI (y62.1.Rows), vI (y62.1.Cols), vS (y62.1.Cells)]) (cs' := [vI (y62.1.Rows), vI (y62.1.Cols), vS (y62.1.Cells)]) rfl rfl (k := 0) rfl rfl Try.sizeOf27 rfl rfl rfl fun w82 hxm83 hsz84 hM => ⟨Ext w82, fun _ h => ExtM.last hxm83 hsz84 h, Ext.refl _, ?_⟩)
            dsimp only [List.set] at hM
            refine pi_q hf rfl rfl rfl rfl (Ext.refl _) (e_assign hf rfl) fun a hf => ?_
            refine pi_nil ?_
            refine then_n ?_
            refine wp_seq ?_
            refine region_pl ?_
            refine q_ hf rfl rfl rfl (e_loadA hf (us := [vL A6 (aL5.Words) c7]) rfl ⟨Try.isAgg42, Try.sizeOf42⟩ rfl (hM.boxSub (k := 2) (us := [vL A6 (aL5.Words) c7]) (o := 0) rfl rfl)) fun a hf => ?_
            obtain ⟨y85, hz86, h⟩ := bind_some h
            refine pl_l hf rfl rfl rfl (w_call hf Try.call26 rfl (r_laws_toLexicon ⟨_, Sh C _ _, none_, hM.sh_lt, none_not, C.G, hM.g_lt, g_none, hM.tabs⟩ aL5 _ _ (hM.dat (k := 0) rfl) _ hz86) ?_)
            rintro _ w89 ⟨A87, c88, rfl, hM2⟩
            obtain ⟨hM, hx90, hup91⟩ := hM.back hM2
            dsimp only [List.cons_append, List.nil_append] at hM hup91
            clear hM2
            refine ⟨_, rfl, fun a hf => ?_⟩
            refine pl_l hf rfl rfl rfl (w_alloc hM (cs := [vL none (([] : (List Str))) 0]) Try.zeroValue45 rfl fun b92 w93 hx94 hM a hf => ?_)
            refine pl_0 hf rfl rfl (w_store hf hM (us := [vL A87 (y85.Words) c88]) (cs' := [vL A87 (y85.Words) c88]) rfl rfl (k := 0) rfl rfl Try.sizeOf45 rfl rfl rfl fun w96 hM => ?_)
            dsimp only [List.set] at hM
            refine pl_nil ?_
            refine then_n ?_
            refine wp_seq ?_
            obtain ⟨w99, hw⟩ : ∃ x, x = w96.drew := ⟨_, rfl⟩
            refine region_pi (.q 0 (.q 2 (.b 1 7 (.b 3 7 (.q 4 (.q 5 (.q 6 (.l 7 (.l 8 (.q 9 (.nil))))))) (.l 3 (.q 4 (.q 5 (.q 6 (.l 8 (.q 9 (.nil)))))))) (.l 1 (.l 3 (.q 4 (.q 5 (.q 6 (.l 8 (.q 9 (.nil))))))))))) (ExtM [] w99) rfl (by kernel_rfl) ?_
            have hM := hM.drew
            rw [← hw] at hM ⊢
            clear hw
            refine pi_q hf rfl rfl rfl rfl (ExtM.refl _ _) (e_loadAM hf (us := [vI (aG1.Rows), vI (aG1.Cols), vS (aG1.Cells)]) rfl ⟨Try.isAgg23, Try.sizeOf23⟩ rfl (hM.boxSub (k := 5) (us := [vI (aG1.Rows), vI (aG1.Cols), vS (aG1.Cells)]) (o := 0) rfl rfl) (hM.apart (js := []) rfl (k := 5) rfl rfl rfl)) fun a hf => ?_
            refine pi_q hf rfl rfl rfl rfl (ExtM.refl _ _) (e_loadAM hf (us := [vL A87 (y85.Words) c88]) rfl ⟨Try.isAgg45, Try.sizeOf45⟩ rfl (hM.boxSub (k := 0) (us := [vL A87 (y85.Words) c88]) (o := 0) rfl rfl) (hM.apart (js := []) rfl (k := 0) rfl rfl rfl)) fun a hf => ?_
            obtain ⟨y100, hz101, h⟩ := bind_some h
            refine pi_two ?_ ?_
            · refine pi_l hf rfl rfl rfl rfl (w_call hf Try.call14 rfl (r_laws_toGrid ⟨_, Sh C _ _, none_, hM.sh_lt, none_not, C.G, hM.g_lt, g_none, hM.tabs⟩ aG1 hp2 hp3 hp4 _ hz101) ?_)
              rintro _ w115 ⟨rfl, hM2, hv112, hv113, hv114⟩
              obtain ⟨hM, hx116, hup117⟩ := hM.back hM2
              dsimp only [List.cons_append, List.nil_append] at hM hup117
              clear hM2
              refine ⟨_, rfl, ExtM [] w115, fun _ h => ExtM.trans hx116 h, ExtM.refl _ _, fun a hf => ?_⟩
              obtain ⟨y118, hz119, h⟩ := bind_some h
              refine pi_two ?_ ?_
              · refine pi_l hf rfl rfl rfl rfl (w_call hf Try.call38 rfl (r_impl_FillGrid ⟨_, All C _ _, none_, hM.all_lt, none_not, C.G, hM.g_lt, g_none, hM.tabs⟩ y100 hv112 hv113 hv114 y85 _ _ (hM.lendRow (k := 1) rfl) _ hz119) ?_)
                rintro _ w131 ⟨rfl, hM2, hv127, hv128, hv129, hv130⟩
                obtain ⟨hM, hx132⟩ := hM.backA hM2
                clear hM2
                refine ⟨_, rfl, ExtM [] w131, fun _ h => ExtM.trans hx132 h, ExtM.refl _ _, fun a hf => ?_⟩
                refine pi_q hf rfl rfl rfl rfl (ExtM.refl _ _) (e_move hf rfl) fun a hf => ?_
                refine pi_q hf rfl rfl rfl rfl (ExtM.refl _ _) (e_extract hf rfl rfl) fun a hf => ?_
                refine pi_q hf rfl rfl rfl rfl (ExtM.refl _ _) (e_extract hf rfl rfl) fun a hf => ?_
                refine pi_one ?_
                refine pi_l hf rfl rfl rfl rfl (w_allocM hM (cs := [vI (0), vI (0), vS (([] : Str))]) Try.zeroValue27 rfl fun b134 w135 hx136 hn137 hM => ⟨ExtM [some b134] w135, fun _ h => ExtM.grow hx136 hn137 h, ExtM.refl _ _, fun a hf => ?_⟩)
                refine pi_one ?_
                refine pi_l0 hf rfl rfl rfl (w_storeM hf (List.mem_of_getElem? (i := 0) rfl) hM (us := [vI (y118.1.Rows), vI (y118.1.Cols), vS (y118.1.Cells)]) (cs' := [vI (y118.1.Rows), vI (y118.1.Cols), vS (y118.1.Cells)]) rfl rfl (k := 0) rfl rfl Try.sizeOf27 rfl rfl rfl fun w138 hxm139 hsz140 hM => ⟨Ext w138, fun _ h => ExtM.last hxm139 hsz140 h, Ext.refl _, ?_⟩)
                dsimp only [List.set] at hM
                refine pi_q hf rfl rfl rfl rfl (Ext.refl _) (e_assign hf rfl) fun a hf => ?_
                refine pi_nil ?_
                refine then_n ?_
                refine wp_seq ?_
                obtain ⟨x143, h144, h⟩ := bind_some h
                refine seq_join (fun a w => ∃ (t141 : Bool), t141 = x143 ∧ Has 52 a [(3, vP b13 (0)), (8, vP b92 (0)), (46, .bool (t141))] ∧ Mem C w [.box b134 [vI (y118.1.Rows), vI (y118.1.Cols), vS (y118.1.Cells)] 27, .box b92 [vL A87 (y85.Words) c88] 45, .row strRep A87 c88 9 y85.Words true, .box b78 [vI (y62.1.Rows), vI (y62.1.Cols), vS (y62.1.Cells)] 27, .row strRep A57 c58 9 y50.Words true, .box b13 [vL A6 (aL5.Words) c7] 42, .box b9 [vI (aG1.Rows), vI (aG1.Cols), vS (aG1.Cells)] 23] [.dat (sliceRep strRep) aL5.Words [vL A6 aL5.Words c7]]) ?_ ?_
                · refine region_pl ?_
                  refine q_ hf rfl rfl rfl (e_loadA hf (us := [vI (y118.1.Rows), vI (y118.1.Cols), vS (y118.1.Cells)]) rfl ⟨Try.isAgg27, Try.sizeOf27⟩ rfl (hM.boxSub (k := 0) (us := [vI (y118.1.Rows), vI (y118.1.Cols), vS (y118.1.Cells)]) (o := 0) rfl rfl)) fun a hf => ?_
                  refine q_ hf rfl rfl rfl (e_loadA hf (us := [vI (y62.1.Rows), vI (y62.1.Cols), vS (y62.1.Cells)]) rfl ⟨Try.isAgg27, Try.sizeOf27⟩ rfl (hM.boxSub (k := 3) (us := [vI (y62.1.Rows), vI (y62.1.Cols), vS (y62.1.Cells)]) (o := 0) rfl rfl)) fun a hf => ?_
                  obtain ⟨y145, hz146, h144⟩ := bind_some h144
                  refine pl_l hf rfl rfl rfl (w_call hf Try.call23 rfl (r_laws_eqGrid ⟨_, Sh C _ _, none_, hM.sh_lt, none_not, C.G, hM.g_lt, g_none, hM.tabs⟩ y118.1 hv127 hv128 hv129 y62.1 hv71 hv72 hv73 _ hz146) ?_)
                  rintro _ w147 ⟨rfl, hM2⟩
                  obtain ⟨hM, hx148, hup149⟩ := hM.back hM2
                  dsimp only [List.cons_append, List.nil_append] at hM hup149
                  clear hM2
                  refine ⟨_, rfl, fun a hf => ?_⟩
                  refine q_ hf rfl rfl rfl (e_not hf rfl) fun a hf => ?_
                  refine q_ hf rfl rfl rfl (e_move hf rfl) fun a hf => ?_
                  rcases cond_some h144 with ⟨hc150, h144⟩ | ⟨hc150, h144⟩
                  · refine pl_gs (wanted_f hf rfl rfl rfl rfl hc150) hf rfl rfl fun a hf => ?_
                    refine pl_gs (wanted_f hf rfl rfl rfl rfl hc150) hf rfl rfl fun a hf => ?_
                    refine pl_gs (wanted_f hf rfl rfl rfl rfl hc150) hf rfl rfl fun a hf => ?_
                    refine q_ hf rfl rfl rfl (e_pick_t hf rfl hc150 rfl) fun a hf => ?_
                    refine pl_nil ?_
                    obtain rfl := some_inj h144
                    refine then_n ?_
                    exact ⟨true, rfl, hf.keep ⟨rfl, rfl, rfl, trivial⟩, hM.pick [0] rfl⟩
                  · refine gq (wanted_t hf rfl rfl rfl rfl hc150) hf rfl rfl (e_move hf rfl) fun a hf => ?_
                    refine gq (wanted_t hf rfl rfl rfl rfl hc150) hf rfl rfl (e_move hf rfl) fun a hf => ?_
                    refine gq (wanted_t hf rfl rfl rfl rfl hc150) hf rfl rfl (e_ne hf (x := y118.2) (y := y62.2) rfl rfl) fun a hf => ?_
                    refine q_ hf rfl rfl rfl (e_pick_f hf rfl hc150 rfl) fun a hf => ?_
                    refine pl_nil ?_
                    obtain rfl := some_inj h144
                    refine then_n ?_
                    exact ⟨(y118.2 != y62.2), rfl, hf.keep ⟨rfl, rfl, rfl, trivial⟩, hM.pick [0] rfl⟩
                · rintro a w153 ⟨t141, rfl, hf, hM⟩
                  try dsimp only at h
                  rcases cond_some h with ⟨hc154, h⟩ | ⟨hc154, h⟩
                  · refine cond_t hf rfl hc154 ?_
                    refine wp_seq ?_
                    refine region_pl ?_
                    refine q_ hf rfl rfl rfl (e_assign hf rfl) fun a hf => ?_
                    refine pl_nil ?_
                    refine then_n ?_
                    refine wp_ret ?_
                    refine then_r ?_
                    obtain rfl := some_inj h
                    have hM := hM.outs (own' := []) 0 rfl
                    exact leave1 hf rfl rfl ⟨rfl, hM.fin⟩
                  · refine cond_f hf rfl hc154 ?_
                    refine wp_skip ?_
                    refine then_n ?_
                    refine wp_seq ?_
                    refine wp_seq ?_
                    obtain ⟨w155, hw⟩ : ∃ x, x = w153.drew := ⟨_, rfl⟩
                    refine region_pi (.q 0 (.q 1 (.l 2 (.l 3 (.q 4 (.nil)))))) (Ext w155) rfl (by kernel_rfl) ?_
                    have hM := hM.drew
                    rw [← hw] at hM ⊢
                    clear hw
                    refine pi_q hf rfl rfl rfl rfl (Ext.refl _) (e_loadA hf (us := [vL A87 (y85.Words) c88]) rfl ⟨Try.isAgg45, Try.sizeOf45⟩ rfl (hM.boxSub (k := 1) (us := [vL A87 (y85.Words) c88]) (o := 0) rfl rfl)) fun a hf => ?_
                    refine pi_q hf rfl rfl rfl rfl (Ext.refl _) (e_loadA hf (us := [vL A6 (aL5.Words) c7]) rfl ⟨Try.isAgg42, Try.sizeOf42⟩ rfl (hM.boxSub (k := 5) (us := [vL A6 (aL5.Words) c7]) (o := 0) rfl rfl)) fun a hf => ?_
                    refine pi_one ?_
                    obtain ⟨y156, hz157, h⟩ := bind_some h
                    refine pi_l hf rfl rfl rfl rfl (w_call hf Try.call26 rfl (r_laws_toLexicon ⟨_, Sh C _ _, none_, hM.sh_lt, none_not, C.G, hM.g_lt, g_none, hM.tabs⟩ aL5 _ _ (hM.dat (k := 0) rfl) _ hz157) ?_)
                    rintro _ w160 ⟨A158, c159, rfl, hM2⟩
                    obtain ⟨hM, hx161, hup162⟩ := hM.back hM2
                    dsimp only [List.cons_append, List.nil_append] at hM hup162
                    clear hM2
                    refine ⟨_, rfl, Ext w160, fun _ h => Ext.trans hx161 h, Ext.refl _, fun a hf => ?_⟩
                    refine pi_one ?_
                    obtain ⟨y163, hz164, h⟩ := bind_some h
                    refine pi_l hf rfl rfl rfl rfl (w_call hf Try.call28 rfl (r_laws_eqLexicon ⟨_, All C _ _, none_, hM.all_lt, none_not, C.G, hM.g_lt, g_none, hM.tabs⟩ y85 _ _ (hM.lendRow (k := 3) rfl) y156 _ _ (hM.lendRow (k := 0) rfl) _ hz164) ?_)
                    rintro _ w165 ⟨rfl, hM2⟩
                    obtain ⟨hM, hx166⟩ := hM.backA hM2
                    clear hM2
                    refine ⟨_, rfl, Ext w165, fun _ h => Ext.trans hx166 h, Ext.refl _, fun a hf => ?_⟩
                    refine pi_q hf rfl rfl rfl rfl (Ext.refl _) (e_not hf rfl) fun a hf => ?_
                    refine pi_nil ?_
                    refine then_n ?_
                    rcases cond_some h with ⟨hc168, h⟩ | ⟨hc168, h⟩
                    · refine cond_t hf rfl hc168 ?_
                      refine wp_seq ?_
                      refine region_pl ?_
                      refine q_ hf rfl rfl rfl (e_assign hf rfl) fun a hf => ?_
                      refine pl_nil ?_
                      refine then_n ?_
                      refine wp_ret ?_
                      refine then_r ?_
                      obtain rfl := some_inj h
                      have hM := hM.outs (own' := []) 0 rfl
                      exact leave1 hf rfl rfl ⟨rfl, hM.fin⟩
                    · refine cond_f hf rfl hc168 ?_
                      refine wp_skip ?_
                      refine then_n ?_
                      refine wp_seq ?_
                      refine region_pl ?_
                      refine q_ hf rfl rfl rfl (e_assign hf rfl) fun a hf => ?_
                      refine pl_nil ?_
                      refine then_n ?_
                      refine wp_ret ?_
                      obtain rfl := some_inj h
                      have hM := hM.outs (own' := []) 0 rfl
                      exact leave1 hf rfl rfl ⟨rfl, hM.fin⟩
              · refine pi_l hf rfl rfl rfl rfl (w_allocM hM (cs := [vI (0), vI (0), vS (([] : Str))]) Try.zeroValue27 rfl fun b169 w170 hx171 hn172 hM => ⟨ExtM [some b169] w170, fun _ h => ExtM.grow hx171 hn172 h, ExtM.refl _ _, fun a hf => ?_⟩)
                refine pi_one ?_
                refine pi_l hf rfl rfl rfl rfl (w_call hf Try.call38 rfl (r_impl_FillGrid ⟨_, All C _ _, none_, hM.all_lt, none_not, C.G, hM.g_lt, g_none, hM.tabs⟩ y100 hv112 hv113 hv114 y85 _ _ (hM.lendRow (k := 2) rfl) _ hz119) ?_)
                rintro _ w177 ⟨rfl, hM2, hv173, hv174, hv175, hv176⟩
                obtain ⟨hM, hx178⟩ := hM.backA hM2
                clear hM2
                refine ⟨_, rfl, ExtM [some b169] w177, fun _ h => ExtM.trans hx178 h, ExtM.refl _ _, fun a hf => ?_⟩
                refine pi_q hf rfl rfl rfl rfl (ExtM.refl _ _) (e_move hf rfl) fun a hf => ?_
                refine pi_q hf rfl rfl rfl rfl (ExtM.refl _ _) (e_extract hf rfl rfl) fun a hf => ?_
                refine pi_q hf rfl rfl rfl rfl (ExtM.refl _ _) (e_extract hf rfl rfl) fun a hf => ?_
                refine pi_one ?_
                refine pi_l0 hf rfl rfl rfl (w_storeM hf (List.mem_of_getElem? (i := 0) rfl) hM (us := [vI (y118.1.Rows), vI (y118.1.Cols), vS (y118.1.Cells)]) (cs' := [vI (y118.1.Rows), vI (y118.1.Cols), vS (y118.1.Cells)]) rfl rfl (k := 0) rfl rfl Try.sizeOf27 rfl rfl rfl fun w180 hxm181 hsz182 hM => ⟨Ext w180, fun _ h => ExtM.last hxm181 hsz182 h, Ext.refl _, ?_⟩)
                dsimp only [List.set] at hM
                refine pi_q hf rfl rfl rfl rfl (Ext.refl _) (e_assign hf rfl) fun a hf => ?_
                refine pi_nil ?_
                refine then_n ?_
                refine wp_seq ?_
                obtain ⟨x185, h186, h⟩ := bind_some h
                refine seq_join (fun a w => ∃ (t183 : Bool), t183 = x185 ∧ Has 52 a [(3, vP b13 (0)), (8, vP b92 (0)), (46, .bool (t183))] ∧ Mem C w [.box b169 [vI (y118.1.Rows), vI (y118.1.Cols), vS (y118.1.Cells)] 27, .box b92 [vL A87 (y85.Words) c88] 45, .row strRep A87 c88 9 y85.Words true, .box b78 [vI (y62.1.Rows), vI (y62.1.Cols), vS (y62.1.Cells)] 27, .row strRep A57 c58 9 y50.Words true, .box b13 [vL A6 (aL5.Words) c7] 42, .box b9 [vI (aG1.Rows), vI (aG1.Cols), vS (aG1.Cells)] 23] [.dat (sliceRep strRep) aL5.Words [vL A6 aL5.Words c7]]) ?_ ?_
                · refine region_pl ?_
                  refine q_ hf rfl rfl rfl (e_loadA hf (us := [vI (y118.1.Rows), vI (y118.1.Cols), vS (y118.1.Cells)]) rfl ⟨Try.isAgg27, Try.sizeOf27⟩ rfl (hM.boxSub (k := 0) (us := [vI (y118.1.Rows), vI (y118.1.Cols), vS (y118.1.Cells)]) (o := 0) rfl rfl)) fun a hf => ?_
                  refine q_ hf rfl rfl rfl (e_loadA hf (us := [vI (y62.1.Rows), vI (y62.1.Cols), vS (y62.1.Cells)]) rfl ⟨Try.isAgg27, Try.sizeOf27⟩ rfl (hM.boxSub (k := 3) (us := [vI (y62.1.Rows), vI (y62.1.Cols), vS (y62.1.Cells)]) (o := 0) rfl rfl)) fun a hf => ?_
                  obtain ⟨y187, hz188, h186⟩ := bind_some h186
                  refine pl_l hf rfl rfl rfl (w_call hf Try.call23 rfl (r_laws_eqGrid ⟨_, Sh C _ _, none_, hM.sh_lt, none_not, C.G, hM.g_lt, g_none, hM.tabs⟩ y118.1 hv173 hv174 hv175 y62.1 hv71 hv72 hv73 _ hz188) ?_)
                  rintro _ w189 ⟨rfl, hM2⟩
                  obtain ⟨hM, hx190, hup191⟩ := hM.back hM2
                  dsimp only [List.cons_append, List.nil_append] at hM hup191
                  clear hM2
                  refine ⟨_, rfl, fun a hf => ?_⟩
                  refine q_ hf rfl rfl rfl (e_not hf rfl) fun a hf => ?_
                  refine q_ hf rfl rfl rfl (e_move hf rfl) fun a hf => ?_
                  rcases cond_some h186 with ⟨hc192, h186⟩ | ⟨hc192, h186⟩
                  · refine pl_gs (wanted_f hf rfl rfl rfl rfl hc192) hf rfl rfl fun a hf => ?_
                    refine pl_gs (wanted_f hf rfl rfl rfl rfl hc192) hf rfl rfl fun a hf => ?_
                    refine pl_gs (wanted_f hf rfl rfl rfl rfl hc192) hf rfl rfl fun a hf => ?_
                    refine q_ hf rfl rfl rfl (e_pick_t hf rfl hc192 rfl) fun a hf => ?_
                    refine pl_nil ?_
                    obtain rfl := some_inj h186
                    refine then_n ?_
                    exact ⟨true, rfl, hf.keep ⟨rfl, rfl, rfl, trivial⟩, hM.pick [0] rfl⟩
                  · refine gq (wanted_t hf rfl rfl rfl rfl hc192) hf rfl rfl (e_move hf rfl) fun a hf => ?_
                    refine gq (wanted_t hf rfl rfl rfl rfl hc192) hf rfl rfl (e_move hf rfl) fun a hf => ?_
                    refine gq (wanted_t hf rfl rfl rfl rfl hc192) hf rfl rfl (e_ne hf (x := y118.2) (y := y62.2) rfl rfl) fun a hf => ?_
                    refine q_ hf rfl rfl rfl (e_pick_f hf rfl hc192 rfl) fun a hf => ?_
                    refine pl_nil ?_
                    obtain rfl := some_inj h186
                    refine then_n ?_
                    exact ⟨(y118.2 != y62.2), rfl, hf.keep ⟨rfl, rfl, rfl, trivial⟩, hM.pick [0] rfl⟩
                · rintro a w195 ⟨t183, rfl, hf, hM⟩
                  try dsimp only at h
                  rcases cond_some h with ⟨hc196, h⟩ | ⟨hc196, h⟩
                  · refine cond_t hf rfl hc196 ?_
                    refine wp_seq ?_
                    refine region_pl ?_
                    refine q_ hf rfl rfl rfl (e_assign hf rfl) fun a hf => ?_
                    refine pl_nil ?_
                    refine then_n ?_
                    refine wp_ret ?_
                    refine then_r ?_
                    obtain rfl := some_inj h
                    have hM := hM.outs (own' := []) 0 rfl
                    exact leave1 hf rfl rfl ⟨rfl, hM.fin⟩
                  · refine cond_f hf rfl hc196 ?_
                    refine wp_skip ?_
                    refine then_n ?_
                    refine wp_seq ?_
                    refine wp_seq ?_
                    obtain ⟨w197, hw⟩ : ∃ x, x = w195.drew := ⟨_, rfl⟩
                    refine region_pi (.q 0 (.q 1 (.l 2 (.l 3 (.q 4 (.nil)))))) (Ext w197) rfl (by kernel_rfl) ?_
                    have hM := hM.drew
                    rw [← hw] at hM ⊢
                    clear hw
                    refine pi_q hf rfl rfl rfl rfl (Ext.refl _) (e_loadA hf (us := [vL A87 (y85.Words) c88]) rfl ⟨Try.isAgg45, Try.sizeOf45⟩ rfl (hM.boxSub (k := 1) (us := [vL A87 (y85.Words) c88]) (o := 0) rfl rfl)) fun a hf => ?_
                    refine pi_q hf rfl rfl rfl rfl (Ext.refl _) (e_loadA hf (us := [vL A6 (aL5.Words) c7]) rfl ⟨Try.isAgg42, Try.sizeOf42⟩ rfl (hM.boxSub (k := 5) (us := [vL A6 (aL5.Words) c7]) (o := 0) rfl rfl)) fun a hf => ?_
                    refine pi_one ?_
                    obtain ⟨y198, hz199, h⟩ := bind_some h
                    refine pi_l hf rfl rfl rfl rfl (w_call hf Try.call26 rfl (r_laws_toLexicon ⟨_, Sh C _ _, none_, hM.sh_lt, none_not, C.G, hM.g_lt, g_none, hM.tabs⟩ aL5 _ _ (hM.dat (k := 0) rfl) _ hz199) ?_)
                    rintro _ w202 ⟨A200, c201, rfl, hM2⟩
                    obtain ⟨hM, hx203, hup204⟩ := hM.back hM2
                    dsimp only [List.cons_append, List.nil_append] at hM hup204
                    clear hM2
                    refine ⟨_, rfl, Ext w202, fun _ h => Ext.trans hx203 h, Ext.refl _, fun a hf => ?_⟩
                    refine pi_one ?_
                    obtain ⟨y205, hz206, h⟩ := bind_some h
                    refine pi_l hf rfl rfl rfl rfl (w_call hf Try.call28 rfl (r_laws_eqLexicon ⟨_, All C _ _, none_, hM.all_lt, none_not, C.G, hM.g_lt, g_none, hM.tabs⟩ y85 _ _ (hM.lendRow (k := 3) rfl) y198 _ _ (hM.lendRow (k := 0) rfl) _ hz206) ?_)
                    rintro _ w207 ⟨rfl, hM2⟩
                    obtain ⟨hM, hx208⟩ := hM.backA hM2
                    clear hM2
                    refine ⟨_, rfl, Ext w207, fun _ h => Ext.trans hx208 h, Ext.refl _, fun a hf => ?_⟩
                    refine pi_q hf rfl rfl rfl rfl (Ext.refl _) (e_not hf rfl) fun a hf => ?_
                    refine pi_nil ?_
                    refine then_n ?_
                    rcases cond_some h with ⟨hc210, h⟩ | ⟨hc210, h⟩
                    · refine cond_t hf rfl hc210 ?_
                      refine wp_seq ?_
                      refine region_pl ?_
                      refine q_ hf rfl rfl rfl (e_assign hf rfl) fun a hf => ?_
                      refine pl_nil ?_
                      refine then_n ?_
                      refine wp_ret ?_
                      refine then_r ?_
                      obtain rfl := some_inj h
                      have hM := hM.outs (own' := []) 0 rfl
                      exact leave1 hf rfl rfl ⟨rfl, hM.fin⟩
                    · refine cond_f hf rfl hc210 ?_
                      refine wp_skip ?_
                      refine then_n ?_
                      refine wp_seq ?_
                      refine region_pl ?_
                      refine q_ hf rfl rfl rfl (e_assign hf rfl) fun a hf => ?_
                      refine pl_nil ?_
                      refine then_n ?_
                      refine wp_ret ?_
                      obtain rfl := some_inj h
                      have hM := hM.outs (own' := []) 0 rfl
                      exact leave1 hf rfl rfl ⟨rfl, hM.fin⟩
            · refine pi_l hf rfl rfl rfl rfl (w_allocM hM (cs := [vI (0), vI (0), vS (([] : Str))]) Try.zeroValue27 rfl fun b211 w212 hx213 hn214 hM => ⟨ExtM [some b211] w212, fun _ h => ExtM.grow hx213 hn214 h, ExtM.refl _ _, fun a hf => ?_⟩)
              refine pi_one ?_
              refine pi_l hf rfl rfl rfl rfl (w_call hf Try.call14 rfl (r_laws_toGrid ⟨_, Sh C _ _, none_, hM.sh_lt, none_not, C.G, hM.g_lt, g_none, hM.tabs⟩ aG1 hp2 hp3 hp4 _ hz101) ?_)
              rintro _ w218 ⟨rfl, hM2, hv215, hv216, hv217⟩
              obtain ⟨hM, hx219, hup220⟩ := hM.back hM2
              dsimp only [List.cons_append, List.nil_append] at hM hup220
              clear hM2
              refine ⟨_, rfl, ExtM [some b211] w218, fun _ h => ExtM.trans hx219 h, ExtM.refl _ _, fun a hf => ?_⟩
              refine pi_one ?_
              obtain ⟨y221, hz222, h⟩ := bind_some h
              refine pi_l hf rfl rfl rfl rfl (w_call hf Try.call38 rfl (r_impl_FillGrid ⟨_, All C _ _, none_, hM.all_lt, none_not, C.G, hM.g_lt, g_none, hM.tabs⟩ y100 hv215 hv216 hv217 y85 _ _ (hM.lendRow (k := 2) rfl) _ hz222) ?_)
              rintro _ w227 ⟨rfl, hM2, hv223, hv224, hv225, hv226⟩
              obtain ⟨hM, hx228⟩ := hM.backA hM2
              clear hM2
              refine ⟨_, rfl, ExtM [some b211] w227, fun _ h => ExtM.trans hx228 h, ExtM.refl _ _, fun a hf => ?_⟩
              refine pi_q hf rfl rfl rfl rfl (ExtM.refl _ _) (e_move hf rfl) fun a hf => ?_
              refine pi_q hf rfl rfl rfl rfl (ExtM.refl _ _) (e_extract hf rfl rfl) fun a hf => ?_
              refine pi_q hf rfl rfl rfl rfl (ExtM.refl _ _) (e_extract hf rfl rfl) fun a hf => ?_
              refine pi_one ?_
              refine pi_l0 hf rfl rfl rfl (w_storeM hf (List.mem_of_getElem? (i := 0) rfl) hM (us := [vI (y221.1.Rows), vI (y221.1.Cols), vS (y221.1.Cells)]) (cs' := [vI (y221.1.Rows), vI (y221.1.Cols), vS (y221.1.Cells)]) rfl rfl (k := 0) rfl rfl Try.sizeOf27 rfl rfl rfl fun w230 hxm231 hsz232 hM => ⟨Ext w230, fun _ h => ExtM.last hxm231 hsz232 h, Ext.refl _, ?_⟩)
              dsimp only [List.set] at hM
              refine pi_q hf rfl rfl rfl rfl (Ext.refl _) (e_assign hf rfl) fun a hf => ?_
              refine pi_nil ?_
              refine then_n ?_
              refine wp_seq ?_
              obtain ⟨x235, h236, h⟩ := bind_some h
              refine seq_join (fun a w => ∃ (t233 : Bool), t233 = x235 ∧ Has 52 a [(3, vP b13 (0)), (8, vP b92 (0)), (46, .bool (t233))] ∧ Mem C w [.box b211 [vI (y221.1.Rows), vI (y221.1.Cols), vS (y221.1.Cells)] 27, .box b92 [vL A87 (y85.Words) c88] 45, .row strRep A87 c88 9 y85.Words true, .box b78 [vI (y62.1.Rows), vI (y62.1.Cols), vS (y62.1.Cells)] 27, .row strRep A57 c58 9 y50.Words true, .box b13 [vL A6 (aL5.Words) c7] 42, .box b9 [vI (aG1.Rows), vI (aG1.Cols), vS (aG1.Cells)] 23] [.dat (sliceRep strRep) aL5.Words [vL A6 aL5.Words c7]]) ?_ ?_
              · refine region_pl ?_
                refine q_ hf rfl rfl rfl (e_loadA hf (us := [vI (y221.1.Rows), vI (y221.1.Cols), vS (y221.1.Cells)]) rfl ⟨Try.isAgg27, Try.sizeOf27⟩ rfl (hM.boxSub (k := 0) (us := [vI (y221.1.Rows), vI (y221.1.Cols), vS (y221.1.Cells)]) (o := 0) rfl rfl)) fun a hf => ?_
                refine q_ hf rfl rfl rfl (e_loadA hf (us := [vI (y62.1.Rows), vI (y62.1.Cols), vS (y62.1.Cells)]) rfl ⟨Try.isAgg27, Try.sizeOf27⟩ rfl (hM.boxSub (k := 3) (us := [vI (y62.1.Rows), vI (y62.1.Cols), vS (y62.1.Cells)]) (o := 0) rfl rfl)) fun a hf => ?_
                obtain ⟨y237, hz238, h236⟩ := bind_some h236
                refine pl_l hf rfl rfl rfl (w_call hf Try.call23 rfl (r_laws_eqGrid ⟨_, Sh C _ _, none_, hM.sh_lt, none_not, C.G, hM.g_lt, g_none, hM.tabs⟩ y221.1 hv223 hv224 hv225 y62.1 hv71 hv72 hv73 _ hz238) ?_)
                rintro _ w239 ⟨rfl, hM2⟩
                obtain ⟨hM, hx240, hup241⟩ := hM.back hM2
                dsimp only [List.cons_append, List.nil_append] at hM hup241
                clear hM2
                refine ⟨_, rfl, fun a hf => ?_⟩
                refine q_ hf rfl rfl rfl (e_not hf rfl) fun a hf => ?_
                refine q_ hf rfl rfl rfl (e_move hf rfl) fun a hf => ?_
                rcases cond_some h236 with ⟨hc242, h236⟩ | ⟨hc242, h236⟩
                · refine pl_gs (wanted_f hf rfl rfl rfl rfl hc242) hf rfl rfl fun a hf => ?_
                  refine pl_gs (wanted_f hf rfl rfl rfl rfl hc242) hf rfl rfl fun a hf => ?_
                  refine pl_gs (wanted_f hf rfl rfl rfl rfl hc242) hf rfl rfl fun a hf => ?_
                  refine q_ hf rfl rfl rfl (e_pick_t hf rfl hc242 rfl) fun a hf => ?_
                  refine pl_nil ?_
                  obtain rfl := some_inj h236
                  refine then_n ?_
                  exact ⟨true, rfl, hf.keep ⟨rfl, rfl, rfl, trivial⟩, hM.pick [0] rfl⟩
                · refine gq (wanted_t hf rfl rfl rfl rfl hc242) hf rfl rfl (e_move hf rfl) fun a hf => ?_
                  refine gq (wanted_t hf rfl rfl rfl rfl hc242) hf rfl rfl (e_move hf rfl) fun a hf => ?_
                  refine gq (wanted_t hf rfl rfl rfl rfl hc242) hf rfl rfl (e_ne hf (x := y221.2) (y := y62.2) rfl rfl) fun a hf => ?_
                  refine q_ hf rfl rfl rfl (e_pick_f hf rfl hc242 rfl) fun a hf => ?_
                  refine pl_nil ?_
                  obtain rfl := some_inj h236
                  refine then_n ?_
                  exact ⟨(y221.2 != y62.2), rfl, hf.keep ⟨rfl, rfl, rfl, trivial⟩, hM.pick [0] rfl⟩
              · rintro a w245 ⟨t233, rfl, hf, hM⟩
                try dsimp only at h
                rcases cond_some h with ⟨hc246, h⟩ | ⟨hc246, h⟩
                · refine cond_t hf rfl hc246 ?_
                  refine wp_seq ?_
                  refine region_pl ?_
                  refine q_ hf rfl rfl rfl (e_assign hf rfl) fun a hf => ?_
                  refine pl_nil ?_
                  refine then_n ?_
                  refine wp_ret ?_
                  refine then_r ?_
                  obtain rfl := some_inj h
                  have hM := hM.outs (own' := []) 0 rfl
                  exact leave1 hf rfl rfl ⟨rfl, hM.fin⟩
                · refine cond_f hf rfl hc246 ?_
                  refine wp_skip ?_
                  refine then_n ?_
                  refine wp_seq ?_
                  refine wp_seq ?_
                  obtain ⟨w247, hw⟩ : ∃ x, x = w245.drew := ⟨_, rfl⟩
                  refine region_pi (.q 0 (.q 1 (.l 2 (.l 3 (.q 4 (.nil)))))) (Ext w247) rfl (by kernel_rfl) ?_
                  have hM := hM.drew
                  rw [← hw] at hM ⊢
                  clear hw
                  refine pi_q hf rfl rfl rfl rfl (Ext.refl _) (e_loadA hf (us := [vL A87 (y85.Words) c88]) rfl ⟨Try.isAgg45, Try.sizeOf45⟩ rfl (hM.boxSub (k := 1) (us := [vL A87 (y85.Words) c88]) (o := 0) rfl rfl)) fun a hf => ?_
                  refine pi_q hf rfl rfl rfl rfl (Ext.refl _) (e_loadA hf (us := [vL A6 (aL5.Words) c7]) rfl ⟨Try.isAgg42, Try.sizeOf42⟩ rfl (hM.boxSub (k := 5) (us := [vL A6 (aL5.Words) c7]) (o := 0) rfl rfl)) fun a hf => ?_
                  refine pi_one ?_
                  obtain ⟨y248, hz249, h⟩ := bind_some h
                  refine pi_l hf rfl rfl rfl rfl (w_call hf Try.call26 rfl (r_laws_toLexicon ⟨_, Sh C _ _, none_, hM.sh_lt, none_not, C.G, hM.g_lt, g_none, hM.tabs⟩ aL5 _ _ (hM.dat (k := 0) rfl) _ hz249) ?_)
                  rintro _ w252 ⟨A250, c251, rfl, hM2⟩
                  obtain ⟨hM, hx253, hup254⟩ := hM.back hM2
                  dsimp only [List.cons_append, List.nil_append] at hM hup254
                  clear hM2
                  refine ⟨_, rfl, Ext w252, fun _ h => Ext.trans hx253 h, Ext.refl _, fun a hf => ?_⟩
                  refine pi_one ?_
                  obtain ⟨y255, hz256, h⟩ := bind_some h
                  refine pi_l hf rfl rfl rfl rfl (w_call hf Try.call28 rfl (r_laws_eqLexicon ⟨_, All C _ _, none_, hM.all_lt, none_not, C.G, hM.g_lt, g_none, hM.tabs⟩ y85 _ _ (hM.lendRow (k := 3) rfl) y248 _ _ (hM.lendRow (k := 0) rfl) _ hz256) ?_)
                  rintro _ w257 ⟨rfl, hM2⟩
                  obtain ⟨hM, hx258⟩ := hM.backA hM2
                  clear hM2
                  refine ⟨_, rfl, Ext w257, fun _ h => Ext.trans hx258 h, Ext.refl _, fun a hf => ?_⟩
                  refine pi_q hf rfl rfl rfl rfl (Ext.refl _) (e_not hf rfl) fun a hf => ?_
                  refine pi_nil ?_
                  refine then_n ?_
                  rcases cond_some h with ⟨hc260, h⟩ | ⟨hc260, h⟩
                  · refine cond_t hf rfl hc260 ?_
                    refine wp_seq ?_
                    refine region_pl ?_
                    refine q_ hf rfl rfl rfl (e_assign hf rfl) fun a hf => ?_
                    refine pl_nil ?_
                    refine then_n ?_
                    refine wp_ret ?_
                    refine then_r ?_
                    obtain rfl := some_inj h
                    have hM := hM.outs (own' := []) 0 rfl
                    exact leave1 hf rfl rfl ⟨rfl, hM.fin⟩
                  · refine cond_f hf rfl hc260 ?_
                    refine wp_skip ?_
                    refine then_n ?_
                    refine wp_seq ?_
                    refine region_pl ?_
                    refine q_ hf rfl rfl rfl (e_assign hf rfl) fun a hf => ?_
                    refine pl_nil ?_
                    refine then_n ?_
                    refine wp_ret ?_
                    obtain rfl := some_inj h
                    have hM := hM.outs (own' := []) 0 rfl
                    exact leave1 hf rfl rfl ⟨rfl, hM.fin⟩
          · refine pi_l hf rfl rfl rfl rfl (w_allocM hM (cs := [vI (0), vI (0), vS (([] : Str))]) Try.zeroValue27 rfl fun b261 w262 hx263 hn264 hM => ⟨ExtM [some b261] w262, fun _ h => ExtM.grow hx263 hn264 h, ExtM.refl _ _, fun a hf => ?_⟩)
            refine pi_one ?_
            refine pi_l hf rfl rfl rfl rfl (w_call hf Try.call37 rfl (r_spec_FillGrid ⟨_, All C _ _, none_, hM.all_lt, none_not, C.G, hM.g_lt, g_none, hM.tabs⟩ y32 hv44 hv45 hv46 y50 _ _ (hM.lendRow (k := 1) rfl) _ hz63) ?_)
            rintro _ w269 ⟨rfl, hM2, hv265, hv266, hv267, hv268⟩
            obtain ⟨hM, hx270⟩ := hM.backA hM2
            clear hM2
            refine ⟨_, rfl, ExtM [some b261] w269, fun _ h => ExtM.trans hx270 h, ExtM.refl _ _, fun a hf => ?_⟩
            refine pi_q hf rfl rfl rfl rfl (ExtM.refl _ _) (e_move hf rfl) fun a hf => ?_
            refine pi_q hf rfl rfl rfl rfl (ExtM.refl _ _) (e_extract hf rfl rfl) fun a hf => ?_
            refine pi_q hf rfl rfl rfl rfl (ExtM.refl _ _) (e_extract hf rfl rfl) fun a hf => ?_
            refine pi_one ?_
            refine pi_l0 hf rfl rfl rfl (w_storeM hf (List.mem_of_getElem? (i := 0) rfl) hM (us := [vI (y62.1.Rows), vI (y62.1.Cols), vS (y62.1.Cells)]) (cs' := [vI (y62.1.Rows), vI (y62.1.Cols), vS (y62.1.Cells)]) rfl rfl (k := 0) rfl rfl Try.sizeOf27 rfl rfl rfl fun w272 hxm273 hsz274 hM => ⟨Ext w272, fun _ h => ExtM.last hxm273 hsz274 h, Ext.refl _, ?_⟩)
            dsimp only [List.set] at hM
            refine pi_q hf rfl rfl rfl rfl (Ext.refl _) (e_assign hf rfl) fun a hf => ?_
            refine pi_nil ?_
            refine then_n ?_
            refine wp_seq ?_
            refine region_pl ?_
            refine q_ hf rfl rfl rfl (e_loadA hf (us := [vL A6 (aL5.Words) c7]) rfl ⟨Try.isAgg42, Try.sizeOf42⟩ rfl (hM.boxSub (k := 2) (us := [vL A6 (aL5.Words) c7]) (o := 0) rfl rfl)) fun a hf => ?_
            obtain ⟨y275, hz276, h⟩ := bind_some h
            refine pl_l hf rfl rfl rfl (w_call hf Try.call26 rfl (r_laws_toLexicon ⟨_, Sh C _ _, none_, hM.sh_lt, none_not, C.G, hM.g_lt, g_none, hM.tabs⟩ aL5 _ _ (hM.dat (k := 0) rfl) _ hz276) ?_)
            rintro _ w279 ⟨A277, c278, rfl, hM2⟩
            obtain ⟨hM, hx280, hup281⟩ := hM.back hM2
            dsimp only [List.cons_append, List.nil_append] at hM hup281
            clear hM2
            refine ⟨_, rfl, fun a hf => ?_⟩
            refine pl_l hf rfl rfl rfl (w_alloc hM (cs := [vL none (([] : (List Str))) 0]) Try.zeroValue45 rfl fun b282 w283 hx284 hM a hf => ?_)
            refine pl_0 hf rfl rfl (w_store hf hM (us := [vL A277 (y275.Words) c278]) (cs' := [vL A277 (y275.Words) c278]) rfl rfl (k := 0) rfl rfl Try.sizeOf45 rfl rfl rfl fun w286 hM => ?_)
            dsimp only [List.set] at hM
            refine pl_nil ?_
            refine then_n ?_
            refine wp_seq ?_
            obtain ⟨w289, hw⟩ : ∃ x, x = w286.drew := ⟨_, rfl⟩
            refine region_pi (.q 0 (.q 2 (.b 1 7 (.b 3 7 (.q 4 (.q 5 (.q 6 (.l 7 (.l 8 (.q 9 (.nil))))))) (.l 3 (.q 4 (.q 5 (.q 6 (.l 8 (.q 9 (.nil)))))))) (.l 1 (.l 3 (.q 4 (.q 5 (.q 6 (.l 8 (.q 9 (.nil))))))))))) (ExtM [] w289) rfl (by kernel_rfl) ?_
            have hM := hM.drew
            rw [← hw] at hM ⊢
            clear hw
            refine pi_q hf rfl rfl rfl rfl (ExtM.refl _ _) (e_loadAM hf (us := [vI (aG1.Rows), vI (aG1.Cols), vS (aG1.Cells)]) rfl ⟨Try.isAgg23, Try.sizeOf23⟩ rfl (hM.boxSub (k := 5) (us := [vI (aG1.Rows), vI (aG1.Cols), vS (aG1.Cells)]) (o := 0) rfl rfl) (hM.apart (js := []) rfl (k := 5) rfl rfl rfl)) fun a hf => ?_
            refine pi_q hf rfl rfl rfl rfl (ExtM.refl _ _) (e_loadAM hf (us := [vL A277 (y275.Words) c278]) rfl ⟨Try.isAgg45, Try.sizeOf45⟩ rfl (hM.boxSub (k := 0) (us := [vL A277 (y275.Words) c278]) (o := 0) rfl rfl) (hM.apart (js := []) rfl (k := 0) rfl rfl rfl)) fun a hf => ?_
            obtain ⟨y290, hz291, h⟩ := bind_some h
            refine pi_two ?_ ?_
            · refine pi_l hf rfl rfl rfl rfl (w_call hf Try.call14 rfl (r_laws_toGrid ⟨_, Sh C _ _, none_, hM.sh_lt, none_not, C.G, hM.g_lt, g_none, hM.tabs⟩ aG1 hp2 hp3 hp4 _ hz291) ?_)
              rintro _ w305 ⟨rfl, hM2, hv302, hv303, hv304⟩
              obtain ⟨hM, hx306, hup307⟩ := hM.back hM2
              dsimp only [List.cons_append, List.nil_append] at hM hup307
              clear hM2
              refine ⟨_, rfl, ExtM [] w305, fun _ h => ExtM.trans hx306 h, ExtM.refl _ _, fun a hf => ?_⟩
              obtain ⟨y308, hz309, h⟩ := bind_some h
              refine pi_two ?_ ?_
              · refine pi_l hf rfl rfl rfl rfl (w_call hf Try.call38 rfl (r_impl_FillGrid ⟨_, All C _ _, none_, hM.all_lt, none_not, C.G, hM.g_lt, g_none, hM.tabs⟩ y290 hv302 hv303 hv304 y275 _ _ (hM.lendRow (k := 1) rfl) _ hz309) ?_)
                rintro _ w321 ⟨rfl, hM2, hv317, hv318, hv319, hv320⟩
                obtain ⟨hM, hx322⟩ := hM.backA hM2
                clear hM2
                refine ⟨_, rfl, ExtM [] w321, fun _ h => ExtM.trans hx322 h, ExtM.refl _ _, fun a hf => ?_⟩
                refine pi_q hf rfl rfl rfl rfl (ExtM.refl _ _) (e_move hf rfl) fun a hf => ?_
                refine pi_q hf rfl rfl rfl rfl (ExtM.refl _ _) (e_extract hf rfl rfl) fun a hf => ?_
                refine pi_q hf rfl rfl rfl rfl (ExtM.refl _ _) (e_extract hf rfl rfl) fun a hf => ?_
                refine pi_one ?_
                refine pi_l hf rfl rfl rfl rfl (w_allocM hM (cs := [vI (0), vI (0), vS (([] : Str))]) Try.zeroValue27 rfl fun b324 w325 hx326 hn327 hM => ⟨ExtM [some b324] w325, fun _ h => ExtM.grow hx326 hn327 h, ExtM.refl _ _, fun a hf => ?_⟩)
                refine pi_one ?_
                refine pi_l0 hf rfl rfl rfl (w_storeM hf (List.mem_of_getElem? (i := 0) rfl) hM (us := [vI (y308.1.Rows), vI (y308.1.Cols), vS (y308.1.Cells)]) (cs' := [vI (y308.1.Rows), vI (y308.1.Cols), vS (y308.1.Cells)]) rfl rfl (k := 0) rfl rfl Try.sizeOf27 rfl rfl rfl fun w328 hxm329 hsz330 hM => ⟨Ext w328, fun _ h => ExtM.last hxm329 hsz330 h, Ext.refl _, ?_⟩)
                dsimp only [List.set] at hM
                refine pi_q hf rfl rfl rfl rfl (Ext.refl _) (e_assign hf rfl) fun a hf => ?_
                refine pi_nil ?_
                refine then_n ?_
                refine wp_seq ?_
                obtain ⟨x333, h334, h⟩ := bind_some h
                refine seq_join (fun a w => ∃ (t331 : Bool), t331 = x333 ∧ Has 52 a [(3, vP b13 (0)), (8, vP b282 (0)), (46, .bool (t331))] ∧ Mem C w [.box b324 [vI (y308.1.Rows), vI (y308.1.Cols), vS (y308.1.Cells)] 27, .box b282 [vL A277 (y275.Words) c278] 45, .row strRep A277 c278 9 y275.Words true, .box b261 [vI (y62.1.Rows), vI (y62.1.Cols), vS (y62.1.Cells)] 27, .row strRep A57 c58 9 y50.Words true, .box b13 [vL A6 (aL5.Words) c7] 42, .box b9 [vI (aG1.Rows), vI (aG1.Cols), vS (aG1.Cells)] 23] [.dat (sliceRep strRep) aL5.Words [vL A6 aL5.Words c7]]) ?_ ?_
                · refine region_pl ?_
                  refine q_ hf rfl rfl rfl (e_loadA hf (us := [vI (y308.1.Rows), vI (y308.1.Cols), vS (y308.1.Cells)]) rfl ⟨Try.isAgg27, Try.sizeOf27⟩ rfl (hM.boxSub (k := 0) (us := [vI (y308.1.Rows), vI (y308.1.Cols), vS (y308.1.Cells)]) (o := 0) rfl rfl)) fun a hf => ?_
                  refine q_ hf rfl rfl rfl (e_loadA hf (us := [vI (y62.1.Rows), vI (y62.1.Cols), vS (y62.1.Cells)]) rfl ⟨Try.isAgg27, Try.sizeOf27⟩ rfl (hM.boxSub (k := 3) (us := [vI (y62.1.Rows), vI (y62.1.Cols), vS (y62.1.Cells)]) (o := 0) rfl rfl)) fun a hf => ?_
                  obtain ⟨y335, hz336, h334⟩ := bind_some h334
                  refine pl_l hf rfl rfl rfl (w_call hf Try.call23 rfl (r_laws_eqGrid ⟨_, Sh C _ _, none_, hM.sh_lt, none_not, C.G, hM.g_lt, g_none, hM.tabs⟩ y308.1 hv317 hv318 hv319 y62.1 hv265 hv266 hv267 _ hz336) ?_)
                  rintro _ w337 ⟨rfl, hM2⟩
                  obtain ⟨hM, hx338, hup339⟩ := hM.back hM2
                  dsimp only [List.cons_append, List.nil_append] at hM hup339
                  clear hM2
                  refine ⟨_, rfl, fun a hf => ?_⟩
                  refine q_ hf rfl rfl rfl (e_not hf rfl) fun a hf => ?_
                  refine q_ hf rfl rfl rfl (e_move hf rfl) fun a hf => ?_
                  rcases cond_some h334 with ⟨hc340, h334⟩ | ⟨hc340, h334⟩
                  · refine pl_gs (wanted_f hf rfl rfl rfl rfl hc340) hf rfl rfl fun a hf => ?_
                    refine pl_gs (wanted_f hf rfl rfl rfl rfl hc340) hf rfl rfl fun a hf => ?_
                    refine pl_gs (wanted_f hf rfl rfl rfl rfl hc340) hf rfl rfl fun a hf => ?_
                    refine q_ hf rfl rfl rfl (e_pick_t hf rfl hc340 rfl) fun a hf => ?_
                    refine pl_nil ?_
                    obtain rfl := some_inj h334
                    refine then_n ?_
                    exact ⟨true, rfl, hf.keep ⟨rfl, rfl, rfl, trivial⟩, hM.pick [0] rfl⟩
                  · refine gq (wanted_t hf rfl rfl rfl rfl hc340) hf rfl rfl (e_move hf rfl) fun a hf => ?_
                    refine gq (wanted_t hf rfl rfl rfl rfl hc340) hf rfl rfl (e_move hf rfl) fun a hf => ?_
                    refine gq (wanted_t hf rfl rfl rfl rfl hc340) hf rfl rfl (e_ne hf (x := y308.2) (y := y62.2) rfl rfl) fun a hf => ?_
                    refine q_ hf rfl rfl rfl (e_pick_f hf rfl hc340 rfl) fun a hf => ?_
                    refine pl_nil ?_
                    obtain rfl := some_inj h334
                    refine then_n ?_
                    exact ⟨(y308.2 != y62.2), rfl, hf.keep ⟨rfl, rfl, rfl, trivial⟩, hM.pick [0] rfl⟩
                · rintro a w343 ⟨t331, rfl, hf, hM⟩
                  try dsimp only at h
                  rcases cond_some h with ⟨hc344, h⟩ | ⟨hc344, h⟩
                  · refine cond_t hf rfl hc344 ?_
                    refine wp_seq ?_
                    refine region_pl ?_
                    refine q_ hf rfl rfl rfl (e_assign hf rfl) fun a hf => ?_
                    refine pl_nil ?_
                    refine then_n ?_
                    refine wp_ret ?_
                    refine then_r ?_
                    obtain rfl := some_inj h
                    have hM := hM.outs (own' := []) 0 rfl
                    exact leave1 hf rfl rfl ⟨rfl, hM.fin⟩
                  · refine cond_f hf rfl hc344 ?_
                    refine wp_skip ?_
                    refine then_n ?_
                    refine wp_seq ?_
                    refine wp_seq ?_
                    obtain ⟨w345, hw⟩ : ∃ x, x = w343.drew := ⟨_, rfl⟩
                    refine region_pi (.q 0 (.q 1 (.l 2 (.l 3 (.q 4 (.nil)))))) (Ext w345) rfl (by kernel_rfl) ?_
                    have hM := hM.drew
                    rw [← hw] at hM ⊢
                    clear hw
                    refine pi_q hf rfl rfl rfl rfl (Ext.refl _) (e_loadA hf (us := [vL A277 (y275.Words) c278]) rfl ⟨Try.isAgg45, Try.sizeOf45⟩ rfl (hM.boxSub (k := 1) (us := [vL A277 (y275.Words) c278]) (o := 0) rfl rfl)) fun a hf => ?_
                    refine pi_q hf rfl rfl rfl rfl (Ext.refl _) (e_loadA hf (us := [vL A6 (aL5.Words) c7]) rfl ⟨Try.isAgg42, Try.sizeOf42⟩ rfl (hM.boxSub (k := 5) (us := [vL A6 (aL5.Words) c7]) (o := 0) rfl rfl)) fun a hf => ?_
                    refine pi_one ?_
                    obtain ⟨y346, hz347, h⟩ := bind_some h
                    refine pi_l hf rfl rfl rfl rfl (w_call hf Try.call26 rfl (r_laws_toLexicon ⟨_, Sh C _ _, none_, hM.sh_lt, none_not, C.G, hM.g_lt, g_none, hM.tabs⟩ aL5 _ _ (hM.dat (k := 0) rfl) _ hz347) ?_)
                    rintro _ w350 ⟨A348, c349, rfl, hM2⟩
                    obtain ⟨hM, hx351, hup352⟩ := hM.back hM2
                    dsimp only [List.cons_append, List.nil_append] at hM hup352
                    clear hM2
                    refine ⟨_, rfl, Ext w350, fun _ h => Ext.trans hx351 h, Ext.refl _, fun a hf => ?_⟩
                    refine pi_one ?_
                    obtain ⟨y353, hz354, h⟩ := bind_some h
                    refine pi_l hf rfl rfl rfl rfl (w_call hf Try.call28 rfl (r_laws_eqLexicon ⟨_, All C _ _, none_, hM.all_lt, none_not, C.G, hM.g_lt, g_none, hM.tabs⟩ y275 _ _ (hM.lendRow (k := 3) rfl) y346 _ _ (hM.lendRow (k := 0) rfl) _ hz354) ?_)
                    rintro _ w355 ⟨rfl, hM2⟩
                    obtain ⟨hM, hx356⟩ := hM.backA hM2
                    clear hM2
                    refine ⟨_, rfl, Ext w355, fun _ h => Ext.trans hx356 h, Ext.refl _, fun a hf => ?_⟩
                    refine pi_q hf rfl rfl rfl rfl (Ext.refl _) (e_not hf rfl) fun a hf => ?_
                    refine pi_nil ?_
                    refine then_n ?_
                    rcases cond_some h with ⟨hc358, h⟩ | ⟨hc358, h⟩
                    · refine cond_t hf rfl hc358 ?_
                      refine wp_seq ?_
                      refine region_pl ?_
                      refine q_ hf rfl rfl rfl (e_assign hf rfl) fun a hf => ?_
                      refine pl_nil ?_
                      refine then_n ?_
                      refine wp_ret ?_
                      refine then_r ?_
                      obtain rfl := some_inj h
                      have hM := hM.outs (own' := []) 0 rfl
                      exact leave1 hf rfl rfl ⟨rfl, hM.fin⟩
                    · refine cond_f hf rfl hc358 ?_
                      refine wp_skip ?_
                      refine then_n ?_
                      refine wp_seq ?_
                      refine region_pl ?_
                      refine q_ hf rfl rfl rfl (e_assign hf rfl) fun a hf => ?_
                      refine pl_nil ?_
                      refine then_n ?_
                      refine wp_ret ?_
                      obtain rfl := some_inj h
                      have hM := hM.outs (own' := []) 0 rfl
                      exact leave1 hf rfl rfl ⟨rfl, hM.fin⟩
              · refine pi_l hf rfl rfl rfl rfl (w_allocM hM (cs := [vI (0), vI (0), vS (([] : Str))]) Try.zeroValue27 rfl fun b359 w360 hx361 hn362 hM => ⟨ExtM [some b359] w360, fun _ h => ExtM.grow hx361 hn362 h, ExtM.refl _ _, fun a hf => ?_⟩)
                refine pi_one ?_
                refine pi_l hf rfl rfl rfl rfl (w_call hf Try.call38 rfl (r_impl_FillGrid ⟨_, All C _ _, none_, hM.all_lt, none_not, C.G, hM.g_lt, g_none, hM.tabs⟩ y290 hv302 hv303 hv304 y275 _ _ (hM.lendRow (k := 2) rfl) _ hz309) ?_)
                rintro _ w367 ⟨rfl, hM2, hv363, hv364, hv365, hv366⟩
                obtain ⟨hM, hx368⟩ := hM.backA hM2
                clear hM2
                refine ⟨_, rfl, ExtM [some b359] w367, fun _ h => ExtM.trans hx368 h, ExtM.refl _ _, fun a hf => ?_⟩
                refine pi_q hf rfl rfl rfl rfl (ExtM.refl _ _) (e_move hf rfl) fun a hf => ?_
                refine pi_q hf rfl rfl rfl rfl (ExtM.refl _ _) (e_extract hf rfl rfl) fun a hf => ?_
                refine pi_q hf rfl rfl rfl rfl (ExtM.refl _ _) (e_extract hf rfl rfl) fun a hf => ?_
                refine pi_one ?_
                refine pi_l0 hf rfl rfl rfl (w_storeM hf (List.mem_of_getElem? (i := 0) rfl) hM (us := [vI (y308.1.Rows), vI (y308.1.Cols), vS (y308.1.Cells)]) (cs' := [vI (y308.1.Rows), vI (y308.1.Cols), vS (y308.1.Cells)]) rfl rfl (k := 0) rfl rfl Try.sizeOf27 rfl rfl rfl fun w370 hxm371 hsz372 hM => ⟨Ext w370, fun _ h => ExtM.last hxm371 hsz372 h, Ext.refl _, ?_⟩)
                dsimp only [List.set] at hM
                refine pi_q hf rfl rfl rfl rfl (Ext.refl _) (e_assign hf rfl) fun a hf => ?_
                refine pi_nil ?_
                refine then_n ?_
                refine wp_seq ?_
                obtain ⟨x375, h376, h⟩ := bind_some h
                refine seq_join (fun a w => ∃ (t373 : Bool), t373 = x375 ∧ Has 52 a [(3, vP b13 (0)), (8, vP b282 (0)), (46, .bool (t373))] ∧ Mem C w [.box b359 [vI (y308.1.Rows), vI (y308.1.Cols), vS (y308.1.Cells)] 27, .box b282 [vL A277 (y275.Words) c278] 45, .row strRep A277 c278 9 y275.Words true, .box b261 [vI (y62.1.Rows), vI (y62.1.Cols), vS (y62.1.Cells)] 27, .row strRep A57 c58 9 y50.Words true, .box b13 [vL A6 (aL5.Words) c7] 42, .box b9 [vI (aG1.Rows), vI (aG1.Cols), vS (aG1.Cells)] 23] [.dat (sliceRep strRep) aL5.Words [vL A6 aL5.Words c7]]) ?_ ?_
                · refine region_pl ?_
                  refine q_ hf rfl rfl rfl (e_loadA hf (us := [vI (y308.1.Rows), vI (y308.1.Cols), vS (y308.1.Cells)]) rfl ⟨Try.isAgg27, Try.sizeOf27⟩ rfl (hM.boxSub (k := 0) (us := [vI (y308.1.Rows), vI (y308.1.Cols), vS (y308.1.Cells)]) (o := 0) rfl rfl)) fun a hf => ?_
                  refine q_ hf rfl rfl rfl (e_loadA hf (us := [vI (y62.1.Rows), vI (y62.1.Cols), vS (y62.1.Cells)]) rfl ⟨Try.isAgg27, Try.sizeOf27⟩ rfl (hM.boxSub (k := 3) (us := [vI (y62.1.Rows), vI (y62.1.Cols), vS (y62.1.Cells)]) (o := 0) rfl rfl)) fun a hf => ?_
                  obtain ⟨y377, hz378, h376⟩ := bind_some h376
                  refine pl_l hf rfl rfl rfl (w_call hf Try.call23 rfl (r_laws_eqGrid ⟨_, Sh C _ _, none_, hM.sh_lt, none_not, C.G, hM.g_lt, g_none, hM.tabs⟩ y308.1 hv363 hv364 hv365 y62.1 hv265 hv266 hv267 _ hz378) ?_)
                  rintro _ w379 ⟨rfl, hM2⟩
                  obtain ⟨hM, hx380, hup381⟩ := hM.back hM2
                  dsimp only [List.cons_append, List.nil_append] at hM hup381
                  clear hM2
                  refine ⟨_, rfl, fun a hf => ?_⟩
                  refine q_ hf rfl rfl rfl (e_not hf rfl) fun a hf => ?_
                  refine q_ hf rfl rfl rfl (e_move hf rfl) fun a hf => ?_
                  rcases cond_some h376 with ⟨hc382, h376⟩ | ⟨hc382, h376⟩
                  · refine pl_gs (wanted_f hf rfl rfl rfl rfl hc382) hf rfl rfl fun a hf => ?_
                    refine pl_gs (wanted_f hf rfl rfl rfl rfl hc382) hf rfl rfl fun a hf => ?_
                    refine pl_gs (wanted_f hf rfl rfl rfl rfl hc382) hf rfl rfl fun a hf => ?_
                    refine q_ hf rfl rfl rfl (e_pick_t hf rfl hc382 rfl) fun a hf => ?_
                    refine pl_nil ?_
                    obtain rfl := some_inj h376
                    refine then_n ?_
                    exact ⟨true, rfl, hf.keep ⟨rfl, rfl, rfl, trivial⟩, hM.pick [0] rfl⟩
                  · refine gq (wanted_t hf rfl rfl rfl rfl hc382) hf rfl rfl (e_move hf rfl) fun a hf => ?_
                    refine gq (wanted_t hf rfl rfl rfl rfl hc382) hf rfl rfl (e_move hf rfl) fun a hf => ?_
                    refine gq (wanted_t hf rfl rfl rfl rfl hc382) hf rfl rfl (e_ne hf (x := y308.2) (y := y62.2) rfl rfl) fun a hf => ?_
                    refine q_ hf rfl rfl rfl (e_pick_f hf rfl hc382 rfl) fun a hf => ?_
                    refine pl_nil ?_
                    obtain rfl := some_inj h376
                    refine then_n ?_
                    exact ⟨(y308.2 != y62.2), rfl, hf.keep ⟨rfl, rfl, rfl, trivial⟩, hM.pick [0] rfl⟩
                · rintro a w385 ⟨t373, rfl, hf, hM⟩
                  try dsimp only at h
                  rcases cond_some h with ⟨hc386, h⟩ | ⟨hc386, h⟩
                  · refine cond_t hf rfl hc386 ?_
                    refine wp_seq ?_
                    refine region_pl ?_
                    refine q_ hf rfl rfl rfl (e_assign hf rfl) fun a hf => ?_
                    refine pl_nil ?_
                    refine then_n ?_
                    refine wp_ret ?_
                    refine then_r ?_
                    obtain rfl := some_inj h
                    have hM := hM.outs (own' := []) 0 rfl
                    exact leave1 hf rfl rfl ⟨rfl, hM.fin⟩
                  · refine cond_f hf rfl hc386 ?_
                    refine wp_skip ?_
                    refine then_n ?_
                    refine wp_seq ?_
                    refine wp_seq ?_
                    obtain ⟨w387, hw⟩ : ∃ x, x = w385.drew := ⟨_, rfl⟩
                    refine region_pi (.q 0 (.q 1 (.l 2 (.l 3 (.q 4 (.nil)))))) (Ext w387) rfl (by kernel_rfl) ?_
                    have hM := hM.drew
                    rw [← hw] at hM ⊢
                    clear hw
                    refine pi_q hf rfl rfl rfl rfl (Ext.refl _) (e_loadA hf (us := [vL A277 (y275.Words) c278]) rfl ⟨Try.isAgg45, Try.sizeOf45⟩ rfl (hM.boxSub (k := 1) (us := [vL A277 (y275.Words) c278]) (o := 0) rfl rfl)) fun a hf => ?_
                    refine pi_q hf rfl rfl rfl rfl (Ext.refl _) (e_loadA hf (us := [vL A6 (aL5.Words) c7]) rfl ⟨Try.isAgg42, Try.sizeOf42⟩ rfl (hM.boxSub (k := 5) (us := [vL A6 (aL5.Words) c7]) (o := 0) rfl rfl)) fun a hf => ?_
                    refine pi_one ?_
                    obtain ⟨y388, hz389, h⟩ := bind_some h
                    refine pi_l hf rfl rfl rfl rfl (w_call hf Try.call26 rfl (r_laws_toLexicon ⟨_, Sh C _ _, none_, hM.sh_lt, none_not, C.G, hM.g_lt, g_none, hM.tabs⟩ aL5 _ _ (hM.dat (k := 0) rfl) _ hz389) ?_)
                    rintro _ w392 ⟨A390, c391, rfl, hM2⟩
                    obtain ⟨hM, hx393, hup394⟩ := hM.back hM2
                    dsimp only [List.cons_append, List.nil_append] at hM hup394
                    clear hM2
                    refine ⟨_, rfl, Ext w392, fun _ h => Ext.trans hx393 h, Ext.refl _, fun a hf => ?_⟩
                    refine pi_one ?_
                    obtain ⟨y395, hz396, h⟩ := bind_some h
                    refine pi_l hf rfl rfl rfl rfl (w_call hf Try.call28 rfl (r_laws_eqLexicon ⟨_, All C _ _, none_, hM.all_lt, none_not, C.G, hM.g_lt, g_none, hM.tabs⟩ y275 _ _ (hM.lendRow (k := 3) rfl) y388 _ _ (hM.lendRow (k := 0) rfl) _ hz396) ?_)
                    rintro _ w397 ⟨rfl, hM2⟩
                    obtain ⟨hM, hx398⟩ := hM.backA hM2
                    clear hM2
                    refine ⟨_, rfl, Ext w397, fun _ h => Ext.trans hx398 h, Ext.refl _, fun a hf => ?_⟩
                    refine pi_q hf rfl rfl rfl rfl (Ext.refl _) (e_not hf rfl) fun a hf => ?_
                    refine pi_nil ?_
                    refine then_n ?_
                    rcases cond_some h with ⟨hc400, h⟩ | ⟨hc400, h⟩
                    · refine cond_t hf rfl hc400 ?_
                      refine wp_seq ?_
                      refine region_pl ?_
                      refine q_ hf rfl rfl rfl (e_assign hf rfl) fun a hf => ?_
                      refine pl_nil ?_
                      refine then_n ?_
                      refine wp_ret ?_
                      refine then_r ?_
                      obtain rfl := some_inj h
                      have hM := hM.outs (own' := []) 0 rfl
                      exact leave1 hf rfl rfl ⟨rfl, hM.fin⟩
                    · refine cond_f hf rfl hc400 ?_
                      refine wp_skip ?_
                      refine then_n ?_
                      refine wp_seq ?_
                      refine region_pl ?_
                      refine q_ hf rfl rfl rfl (e_assign hf rfl) fun a hf => ?_
                      refine pl_nil ?_
                      refine then_n ?_
                      refine wp_ret ?_
                      obtain rfl := some_inj h
                      have hM := hM.outs (own' := []) 0 rfl
                      exact leave1 hf rfl rfl ⟨rfl, hM.fin⟩
            · refine pi_l hf rfl rfl rfl rfl (w_allocM hM (cs := [vI (0), vI (0), vS (([] : Str))]) Try.zeroValue27 rfl fun b401 w402 hx403 hn404 hM => ⟨ExtM [some b401] w402, fun _ h => ExtM.grow hx403 hn404 h, ExtM.refl _ _, fun a hf => ?_⟩)
              refine pi_one ?_
              refine pi_l hf rfl rfl rfl rfl (w_call hf Try.call14 rfl (r_laws_toGrid ⟨_, Sh C _ _, none_, hM.sh_lt, none_not, C.G, hM.g_lt, g_none, hM.tabs⟩ aG1 hp2 hp3 hp4 _ hz291) ?_)
              rintro _ w408 ⟨rfl, hM2, hv405, hv406, hv407⟩
              obtain ⟨hM, hx409, hup410⟩ := hM.back hM2
              dsimp only [List.cons_append, List.nil_append] at hM hup410
              clear hM2
              refine ⟨_, rfl, ExtM [some b401] w408, fun _ h => ExtM.trans hx409 h, ExtM.refl _ _, fun a hf => ?_⟩
              refine pi_one ?_
              obtain ⟨y411, hz412, h⟩ := bind_some h
              refine pi_l hf rfl rfl rfl rfl (w_call hf Try.call38 rfl (r_impl_FillGrid ⟨_, All C _ _, none_, hM.all_lt, none_not, C.G, hM.g_lt, g_none, hM.tabs⟩ y290 hv405 hv406 hv407 y275 _ _ (hM.lendRow (k := 2) rfl) _ hz412) ?_)
              rintro _ w417 ⟨rfl, hM2, hv413, hv414, hv415, hv416⟩
              obtain ⟨hM, hx418⟩ := hM.backA hM2
              clear hM2
              refine ⟨_, rfl, ExtM [some b401] w417, fun _ h => ExtM.trans hx418 h, ExtM.refl _ _, fun a hf => ?_⟩
              refine pi_q hf rfl rfl rfl rfl (ExtM.refl _ _) (e_move hf rfl) fun a hf => ?_
              refine pi_q hf rfl rfl rfl rfl (ExtM.refl _ _) (e_extract hf rfl rfl) fun a hf => ?_
              refine pi_q hf rfl rfl rfl rfl (ExtM.refl _ _) (e_extract hf rfl rfl) fun a hf => ?_
              refine pi_one ?_
              refine pi_l0 hf rfl rfl rfl (w_storeM hf (List.mem_of_getElem? (i := 0) rfl) hM (us := [vI (y411.1.Rows), vI (y411.1.Cols), vS (y411.1.Cells)]) (cs' := [vI (y411.1.Rows), vI (y411.1.Cols), vS (y411.1.Cells)]) rfl rfl (k := 0) rfl rfl Try.sizeOf27 rfl rfl rfl fun w420 hxm421 hsz422 hM => ⟨Ext w420, fun _ h => ExtM.last hxm421 hsz422 h, Ext.refl _, ?_⟩)
              dsimp only [List.set] at hM
              refine pi_q hf rfl rfl rfl rfl (Ext.refl _) (e_assign hf rfl) fun a hf => ?_
              refine pi_nil ?_
              refine then_n ?_
              refine wp_seq ?_
              obtain ⟨x425, h426, h⟩ := bind_some h
              refine seq_join (fun a w => ∃ (t423 : Bool), t423 = x425 ∧ Has 52 a [(3, vP b13 (0)), (8, vP b282 (0)), (46, .bool (t423))] ∧ Mem C w [.box b401 [vI (y411.1.Rows), vI (y411.1.Cols), vS (y411.1.Cells)] 27, .box b282 [vL A277 (y275.Words) c278] 45, .row strRep A277 c278 9 y275.Words true, .box b261 [vI (y62.1.Rows), vI (y62.1.Cols), vS (y62.1.Cells)] 27, .row strRep A57 c58 9 y50.Words true, .box b13 [vL A6 (aL5.Words) c7] 42, .box b9 [vI (aG1.Rows), vI (aG1.Cols), vS (aG1.Cells)] 23] [.dat (sliceRep strRep) aL5.Words [vL A6 aL5.Words c7]]) ?_ ?_
              · refine region_pl ?_
                refine q_ hf rfl rfl rfl (e_loadA hf (us := [vI (y411.1.Rows), vI (y411.1.Cols), vS (y411.1.Cells)]) rfl ⟨Try.isAgg27, Try.sizeOf27⟩ rfl (hM.boxSub (k := 0) (us := [vI (y411.1.Rows), vI (y411.1.Cols), vS (y411.1.Cells)]) (o := 0) rfl rfl)) fun a hf => ?_
                refine q_ hf rfl rfl rfl (e_loadA hf (us := [vI (y62.1.Rows), vI (y62.1.Cols), vS (y62.1.Cells)]) rfl ⟨Try.isAgg27, Try.sizeOf27⟩ rfl (hM.boxSub (k := 3) (us := [vI (y62.1.Rows), vI (y62.1.Cols), vS (y62.1.Cells)]) (o := 0) rfl rfl)) fun a hf => ?_
                obtain ⟨y427, hz428, h426⟩ := bind_some h426
                refine pl_l hf rfl rfl rfl (w_call hf Try.call23 rfl (r_laws_eqGrid ⟨_, Sh C _ _, none_, hM.sh_lt, none_not, C.G, hM.g_lt, g_none, hM.tabs⟩ y411.1 hv413 hv414 hv415 y62.1 hv265 hv266 hv267 _ hz428) ?_)
                rintro _ w429 ⟨rfl, hM2⟩
                obtain ⟨hM, hx430, hup431⟩ := hM.back hM2
                dsimp only [List.cons_append, List.nil_append] at hM hup431
                clear hM2
                refine ⟨_, rfl, fun a hf => ?_⟩
                refine q_ hf rfl rfl rfl (e_not hf rfl) fun a hf => ?_
                refine q_ hf rfl rfl rfl (e_move hf rfl) fun a hf => ?_
                rcases cond_some h426 with ⟨hc432, h426⟩ | ⟨hc432, h426⟩
                · refine pl_gs (wanted_f hf rfl rfl rfl rfl hc432) hf rfl rfl fun a hf => ?_
                  refine pl_gs (wanted_f hf rfl rfl rfl rfl hc432) hf rfl rfl fun a hf => ?_
                  refine pl_gs (wanted_f hf rfl rfl rfl rfl hc432) hf rfl rfl fun a hf => ?_
                  refine q_ hf rfl rfl rfl (e_pick_t hf rfl hc432 rfl) fun a hf => ?_
                  refine pl_nil ?_
                  obtain rfl := some_inj h426
                  refine then_n ?_
                  exact ⟨true, rfl, hf.keep ⟨rfl, rfl, rfl, trivial⟩, hM.pick [0] rfl⟩
                · refine gq (wanted_t hf rfl rfl rfl rfl hc432) hf rfl rfl (e_move hf rfl) fun a hf => ?_
                  refine gq (wanted_t hf rfl rfl rfl rfl hc432) hf rfl rfl (e_move hf rfl) fun a hf => ?_
                  refine gq (wanted_t hf rfl rfl rfl rfl hc432) hf rfl rfl (e_ne hf (x := y411.2) (y := y62.2) rfl rfl) fun a hf => ?_
                  refine q_ hf rfl rfl rfl (e_pick_f hf rfl hc432 rfl) fun a hf => ?_
                  refine pl_nil ?_
                  obtain rfl := some_inj h426
                  refine then_n ?_
                  exact ⟨(y411.2 != y62.2), rfl, hf.keep ⟨rfl, rfl, rfl, trivial⟩, hM.pick [0] rfl⟩
              · rintro a w435 ⟨t423, rfl, hf, hM⟩
                try dsimp only at h
                rcases cond_some h with ⟨hc436, h⟩ | ⟨hc436, h⟩
                · refine cond_t hf rfl hc436 ?_
                  refine wp_seq ?_
                  refine region_pl ?_
                  refine q_ hf rfl rfl rfl (e_assign hf rfl) fun a hf => ?_
                  refine pl_nil ?_
                  refine then_n ?_
                  refine wp_ret ?_
                  refine then_r ?_
                  obtain rfl := some_inj h
                  have hM := hM.outs (own' := []) 0 rfl
                  exact leave1 hf rfl rfl ⟨rfl, hM.fin⟩
                · refine cond_f hf rfl hc436 ?_
                  refine wp_skip ?_
                  refine then_n ?_
                  refine wp_seq ?_
                  refine wp_seq ?_
                  obtain ⟨w437, hw⟩ : ∃ x, x = w435.drew := ⟨_, rfl⟩
                  refine region_pi (.q 0 (.q 1 (.l 2 (.l 3 (.q 4 (.nil)))))) (Ext w437) rfl (by kernel_rfl) ?_
                  have hM := hM.drew
                  rw [← hw] at hM ⊢
                  clear hw
                  refine pi_q hf rfl rfl rfl rfl (Ext.refl _) (e_loadA hf (us := [vL A277 (y275.Words) c278]) rfl ⟨Try.isAgg45, Try.sizeOf45⟩ rfl (hM.boxSub (k := 1) (us := [vL A277 (y275.Words) c278]) (o := 0) rfl rfl)) fun a hf => ?_
                  refine pi_q hf rfl rfl rfl rfl (Ext.refl _) (e_loadA hf (us := [vL A6 (aL5.Words) c7]) rfl ⟨Try.isAgg42, Try.sizeOf42⟩ rfl (hM.boxSub (k := 5) (us := [vL A6 (aL5.Words) c7]) (o := 0) rfl rfl)) fun a hf => ?_
                  refine pi_one ?_
                  obtain ⟨y438, hz439, h⟩ := bind_some h
                  refine pi_l hf rfl rfl rfl rfl (w_call hf Try.call26 rfl (r_laws_toLexicon ⟨_, Sh C _ _, none_, hM.sh_lt, none_not, C.G, hM.g_lt, g_none, hM.tabs⟩ aL5 _ _ (hM.dat (k := 0) rfl) _ hz439) ?_)
                  rintro _ w442 ⟨A440, c441, rfl, hM2⟩
                  obtain ⟨hM, hx443, hup444⟩ := hM.back hM2
                  dsimp only [List.cons_append, List.nil_append] at hM hup444
                  clear hM2
                  refine ⟨_, rfl, Ext w442, fun _ h => Ext.trans hx443 h, Ext.refl _, fun a hf => ?_⟩
                  refine pi_one ?_
                  obtain ⟨y445, hz446, h⟩ := bind_some h
                  refine pi_l hf rfl rfl rfl rfl (w_call hf Try.call28 rfl (r_laws_eqLexicon ⟨_, All C _ _, none_, hM.all_lt, none_not, C.G, hM.g_lt, g_none, hM.tabs⟩ y275 _ _ (hM.lendRow (k := 3) rfl) y438 _ _ (hM.lendRow (k := 0) rfl) _ hz446) ?_)
                  rintro _ w447 ⟨rfl, hM2⟩
                  obtain ⟨hM, hx448⟩ := hM.backA hM2
                  clear hM2
                  refine ⟨_, rfl, Ext w447, fun _ h => Ext.trans hx448 h, Ext.refl _, fun a hf => ?_⟩
                  refine pi_q hf rfl rfl rfl rfl (Ext.refl _) (e_not hf rfl) fun a hf => ?_
                  refine pi_nil ?_
                  refine then_n ?_
                  rcases cond_some h with ⟨hc450, h⟩ | ⟨hc450, h⟩
                  · refine cond_t hf rfl hc450 ?_
                    refine wp_seq ?_
                    refine region_pl ?_
                    refine q_ hf rfl rfl rfl (e_assign hf rfl) fun a hf => ?_
                    refine pl_nil ?_
                    refine then_n ?_
                    refine wp_ret ?_
                    refine then_r ?_
                    obtain rfl := some_inj h
                    have hM := hM.outs (own' := []) 0 rfl
                    exact leave1 hf rfl rfl ⟨rfl, hM.fin⟩
                  · refine cond_f hf rfl hc450 ?_
                    refine wp_skip ?_
                    refine then_n ?_
                    refine wp_seq ?_
                    refine region_pl ?_
                    refine q_ hf rfl rfl rfl (e_assign hf rfl) fun a hf => ?_
                    refine pl_nil ?_
                    refine then_n ?_
                    refine wp_ret ?_
                    obtain rfl := some_inj h
                    have hM := hM.outs (own' := []) 0 rfl
                    exact leave1 hf rfl rfl ⟨rfl, hM.fin⟩
        · refine pi_l hf rfl rfl rfl rfl (w_allocM hM (cs := [vI (0), vI (0), vS (([] : Str))]) Try.zeroValue27 rfl fun b451 w452 hx453 hn454 hM => ⟨ExtM [some b451] w452, fun _ h => ExtM.grow hx453 hn454 h, ExtM.refl _ _, fun a hf => ?_⟩)
          refine pi_one ?_
          refine pi_l hf rfl rfl rfl rfl (w_call hf Try.call26 rfl (r_laws_toLexicon ⟨_, Sh C _ _, none_, hM.sh_lt, none_not, C.G, hM.g_lt, g_none, hM.tabs⟩ aL5 _ _ (hM.dat (k := 0) rfl) _ hz51) ?_)
          rintro _ w457 ⟨A455, c456, rfl, hM2⟩
          obtain ⟨hM, hx458, hup459⟩ := hM.back hM2
          dsimp only [List.cons_append, List.nil_append] at hM hup459
          clear hM2
          refine ⟨_, rfl, ExtM [some b451] w457, fun _ h => ExtM.trans hx458 h, ExtM.refl _ _, fun a hf => ?_⟩
          refine pi_one ?_
          obtain ⟨y460, hz461, h⟩ := bind_some h
          refine pi_l hf rfl rfl rfl rfl (w_call hf Try.call37 rfl (r_spec_FillGrid ⟨_, All C _ _, none_, hM.all_lt, none_not, C.G, hM.g_lt, g_none, hM.tabs⟩ y32 hv44 hv45 hv46 y50 _ _ (hM.lendRow (k := 0) rfl) _ hz461) ?_)
          rintro _ w466 ⟨rfl, hM2, hv462, hv463, hv464, hv465⟩
          obtain ⟨hM, hx467⟩ := hM.backA hM2
          clear hM2
          refine ⟨_, rfl, ExtM [some b451] w466, fun _ h => ExtM.trans hx467 h, ExtM.refl _ _, fun a hf => ?_⟩
          refine pi_q hf rfl rfl rfl rfl (ExtM.refl _ _) (e_move hf rfl) fun a hf => ?_
          refine pi_q hf rfl rfl rfl rfl (ExtM.refl _ _) (e_extract hf rfl rfl) fun a hf => ?_
          refine pi_q hf rfl rfl rfl rfl (ExtM.refl _ _) (e_extract hf rfl rfl) fun a hf => ?_
          refine pi_one ?_
          refine pi_l0 hf rfl rfl rfl (w_storeM hf (List.mem_of_getElem? (i := 0) rfl) hM (us := [vI (y460.1.Rows), vI (y460.1.Cols), vS (y460.1.Cells)]) (cs' := [vI (y460.1.Rows), vI (y460.1.Cols), vS (y460.1.Cells)]) rfl rfl (k := 1) rfl rfl Try.sizeOf27 rfl rfl rfl fun w469 hxm470 hsz471 hM => ⟨Ext w469, fun _ h => ExtM.last hxm470 hsz471 h, Ext.refl _, ?_⟩)
          dsimp only [List.set] at hM
          refine pi_q hf rfl rfl rfl rfl (Ext.refl _) (e_assign hf rfl) fun a hf => ?_
          refine pi_nil ?_
          refine then_n ?_
          refine wp_seq ?_
          refine region_pl ?_
          refine q_ hf rfl rfl rfl (e_loadA hf (us := [vL A6 (aL5.Words) c7]) rfl ⟨Try.isAgg42, Try.sizeOf42⟩ rfl (hM.boxSub (k := 2) (us := [vL A6 (aL5.Words) c7]) (o := 0) rfl rfl)) fun a hf => ?_
          obtain ⟨y472, hz473, h⟩ := bind_some h
          refine pl_l hf rfl rfl rfl (w_call hf Try.call26 rfl (r_laws_toLexicon ⟨_, Sh C _ _, none_, hM.sh_lt, none_not, C.G, hM.g_lt, g_none, hM.tabs⟩ aL5 _ _ (hM.dat (k := 0) rfl) _ hz473) ?_)
          rintro _ w476 ⟨A474, c475, rfl, hM2⟩
          obtain ⟨hM, hx477, hup478⟩ := hM.back hM2
          dsimp only [List.cons_append, List.nil_append] at hM hup478
          clear hM2
          refine ⟨_, rfl, fun a hf => ?_⟩
          refine pl_l hf rfl rfl rfl (w_alloc hM (cs := [vL none (([] : (List Str))) 0]) Try.zeroValue45 rfl fun b479 w480 hx481 hM a hf => ?_)
          refine pl_0 hf rfl rfl (w_store hf hM (us := [vL A474 (y472.Words) c475]) (cs' := [vL A474 (y472.Words) c475]) rfl rfl (k := 0) rfl rfl Try.sizeOf45 rfl rfl rfl fun w483 hM => ?_)
          dsimp only [List.set] at hM
          refine pl_nil ?_
          refine then_n ?_
          refine wp_seq ?_
          obtain ⟨w486, hw⟩ : ∃ x, x = w483.drew := ⟨_, rfl⟩
          refine region_pi (.q 0 (.q 2 (.b 1 7 (.b 3 7 (.q 4 (.q 5 (.q 6 (.l 7 (.l 8 (.q 9 (.nil))))))) (.l 3 (.q 4 (.q 5 (.q 6 (.l 8 (.q 9 (.nil)))))))) (.l 1 (.l 3 (.q 4 (.q 5 (.q 6 (.l 8 (.q 9 (.nil))))))))))) (ExtM [] w486) rfl (by kernel_rfl) ?_
          have hM := hM.drew
          rw [← hw] at hM ⊢
          clear hw
          refine pi_q hf rfl rfl rfl rfl (ExtM.refl _ _) (e_loadAM hf (us := [vI (aG1.Rows), vI (aG1.Cols), vS (aG1.Cells)]) rfl ⟨Try.isAgg23, Try.sizeOf23⟩ rfl (hM.boxSub (k := 5) (us := [vI (aG1.Rows), vI (aG1.Cols), vS (aG1.Cells)]) (o := 0) rfl rfl) (hM.apart (js := []) rfl (k := 5) rfl rfl rfl)) fun a hf => ?_
          refine pi_q hf rfl rfl rfl rfl (ExtM.refl _ _) (e_loadAM hf (us := [vL A474 (y472.Words) c475]) rfl ⟨Try.isAgg45, Try.sizeOf45⟩ rfl (hM.boxSub (k := 0) (us := [vL A474 (y472.Words) c475]) (o := 0) rfl rfl) (hM.apart (js := []) rfl (k := 0) rfl rfl rfl)) fun a hf => ?_
          obtain ⟨y487, hz488, h⟩ := bind_some h
          refine pi_two ?_ ?_
          · refine pi_l hf rfl rfl rfl rfl (w_call hf Try.call14 rfl (r_laws_toGrid ⟨_, Sh C _ _, none_, hM.sh_lt, none_not, C.G, hM.g_lt, g_none, hM.tabs⟩ aG1 hp2 hp3 hp4 _ hz488) ?_)
            rintro _ w502 ⟨rfl, hM2, hv499, hv500, hv501⟩
            obtain ⟨hM, hx503, hup504⟩ := hM.back hM2
            dsimp only [List.cons_append, List.nil_append] at hM hup504
            clear hM2
            refine ⟨_, rfl, ExtM [] w502, fun _ h => ExtM.trans hx503 h, ExtM.refl _ _, fun a hf => ?_⟩
            obtain ⟨y505, hz506, h⟩ := bind_some h
            refine pi_two ?_ ?_
            · refine pi_l hf rfl rfl rfl rfl (w_call hf Try.call38 rfl (r_impl_FillGrid ⟨_, All C _ _, none_, hM.all_lt, none_not, C.G, hM.g_lt, g_none, hM.tabs⟩ y487 hv499 hv500 hv501 y472 _ _ (hM.lendRow (k := 1) rfl) _ hz506) ?_)
              rintro _ w518 ⟨rfl, hM2, hv514, hv515, hv516, hv517⟩
              obtain ⟨hM, hx519⟩ := hM.backA hM2
              clear hM2
              refine ⟨_, rfl, ExtM [] w518, fun _ h => ExtM.trans hx519 h, ExtM.refl _ _, fun a hf => ?_⟩
              refine pi_q hf rfl rfl rfl rfl (ExtM.refl _ _) (e_move hf rfl) fun a hf => ?_
              refine pi_q hf rfl rfl rfl rfl (ExtM.refl _ _) (e_extract hf rfl rfl) fun a hf => ?_
              refine pi_q hf rfl rfl rfl rfl (ExtM.refl _ _) (e_extract hf rfl rfl) fun a hf => ?_
              refine pi_one ?_
              refine pi_l hf rfl rfl rfl rfl (w_allocM hM (cs := [vI (0), vI (0), vS (([] : Str))]) Try.zeroValue27 rfl fun b521 w522 hx523 hn524 hM => ⟨ExtM [some b521] w522, fun _ h => ExtM.grow hx523 hn524 h, ExtM.refl _ _, fun a hf => ?_⟩)
              refine pi_one ?_
              refine pi_l0 hf rfl rfl rfl (w_storeM hf (List.mem_of_getElem? (i := 0) rfl) hM (us := [vI (y505.1.Rows), vI (y505.1.Cols), vS (y505.1.Cells)]) (cs' := [vI (y505.1.Rows), vI (y505.1.Cols), vS (y505.1.Cells)]) rfl rfl (k := 0) rfl rfl Try.sizeOf27 rfl rfl rfl fun w525 hxm526 hsz527 hM => ⟨Ext w525, fun _ h => ExtM.last hxm526 hsz527 h, Ext.refl _, ?_⟩)
              dsimp only [List.set] at hM
              refine pi_q hf rfl rfl rfl rfl (Ext.refl _) (e_assign hf rfl) fun a hf => ?_
              refine pi_nil ?_
              refine then_n ?_
              refine wp_seq ?_
              obtain ⟨x530, h531, h⟩ := bind_some h
              refine seq_join (fun a w => ∃ (t528 : Bool), t528 = x530 ∧ Has 52 a [(3, vP b13 (0)), (8, vP b479 (0)), (46, .bool (t528))] ∧ Mem C w [.box b521 [vI (y505.1.Rows), vI (y505.1.Cols), vS (y505.1.Cells)] 27, .box b479 [vL A474 (y472.Words) c475] 45, .row strRep A474 c475 9 y472.Words true, .row strRep A455 c456 9 y50.Words true, .box b451 [vI (y460.1.Rows), vI (y460.1.Cols), vS (y460.1.Cells)] 27, .box b13 [vL A6 (aL5.Words) c7] 42, .box b9 [vI (aG1.Rows), vI (aG1.Cols), vS (aG1.Cells)] 23] [.dat (sliceRep strRep) aL5.Words [vL A6 aL5.Words c7]]) ?_ ?_
              · refine region_pl ?_
                refine q_ hf rfl rfl rfl (e_loadA hf (us := [vI (y505.1.Rows), vI (y505.1.Cols), vS (y505.1.Cells)]) rfl ⟨Try.isAgg27, Try.sizeOf27⟩ rfl (hM.boxSub (k := 0) (us := [vI (y505.1.Rows), vI (y505.1.Cols), vS (y505.1.Cells)]) (o := 0) rfl rfl)) fun a hf => ?_
                refine q_ hf rfl rfl rfl (e_loadA hf (us := [vI (y460.1.Rows), vI (y460.1.Cols), vS (y460.1.Cells)]) rfl ⟨Try.isAgg27, Try.sizeOf27⟩ rfl (hM.boxSub (k := 4) (us := [vI (y460.1.Rows), vI (y460.1.Cols), vS (y460.1.Cells)]) (o := 0) rfl rfl)) fun a hf => ?_
                obtain ⟨y532, hz533, h531⟩ := bind_some h531
                refine pl_l hf rfl rfl rfl (w_call hf Try.call23 rfl (r_laws_eqGrid ⟨_, Sh C _ _, none_, hM.sh_lt, none_not, C.G, hM.g_lt, g_none, hM.tabs⟩ y505.1 hv514 hv515 hv516 y460.1 hv462 hv463 hv464 _ hz533) ?_)
                rintro _ w534 ⟨rfl, hM2⟩
                obtain ⟨hM, hx535, hup536⟩ := hM.back hM2
                dsimp only [List.cons_append, List.nil_append] at hM hup536
                clear hM2
                refine ⟨_, rfl, fun a hf => ?_⟩
                refine q_ hf rfl rfl rfl (e_not hf rfl) fun a hf => ?_
                refine q_ hf rfl rfl rfl (e_move hf rfl) fun a hf => ?_
                rcases cond_some h531 with ⟨hc537, h531⟩ | ⟨hc537, h531⟩
                · refine pl_gs (wanted_f hf rfl rfl rfl rfl hc537) hf rfl rfl fun a hf => ?_
                  refine pl_gs (wanted_f hf rfl rfl rfl rfl hc537) hf rfl rfl fun a hf => ?_
                  refine pl_gs (wanted_f hf rfl rfl rfl rfl hc537) hf rfl rfl fun a hf => ?_
                  refine q_ hf rfl rfl rfl (e_pick_t hf rfl hc537 rfl) fun a hf => ?_
                  refine pl_nil ?_
                  obtain rfl := some_inj h531
                  refine then_n ?_
                  exact ⟨true, rfl, hf.keep ⟨rfl, rfl, rfl, trivial⟩, hM.pick [0] rfl⟩
                · refine gq (wanted_t hf rfl rfl rfl rfl hc537) hf rfl rfl (e_move hf rfl) fun a hf => ?_
                  refine gq (wanted_t hf rfl rfl rfl rfl hc537) hf rfl rfl (e_move hf rfl) fun a hf => ?_
                  refine gq (wanted_t hf rfl rfl rfl rfl hc537) hf rfl rfl (e_ne hf (x := y505.2) (y := y460.2) rfl rfl) fun a hf => ?_
                  refine q_ hf rfl rfl rfl (e_pick_f hf rfl hc537 rfl) fun a hf => ?_
                  refine pl_nil ?_
                  obtain rfl := some_inj h531
                  refine then_n ?_
                  exact ⟨(y505.2 != y460.2), rfl, hf.keep ⟨rfl, rfl, rfl, trivial⟩, hM.pick [0] rfl⟩
              · rintro a w540 ⟨t528, rfl, hf, hM⟩
                try dsimp only at h
                rcases cond_some h with ⟨hc541, h⟩ | ⟨hc541, h⟩
                · refine cond_t hf rfl hc541 ?_
                  refine wp_seq ?_
                  refine region_pl ?_
                  refine q_ hf rfl rfl rfl (e_assign hf rfl) fun a hf => ?_
                  refine pl_nil ?_
                  refine then_n ?_
                  refine wp_ret ?_
                  refine then_r ?_
                  obtain rfl := some_inj h
                  have hM := hM.outs (own' := []) 0 rfl
                  exact leave1 hf rfl rfl ⟨rfl, hM.fin⟩
                · refine cond_f hf rfl hc541 ?_
                  refine wp_skip ?_
                  refine then_n ?_
                  refine wp_seq ?_
                  refine wp_seq ?_
                  obtain ⟨w542, hw⟩ : ∃ x, x = w540.drew := ⟨_, rfl⟩
                  refine region_pi (.q 0 (.q 1 (.l 2 (.l 3 (.q 4 (.nil)))))) (Ext w542) rfl (by kernel_rfl) ?_
                  have hM := hM.drew
                  rw [← hw] at hM ⊢
                  clear hw
                  refine pi_q hf rfl rfl rfl rfl (Ext.refl _) (e_loadA hf (us := [vL A474 (y472.Words) c475]) rfl ⟨Try.isAgg45, Try.sizeOf45⟩ rfl (hM.boxSub (k := 1) (us := [vL A474 (y472.Words) c475]) (o := 0) rfl rfl)) fun a hf => ?_
                  refine pi_q hf rfl rfl rfl rfl (Ext.refl _) (e_loadA hf (us := [vL A6 (aL5.Words) c7]) rfl ⟨Try.isAgg42, Try.sizeOf42⟩ rfl (hM.boxSub (k := 5) (us := [vL A6 (aL5.Words) c7]) (o := 0) rfl rfl)) fun a hf => ?_
                  refine pi_one ?_
                  obtain ⟨y543, hz544, h⟩ := bind_some h
                  refine pi_l hf rfl rfl rfl rfl (w_call hf Try.call26 rfl (r_laws_toLexicon ⟨_, Sh C _ _, none_, hM.sh_lt, none_not, C.G, hM.g_lt, g_none, hM.tabs⟩ aL5 _ _ (hM.dat (k := 0) rfl) _ hz544) ?_)
                  rintro _ w547 ⟨A545, c546, rfl, hM2⟩
                  obtain ⟨hM, hx548, hup549⟩ := hM.back hM2
                  dsimp only [List.cons_append, List.nil_append] at hM hup549
                  clear hM2
                  refine ⟨_, rfl, Ext w547, fun _ h => Ext.trans hx548 h, Ext.refl _, fun a hf => ?_⟩
                  refine pi_one ?_
                  obtain ⟨y550, hz551, h⟩ := bind_some h
                  refine pi_l hf rfl rfl rfl rfl (w_call hf Try.call28 rfl (r_laws_eqLexicon ⟨_, All C _ _, none_, hM.all_lt, none_not, C.G, hM.g_lt, g_none, hM.tabs⟩ y472 _ _ (hM.lendRow (k := 3) rfl) y543 _ _ (hM.lendRow (k := 0) rfl) _ hz551) ?_)
                  rintro _ w552 ⟨rfl, hM2⟩
                  obtain ⟨hM, hx553⟩ := hM.backA hM2
                  clear hM2
                  refine ⟨_, rfl, Ext w552, fun _ h => Ext.trans hx553 h, Ext.refl _, fun a hf => ?_⟩
                  refine pi_q hf rfl rfl rfl rfl (Ext.refl _) (e_not hf rfl) fun a hf => ?_
                  refine pi_nil ?_
                  refine then_n ?_
                  rcases cond_some h with ⟨hc555, h⟩ | ⟨hc555, h⟩
                  · refine cond_t hf rfl hc555 ?_
                    refine wp_seq ?_
                    refine region_pl ?_
                    refine q_ hf rfl rfl rfl (e_assign hf rfl) fun a hf => ?_
                    refine pl_nil ?_
                    refine then_n ?_
                    refine wp_ret ?_
                    refine then_r ?_
                    obtain rfl := some_inj h
                    have hM := hM.outs (own' := []) 0 rfl
                    exact leave1 hf rfl rfl ⟨rfl, hM.fin⟩
                  · refine cond_f hf rfl hc555 ?_
                    refine wp_skip ?_
                    refine then_n ?_
                    refine wp_seq ?_
                    refine region_pl ?_
                    refine q_ hf rfl rfl rfl (e_assign hf rfl) fun a hf => ?_
                    refine pl_nil ?_
                    refine then_n ?_
                    refine wp_ret ?_
                    obtain rfl := some_inj h
                    have hM := hM.outs (own' := []) 0 rfl
                    exact leave1 hf rfl rfl ⟨rfl, hM.fin⟩
            · refine pi_l hf rfl rfl rfl rfl (w_allocM hM (cs := [vI (0), vI (0), vS (([] : Str))]) Try.zeroValue27 rfl fun b556 w557 hx558 hn559 hM => ⟨ExtM [some b556] w557, fun _ h => ExtM.grow hx558 hn559 h, ExtM.refl _ _, fun a hf => ?_⟩)
              refine pi_one ?_
              refine pi_l hf rfl rfl rfl rfl (w_call hf Try.call38 rfl (r_impl_FillGrid ⟨_, All C _ _, none_, hM.all_lt, none_not, C.G, hM.g_lt, g_none, hM.tabs⟩ y487 hv499 hv500 hv501 y472 _ _ (hM.lendRow (k := 2) rfl) _ hz506) ?_)
              rintro _ w564 ⟨rfl, hM2, hv560, hv561, hv562, hv563⟩
              obtain ⟨hM, hx565⟩ := hM.backA hM2
              clear hM2
              refine ⟨_, rfl, ExtM [some b556] w564, fun _ h => ExtM.trans hx565 h, ExtM.refl _ _, fun a hf => ?_⟩
              refine pi_q hf rfl rfl rfl rfl (ExtM.refl _ _) (e_move hf rfl) fun a hf => ?_
              refine pi_q hf rfl rfl rfl rfl (ExtM.refl _ _) (e_extract hf rfl rfl) fun a hf => ?_
              refine pi_q hf rfl rfl rfl rfl (ExtM.refl _ _) (e_extract hf rfl rfl) fun a hf => ?_
              refine pi_one ?_
              refine pi_l0 hf rfl rfl rfl (w_storeM hf (List.mem_of_getElem? (i := 0) rfl) hM (us := [vI (y505.1.Rows), vI (y505.1.Cols), vS (y505.1.Cells)]) (cs' := [vI (y505.1.Rows), vI (y505.1.Cols), vS (y505.1.Cells)]) rfl rfl (k := 0) rfl rfl Try.sizeOf27 rfl rfl rfl fun w567 hxm568 hsz569 hM => ⟨Ext w567, fun _ h => ExtM.last hxm568 hsz569 h, Ext.refl _, ?_⟩)
              dsimp only [List.set] at hM
              refine pi_q hf rfl rfl rfl rfl (Ext.refl _) (e_assign hf rfl) fun a hf => ?_
              refine pi_nil ?_
              refine then_n ?_
              refine wp_seq ?_
              obtain ⟨x572, h573, h⟩ := bind_some h
              refine seq_join (fun a w => ∃ (t570 : Bool), t570 = x572 ∧ Has 52 a [(3, vP b13 (0)), (8, vP b479 (0)), (46, .bool (t570))] ∧ Mem C w [.box b556 [vI (y505.1.Rows), vI (y505.1.Cols), vS (y505.1.Cells)] 27, .box b479 [vL A474 (y472.Words) c475] 45, .row strRep A474 c475 9 y472.Words true, .row strRep A455 c456 9 y50.Words true, .box b451 [vI (y460.1.Rows), vI (y460.1.Cols), vS (y460.1.Cells)] 27, .box b13 [vL A6 (aL5.Words) c7] 42, .box b9 [vI (aG1.Rows), vI (aG1.Cols), vS (aG1.Cells)] 23] [.dat (sliceRep strRep) aL5.Words [vL A6 aL5.Words c7]]) ?_ ?_
              · refine region_pl ?_
                refine q_ hf rfl rfl rfl (e_loadA hf (us := [vI (y505.1.Rows), vI (y505.1.Cols), vS (y505.1.Cells)]) rfl ⟨Try.isAgg27, Try.sizeOf27⟩ rfl (hM.boxSub (k := 0) (us := [vI (y505.1.Rows), vI (y505.1.Cols), vS (y505.1.Cells)]) (o := 0) rfl rfl)) fun a hf => ?_
                refine q_ hf rfl rfl rfl (e_loadA hf (us := [vI (y460.1.Rows), vI (y460.1.Cols), vS (y460.1.Cells)]) rfl ⟨Try.isAgg27, Try.sizeOf27⟩ rfl (hM.boxSub (k := 4) (us := [vI (y460.1.Rows), vI (y460.1.Cols), vS (y460.1.Cells)]) (o := 0) rfl rfl)) fun a hf => ?_
                obtain ⟨y574, hz575, h573⟩ := bind_some h573
                refine pl_l hf rfl rfl rfl (w_call hf Try.call23 rfl (r_laws_eqGrid ⟨_, Sh C _ _, none_, hM.sh_lt, none_not, C.G, hM.g_lt, g_none, hM.tabs⟩ y505.1 hv560 hv561 hv562 y460.1 hv462 hv463 hv464 _ hz575) ?_)
                rintro _ w576 ⟨rfl, hM2⟩
                obtain ⟨hM, hx577, hup578⟩ := hM.back hM2
                dsimp only [List.cons_append, List.nil_append] at hM hup578
                clear hM2
                refine ⟨_, rfl, fun a hf => ?_⟩
                refine q_ hf rfl rfl rfl (e_not hf rfl) fun a hf => ?_
                refine q_ hf rfl rfl rfl (e_move hf rfl) fun a hf => ?_
                rcases cond_some h573 with ⟨hc579, h573⟩ | ⟨hc579, h573⟩
                · refine pl_gs (wanted_f hf rfl rfl rfl rfl hc579) hf rfl rfl fun a hf => ?_
                  refine pl_gs (wanted_f hf rfl rfl rfl rfl hc579) hf rfl rfl fun a hf => ?_
                  refine pl_gs (wanted_f hf rfl rfl rfl rfl hc579) hf rfl rfl fun a hf => ?_
                  refine q_ hf rfl rfl rfl (e_pick_t hf rfl hc579 rfl) fun a hf => ?_
                  refine pl_nil ?_
                  obtain rfl := some_inj h573
                  refine then_n ?_
                  exact ⟨true, rfl, hf.keep ⟨rfl, rfl, rfl, trivial⟩, hM.pick [0] rfl⟩
                · refine gq (wanted_t hf rfl rfl rfl rfl hc579) hf rfl rfl (e_move hf rfl) fun a hf => ?_
                  refine gq (wanted_t hf rfl rfl rfl rfl hc579) hf rfl rfl (e_move hf rfl) fun a hf => ?_
                  refine gq (wanted_t hf rfl rfl rfl rfl hc579) hf rfl rfl (e_ne hf (x := y505.2) (y := y460.2) rfl rfl) fun a hf => ?_
                  refine q_ hf rfl rfl rfl (e_pick_f hf rfl hc579 rfl) fun a hf => ?_
                  refine pl_nil ?_
                  obtain rfl := some_inj h573
                  refine then_n ?_
                  exact ⟨(y505.2 != y460.2), rfl, hf.keep ⟨rfl, rfl, rfl, trivial⟩, hM.pick [0] rfl⟩
              · rintro a w582 ⟨t570, rfl, hf, hM⟩
                try dsimp only at h
                rcases cond_some h with ⟨hc583, h⟩ | ⟨hc583, h⟩
                · refine cond_t hf rfl hc583 ?_
                  refine wp_seq ?_
                  refine region_pl ?_
                  refine q_ hf rfl rfl rfl (e_assign hf rfl) fun a hf => ?_
                  refine pl_nil ?_
                  refine then_n ?_
                  refine wp_ret ?_
                  refine then_r ?_
                  obtain rfl := some_inj h
                  have hM := hM.outs (own' := []) 0 rfl
                  exact leave1 hf rfl rfl ⟨rfl, hM.fin⟩
                · refine cond_f hf rfl hc583 ?_
                  refine wp_skip ?_
                  refine then_n ?_
                  refine wp_seq ?_
                  refine wp_seq ?_
                  obtain ⟨w584, hw⟩ : ∃ x, x = w582.drew := ⟨_, rfl⟩
                  refine region_pi (.q 0 (.q 1 (.l 2 (.l 3 (.q 4 (.nil)))))) (Ext w584) rfl (by kernel_rfl) ?_
                  have hM := hM.drew
                  rw [← hw] at hM ⊢
                  clear hw
                  refine pi_q hf rfl rfl rfl rfl (Ext.refl _) (e_loadA hf (us := [vL A474 (y472.Words) c475]) rfl ⟨Try.isAgg45, Try.sizeOf45⟩ rfl (hM.boxSub (k := 1) (us := [vL A474 (y472.Words) c475]) (o := 0) rfl rfl)) fun a hf => ?_
                  refine pi_q hf rfl rfl rfl rfl (Ext.refl _) (e_loadA hf (us := [vL A6 (aL5.Words) c7]) rfl ⟨Try.isAgg42, Try.sizeOf42⟩ rfl (hM.boxSub (k := 5) (us := [vL A6 (aL5.Words) c7]) (o := 0) rfl rfl)) fun a hf => ?_
                  refine pi_one ?_
                  obtain ⟨y585, hz586, h⟩ := bind_some h
                  refine pi_l hf rfl rfl rfl rfl (w_call hf Try.call26 rfl (r_laws_toLexicon ⟨_, Sh C _ _, none_, hM.sh_lt, none_not, C.G, hM.g_lt, g_none, hM.tabs⟩ aL5 _ _ (hM.dat (k := 0) rfl) _ hz586) ?_)
                  rintro _ w589 ⟨A587, c588, rfl, hM2⟩
                  obtain ⟨hM, hx590, hup591⟩ := hM.back hM2
                  dsimp only [List.cons_append, List.nil_append] at hM hup591
                  clear hM2
                  refine ⟨_, rfl, Ext w589, fun _ h => Ext.trans hx590 h, Ext.refl _, fun a hf => ?_⟩
                  refine pi_one ?_
                  obtain ⟨y592, hz593, h⟩ := bind_some h
                  refine pi_l hf rfl rfl rfl rfl (w_call hf Try.call28 rfl (r_laws_eqLexicon ⟨_, All C _ _, none_, hM.all_lt, none_not, C.G, hM.g_lt, g_none, hM.tabs⟩ y472 _ _ (hM.lendRow (k := 3) rfl) y585 _ _ (hM.lendRow (k := 0) rfl) _ hz593) ?_)
                  rintro _ w594 ⟨rfl, hM2⟩
                  obtain ⟨hM, hx595⟩ := hM.backA hM2
                  clear hM2
                  refine ⟨_, rfl, Ext w594, fun _ h => Ext.trans hx595 h, Ext.refl _, fun a hf => ?_⟩
                  refine pi_q hf rfl rfl rfl rfl (Ext.refl _) (e_not hf rfl) fun a hf => ?_
                  refine pi_nil ?_
                  refine then_n ?_
                  rcases cond_some h with ⟨hc597, h⟩ | ⟨hc597, h⟩
                  · refine cond_t hf rfl hc597 ?_
                    refine wp_seq ?_
                    refine region_pl ?_
                    refine q_ hf rfl rfl rfl (e_assign hf rfl) fun a hf => ?_
                    refine pl_nil ?_
                    refine then_n ?_
                    refine wp_ret ?_
                    refine then_r ?_
                    obtain rfl := some_inj h
                    have hM := hM.outs (own' := []) 0 rfl
                    exact leave1 hf rfl rfl ⟨rfl, hM.fin⟩
                  · refine cond_f hf rfl hc597 ?_
                    refine wp_skip ?_
                    refine then_n ?_
                    refine wp_seq ?_
                    refine region_pl ?_
                    refine q_ hf rfl rfl rfl (e_assign hf rfl) fun a hf => ?_
                    refine pl_nil ?_
                    refine then_n ?_
                    refine wp_ret ?_
                    obtain rfl := some_inj h
                    have hM := hM.outs (own' := []) 0 rfl
                    exact leave1 hf rfl rfl ⟨rfl, hM.fin⟩
          · refine pi_l hf rfl rfl rfl rfl (w_allocM hM (cs := [vI (0), vI (0), vS (([] : Str))]) Try.zeroValue27 rfl fun b598 w599 hx600 hn601 hM => ⟨ExtM [some b598] w599, fun _ h => ExtM.grow hx600 hn601 h, ExtM.refl _ _, fun a hf => ?_⟩)
            refine pi_one ?_
            refine pi_l hf rfl rfl rfl rfl (w_call hf Try.call14 rfl (r_laws_toGrid ⟨_, Sh C _ _, none_, hM.sh_lt, none_not, C.G, hM.g_lt, g_none, hM.tabs⟩ aG1 hp2 hp3 hp4 _ hz488) ?_)
            rintro _ w605 ⟨rfl, hM2, hv602, hv603, hv604⟩
            obtain ⟨hM, hx606, hup607⟩ := hM.back hM2
            dsimp only [List.cons_append, List.nil_append] at hM hup607
            clear hM2
            refine ⟨_, rfl, ExtM [some b598] w605, fun _ h => ExtM.trans hx606 h, ExtM.refl _ _, fun a hf => ?_⟩
            refine pi_one ?_
            obtain ⟨y608, hz609, h⟩ := bind_some h
            refine pi_l hf rfl rfl rfl rfl (w_call hf Try.call38 rfl (r_impl_FillGrid ⟨_, All C _ _, none_, hM.all_lt, none_not, C.G, hM.g_lt, g_none, hM.tabs⟩ y487 hv602 hv603 hv604 y472 _ _ (hM.lendRow (k := 2) rfl) _ hz609) ?_)
            rintro _ w614 ⟨rfl, hM2, hv610, hv611, hv612, hv613⟩
            obtain ⟨hM, hx615⟩ := hM.backA hM2
            clear hM2
            refine ⟨_, rfl, ExtM [some b598] w614, fun _ h => ExtM.trans hx615 h, ExtM.refl _ _, fun a hf => ?_⟩
            refine pi_q hf rfl rfl rfl rfl (ExtM.refl _ _) (e_move hf rfl) fun a hf => ?_
            refine pi_q hf rfl rfl rfl rfl (ExtM.refl _ _) (e_extract hf rfl rfl) fun a hf => ?_
            refine pi_q hf rfl rfl rfl rfl (ExtM.refl _ _) (e_extract hf rfl rfl) fun a hf => ?_
            refine pi_one ?_
            refine pi_l0 hf rfl rfl rfl (w_storeM hf (List.mem_of_getElem? (i := 0) rfl) hM (us := [vI (y608.1.Rows), vI (y608.1.Cols), vS (y608.1.Cells)]) (cs' := [vI (y608.1.Rows), vI (y608.1.Cols), vS (y608.1.Cells)]) rfl rfl (k := 0) rfl rfl Try.sizeOf27 rfl rfl rfl fun w617 hxm618 hsz619 hM => ⟨Ext w617, fun _ h => ExtM.last hxm618 hsz619 h, Ext.refl _, ?_⟩)
            dsimp only [List.set] at hM
            refine pi_q hf rfl rfl rfl rfl (Ext.refl _) (e_assign hf rfl) fun a hf => ?_
            refine pi_nil ?_
            refine then_n ?_
            refine wp_seq ?_
            obtain ⟨x622, h623, h⟩ := bind_some h
            refine seq_join (fun a w => ∃ (t620 : Bool), t620 = x622 ∧ Has 52 a [(3, vP b13 (0)), (8, vP b479 (0)), (46, .bool (t620))] ∧ Mem C w [.box b598 [vI (y608.1.Rows), vI (y608.1.Cols), vS (y608.1.Cells)] 27, .box b479 [vL A474 (y472.Words) c475] 45, .row strRep A474 c475 9 y472.Words true, .row strRep A455 c456 9 y50.Words true, .box b451 [vI (y460.1.Rows), vI (y460.1.Cols), vS (y460.1.Cells)] 27, .box b13 [vL A6 (aL5.Words) c7] 42, .box b9 [vI (aG1.Rows), vI (aG1.Cols), vS (aG1.Cells)] 23] [.dat (sliceRep strRep) aL5.Words [vL A6 aL5.Words c7]]) ?_ ?_
            · refine region_pl ?_
              refine q_ hf rfl rfl rfl (e_loadA hf (us := [vI (y608.1.Rows), vI (y608.1.Cols), vS (y608.1.Cells)]) rfl ⟨Try.isAgg27, Try.sizeOf27⟩ rfl (hM.boxSub (k := 0) (us := [vI (y608.1.Rows), vI (y608.1.Cols), vS (y608.1.Cells)]) (o := 0) rfl rfl)) fun a hf => ?_
              refine q_ hf rfl rfl rfl (e_loadA hf (us := [vI (y460.1.Rows), vI (y460.1.Cols), vS (y460.1.Cells)]) rfl ⟨Try.isAgg27, Try.sizeOf27⟩ rfl (hM.boxSub (k := 4) (us := [vI (y460.1.Rows), vI (y460.1.Cols), vS (y460.1.Cells)]) (o := 0) rfl rfl)) fun a hf => ?_
              obtain ⟨y624, hz625, h623⟩ := bind_some h623
              refine pl_l hf rfl rfl rfl (w_call hf Try.call23 rfl (r_laws_eqGrid ⟨_, Sh C _ _, none_, hM.sh_lt, none_not, C.G, hM.g_lt, g_none, hM.tabs⟩ y608.1 hv610 hv611 hv612 y460.1 hv462 hv463 hv464 _ hz625) ?_)
              rintro _ w626 ⟨rfl, hM2⟩
              obtain ⟨hM, hx627, hup628⟩ := hM.back hM2
              dsimp only [List.cons_append, List.nil_append] at hM hup628
              clear hM2
              refine ⟨_, rfl, fun a hf => ?_⟩
              refine q_ hf rfl rfl rfl (e_not hf rfl) fun a hf => ?_
              refine q_ hf rfl rfl rfl (e_move hf rfl) fun a hf => ?_
              rcases cond_some h623 with ⟨hc629, h623⟩ | ⟨hc629, h623⟩
              · refine pl_gs (wanted_f hf rfl rfl rfl rfl hc629) hf rfl rfl fun a hf => ?_
                refine pl_gs (wanted_f hf rfl rfl rfl rfl hc629) hf rfl rfl fun a hf => ?_
                refine pl_gs (wanted_f hf rfl rfl rfl rfl hc629) hf rfl rfl fun a hf => ?_
                refine q_ hf rfl rfl rfl (e_pick_t hf rfl hc629 rfl) fun a hf => ?_
                refine pl_nil ?_
                obtain rfl := some_inj h623
                refine then_n ?_
                exact ⟨true, rfl, hf.keep ⟨rfl, rfl, rfl, trivial⟩, hM.pick [0] rfl⟩
              · refine gq (wanted_t hf rfl rfl rfl rfl hc629) hf rfl rfl (e_move hf rfl) fun a hf => ?_
                refine gq (wanted_t hf rfl rfl rfl rfl hc629) hf rfl rfl (e_move hf rfl) fun a hf => ?_
                refine gq (wanted_t hf rfl rfl rfl rfl hc629) hf rfl rfl (e_ne hf (x := y608.2) (y := y460.2) rfl rfl) fun a hf => ?_
                refine q_ hf rfl rfl rfl (e_pick_f hf rfl hc629 rfl) fun a hf => ?_
                refine pl_nil ?_
                obtain rfl := some_inj h623
                refine then_n ?_
                exact ⟨(y608.2 != y460.2), rfl, hf.keep ⟨rfl, rfl, rfl, trivial⟩, hM.pick [0] rfl⟩
            · rintro a w632 ⟨t620, rfl, hf, hM⟩
              try dsimp only at h
              rcases cond_some h with ⟨hc633, h⟩ | ⟨hc633, h⟩
              · refine cond_t hf rfl hc633 ?_
                refine wp_seq ?_
                refine region_pl ?_
                refine q_ hf rfl rfl rfl (e_assign hf rfl) fun a hf => ?_
                refine pl_nil ?_
                refine then_n ?_
                refine wp_ret ?_
                refine then_r ?_
                obtain rfl := some_inj h
                have hM := hM.outs (own' := []) 0 rfl
                exact leave1 hf rfl rfl ⟨rfl, hM.fin⟩
              · refine cond_f hf rfl hc633 ?_
                refine wp_skip ?_
                refine then_n ?_
                refine wp_seq ?_
                refine wp_seq ?_
                obtain ⟨w634, hw⟩ : ∃ x, x = w632.drew := ⟨_, rfl⟩
                refine region_pi (.q 0 (.q 1 (.l 2 (.l 3 (.q 4 (.nil)))))) (Ext w634) rfl (by kernel_rfl) ?_
                have hM := hM.drew
                rw [← hw] at hM ⊢
                clear hw
                refine pi_q hf rfl rfl rfl rfl (Ext.refl _) (e_loadA hf (us := [vL A474 (y472.Words) c475]) rfl ⟨Try.isAgg45, Try.sizeOf45⟩ rfl (hM.boxSub (k := 1) (us := [vL A474 (y472.Words) c475]) (o := 0) rfl rfl)) fun a hf => ?_
                refine pi_q hf rfl rfl rfl rfl (Ext.refl _) (e_loadA hf (us := [vL A6 (aL5.Words) c7]) rfl ⟨Try.isAgg42, Try.sizeOf42⟩ rfl (hM.boxSub (k := 5) (us := [vL A6 (aL5.Words) c7]) (o := 0) rfl rfl)) fun a hf => ?_
                refine pi_one ?_
                obtain ⟨y635, hz636, h⟩ := bind_some h
                refine pi_l hf rfl rfl rfl rfl (w_call hf Try.call26 rfl (r_laws_toLexicon ⟨_, Sh C _ _, none_, hM.sh_lt, none_not, C.G, hM.g_lt, g_none, hM.tabs⟩ aL5 _ _ (hM.dat (k := 0) rfl) _ hz636) ?_)
                rintro _ w639 ⟨A637, c638, rfl, hM2⟩
                obtain ⟨hM, hx640, hup641⟩ := hM.back hM2
                dsimp only [List.cons_append, List.nil_append] at hM hup641
                clear hM2
                refine ⟨_, rfl, Ext w639, fun _ h => Ext.trans hx640 h, Ext.refl _, fun a hf => ?_⟩
                refine pi_one ?_
                obtain ⟨y642, hz643, h⟩ := bind_some h
                refine pi_l hf rfl rfl rfl rfl (w_call hf Try.call28 rfl (r_laws_eqLexicon ⟨_, All C _ _, none_, hM.all_lt, none_not, C.G, hM.g_lt, g_none, hM.tabs⟩ y472 _ _ (hM.lendRow (k := 3) rfl) y635 _ _ (hM.lendRow (k := 0) rfl) _ hz643) ?_)
                rintro _ w644 ⟨rfl, hM2⟩
                obtain ⟨hM, hx645⟩ := hM.backA hM2
                clear hM2
                refine ⟨_, rfl, Ext w644, fun _ h => Ext.trans hx645 h, Ext.refl _, fun a hf => ?_⟩
                refine pi_q hf rfl rfl rfl rfl (Ext.refl _) (e_not hf rfl) fun a hf => ?_
                refine pi_nil ?_
                refine then_n ?_
                rcases cond_some h with ⟨hc647, h⟩ | ⟨hc647, h⟩
                · refine cond_t hf rfl hc647 ?_
                  refine wp_seq ?_
                  refine region_pl ?_
                  refine q_ hf rfl rfl rfl (e_assign hf rfl) fun a hf => ?_
                  refine pl_nil ?_
                  refine then_n ?_
                  refine wp_ret ?_
                  refine then_r ?_
                  obtain rfl := some_inj h
                  have hM := hM.outs (own' := []) 0 rfl
                  exact leave1 hf rfl rfl ⟨rfl, hM.fin⟩
                · refine cond_f hf rfl hc647 ?_
                  refine wp_skip ?_
                  refine then_n ?_
                  refine wp_seq ?_
                  refine region_pl ?_
                  refine q_ hf rfl rfl rfl (e_assign hf rfl) fun a hf => ?_
                  refine pl_nil ?_
                  refine then_n ?_
                  refine wp_ret ?_
                  obtain rfl := some_inj h
                  have hM := hM.outs (own' := []) 0 rfl
                  exact leave1 hf rfl rfl ⟨rfl, hM.fin⟩
      · refine pi_l hf rfl rfl rfl rfl (w_allocM hM (cs := [vI (0), vI (0), vS (([] : Str))]) Try.zeroValue27 rfl fun b648 w649 hx650 hn651 hM => ⟨ExtM [some b648] w649, fun _ h => ExtM.grow hx650 hn651 h, ExtM.refl _ _, fun a hf => ?_⟩)
        refine pi_one ?_
        refine pi_l hf rfl rfl rfl rfl (w_call hf Try.call14 rfl (r_laws_toGrid ⟨_, Sh C _ _, none_, hM.sh_lt, none_not, C.G, hM.g_lt, g_none, hM.tabs⟩ aG1 hp2 hp3 hp4 _ hz33) ?_)
        rintro _ w655 ⟨rfl, hM2, hv652, hv653, hv654⟩
        obtain ⟨hM, hx656, hup657⟩ := hM.back hM2
        dsimp only [List.cons_append, List.nil_append] at hM hup657
        clear hM2
        refine ⟨_, rfl, ExtM [some b648] w655, fun _ h => ExtM.trans hx656 h, ExtM.refl _ _, fun a hf => ?_⟩
        refine pi_one ?_
        obtain ⟨y658, hz659, h⟩ := bind_some h
        refine pi_l hf rfl rfl rfl rfl (w_call hf Try.call26 rfl (r_laws_toLexicon ⟨_, Sh C _ _, none_, hM.sh_lt, none_not, C.G, hM.g_lt, g_none, hM.tabs⟩ aL5 _ _ (hM.dat (k := 0) rfl) _ hz659) ?_)
        rintro _ w662 ⟨A660, c661, rfl, hM2⟩
        obtain ⟨hM, hx663, hup664⟩ := hM.back hM2
        dsimp only [List.cons_append, List.nil_append] at hM hup664
        clear hM2
        refine ⟨_, rfl, ExtM [some b648] w662, fun _ h => ExtM.trans hx663 h, ExtM.refl _ _, fun a hf => ?_⟩
        refine pi_one ?_
        obtain ⟨y665, hz666, h⟩ := bind_some h
        refine pi_l hf rfl rfl rfl rfl (w_call hf Try.call37 rfl (r_spec_FillGrid ⟨_, All C _ _, none_, hM.all_lt, none_not, C.G, hM.g_lt, g_none, hM.tabs⟩ y32 hv652 hv653 hv654 y658 _ _ (hM.lendRow (k := 0) rfl) _ hz666) ?_)
        rintro _ w671 ⟨rfl, hM2, hv667, hv668, hv669, hv670⟩
        obtain ⟨hM, hx672⟩ := hM.backA hM2
        clear hM2
        refine ⟨_, rfl, ExtM [some b648] w671, fun _ h => ExtM.trans hx672 h, ExtM.refl _ _, fun a hf => ?_⟩
        refine pi_q hf rfl rfl rfl rfl (ExtM.refl _ _) (e_move hf rfl) fun a hf => ?_
        refine pi_q hf rfl rfl rfl rfl (ExtM.refl _ _) (e_extract hf rfl rfl) fun a hf => ?_
        refine pi_q hf rfl rfl rfl rfl (ExtM.refl _ _) (e_extract hf rfl rfl) fun a hf => ?_
        refine pi_one ?_
        refine pi_l0 hf rfl rfl rfl (w_storeM hf (List.mem_of_getElem? (i := 0) rfl) hM (us := [vI (y665.1.Rows), vI (y665.1.Cols), vS (y665.1.Cells)]) (cs' := [vI (y665.1.Rows), vI (y665.1.Cols), vS (y665.1.Cells)]) rfl rfl (k := 1) rfl rfl Try.sizeOf27 rfl rfl rfl fun w674 hxm675 hsz676 hM => ⟨Ext w674, fun _ h => ExtM.last hxm675 hsz676 h, Ext.refl _, ?_⟩)
        dsimp only [List.set] at hM
        refine pi_q hf rfl rfl rfl rfl (Ext.refl _) (e_assign hf rfl) fun a hf => ?_
        refine pi_nil ?_
        refine then_n ?_
        refine wp_seq ?_
        refine region_pl ?_
        refine q_ hf rfl rfl rfl (e_loadA hf (us := [vL A6 (aL5.Words) c7]) rfl ⟨Try.isAgg42, Try.sizeOf42⟩ rfl (hM.boxSub (k := 2) (us := [vL A6 (aL5.Words) c7]) (o := 0) rfl rfl)) fun a hf => ?_
        obtain ⟨y677, hz678, h⟩ := bind_some h
        refine pl_l hf rfl rfl rfl (w_call hf Try.call26 rfl (r_laws_toLexicon ⟨_, Sh C _ _, none_, hM.sh_lt, none_not, C.G, hM.g_lt, g_none, hM.tabs⟩ aL5 _ _ (hM.dat (k := 0) rfl) _ hz678) ?_)
        rintro _ w681 ⟨A679, c680, rfl, hM2⟩
        obtain ⟨hM, hx682, hup683⟩ := hM.back hM2
        dsimp only [List.cons_append, List.nil_append] at hM hup683
        clear hM2
        refine ⟨_, rfl, fun a hf => ?_⟩
        refine pl_l hf rfl rfl rfl (w_alloc hM (cs := [vL none (([] : (List Str))) 0]) Try.zeroValue45 rfl fun b684 w685 hx686 hM a hf => ?_)
        refine pl_0 hf rfl rfl (w_store hf hM (us := [vL A679 (y677.Words) c680]) (cs' := [vL A679 (y677.Words) c680]) rfl rfl (k := 0) rfl rfl Try.sizeOf45 rfl rfl rfl fun w688 hM => ?_)
        dsimp only [List.set] at hM
        refine pl_nil ?_
        refine then_n ?_
        refine wp_seq ?_
        obtain ⟨w691, hw⟩ : ∃ x, x = w688.drew := ⟨_, rfl⟩
        refine region_pi (.q 0 (.q 2 (.b 1 7 (.b 3 7 (.q 4 (.q 5 (.q 6 (.l 7 (.l 8 (.q 9 (.nil))))))) (.l 3 (.q 4 (.q 5 (.q 6 (.l 8 (.q 9 (.nil)))))))) (.l 1 (.l 3 (.q 4 (.q 5 (.q 6 (.l 8 (.q 9 (.nil))))))))))) (ExtM [] w691) rfl (by kernel_rfl) ?_
        have hM := hM.drew
        rw [← hw] at hM ⊢
        clear hw
        refine pi_q hf rfl rfl rfl rfl (ExtM.refl _ _) (e_loadAM hf (us := [vI (aG1.Rows), vI (aG1.Cols), vS (aG1.Cells)]) rfl ⟨Try.isAgg23, Try.sizeOf23⟩ rfl (hM.boxSub (k := 5) (us := [vI (aG1.Rows), vI (aG1.Cols), vS (aG1.Cells)]) (o := 0) rfl rfl) (hM.apart (js := []) rfl (k := 5) rfl rfl rfl)) fun a hf => ?_
        refine pi_q hf rfl rfl rfl rfl (ExtM.refl _ _) (e_loadAM hf (us := [vL A679 (y677.Words) c680]) rfl ⟨Try.isAgg45, Try.sizeOf45⟩ rfl (hM.boxSub (k := 0) (us := [vL A679 (y677.Words) c680]) (o := 0) rfl rfl) (hM.apart (js := []) rfl (k := 0) rfl rfl rfl)) fun a hf => ?_
        obtain ⟨y692, hz693, h⟩ := bind_some h
        refine pi_two ?_ ?_
        · refine pi_l hf rfl rfl rfl rfl (w_call hf Try.call14 rfl (r_laws_toGrid ⟨_, Sh C _ _, none_, hM.sh_lt, none_not, C.G, hM.g_lt, g_none, hM.tabs⟩ aG1 hp2 hp3 hp4 _ hz693) ?_)
          rintro _ w707 ⟨rfl, hM2, hv704, hv705, hv706⟩
          obtain ⟨hM, hx708, hup709⟩ := hM.back hM2
          dsimp only [List.cons_append, List.nil_append] at hM hup709
          clear hM2
          refine ⟨_, rfl, ExtM [] w707, fun _ h => ExtM.trans hx708 h, ExtM.refl _ _, fun a hf => ?_⟩
          obtain ⟨y710, hz711, h⟩ := bind_some h
          refine pi_two ?_ ?_
          · refine pi_l hf rfl rfl rfl rfl (w_call hf Try.call38 rfl (r_impl_FillGrid ⟨_, All C _ _, none_, hM.all_lt, none_not, C.G, hM.g_lt, g_none, hM.tabs⟩ y692 hv704 hv705 hv706 y677 _ _ (hM.lendRow (k := 1) rfl) _ hz711) ?_)
            rintro _ w723 ⟨rfl, hM2, hv719, hv720, hv721, hv722⟩
            obtain ⟨hM, hx724⟩ := hM.backA hM2
            clear hM2
            refine ⟨_, rfl, ExtM [] w723, fun _ h => ExtM.trans hx724 h, ExtM.refl _ _, fun a hf => ?_⟩
            refine pi_q hf rfl rfl rfl rfl (ExtM.refl _ _) (e_move hf rfl) fun a hf => ?_
            refine pi_q hf rfl rfl rfl rfl (ExtM.refl _ _) (e_extract hf rfl rfl) fun a hf => ?_
            refine pi_q hf rfl rfl rfl rfl (ExtM.refl _ _) (e_extract hf rfl rfl) fun a hf => ?_
            refine pi_one ?_
            refine pi_l hf rfl rfl rfl rfl (w_allocM hM (cs := [vI (0), vI (0), vS (([] : Str))]) Try.zeroValue27 rfl fun b726 w727 hx728 hn729 hM => ⟨ExtM [some b726] w727, fun _ h => ExtM.grow hx728 hn729 h, ExtM.refl _ _, fun a hf => ?_⟩)
            refine pi_one ?_
            refine pi_l0 hf rfl rfl rfl (w_storeM hf (List.mem_of_getElem? (i := 0) rfl) hM (us := [vI (y710.1.Rows), vI (y710.1.Cols), vS (y710.1.Cells)]) (cs' := [vI (y710.1.Rows), vI (y710.1.Cols), vS (y710.1.Cells)]) rfl rfl (k := 0) rfl rfl Try.sizeOf27 rfl rfl rfl fun w730 hxm731 hsz732 hM => ⟨Ext w730, fun _ h => ExtM.last hxm731 hsz732 h, Ext.refl _, ?_⟩)
            dsimp only [List.set] at hM
            refine pi_q hf rfl rfl rfl rfl (Ext.refl _) (e_assign hf rfl) fun a hf => ?_
            refine pi_nil ?_
            refine then_n ?_
            refine wp_seq ?_
            obtain ⟨x735, h736, h⟩ := bind_some h
            refine seq_join (fun a w => ∃ (t733 : Bool), t733 = x735 ∧ Has 52 a [(3, vP b13 (0)), (8, vP b684 (0)), (46, .bool (t733))] ∧ Mem C w [.box b726 [vI (y710.1.Rows), vI (y710.1.Cols), vS (y710.1.Cells)] 27, .box b684 [vL A679 (y677.Words) c680] 45, .row strRep A679 c680 9 y677.Words true, .row strRep A660 c661 9 y658.Words true, .box b648 [vI (y665.1.Rows), vI (y665.1.Cols), vS (y665.1.Cells)] 27, .box b13 [vL A6 (aL5.Words) c7] 42, .box b9 [vI (aG1.Rows), vI (aG1.Cols), vS (aG1.Cells)] 23] [.dat (sliceRep strRep) aL5.Words [vL A6 aL5.Words c7]]) ?_ ?_
            · refine region_pl ?_
              refine q_ hf rfl rfl rfl (e_loadA hf (us := [vI (y710.1.Rows), vI (y710.1.Cols), vS (y710.1.Cells)]) rfl ⟨Try.isAgg27, Try.sizeOf27⟩ rfl (hM.boxSub (k := 0) (us := [vI (y710.1.Rows), vI (y710.1.Cols), vS (y710.1.Cells)]) (o := 0) rfl rfl)) fun a hf => ?_
              refine q_ hf rfl rfl rfl (e_loadA hf (us := [vI (y665.1.Rows), vI (y665.1.Cols), vS (y665.1.Cells)]) rfl ⟨Try.isAgg27, Try.sizeOf27⟩ rfl (hM.boxSub (k := 4) (us := [vI (y665.1.Rows), vI (y665.1.Cols), vS (y665.1.Cells)]) (o := 0) rfl rfl)) fun a hf => ?_
              obtain ⟨y737, hz738, h736⟩ := bind_some h736
              refine pl_l hf rfl rfl rfl (w_call hf Try.call23 rfl (r_laws_eqGrid ⟨_, Sh C _ _, none_, hM.sh_lt, none_not, C.G, hM.g_lt, g_none, hM.tabs⟩ y710.1 hv719 hv720 hv721 y665.1 hv667 hv668 hv669 _ hz738) ?_)
              rintro _ w739 ⟨rfl, hM2⟩
              obtain ⟨hM, hx740, hup741⟩ := hM.back hM2
              dsimp only [List.cons_append, List.nil_append] at hM hup741
              clear hM2
              refine ⟨_, rfl, fun a hf => ?_⟩
              refine q_ hf rfl rfl rfl (e_not hf rfl) fun a hf => ?_
              refine q_ hf rfl rfl rfl (e_move hf rfl) fun a hf => ?_
              rcases cond_some h736 with ⟨hc742, h736⟩ | ⟨hc742, h736⟩
              · refine pl_gs (wanted_f hf rfl rfl rfl rfl hc742) hf rfl rfl fun a hf => ?_
                refine pl_gs (wanted_f hf rfl rfl rfl rfl hc742) hf rfl rfl fun a hf => ?_
                refine pl_gs (wanted_f hf rfl rfl rfl rfl hc742) hf rfl rfl fun a hf => ?_
                refine q_ hf rfl rfl rfl (e_pick_t hf rfl hc742 rfl) fun a hf => ?_
                refine pl_nil ?_
                obtain rfl := some_inj h736
                refine then_n ?_
                exact ⟨true, rfl, hf.keep ⟨rfl, rfl, rfl, trivial⟩, hM.pick [0] rfl⟩
              · refine gq (wanted_t hf rfl rfl rfl rfl hc742) hf rfl rfl (e_move hf rfl) fun a hf => ?_
                refine gq (wanted_t hf rfl rfl rfl rfl hc742) hf rfl rfl (e_move hf rfl) fun a hf => ?_
                refine gq (wanted_t hf rfl rfl rfl rfl hc742) hf rfl rfl (e_ne hf (x := y710.2) (y := y665.2) rfl rfl) fun a hf => ?_
                refine q_ hf rfl rfl rfl (e_pick_f hf rfl hc742 rfl) fun a hf => ?_
                refine pl_nil ?_
                obtain rfl := some_inj h736
                refine then_n ?_
                exact ⟨(y710.2 != y665.2), rfl, hf.keep ⟨rfl, rfl, rfl, trivial⟩, hM.pick [0] rfl⟩
            · rintro a w745 ⟨t733, rfl, hf, hM⟩
              try dsimp only at h
              rcases cond_some h with ⟨hc746, h⟩ | ⟨hc746, h⟩
              · refine cond_t hf rfl hc746 ?_
                refine wp_seq ?_
                refine region_pl ?_
                refine q_ hf rfl rfl rfl (e_assign hf rfl) fun a hf => ?_
                refine pl_nil ?_
                refine then_n ?_
                refine wp_ret ?_
                refine then_r ?_
                obtain rfl := some_inj h
                have hM := hM.outs (own' := []) 0 rfl
                exact leave1 hf rfl rfl ⟨rfl, hM.fin⟩
              · refine cond_f hf rfl hc746 ?_
                refine wp_skip ?_
                refine then_n ?_
                refine wp_seq ?_
                refine wp_seq ?_
                obtain ⟨w747, hw⟩ : ∃ x, x = w745.drew := ⟨_, rfl⟩
                refine region_pi (.q 0 (.q 1 (.l 2 (.l 3 (.q 4 (.nil)))))) (Ext w747) rfl (by kernel_rfl) ?_
                have hM := hM.drew
                rw [← hw] at hM ⊢
                clear hw
                refine pi_q hf rfl rfl rfl rfl (Ext.refl _) (e_loadA hf (us := [vL A679 (y677.Words) c680]) rfl ⟨Try.isAgg45, Try.sizeOf45⟩ rfl (hM.boxSub (k := 1) (us := [vL A679 (y677.Words) c680]) (o := 0) rfl rfl)) fun a hf => ?_
                refine pi_q hf rfl rfl rfl rfl (Ext.refl _) (e_loadA hf (us := [vL A6 (aL5.Words) c7]) rfl ⟨Try.isAgg42, Try.sizeOf42⟩ rfl (hM.boxSub (k := 5) (us := [vL A6 (aL5.Words) c7]) (o := 0) rfl rfl)) fun a hf => ?_
                refine pi_one ?_
                obtain ⟨y748, hz749, h⟩ := bind_some h
                refine pi_l hf rfl rfl rfl rfl (w_call hf Try.call26 rfl (r_laws_toLexicon ⟨_, Sh C _ _, none_, hM.sh_lt, none_not, C.G, hM.g_lt, g_none, hM.tabs⟩ aL5 _ _ (hM.dat (k := 0) rfl) _ hz749) ?_)
                rintro _ w752 ⟨A750, c751, rfl, hM2⟩
                obtain ⟨hM, hx753, hup754⟩ := hM.back hM2
                dsimp only [List.cons_append, List.nil_append] at hM hup754
                clear hM2
                refine ⟨_, rfl, Ext w752, fun _ h => Ext.trans hx753 h, Ext.refl _, fun a hf => ?_⟩
                refine pi_one ?_
                obtain ⟨y755, hz756, h⟩ := bind_some h
                refine pi_l hf rfl rfl rfl rfl (w_call hf Try.call28 rfl (r_laws_eqLexicon ⟨_, All C _ _, none_, hM.all_lt, none_not, C.G, hM.g_lt, g_none, hM.tabs⟩ y677 _ _ (hM.lendRow (k := 3) rfl) y748 _ _ (hM.lendRow (k := 0) rfl) _ hz756) ?_)
                rintro _ w757 ⟨rfl, hM2⟩
                obtain ⟨hM, hx758⟩ := hM.backA hM2
                clear hM2
                refine ⟨_, rfl, Ext w757, fun _ h => Ext.trans hx758 h, Ext.refl _, fun a hf => ?_⟩
                refine pi_q hf rfl rfl rfl rfl (Ext.refl _) (e_not hf rfl) fun a hf => ?_
                refine pi_nil ?_
                refine then_n ?_
                rcases cond_some h with ⟨hc760, h⟩ | ⟨hc760, h⟩
                · refine cond_t hf rfl hc760 ?_
                  refine wp_seq ?_
                  refine region_pl ?_
                  refine q_ hf rfl rfl rfl (e_assign hf rfl) fun a hf => ?_
                  refine pl_nil ?_
                  refine then_n ?_
                  refine wp_ret ?_
                  refine then_r ?_
                  obtain rfl := some_inj h
                  have hM := hM.outs (own' := []) 0 rfl
                  exact leave1 hf rfl rfl ⟨rfl, hM.fin⟩
                · refine cond_f hf rfl hc760 ?_
                  refine wp_skip ?_
                  refine then_n ?_
                  refine wp_seq ?_
                  refine region_pl ?_
                  refine q_ hf rfl rfl rfl (e_assign hf rfl) fun a hf => ?_
                  refine pl_nil ?_
                  refine then_n ?_
                  refine wp_ret ?_
                  obtain rfl := some_inj h
                  have hM := hM.outs (own' := []) 0 rfl
                  exact leave1 hf rfl rfl ⟨rfl, hM.fin⟩
          · refine pi_l hf rfl rfl rfl rfl (w_allocM hM (cs := [vI (0), vI (0), vS (([] : Str))]) Try.zeroValue27 rfl fun b761 w762 hx763 hn764 hM => ⟨ExtM [some b761] w762, fun _ h => ExtM.grow hx763 hn764 h, ExtM.refl _ _, fun a hf => ?_⟩)
            refine pi_one ?_
            refine pi_l hf rfl rfl rfl rfl (w_call hf Try.call38 rfl (r_impl_FillGrid ⟨_, All C _ _, none_, hM.all_lt, none_not, C.G, hM.g_lt, g_none, hM.tabs⟩ y692 hv704 hv705 hv706 y677 _ _ (hM.lendRow (k := 2) rfl) _ hz711) ?_)
            rintro _ w769 ⟨rfl, hM2, hv765, hv766, hv767, hv768⟩
            obtain ⟨hM, hx770⟩ := hM.backA hM2
            clear hM2
            refine ⟨_, rfl, ExtM [some b761] w769, fun _ h => ExtM.trans hx770 h, ExtM.refl _ _, fun a hf => ?_⟩
            refine pi_q hf rfl rfl rfl rfl (ExtM.refl _ _) (e_move hf rfl) fun a hf => ?_
            refine pi_q hf rfl rfl rfl rfl (ExtM.refl _ _) (e_extract hf rfl rfl) fun a hf => ?_
            refine pi_q hf rfl rfl rfl rfl (ExtM.refl _ _) (e_extract hf rfl rfl) fun a hf => ?_
            refine pi_one ?_
            refine pi_l0 hf rfl rfl rfl (w_storeM hf (List.mem_of_getElem? (i := 0) rfl) hM (us := [vI (y710.1.Rows), vI (y710.1.Cols), vS (y710.1.Cells)]) (cs' := [vI (y710.1.Rows), vI (y710.1.Cols), vS (y710.1.Cells)]) rfl rfl (k := 0) rfl rfl Try.sizeOf27 rfl rfl rfl fun w772 hxm773 hsz774 hM => ⟨Ext w772, fun _ h => ExtM.last hxm773 hsz774 h, Ext.refl _, ?_⟩)
            dsimp only [List.set] at hM
            refine pi_q hf rfl rfl rfl rfl (Ext.refl _) (e_assign hf rfl) fun a hf => ?_
            refine pi_nil ?_
            refine then_n ?_
            refine wp_seq ?_
            obtain ⟨x777, h778, h⟩ := bind_some h
            refine seq_join (fun a w => ∃ (t775 : Bool), t775 = x777 ∧ Has 52 a [(3, vP b13 (0)), (8, vP b684 (0)), (46, .bool (t775))] ∧ Mem C w [.box b761 [vI (y710.1.Rows), vI (y710.1.Cols), vS (y710.1.Cells)] 27, .box b684 [vL A679 (y677.Words) c680] 45, .row strRep A679 c680 9 y677.Words true, .row strRep A660 c661 9 y658.Words true, .box b648 [vI (y665.1.Rows), vI (y665.1.Cols), vS (y665.1.Cells)] 27, .box b13 [vL A6 (aL5.Words) c7] 42, .box b9 [vI (aG1.Rows), vI (aG1.Cols), vS (aG1.Cells)] 23] [.dat (sliceRep strRep) aL5.Words [vL A6 aL5.Words c7]]) ?_ ?_
            · refine region_pl ?_
              refine q_ hf rfl rfl rfl (e_loadA hf (us := [vI (y710.1.Rows), vI (y710.1.Cols), vS (y710.1.Cells)]) rfl ⟨Try.isAgg27, Try.sizeOf27⟩ rfl (hM.boxSub (k := 0) (us := [vI (y710.1.Rows), vI (y710.1.Cols), vS (y710.1.Cells)]) (o := 0) rfl rfl)) fun a hf => ?_
              refine q_ hf rfl rfl rfl (e_loadA hf (us := [vI (y665.1.Rows), vI (y665.1.Cols), vS (y665.1.Cells)]) rfl ⟨Try.isAgg27, Try.sizeOf27⟩ rfl (hM.boxSub (k := 4) (us := [vI (y665.1.Rows), vI (y665.1.Cols), vS (y665.1.Cells)]) (o := 0) rfl rfl)) fun a hf => ?_
              obtain ⟨y779, hz780, h778⟩ := bind_some h778
              refine pl_l hf rfl rfl rfl (w_call hf Try.call23 rfl (r_laws_eqGrid ⟨_, Sh C _ _, none_, hM.sh_lt, none_not, C.G, hM.g_lt, g_none, hM.tabs⟩ y710.1 hv765 hv766 hv767 y665.1 hv667 hv668 hv669 _ hz780) ?_)
              rintro _ w781 ⟨rfl, hM2⟩
              obtain ⟨hM, hx782, hup783⟩ := hM.back hM2
              dsimp only [List.cons_append, List.nil_append] at hM hup783
              clear hM2
              refine ⟨_, rfl, fun a hf => ?_⟩
              refine q_ hf rfl rfl rfl (e_not hf rfl) fun a hf => ?_
              refine q_ hf rfl rfl rfl (e_move hf rfl) fun a hf => ?_
              rcases cond_some h778 with ⟨hc784, h778⟩ | ⟨hc784, h778⟩
              · refine pl_gs (wanted_f hf rfl rfl rfl rfl hc784) hf rfl rfl fun a hf => ?_
                refine pl_gs (wanted_f hf rfl rfl rfl rfl hc784) hf rfl rfl fun a hf => ?_
                refine pl_gs (wanted_f hf rfl rfl rfl rfl hc784) hf rfl rfl fun a hf => ?_
                refine q_ hf rfl rfl rfl (e_pick_t hf rfl hc784 rfl) fun a hf => ?_
                refine pl_nil ?_
                obtain rfl := some_inj h778
                refine then_n ?_
                exact ⟨true, rfl, hf.keep ⟨rfl, rfl, rfl, trivial⟩, hM.pick [0] rfl⟩
              · refine gq (wanted_t hf rfl rfl rfl rfl hc784) hf rfl rfl (e_move hf rfl) fun a hf => ?_
                refine gq (wanted_t hf rfl rfl rfl rfl hc784) hf rfl rfl (e_move hf rfl) fun a hf => ?_
                refine gq (wanted_t hf rfl rfl rfl rfl hc784) hf rfl rfl (e_ne hf (x := y710.2) (y := y665.2) rfl rfl) fun a hf => ?_
                refine q_ hf rfl rfl rfl (e_pick_f hf rfl hc784 rfl) fun a hf => ?_
                refine pl_nil ?_
                obtain rfl := some_inj h778
                refine then_n ?_
                exact ⟨(y710.2 != y665.2), rfl, hf.keep ⟨rfl, rfl, rfl, trivial⟩, hM.pick [0] rfl⟩
            · rintro a w787 ⟨t775, rfl, hf, hM⟩
              try dsimp only at h
              rcases cond_some h with ⟨hc788, h⟩ | ⟨hc788, h⟩
              · refine cond_t hf rfl hc788 ?_
                refine wp_seq ?_
                refine region_pl ?_
                refine q_ hf rfl rfl rfl (e_assign hf rfl) fun a hf => ?_
                refine pl_nil ?_
                refine then_n ?_
                refine wp_ret ?_
                refine then_r ?_
                obtain rfl := some_inj h
                have hM := hM.outs (own' := []) 0 rfl
                exact leave1 hf rfl rfl ⟨rfl, hM.fin⟩
              · refine cond_f hf rfl hc788 ?_
                refine wp_skip ?_
                refine then_n ?_
                refine wp_seq ?_
                refine wp_seq ?_
                obtain ⟨w789, hw⟩ : ∃ x, x = w787.drew := ⟨_, rfl⟩
                refine region_pi (.q 0 (.q 1 (.l 2 (.l 3 (.q 4 (.nil)))))) (Ext w789) rfl (by kernel_rfl) ?_
                have hM := hM.drew
                rw [← hw] at hM ⊢
                clear hw
                refine pi_q hf rfl rfl rfl rfl (Ext.refl _) (e_loadA hf (us := [vL A679 (y677.Words) c680]) rfl ⟨Try.isAgg45, Try.sizeOf45⟩ rfl (hM.boxSub (k := 1) (us := [vL A679 (y677.Words) c680]) (o := 0) rfl rfl)) fun a hf => ?_
                refine pi_q hf rfl rfl rfl rfl (Ext.refl _) (e_loadA hf (us := [vL A6 (aL5.Words) c7]) rfl ⟨Try.isAgg42, Try.sizeOf42⟩ rfl (hM.boxSub (k := 5) (us := [vL A6 (aL5.Words) c7]) (o := 0) rfl rfl)) fun a hf => ?_
                refine pi_one ?_
                obtain ⟨y790, hz791, h⟩ := bind_some h
                refine pi_l hf rfl rfl rfl rfl (w_call hf Try.call26 rfl (r_laws_toLexicon ⟨_, Sh C _ _, none_, hM.sh_lt, none_not, C.G, hM.g_lt, g_none, hM.tabs⟩ aL5 _ _ (hM.dat (k := 0) rfl) _ hz791) ?_)
                rintro _ w794 ⟨A792, c793, rfl, hM2⟩
                obtain ⟨hM, hx795, hup796⟩ := hM.back hM2
                dsimp only [List.cons_append, List.nil_append] at hM hup796
                clear hM2
                refine ⟨_, rfl, Ext w794, fun _ h => Ext.trans hx795 h, Ext.refl _, fun a hf => ?_⟩
                refine pi_one ?_
                obtain ⟨y797, hz798, h⟩ := bind_some h
                refine pi_l hf rfl rfl rfl rfl (w_call hf Try.call28 rfl (r_laws_eqLexicon ⟨_, All C _ _, none_, hM.all_lt, none_not, C.G, hM.g_lt, g_none, hM.tabs⟩ y677 _ _ (hM.lendRow (k := 3) rfl) y790 _ _ (hM.lendRow (k := 0) rfl) _ hz798) ?_)
                rintro _ w799 ⟨rfl, hM2⟩
                obtain ⟨hM, hx800⟩ := hM.backA hM2
                clear hM2
                refine ⟨_, rfl, Ext w799, fun _ h => Ext.trans hx800 h, Ext.refl _, fun a hf => ?_⟩
                refine pi_q hf rfl rfl rfl rfl (Ext.refl _) (e_not hf rfl) fun a hf => ?_
                refine pi_nil ?_
                refine then_n ?_
                rcases cond_some h with ⟨hc802, h⟩ | ⟨hc802, h⟩
                · refine cond_t hf rfl hc802 ?_
                  refine wp_seq ?_
                  refine region_pl ?_
                  refine q_ hf rfl rfl rfl (e_assign hf rfl) fun a hf => ?_
                  refine pl_nil ?_
                  refine then_n ?_
                  refine wp_ret ?_
                  refine then_r ?_
                  obtain rfl := some_inj h
                  have hM := hM.outs (own' := []) 0 rfl
                  exact leave1 hf rfl rfl ⟨rfl, hM.fin⟩
                · refine cond_f hf rfl hc802 ?_
                  refine wp_skip ?_
                  refine then_n ?_
                  refine wp_seq ?_
                  refine region_pl ?_
                  refine q_ hf rfl rfl rfl (e_assign hf rfl) fun a hf => ?_
                  refine pl_nil ?_
                  refine then_n ?_
                  refine wp_ret ?_
                  obtain rfl := some_inj h
                  have hM := hM.outs (own' := []) 0 rfl
                  exact leave1 hf rfl rfl ⟨rfl, hM.fin⟩
        · refine pi_l hf rfl rfl rfl rfl (w_allocM hM (cs := [vI (0), vI (0), vS (([] : Str))]) Try.zeroValue27 rfl fun b803 w804 hx805 hn806 hM => ⟨ExtM [some b803] w804, fun _ h => ExtM.grow hx805 hn806 h, ExtM.refl _ _, fun a hf => ?_⟩)
          refine pi_one ?_
          refine pi_l hf rfl rfl rfl rfl (w_call hf Try.call14 rfl (r_laws_toGrid ⟨_, Sh C _ _, none_, hM.sh_lt, none_not, C.G, hM.g_lt, g_none, hM.tabs⟩ aG1 hp2 hp3 hp4 _ hz693) ?_)
          rintro _ w810 ⟨rfl, hM2, hv807, hv808, hv809⟩
          obtain ⟨hM, hx811, hup812⟩ := hM.back hM2
          dsimp only [List.cons_append, List.nil_append] at hM hup812
          clear hM2
          refine ⟨_, rfl, ExtM [some b803] w810, fun _ h => ExtM.trans hx811 h, ExtM.refl _ _, fun a hf => ?_⟩
          refine pi_one ?_
          obtain ⟨y813, hz814, h⟩ := bind_some h
          refine pi_l hf rfl rfl rfl rfl (w_call hf Try.call38 rfl (r_impl_FillGrid ⟨_, All C _ _, none_, hM.all_lt, none_not, C.G, hM.g_lt, g_none, hM.tabs⟩ y692 hv807 hv808 hv809 y677 _ _ (hM.lendRow (k := 2) rfl) _ hz814) ?_)
          rintro _ w819 ⟨rfl, hM2, hv815, hv816, hv817, hv818⟩
          obtain ⟨hM, hx820⟩ := hM.backA hM2
          clear hM2
          refine ⟨_, rfl, ExtM [some b803] w819, fun _ h => ExtM.trans hx820 h, ExtM.refl _ _, fun a hf => ?_⟩
          refine pi_q hf rfl rfl rfl rfl (ExtM.refl _ _) (e_move hf rfl) fun a hf => ?_
          refine pi_q hf rfl rfl rfl rfl (ExtM.refl _ _) (e_extract hf rfl rfl) fun a hf => ?_
          refine pi_q hf rfl rfl rfl rfl (ExtM.refl _ _) (e_extract hf rfl rfl) fun a hf => ?_
          refine pi_one ?_
          refine pi_l0 hf rfl rfl rfl (w_storeM hf (List.mem_of_getElem? (i := 0) rfl) hM (us := [vI (y813.1.Rows), vI (y813.1.Cols), vS (y813.1.Cells)]) (cs' := [vI (y813.1.Rows), vI (y813.1.Cols), vS (y813.1.Cells)]) rfl rfl (k := 0) rfl rfl Try.sizeOf27 rfl rfl rfl fun w822 hxm823 hsz824 hM => ⟨Ext w822, fun _ h => ExtM.last hxm823 hsz824 h, Ext.refl _, ?_⟩)
          dsimp only [List.set] at hM
          refine pi_q hf rfl rfl rfl rfl (Ext.refl _) (e_assign hf rfl) fun a hf => ?_
          refine pi_nil ?_
          refine then_n ?_
          refine wp_seq ?_
          obtain ⟨x827, h828, h⟩ := bind_some h
          refine seq_join (fun a w => ∃ (t825 : Bool), t825 = x827 ∧ Has 52 a [(3, vP b13 (0)), (8, vP b684 (0)), (46, .bool (t825))] ∧ Mem C w [.box b803 [vI (y813.1.Rows), vI (y813.1.Cols), vS (y813.1.Cells)] 27, .box b684 [vL A679 (y677.Words) c680] 45, .row strRep A679 c680 9 y677.Words true, .row strRep A660 c661 9 y658.Words true, .box b648 [vI (y665.1.Rows), vI (y665.1.Cols), vS (y665.1.Cells)] 27, .box b13 [vL A6 (aL5.Words) c7] 42, .box b9 [vI (aG1.Rows), vI (aG1.Cols), vS (aG1.Cells)] 23] [.dat (sliceRep strRep) aL5.Words [vL A6 aL5.Words c7]]) ?_ ?_
          · refine region_pl ?_
            refine q_ hf rfl rfl rfl (e_loadA hf (us := [vI (y813.1.Rows), vI (y813.1.Cols), vS (y813.1.Cells)]) rfl ⟨Try.isAgg27, Try.sizeOf27⟩ rfl (hM.boxSub (k := 0) (us := [vI (y813.1.Rows), vI (y813.1.Cols), vS (y813.1.Cells)]) (o := 0) rfl rfl)) fun a hf => ?_
            refine q_ hf rfl rfl rfl (e_loadA hf (us := [vI (y665.1.Rows), vI (y665.1.Cols), vS (y665.1.Cells)]) rfl ⟨Try.isAgg27, Try.sizeOf27⟩ rfl (hM.boxSub (k := 4) (us := [vI (y665.1.Rows), vI (y665.1.Cols), vS (y665.1.Cells)]) (o := 0) rfl rfl)) fun a hf => ?_
            obtain ⟨y829, hz830, h828⟩ := bind_some h828
            refine pl_l hf rfl rfl rfl (w_call hf Try.call23 rfl (r_laws_eqGrid ⟨_, Sh C _ _, none_, hM.sh_lt, none_not, C.G, hM.g_lt, g_none, hM.tabs⟩ y813.1 hv815 hv816 hv817 y665.1 hv667 hv668 hv669 _ hz830) ?_)
            rintro _ w831 ⟨rfl, hM2⟩
            obtain ⟨hM, hx832, hup833⟩ := hM.back hM2
            dsimp only [List.cons_append, List.nil_append] at hM hup833
            clear hM2
            refine ⟨_, rfl, fun a hf => ?_⟩
            refine q_ hf rfl rfl rfl (e_not hf rfl) fun a hf => ?_
            refine q_ hf rfl rfl rfl (e_move hf rfl) fun a hf => ?_
            rcases cond_some h828 with ⟨hc834, h828⟩ | ⟨hc834, h828⟩
            · refine pl_gs (wanted_f hf rfl rfl rfl rfl hc834) hf rfl rfl fun a hf => ?_
              refine pl_gs (wanted_f hf rfl rfl rfl rfl hc834) hf rfl rfl fun a hf => ?_
              refine pl_gs (wanted_f hf rfl rfl rfl rfl hc834) hf rfl rfl fun a hf => ?_
              refine q_ hf rfl rfl rfl (e_pick_t hf rfl hc834 rfl) fun a hf => ?_
              refine pl_nil ?_
              obtain rfl := some_inj h828
              refine then_n ?_
              exact ⟨true, rfl, hf.keep ⟨rfl, rfl, rfl, trivial⟩, hM.pick [0] rfl⟩
            · refine gq (wanted_t hf rfl rfl rfl rfl hc834) hf rfl rfl (e_move hf rfl) fun a hf => ?_
              refine gq (wanted_t hf rfl rfl rfl rfl hc834) hf rfl rfl (e_move hf rfl) fun a hf => ?_
              refine gq (wanted_t hf rfl rfl rfl rfl hc834) hf rfl rfl (e_ne hf (x := y813.2) (y := y665.2) rfl rfl) fun a hf => ?_
              refine q_ hf rfl rfl rfl (e_pick_f hf rfl hc834 rfl) fun a hf => ?_
              refine pl_nil ?_
              obtain rfl := some_inj h828
              refine then_n ?_
              exact ⟨(y813.2 != y665.2), rfl, hf.keep ⟨rfl, rfl, rfl, trivial⟩, hM.pick [0] rfl⟩
          · rintro a w837 ⟨t825, rfl, hf, hM⟩
            try dsimp only at h
            rcases cond_some h with ⟨hc838, h⟩ | ⟨hc838, h⟩
            · refine cond_t hf rfl hc838 ?_
              refine wp_seq ?_
              refine region_pl ?_
              refine q_ hf rfl rfl rfl (e_assign hf rfl) fun a hf => ?_
              refine pl_nil ?_
              refine then_n ?_
              refine wp_ret ?_
              refine then_r ?_
              obtain rfl := some_inj h
              have hM := hM.outs (own' := []) 0 rfl
              exact leave1 hf rfl rfl ⟨rfl, hM.fin⟩
            · refine cond_f hf rfl hc838 ?_
              refine wp_skip ?_
              refine then_n ?_
              refine wp_seq ?_
              refine wp_seq ?_
              obtain ⟨w839, hw⟩ : ∃ x, x = w837.drew := ⟨_, rfl⟩
              refine region_pi (.q 0 (.q 1 (.l 2 (.l 3 (.q 4 (.nil)))))) (Ext w839) rfl (by kernel_rfl) ?_
              have hM := hM.drew
              rw [← hw] at hM ⊢
              clear hw
              refine pi_q hf rfl rfl rfl rfl (Ext.refl _) (e_loadA hf (us := [vL A679 (y677.Words) c680]) rfl ⟨Try.isAgg45, Try.sizeOf45⟩ rfl (hM.boxSub (k := 1) (us := [vL A679 (y677.Words) c680]) (o := 0) rfl rfl)) fun a hf => ?_
              refine pi_q hf rfl rfl rfl rfl (Ext.refl _) (e_loadA hf (us := [vL A6 (aL5.Words) c7]) rfl ⟨Try.isAgg42, Try.sizeOf42⟩ rfl (hM.boxSub (k := 5) (us := [vL A6 (aL5.Words) c7]) (o := 0) rfl rfl)) fun a hf => ?_
              refine pi_one ?_
              obtain ⟨y840, hz841, h⟩ := bind_some h
              refine pi_l hf rfl rfl rfl rfl (w_call hf Try.call26 rfl (r_laws_toLexicon ⟨_, Sh C _ _, none_, hM.sh_lt, none_not, C.G, hM.g_lt, g_none, hM.tabs⟩ aL5 _ _ (hM.dat (k := 0) rfl) _ hz841) ?_)
              rintro _ w844 ⟨A842, c843, rfl, hM2⟩
              obtain ⟨hM, hx845, hup846⟩ := hM.back hM2
              dsimp only [List.cons_append, List.nil_append] at hM hup846
              clear hM2
              refine ⟨_, rfl, Ext w844, fun _ h => Ext.trans hx845 h, Ext.refl _, fun a hf => ?_⟩
              refine pi_one ?_
              obtain ⟨y847, hz848, h⟩ := bind_some h
              refine pi_l hf rfl rfl rfl rfl (w_call hf Try.call28 rfl (r_laws_eqLexicon ⟨_, All C _ _, none_, hM.all_lt, none_not, C.G, hM.g_lt, g_none, hM.tabs⟩ y677 _ _ (hM.lendRow (k := 3) rfl) y840 _ _ (hM.lendRow (k := 0) rfl) _ hz848) ?_)
              rintro _ w849 ⟨rfl, hM2⟩
              obtain ⟨hM, hx850⟩ := hM.backA hM2
              clear hM2
              refine ⟨_, rfl, Ext w849, fun _ h => Ext.trans hx850 h, Ext.refl _, fun a hf => ?_⟩
              refine pi_q hf rfl rfl rfl rfl (Ext.refl _) (e_not hf rfl) fun a hf => ?_
              refine pi_nil ?_
              refine then_n ?_
              rcases cond_some h with ⟨hc852, h⟩ | ⟨hc852, h⟩
              · refine cond_t hf rfl hc852 ?_
                refine wp_seq ?_
                refine region_pl ?_
                refine q_ hf rfl rfl rfl (e_assign hf rfl) fun a hf => ?_
                refine pl_nil ?_
                refine then_n ?_
                refine wp_ret ?_
                refine then_r ?_
                obtain rfl := some_inj h
                have hM := hM.outs (own' := []) 0 rfl
                exact leave1 hf rfl rfl ⟨rfl, hM.fin⟩
              · refine cond_f hf rfl hc852 ?_
                refine wp_skip ?_
                refine then_n ?_
                refine wp_seq ?_
                refine region_pl ?_
                refine q_ hf rfl rfl rfl (e_assign hf rfl) fun a hf => ?_
                refine pl_nil ?_
                refine then_n ?_
                refine wp_ret ?_
                obtain rfl := some_inj h
                have hM := hM.outs (own' := []) 0 rfl
                exact leave1 hf rfl rfl ⟨rfl, hM.fin⟩

end Go.Proofs.Ytgmikhdealhlfaa
