/- The functions that this law reaches do what their models say. Printed by gen.py. -/
import Derived.Test.YtbekokenomhgeaaGreatDoorMod
import Derived.Test.YtbekokenomhgeaaGreatDoorLib
import Derived.Test.YtbekokenomhgeaaGreatDoorEndAfterRefB
namespace Go.Proofs.YtbekokenomhgeaaGreatDoor
open Go Go.RowKit
set_option linter.unusedSimpArgs false
set_option linter.unusedVariables false

set_option maxRecDepth 100000 in
set_option maxHeartbeats 4000000 in
theorem r_impl_EndAfter (C : Cx) (b1 : Board) (hp2 : R64 b1.Size) (hp3 : b1.Premium.length ≤ maxLen) (hp4 : b1.Cells.length ≤ maxLen) (mine5 : Str) (hp6 : mine5.length ≤ maxLen) (unseen7 : Str) (hp8 : unseen7.length ≤ maxLen) (p9 : Play) (hp10 : R64 p9.Row) (hp11 : R64 p9.Col) (hp12 : p9.Word.length ≤ maxLen) (tile13 : Str) (hp14 : tile13.length ≤ maxLen) (r : (End × Int)) (h : m_impl_EndAfter b1 mine5 unseen7 p9 tile13 = some r) :
    Calls Tryz.prog 19 #[.agg #[vI (b1.Size), vS (b1.Premium), vS (b1.Cells)], vS (mine5), vS (unseen7), .agg #[vI (p9.Row), vI (p9.Col), .bool (p9.Down), vS (p9.Word)], vS (tile13)] C.w0 fun e w => e = .returned (.tuple #[.agg #[vI (r.1.Board.Size), vS (r.1.Board.Premium), vS (r.1.Board.Cells), vS (r.1.Mine), vS (r.1.Theirs), .bool (r.1.Passed)], vI (r.2)]) ∧ Mem C w [] [] ∧ R64 r.1.Board.Size ∧ r.1.Board.Premium.length ≤ maxLen ∧ r.1.Board.Cells.length ≤ maxLen ∧ r.1.Mine.length ≤ maxLen ∧ r.1.Theirs.length ≤ maxLen ∧ R64 r.2 := by
  have hM := Mem.begin C [] trivial
  refine enter Tryz.func19 rfl Tryz.ntmps19 rfl fun a hf => ?_
  unfold m_impl_EndAfter at h
  refine wp_seq ?_
  refine region_pl ?_
  refine pl_l hf rfl rfl rfl (w_box hf hM (cs := [vI (b1.Size), vS (b1.Premium), vS (b1.Cells)]) rfl rfl fun b15 w16 hx17 hM a hf => ?_)
  refine pl_l hf rfl rfl rfl (w_box hf hM (cs := [vI (p9.Row), vI (p9.Col), .bool (p9.Down), vS (p9.Word)]) rfl rfl fun b19 w20 hx21 hM a hf => ?_)
  refine pl_l hf rfl rfl rfl (w_alloc hM (cs := [vI (0), vS (([] : Str)), vS (([] : Str)), vS (([] : Str)), vS (([] : Str)), .bool (false)]) Tryz.zeroValue38 rfl fun b23 w24 hx25 hM a hf => ?_)
  refine q_ hf rfl rfl rfl (e_assign hf rfl) fun a hf => ?_
  refine pl_nil ?_
  refine then_n ?_
  refine wp_seq ?_
  refine wp_block ?_
  obtain ⟨x29, h30, h⟩ := bind_some h
  refine seq_join (fun a w => ∃ (t27 : Bool), t27 = x29 ∧ Has 63 a [(1, vS (mine5)), (2, vS (unseen7)), (4, vS (tile13)), (5, vP b15 (0)), (8, vP b19 (0)), (10, vP b23 (0)), (14, .bool (t27))] ∧ Mem C w [.box b23 [vI (0), vS (([] : Str)), vS (([] : Str)), vS (([] : Str)), vS (([] : Str)), .bool (false)] 38, .box b19 [vI (p9.Row), vI (p9.Col), .bool (p9.Down), vS (p9.Word)] 41, .box b15 [vI (b1.Size), vS (b1.Premium), vS (b1.Cells)] 28] []) ?_ ?_
  · refine region_pl ?_
    refine q_ hf rfl rfl rfl (e_loadA hf (us := [vI (b1.Size), vS (b1.Premium), vS (b1.Cells)]) rfl ⟨Tryz.isAgg28, Tryz.sizeOf28⟩ rfl (hM.boxSub (k := 2) (us := [vI (b1.Size), vS (b1.Premium), vS (b1.Cells)]) (o := 0) rfl rfl)) fun a hf => ?_
    obtain ⟨y31, hz32, h30⟩ := bind_some h30
    refine pl_l hf rfl rfl rfl (w_call hf Tryz.call44 rfl (r_impl_ValidBoard ⟨_, Sh C _ _, none_, hM.sh_lt, none_not, C.G, hM.g_lt, g_none, hM.tabs⟩ b1 hp2 hp3 hp4 _ hz32) ?_)
    rintro _ w33 ⟨rfl, hM2⟩
    obtain ⟨hM, hx34, hup35⟩ := hM.back hM2
    dsimp only [List.cons_append, List.nil_append] at hM hup35
    clear hM2
    refine ⟨_, rfl, fun a hf => ?_⟩
    refine q_ hf rfl rfl rfl (e_not hf rfl) fun a hf => ?_
    refine q_ hf rfl rfl rfl (e_move hf rfl) fun a hf => ?_
    rcases cond_some h30 with ⟨hc36, h30⟩ | ⟨hc36, h30⟩
    · refine pl_gs (wanted_f hf rfl rfl rfl rfl hc36) hf rfl rfl fun a hf => ?_
      refine pl_gs (wanted_f hf rfl rfl rfl rfl hc36) hf rfl rfl fun a hf => ?_
      refine pl_gs (wanted_f hf rfl rfl rfl rfl hc36) hf rfl rfl fun a hf => ?_
      refine q_ hf rfl rfl rfl (e_pick_t hf rfl hc36 rfl) fun a hf => ?_
      refine q_ hf rfl rfl rfl (e_move hf rfl) fun a hf => ?_
      refine pl_gs (wanted_f hf rfl rfl rfl rfl rfl) hf rfl rfl fun a hf => ?_
      refine pl_gs (wanted_f hf rfl rfl rfl rfl rfl) hf rfl rfl fun a hf => ?_
      refine pl_gs (wanted_f hf rfl rfl rfl rfl rfl) hf rfl rfl fun a hf => ?_
      refine q_ hf rfl rfl rfl (e_pick_t hf rfl rfl rfl) fun a hf => ?_
      refine q_ hf rfl rfl rfl (e_assign hf rfl) fun a hf => ?_
      refine pl_nil ?_
      obtain rfl := some_inj h30
      refine then_n ?_
      exact ⟨true, rfl, hf.keep ⟨rfl, rfl, rfl, rfl, rfl, rfl, rfl, trivial⟩, hM.pick [] rfl⟩
    · refine gq (wanted_t hf rfl rfl rfl rfl hc36) hf rfl rfl (e_move hf rfl) fun a hf => ?_
      obtain ⟨y38, hz39, h30⟩ := bind_some h30
      refine pl_gl (wanted_t hf rfl rfl rfl rfl hc36) hf rfl rfl (w_call hf Tryz.call45 rfl (r_impl_ValidRack ⟨_, Sh C _ _, none_, hM.sh_lt, none_not, C.G, hM.g_lt, g_none, hM.tabs⟩ mine5 hp6 _ hz39) ?_)
      rintro _ w40 ⟨rfl, hM2⟩
      obtain ⟨hM, hx41, hup42⟩ := hM.back hM2
      dsimp only [List.cons_append, List.nil_append] at hM hup42
      clear hM2
      refine ⟨_, rfl, fun a hf => ?_⟩
      refine gq (wanted_t hf rfl rfl rfl rfl hc36) hf rfl rfl (e_not hf rfl) fun a hf => ?_
      refine q_ hf rfl rfl rfl (e_pick_f hf rfl hc36 rfl) fun a hf => ?_
      refine q_ hf rfl rfl rfl (e_move hf rfl) fun a hf => ?_
      rcases cond_some h30 with ⟨hc43, h30⟩ | ⟨hc43, h30⟩
      · refine pl_gs (wanted_f hf rfl rfl rfl rfl hc43) hf rfl rfl fun a hf => ?_
        refine pl_gs (wanted_f hf rfl rfl rfl rfl hc43) hf rfl rfl fun a hf => ?_
        refine pl_gs (wanted_f hf rfl rfl rfl rfl hc43) hf rfl rfl fun a hf => ?_
        refine q_ hf rfl rfl rfl (e_pick_t hf rfl hc43 rfl) fun a hf => ?_
        refine q_ hf rfl rfl rfl (e_assign hf rfl) fun a hf => ?_
        refine pl_nil ?_
        obtain rfl := some_inj h30
        refine then_n ?_
        exact ⟨true, rfl, hf.keep ⟨rfl, rfl, rfl, rfl, rfl, rfl, rfl, trivial⟩, hM.pick [] rfl⟩
      · refine gq (wanted_t hf rfl rfl rfl rfl hc43) hf rfl rfl (e_move hf rfl) fun a hf => ?_
        obtain ⟨y45, hz46, h30⟩ := bind_some h30
        refine pl_gl (wanted_t hf rfl rfl rfl rfl hc43) hf rfl rfl (w_call hf Tryz.call46 rfl (r_impl_isUnseen ⟨_, Sh C _ _, none_, hM.sh_lt, none_not, C.G, hM.g_lt, g_none, hM.tabs⟩ unseen7 hp8 _ hz46) ?_)
        rintro _ w47 ⟨rfl, hM2⟩
        obtain ⟨hM, hx48, hup49⟩ := hM.back hM2
        dsimp only [List.cons_append, List.nil_append] at hM hup49
        clear hM2
        refine ⟨_, rfl, fun a hf => ?_⟩
        refine gq (wanted_t hf rfl rfl rfl rfl hc43) hf rfl rfl (e_not hf rfl) fun a hf => ?_
        refine q_ hf rfl rfl rfl (e_pick_f hf rfl hc43 rfl) fun a hf => ?_
        refine q_ hf rfl rfl rfl (e_assign hf rfl) fun a hf => ?_
        refine pl_nil ?_
        obtain rfl := some_inj h30
        refine then_n ?_
        exact ⟨(!y45), rfl, hf.keep ⟨rfl, rfl, rfl, rfl, rfl, rfl, rfl, trivial⟩, hM.pick [] rfl⟩
  · rintro a w51 ⟨t27, rfl, hf, hM⟩
    try dsimp only at h
    rcases cond_some h with ⟨hc52, h⟩ | ⟨hc52, h⟩
    · refine cond_t hf rfl hc52 ?_
      refine wp_seq ?_
      refine region_pl ?_
      refine q_ hf rfl rfl rfl (e_build hf Tryz.zeroValue38 Tryz.underlying38 (bp_38 _ Tryz.underlying38.symm) rfl (cs := #[vI (0), vS (([] : Str)), vS (([] : Str)), vS (([] : Str)), vS (([] : Str)), .bool (false)]) (by kernel_rfl)) fun a hf => ?_
      refine pl_0 hf rfl rfl (w_store hf hM (us := [vI (0), vS (([] : Str)), vS (([] : Str)), vS (([] : Str)), vS (([] : Str)), .bool (false)]) (cs' := [vI (0), vS (([] : Str)), vS (([] : Str)), vS (([] : Str)), vS (([] : Str)), .bool (false)]) rfl rfl (k := 0) rfl rfl Tryz.sizeOf38 rfl rfl rfl fun w53 hM => ?_)
      dsimp only [List.set] at hM
      refine q_ hf rfl rfl rfl (e_assign hf rfl) fun a hf => ?_
      refine pl_nil ?_
      refine then_n ?_
      refine wp_ret ?_
      refine blk_r ?_
      refine then_r ?_
      obtain rfl := some_inj h
      have hres56 := leaveV2 (P := Tryz.prog) Tryz.results19 (res_agg hf rfl ⟨Tryz.isAgg38, Tryz.sizeOf38⟩ (us := [vI (0), vS (([] : Str)), vS (([] : Str)), vS (([] : Str)), vS (([] : Str)), .bool (false)]) rfl (hM.boxSub (k := 0) (o := 0) rfl rfl)) (res_tmp hf rfl)
      have hM := hM.outs (own' := []) 0 rfl
      exact bodyPost_ret hres56 hf.defers ⟨rfl, hM.fin, (R64_lit rfl), (lit_len rfl), (lit_len rfl), (lit_len rfl), (lit_len rfl), (R64_lit rfl)⟩
    · refine cond_f hf rfl hc52 ?_
      refine wp_seq ?_
      refine region_pl ?_
      refine q_ hf rfl rfl rfl (e_loadA hf (us := [vI (p9.Row), vI (p9.Col), .bool (p9.Down), vS (p9.Word)]) rfl ⟨Tryz.isAgg41, Tryz.sizeOf41⟩ rfl (hM.boxSub (k := 1) (us := [vI (p9.Row), vI (p9.Col), .bool (p9.Down), vS (p9.Word)]) (o := 0) rfl rfl)) fun a hf => ?_
      refine q_ hf rfl rfl rfl (e_loadA hf (us := [vI (b1.Size), vS (b1.Premium), vS (b1.Cells)]) rfl ⟨Tryz.isAgg28, Tryz.sizeOf28⟩ rfl (hM.boxSub (k := 2) (us := [vI (b1.Size), vS (b1.Premium), vS (b1.Cells)]) (o := 0) rfl rfl)) fun a hf => ?_
      obtain ⟨y57, hz58, h⟩ := bind_some h
      refine pl_l hf rfl rfl rfl (w_call hf Tryz.call47 rfl (r_impl_Play_validOn ⟨_, Sh C _ _, none_, hM.sh_lt, none_not, C.G, hM.g_lt, g_none, hM.tabs⟩ p9 hp10 hp11 hp12 b1 hp2 hp3 hp4 _ hz58) ?_)
      rintro _ w59 ⟨rfl, hM2⟩
      obtain ⟨hM, hx60, hup61⟩ := hM.back hM2
      dsimp only [List.cons_append, List.nil_append] at hM hup61
      clear hM2
      refine ⟨_, rfl, fun a hf => ?_⟩
      refine q_ hf rfl rfl rfl (e_not hf rfl) fun a hf => ?_
      refine q_ hf rfl rfl rfl (e_assign hf rfl) fun a hf => ?_
      refine pl_nil ?_
      refine then_n ?_
      rcases cond_some h with ⟨hc62, h⟩ | ⟨hc62, h⟩
      · refine cond_t hf rfl hc62 ?_
        refine wp_seq ?_
        refine region_pl ?_
        refine q_ hf rfl rfl rfl (e_build hf Tryz.zeroValue38 Tryz.underlying38 (bp_38 _ Tryz.underlying38.symm) rfl (cs := #[vI (0), vS (([] : Str)), vS (([] : Str)), vS (([] : Str)), vS (([] : Str)), .bool (false)]) (by kernel_rfl)) fun a hf => ?_
        refine pl_0 hf rfl rfl (w_store hf hM (us := [vI (0), vS (([] : Str)), vS (([] : Str)), vS (([] : Str)), vS (([] : Str)), .bool (false)]) (cs' := [vI (0), vS (([] : Str)), vS (([] : Str)), vS (([] : Str)), vS (([] : Str)), .bool (false)]) rfl rfl (k := 0) rfl rfl Tryz.sizeOf38 rfl rfl rfl fun w63 hM => ?_)
        dsimp only [List.set] at hM
        refine q_ hf rfl rfl rfl (e_assign hf rfl) fun a hf => ?_
        refine pl_nil ?_
        refine then_n ?_
        refine wp_ret ?_
        refine blk_r ?_
        refine then_r ?_
        obtain rfl := some_inj h
        have hres66 := leaveV2 (P := Tryz.prog) Tryz.results19 (res_agg hf rfl ⟨Tryz.isAgg38, Tryz.sizeOf38⟩ (us := [vI (0), vS (([] : Str)), vS (([] : Str)), vS (([] : Str)), vS (([] : Str)), .bool (false)]) rfl (hM.boxSub (k := 0) (o := 0) rfl rfl)) (res_tmp hf rfl)
        have hM := hM.outs (own' := []) 0 rfl
        exact bodyPost_ret hres66 hf.defers ⟨rfl, hM.fin, (R64_lit rfl), (lit_len rfl), (lit_len rfl), (lit_len rfl), (lit_len rfl), (R64_lit rfl)⟩
      · refine cond_f hf rfl hc62 ?_
        refine wp_skip ?_
        refine blk_n ?_
        refine then_n ?_
        refine wp_seq ?_
        refine region_pl ?_
        refine q_ hf rfl rfl rfl (e_move hf rfl) fun a hf => ?_
        refine q_ hf rfl rfl rfl (e_loadA hf (us := [vI (b1.Size), vS (b1.Premium), vS (b1.Cells)]) rfl ⟨Tryz.isAgg28, Tryz.sizeOf28⟩ rfl (hM.boxSub (k := 2) (us := [vI (b1.Size), vS (b1.Premium), vS (b1.Cells)]) (o := 0) rfl rfl)) fun a hf => ?_
        refine q_ hf rfl rfl rfl (e_loadA hf (us := [vI (p9.Row), vI (p9.Col), .bool (p9.Down), vS (p9.Word)]) rfl ⟨Tryz.isAgg41, Tryz.sizeOf41⟩ rfl (hM.boxSub (k := 1) (us := [vI (p9.Row), vI (p9.Col), .bool (p9.Down), vS (p9.Word)]) (o := 0) rfl rfl)) fun a hf => ?_
        obtain ⟨y67, hz68, h⟩ := bind_some h
        refine pl_l hf rfl rfl rfl (w_call hf Tryz.call49 rfl (r_impl_placedTiles ⟨_, Sh C _ _, none_, hM.sh_lt, none_not, C.G, hM.g_lt, g_none, hM.tabs⟩ b1 hp2 hp3 hp4 p9 hp10 hp11 hp12 _ hz68) ?_)
        rintro _ w70 ⟨rfl, hM2, hv69⟩
        obtain ⟨hM, hx71, hup72⟩ := hM.back hM2
        dsimp only [List.cons_append, List.nil_append] at hM hup72
        clear hM2
        refine ⟨_, rfl, fun a hf => ?_⟩
        obtain ⟨y73, hz74, h⟩ := bind_some h
        refine pl_l hf rfl rfl rfl (w_call hf Tryz.call48 rfl (r_impl_without ⟨_, Sh C _ _, none_, hM.sh_lt, none_not, C.G, hM.g_lt, g_none, hM.tabs⟩ mine5 hp6 y67 hv69 _ hz74) ?_)
        rintro _ w76 ⟨rfl, hM2, hv75⟩
        obtain ⟨hM, hx77, hup78⟩ := hM.back hM2
        dsimp only [List.cons_append, List.nil_append] at hM hup78
        clear hM2
        refine ⟨_, rfl, fun a hf => ?_⟩
        refine q_ hf rfl rfl rfl (e_move hf rfl) fun a hf => ?_
        refine q_ hf rfl rfl rfl (e_extract hf rfl rfl) fun a hf => ?_
        refine q_ hf rfl rfl rfl (e_extract hf rfl rfl) fun a hf => ?_
        refine q_ hf rfl rfl rfl (e_assign hf rfl) fun a hf => ?_
        refine q_ hf rfl rfl rfl (e_assign hf rfl) fun a hf => ?_
        refine pl_nil ?_
        refine then_n ?_
        refine wp_seq ?_
        obtain ⟨x81, h82, h⟩ := bind_some h
        refine seq_join (fun a w => ∃ (t79 : Bool), t79 = x81 ∧ Has 63 a [(1, vS (mine5)), (2, vS (unseen7)), (4, vS (tile13)), (5, vP b15 (0)), (8, vP b19 (0)), (10, vP b23 (0)), (55, .bool (t79))] ∧ Mem C w [.box b23 [vI (0), vS (([] : Str)), vS (([] : Str)), vS (([] : Str)), vS (([] : Str)), .bool (false)] 38, .box b19 [vI (p9.Row), vI (p9.Col), .bool (p9.Down), vS (p9.Word)] 41, .box b15 [vI (b1.Size), vS (b1.Premium), vS (b1.Cells)] 28] []) ?_ ?_
        · refine region_pl ?_
          refine q_ hf rfl rfl rfl (e_move hf rfl) fun a hf => ?_
          refine q_ hf rfl rfl rfl (e_not hf rfl) fun a hf => ?_
          refine q_ hf rfl rfl rfl (e_move hf rfl) fun a hf => ?_
          rcases cond_some h82 with ⟨hc83, h82⟩ | ⟨hc83, h82⟩
          · refine pl_gs (wanted_f hf rfl rfl rfl rfl hc83) hf rfl rfl fun a hf => ?_
            refine pl_gs (wanted_f hf rfl rfl rfl rfl hc83) hf rfl rfl fun a hf => ?_
            refine pl_gs (wanted_f hf rfl rfl rfl rfl hc83) hf rfl rfl fun a hf => ?_
            refine q_ hf rfl rfl rfl (e_pick_t hf rfl hc83 rfl) fun a hf => ?_
            refine q_ hf rfl rfl rfl (e_move hf rfl) fun a hf => ?_
            refine pl_gs (wanted_f hf rfl rfl rfl rfl rfl) hf rfl rfl fun a hf => ?_
            refine pl_gs (wanted_f hf rfl rfl rfl rfl rfl) hf rfl rfl fun a hf => ?_
            refine pl_gs (wanted_f hf rfl rfl rfl rfl rfl) hf rfl rfl fun a hf => ?_
            refine pl_gs (wanted_f hf rfl rfl rfl rfl rfl) hf rfl rfl fun a hf => ?_
            refine q_ hf rfl rfl rfl (e_pick_t hf rfl rfl rfl) fun a hf => ?_
            refine pl_nil ?_
            obtain rfl := some_inj h82
            refine then_n ?_
            exact ⟨true, rfl, hf.keep ⟨rfl, rfl, rfl, rfl, rfl, rfl, rfl, trivial⟩, hM.pick [] rfl⟩
          · refine gq (wanted_t hf rfl rfl rfl rfl hc83) hf rfl rfl (e_move hf rfl) fun a hf => ?_
            refine gq (wanted_t hf rfl rfl rfl rfl hc83) hf rfl rfl (e_lenS hf (x := tile13) rfl Tryz.underlying9) fun a hf => ?_
            refine gq (wanted_t hf rfl rfl rfl rfl hc83) hf rfl rfl (e_ne hf (x := (tile13.length : Int)) (y := 1) rfl rfl) fun a hf => ?_
            refine q_ hf rfl rfl rfl (e_pick_f hf rfl hc83 rfl) fun a hf => ?_
            refine q_ hf rfl rfl rfl (e_move hf rfl) fun a hf => ?_
            rcases cond_some h82 with ⟨hc85, h82⟩ | ⟨hc85, h82⟩
            · refine pl_gs (wanted_f hf rfl rfl rfl rfl hc85) hf rfl rfl fun a hf => ?_
              refine pl_gs (wanted_f hf rfl rfl rfl rfl hc85) hf rfl rfl fun a hf => ?_
              refine pl_gs (wanted_f hf rfl rfl rfl rfl hc85) hf rfl rfl fun a hf => ?_
              refine pl_gs (wanted_f hf rfl rfl rfl rfl hc85) hf rfl rfl fun a hf => ?_
              refine q_ hf rfl rfl rfl (e_pick_t hf rfl hc85 rfl) fun a hf => ?_
              refine pl_nil ?_
              obtain rfl := some_inj h82
              refine then_n ?_
              exact ⟨true, rfl, hf.keep ⟨rfl, rfl, rfl, rfl, rfl, rfl, rfl, trivial⟩, hM.pick [] rfl⟩
            · refine gq (wanted_t hf rfl rfl rfl rfl hc85) hf rfl rfl (e_move hf rfl) fun a hf => ?_
              refine gq (wanted_t hf rfl rfl rfl rfl hc85) hf rfl rfl (e_move hf rfl) fun a hf => ?_
              obtain ⟨y87, hz88, h82⟩ := bind_some h82
              refine pl_gl (wanted_t hf rfl rfl rfl rfl hc85) hf rfl rfl (w_call hf Tryz.call50 rfl (r_strings_Contains ⟨_, Sh C _ _, none_, hM.sh_lt, none_not, C.G, hM.g_lt, g_none, hM.tabs⟩ unseen7 hp8 tile13 hp14 _ hz88) ?_)
              rintro _ w89 ⟨rfl, hM2⟩
              obtain ⟨hM, hx90, hup91⟩ := hM.back hM2
              dsimp only [List.cons_append, List.nil_append] at hM hup91
              clear hM2
              refine ⟨_, rfl, fun a hf => ?_⟩
              refine gq (wanted_t hf rfl rfl rfl rfl hc85) hf rfl rfl (e_not hf rfl) fun a hf => ?_
              refine q_ hf rfl rfl rfl (e_pick_f hf rfl hc85 rfl) fun a hf => ?_
              refine pl_nil ?_
              obtain rfl := some_inj h82
              refine then_n ?_
              exact ⟨(!y87), rfl, hf.keep ⟨rfl, rfl, rfl, rfl, rfl, rfl, rfl, trivial⟩, hM.pick [] rfl⟩
        · rintro a w93 ⟨t79, rfl, hf, hM⟩
          try dsimp only at h
          rcases cond_some h with ⟨hc94, h⟩ | ⟨hc94, h⟩
          · refine cond_t hf rfl hc94 ?_
            refine wp_seq ?_
            refine region_pl ?_
            refine q_ hf rfl rfl rfl (e_build hf Tryz.zeroValue38 Tryz.underlying38 (bp_38 _ Tryz.underlying38.symm) rfl (cs := #[vI (0), vS (([] : Str)), vS (([] : Str)), vS (([] : Str)), vS (([] : Str)), .bool (false)]) (by kernel_rfl)) fun a hf => ?_
            refine pl_0 hf rfl rfl (w_store hf hM (us := [vI (0), vS (([] : Str)), vS (([] : Str)), vS (([] : Str)), vS (([] : Str)), .bool (false)]) (cs' := [vI (0), vS (([] : Str)), vS (([] : Str)), vS (([] : Str)), vS (([] : Str)), .bool (false)]) rfl rfl (k := 0) rfl rfl Tryz.sizeOf38 rfl rfl rfl fun w95 hM => ?_)
            dsimp only [List.set] at hM
            refine q_ hf rfl rfl rfl (e_assign hf rfl) fun a hf => ?_
            refine pl_nil ?_
            refine then_n ?_
            refine wp_ret ?_
            refine then_r ?_
            obtain rfl := some_inj h
            have hres98 := leaveV2 (P := Tryz.prog) Tryz.results19 (res_agg hf rfl ⟨Tryz.isAgg38, Tryz.sizeOf38⟩ (us := [vI (0), vS (([] : Str)), vS (([] : Str)), vS (([] : Str)), vS (([] : Str)), .bool (false)]) rfl (hM.boxSub (k := 0) (o := 0) rfl rfl)) (res_tmp hf rfl)
            have hM := hM.outs (own' := []) 0 rfl
            exact bodyPost_ret hres98 hf.defers ⟨rfl, hM.fin, (R64_lit rfl), (lit_len rfl), (lit_len rfl), (lit_len rfl), (lit_len rfl), (R64_lit rfl)⟩
          · refine cond_f hf rfl hc94 ?_
            refine wp_skip ?_
            refine then_n ?_
            refine wp_seq ?_
            refine region_pl ?_
            refine q_ hf rfl rfl rfl (e_loadA hf (us := [vI (b1.Size), vS (b1.Premium), vS (b1.Cells)]) rfl ⟨Tryz.isAgg28, Tryz.sizeOf28⟩ rfl (hM.boxSub (k := 2) (us := [vI (b1.Size), vS (b1.Premium), vS (b1.Cells)]) (o := 0) rfl rfl)) fun a hf => ?_
            refine q_ hf rfl rfl rfl (e_move hf rfl) fun a hf => ?_
            refine q_ hf rfl rfl rfl (e_move hf rfl) fun a hf => ?_
            refine q_ hf rfl rfl rfl (e_loadA hf (us := [vI (p9.Row), vI (p9.Col), .bool (p9.Down), vS (p9.Word)]) rfl ⟨Tryz.isAgg41, Tryz.sizeOf41⟩ rfl (hM.boxSub (k := 1) (us := [vI (p9.Row), vI (p9.Col), .bool (p9.Down), vS (p9.Word)]) (o := 0) rfl rfl)) fun a hf => ?_
            refine q_ hf rfl rfl rfl (e_move hf rfl) fun a hf => ?_
            obtain ⟨y99, hz100, h⟩ := bind_some h
            refine pl_l hf rfl rfl rfl (w_call hf Tryz.call51 rfl (r_impl_endAfter ⟨_, Sh C _ _, none_, hM.sh_lt, none_not, C.G, hM.g_lt, g_none, hM.tabs⟩ b1 hp2 hp3 hp4 mine5 hp6 unseen7 hp8 p9 hp10 hp11 hp12 tile13 hp14 _ hz100) ?_)
            rintro _ w106 ⟨rfl, hM2, hv101, hv102, hv103, hv104, hv105⟩
            obtain ⟨hM, hx107, hup108⟩ := hM.back hM2
            dsimp only [List.cons_append, List.nil_append] at hM hup108
            clear hM2
            refine ⟨_, rfl, fun a hf => ?_⟩
            refine pl_0 hf rfl rfl (w_store hf hM (us := [vI (y99.Board.Size), vS (y99.Board.Premium), vS (y99.Board.Cells), vS (y99.Mine), vS (y99.Theirs), .bool (y99.Passed)]) (cs' := [vI (y99.Board.Size), vS (y99.Board.Premium), vS (y99.Board.Cells), vS (y99.Mine), vS (y99.Theirs), .bool (y99.Passed)]) rfl rfl (k := 0) rfl rfl Tryz.sizeOf38 rfl rfl rfl fun w109 hM => ?_)
            dsimp only [List.set] at hM
            refine q_ hf rfl rfl rfl (e_assign hf rfl) fun a hf => ?_
            refine pl_nil ?_
            refine then_n ?_
            refine wp_ret ?_
            obtain rfl := some_inj h
            have hres112 := leaveV2 (P := Tryz.prog) Tryz.results19 (res_agg hf rfl ⟨Tryz.isAgg38, Tryz.sizeOf38⟩ (us := [vI (y99.Board.Size), vS (y99.Board.Premium), vS (y99.Board.Cells), vS (y99.Mine), vS (y99.Theirs), .bool (y99.Passed)]) rfl (hM.boxSub (k := 0) (o := 0) rfl rfl)) (res_tmp hf rfl)
            have hM := hM.outs (own' := []) 0 rfl
            exact bodyPost_ret hres112 hf.defers ⟨rfl, hM.fin, hv101, hv102, hv103, hv104, hv105, (R64_lit rfl)⟩

set_option maxRecDepth 100000 in
set_option maxHeartbeats 4000000 in
theorem r_laws_eqBoard (C : Cx) (a1 : Board) (hp2 : R64 a1.Size) (hp3 : a1.Premium.length ≤ maxLen) (hp4 : a1.Cells.length ≤ maxLen) (b5 : Board) (hp6 : R64 b5.Size) (hp7 : b5.Premium.length ≤ maxLen) (hp8 : b5.Cells.length ≤ maxLen) (r : Bool) (h : m_laws_eqBoard a1 b5 = some r) :
    Calls Tryz.prog 23 #[.agg #[vI (a1.Size), vS (a1.Premium), vS (a1.Cells)], .agg #[vI (b5.Size), vS (b5.Premium), vS (b5.Cells)]] C.w0 fun e w => e = .returned (.bool (r)) ∧ Mem C w [] [] := by
  have hM := Mem.begin C [] trivial
  refine enter Tryz.func23 rfl Tryz.ntmps23 rfl fun a hf => ?_
  unfold m_laws_eqBoard at h
  refine wp_seq ?_
  refine region_pl ?_
  refine pl_l hf rfl rfl rfl (w_box hf hM (cs := [vI (a1.Size), vS (a1.Premium), vS (a1.Cells)]) rfl rfl fun b9 w10 hx11 hM a hf => ?_)
  refine pl_l hf rfl rfl rfl (w_box hf hM (cs := [vI (b5.Size), vS (b5.Premium), vS (b5.Cells)]) rfl rfl fun b13 w14 hx15 hM a hf => ?_)
  refine q_ hf rfl rfl rfl (e_assign hf rfl) fun a hf => ?_
  refine pl_nil ?_
  refine then_n ?_
  refine wp_seq ?_
  refine wp_seq ?_
  refine region_pl ?_
  refine q_ hf rfl rfl rfl (e_field hf rfl Tryz.underlying28 rfl Tryz.sizeOf2 (o' := 0) rfl) fun a hf => ?_
  refine q_ hf rfl rfl rfl (e_load1 hf rfl Tryz.isAgg2 (hM.boxCell (k := 1) rfl rfl)) fun a hf => ?_
  refine q_ hf rfl rfl rfl (e_field hf rfl Tryz.underlying28 rfl Tryz.sizeOf2 (o' := 0) rfl) fun a hf => ?_
  refine q_ hf rfl rfl rfl (e_load1 hf rfl Tryz.isAgg2 (hM.boxCell (k := 0) rfl rfl)) fun a hf => ?_
  refine q_ hf rfl rfl rfl (e_ne hf (x := a1.Size) (y := b5.Size) rfl rfl) fun a hf => ?_
  refine pl_nil ?_
  refine then_n ?_
  rcases cond_some h with ⟨hc17, h⟩ | ⟨hc17, h⟩
  · refine cond_t hf rfl hc17 ?_
    refine wp_seq ?_
    refine region_pl ?_
    refine q_ hf rfl rfl rfl (e_assign hf rfl) fun a hf => ?_
    refine pl_nil ?_
    refine then_n ?_
    refine wp_ret ?_
    refine then_r ?_
    obtain rfl := some_inj h
    have hM := hM.outs (own' := []) 0 rfl
    exact leave1 hf rfl rfl ⟨rfl, hM.fin⟩
  · refine cond_f hf rfl hc17 ?_
    refine wp_skip ?_
    refine then_n ?_
    refine wp_seq ?_
    refine wp_seq ?_
    refine region_pl ?_
    refine q_ hf rfl rfl rfl (e_field hf rfl Tryz.underlying28 rfl Tryz.sizeOf9 (o' := 1) rfl) fun a hf => ?_
    refine q_ hf rfl rfl rfl (e_load1 hf rfl Tryz.isAgg9 (hM.boxCell (k := 1) rfl rfl)) fun a hf => ?_
    refine q_ hf rfl rfl rfl (e_field hf rfl Tryz.underlying28 rfl Tryz.sizeOf9 (o' := 1) rfl) fun a hf => ?_
    refine q_ hf rfl rfl rfl (e_load1 hf rfl Tryz.isAgg9 (hM.boxCell (k := 0) rfl rfl)) fun a hf => ?_
    refine q_ hf rfl rfl rfl (e_neS hf (x := a1.Premium) (y := b5.Premium) rfl rfl) fun a hf => ?_
    refine pl_nil ?_
    refine then_n ?_
    rcases cond_some h with ⟨hc18, h⟩ | ⟨hc18, h⟩
    · refine cond_t hf rfl hc18 ?_
      refine wp_seq ?_
      refine region_pl ?_
      refine q_ hf rfl rfl rfl (e_assign hf rfl) fun a hf => ?_
      refine pl_nil ?_
      refine then_n ?_
      refine wp_ret ?_
      refine then_r ?_
      obtain rfl := some_inj h
      have hM := hM.outs (own' := []) 0 rfl
      exact leave1 hf rfl rfl ⟨rfl, hM.fin⟩
    · refine cond_f hf rfl hc18 ?_
      refine wp_skip ?_
      refine then_n ?_
      refine wp_seq ?_
      refine wp_seq ?_
      refine region_pl ?_
      refine q_ hf rfl rfl rfl (e_field hf rfl Tryz.underlying28 rfl Tryz.sizeOf9 (o' := 2) rfl) fun a hf => ?_
      refine q_ hf rfl rfl rfl (e_load1 hf rfl Tryz.isAgg9 (hM.boxCell (k := 1) rfl rfl)) fun a hf => ?_
      refine q_ hf rfl rfl rfl (e_field hf rfl Tryz.underlying28 rfl Tryz.sizeOf9 (o' := 2) rfl) fun a hf => ?_
      refine q_ hf rfl rfl rfl (e_load1 hf rfl Tryz.isAgg9 (hM.boxCell (k := 0) rfl rfl)) fun a hf => ?_
      refine q_ hf rfl rfl rfl (e_neS hf (x := a1.Cells) (y := b5.Cells) rfl rfl) fun a hf => ?_
      refine pl_nil ?_
      refine then_n ?_
      rcases cond_some h with ⟨hc19, h⟩ | ⟨hc19, h⟩
      · refine cond_t hf rfl hc19 ?_
        refine wp_seq ?_
        refine region_pl ?_
        refine q_ hf rfl rfl rfl (e_assign hf rfl) fun a hf => ?_
        refine pl_nil ?_
        refine then_n ?_
        refine wp_ret ?_
        refine then_r ?_
        obtain rfl := some_inj h
        have hM := hM.outs (own' := []) 0 rfl
        exact leave1 hf rfl rfl ⟨rfl, hM.fin⟩
      · refine cond_f hf rfl hc19 ?_
        refine wp_skip ?_
        refine then_n ?_
        refine wp_seq ?_
        refine region_pl ?_
        refine q_ hf rfl rfl rfl (e_assign hf rfl) fun a hf => ?_
        refine pl_nil ?_
        refine then_n ?_
        refine wp_ret ?_
        obtain rfl := some_inj h
        have hM := hM.outs (own' := []) 0 rfl
        exact leave1 hf rfl rfl ⟨rfl, hM.fin⟩

set_option maxRecDepth 100000 in
set_option maxHeartbeats 4000000 in
theorem r_laws_eqEnd (C : Cx) (a1 : End) (hp2 : R64 a1.Board.Size) (hp3 : a1.Board.Premium.length ≤ maxLen) (hp4 : a1.Board.Cells.length ≤ maxLen) (hp5 : a1.Mine.length ≤ maxLen) (hp6 : a1.Theirs.length ≤ maxLen) (b7 : End) (hp8 : R64 b7.Board.Size) (hp9 : b7.Board.Premium.length ≤ maxLen) (hp10 : b7.Board.Cells.length ≤ maxLen) (hp11 : b7.Mine.length ≤ maxLen) (hp12 : b7.Theirs.length ≤ maxLen) (r : Bool) (h : m_laws_eqEnd a1 b7 = some r) :
    Calls Tryz.prog 20 #[.agg #[vI (a1.Board.Size), vS (a1.Board.Premium), vS (a1.Board.Cells), vS (a1.Mine), vS (a1.Theirs), .bool (a1.Passed)], .agg #[vI (b7.Board.Size), vS (b7.Board.Premium), vS (b7.Board.Cells), vS (b7.Mine), vS (b7.Theirs), .bool (b7.Passed)]] C.w0 fun e w => e = .returned (.bool (r)) ∧ Mem C w [] [] := by
  have hM := Mem.begin C [] trivial
  refine enter Tryz.func20 rfl Tryz.ntmps20 rfl fun a hf => ?_
  unfold m_laws_eqEnd at h
  refine wp_seq ?_
  refine region_pl ?_
  refine pl_l hf rfl rfl rfl (w_box hf hM (cs := [vI (a1.Board.Size), vS (a1.Board.Premium), vS (a1.Board.Cells), vS (a1.Mine), vS (a1.Theirs), .bool (a1.Passed)]) rfl rfl fun b13 w14 hx15 hM a hf => ?_)
  refine pl_l hf rfl rfl rfl (w_box hf hM (cs := [vI (b7.Board.Size), vS (b7.Board.Premium), vS (b7.Board.Cells), vS (b7.Mine), vS (b7.Theirs), .bool (b7.Passed)]) rfl rfl fun b17 w18 hx19 hM a hf => ?_)
  refine q_ hf rfl rfl rfl (e_assign hf rfl) fun a hf => ?_
  refine pl_nil ?_
  refine then_n ?_
  refine wp_seq ?_
  refine wp_seq ?_
  refine region_pl ?_
  refine q_ hf rfl rfl rfl (e_field hf rfl Tryz.underlying38 rfl Tryz.sizeOf28 (o' := 0) rfl) fun a hf => ?_
  refine q_ hf rfl rfl rfl (e_loadA hf (us := [vI (a1.Board.Size), vS (a1.Board.Premium), vS (a1.Board.Cells)]) rfl ⟨Tryz.isAgg28, Tryz.sizeOf28⟩ rfl (hM.boxSub (k := 1) (us := [vI (a1.Board.Size), vS (a1.Board.Premium), vS (a1.Board.Cells)]) (o := 0) rfl rfl)) fun a hf => ?_
  refine q_ hf rfl rfl rfl (e_field hf rfl Tryz.underlying38 rfl Tryz.sizeOf28 (o' := 0) rfl) fun a hf => ?_
  refine q_ hf rfl rfl rfl (e_loadA hf (us := [vI (b7.Board.Size), vS (b7.Board.Premium), vS (b7.Board.Cells)]) rfl ⟨Tryz.isAgg28, Tryz.sizeOf28⟩ rfl (hM.boxSub (k := 0) (us := [vI (b7.Board.Size), vS (b7.Board.Premium), vS (b7.Board.Cells)]) (o := 0) rfl rfl)) fun a hf => ?_
  obtain ⟨y21, hz22, h⟩ := bind_some h
  refine pl_l hf rfl rfl rfl (w_call hf Tryz.call23 rfl (r_laws_eqBoard ⟨_, Sh C _ _, none_, hM.sh_lt, none_not, C.G, hM.g_lt, g_none, hM.tabs⟩ a1.Board hp2 hp3 hp4 b7.Board hp8 hp9 hp10 _ hz22) ?_)
  rintro _ w23 ⟨rfl, hM2⟩
  obtain ⟨hM, hx24, hup25⟩ := hM.back hM2
  dsimp only [List.cons_append, List.nil_append] at hM hup25
  clear hM2
  refine ⟨_, rfl, fun a hf => ?_⟩
  refine q_ hf rfl rfl rfl (e_not hf rfl) fun a hf => ?_
  refine pl_nil ?_
  refine then_n ?_
  rcases cond_some h with ⟨hc26, h⟩ | ⟨hc26, h⟩
  · refine cond_t hf rfl hc26 ?_
    refine wp_seq ?_
    refine region_pl ?_
    refine q_ hf rfl rfl rfl (e_assign hf rfl) fun a hf => ?_
    refine pl_nil ?_
    refine then_n ?_
    refine wp_ret ?_
    refine then_r ?_
    obtain rfl := some_inj h
    have hM := hM.outs (own' := []) 0 rfl
    exact leave1 hf rfl rfl ⟨rfl, hM.fin⟩
  · refine cond_f hf rfl hc26 ?_
    refine wp_skip ?_
    refine then_n ?_
    refine wp_seq ?_
    refine wp_seq ?_
    refine region_pl ?_
    refine q_ hf rfl rfl rfl (e_field hf rfl Tryz.underlying38 rfl Tryz.sizeOf9 (o' := 3) rfl) fun a hf => ?_
    refine q_ hf rfl rfl rfl (e_load1 hf rfl Tryz.isAgg9 (hM.boxCell (k := 1) rfl rfl)) fun a hf => ?_
    refine q_ hf rfl rfl rfl (e_field hf rfl Tryz.underlying38 rfl Tryz.sizeOf9 (o' := 3) rfl) fun a hf => ?_
    refine q_ hf rfl rfl rfl (e_load1 hf rfl Tryz.isAgg9 (hM.boxCell (k := 0) rfl rfl)) fun a hf => ?_
    refine q_ hf rfl rfl rfl (e_neS hf (x := a1.Mine) (y := b7.Mine) rfl rfl) fun a hf => ?_
    refine pl_nil ?_
    refine then_n ?_
    rcases cond_some h with ⟨hc27, h⟩ | ⟨hc27, h⟩
    · refine cond_t hf rfl hc27 ?_
      refine wp_seq ?_
      refine region_pl ?_
      refine q_ hf rfl rfl rfl (e_assign hf rfl) fun a hf => ?_
      refine pl_nil ?_
      refine then_n ?_
      refine wp_ret ?_
      refine then_r ?_
      obtain rfl := some_inj h
      have hM := hM.outs (own' := []) 0 rfl
      exact leave1 hf rfl rfl ⟨rfl, hM.fin⟩
    · refine cond_f hf rfl hc27 ?_
      refine wp_skip ?_
      refine then_n ?_
      refine wp_seq ?_
      refine wp_seq ?_
      refine region_pl ?_
      refine q_ hf rfl rfl rfl (e_field hf rfl Tryz.underlying38 rfl Tryz.sizeOf9 (o' := 4) rfl) fun a hf => ?_
      refine q_ hf rfl rfl rfl (e_load1 hf rfl Tryz.isAgg9 (hM.boxCell (k := 1) rfl rfl)) fun a hf => ?_
      refine q_ hf rfl rfl rfl (e_field hf rfl Tryz.underlying38 rfl Tryz.sizeOf9 (o' := 4) rfl) fun a hf => ?_
      refine q_ hf rfl rfl rfl (e_load1 hf rfl Tryz.isAgg9 (hM.boxCell (k := 0) rfl rfl)) fun a hf => ?_
      refine q_ hf rfl rfl rfl (e_neS hf (x := a1.Theirs) (y := b7.Theirs) rfl rfl) fun a hf => ?_
      refine pl_nil ?_
      refine then_n ?_
      rcases cond_some h with ⟨hc28, h⟩ | ⟨hc28, h⟩
      · refine cond_t hf rfl hc28 ?_
        refine wp_seq ?_
        refine region_pl ?_
        refine q_ hf rfl rfl rfl (e_assign hf rfl) fun a hf => ?_
        refine pl_nil ?_
        refine then_n ?_
        refine wp_ret ?_
        refine then_r ?_
        obtain rfl := some_inj h
        have hM := hM.outs (own' := []) 0 rfl
        exact leave1 hf rfl rfl ⟨rfl, hM.fin⟩
      · refine cond_f hf rfl hc28 ?_
        refine wp_skip ?_
        refine then_n ?_
        refine wp_seq ?_
        refine wp_seq ?_
        refine region_pl ?_
        refine q_ hf rfl rfl rfl (e_field hf rfl Tryz.underlying38 rfl Tryz.sizeOf4 (o' := 5) rfl) fun a hf => ?_
        refine q_ hf rfl rfl rfl (e_load1 hf rfl Tryz.isAgg4 (hM.boxCell (k := 1) rfl rfl)) fun a hf => ?_
        refine q_ hf rfl rfl rfl (e_field hf rfl Tryz.underlying38 rfl Tryz.sizeOf4 (o' := 5) rfl) fun a hf => ?_
        refine q_ hf rfl rfl rfl (e_load1 hf rfl Tryz.isAgg4 (hM.boxCell (k := 0) rfl rfl)) fun a hf => ?_
        refine q_ hf rfl rfl rfl (e_neT hf rfl rfl Tryz.underlying4) fun a hf => ?_
        refine pl_nil ?_
        refine then_n ?_
        rcases cond_some h with ⟨hc29, h⟩ | ⟨hc29, h⟩
        · refine cond_t hf rfl hc29 ?_
          refine wp_seq ?_
          refine region_pl ?_
          refine q_ hf rfl rfl rfl (e_assign hf rfl) fun a hf => ?_
          refine pl_nil ?_
          refine then_n ?_
          refine wp_ret ?_
          refine then_r ?_
          obtain rfl := some_inj h
          have hM := hM.outs (own' := []) 0 rfl
          exact leave1 hf rfl rfl ⟨rfl, hM.fin⟩
        · refine cond_f hf rfl hc29 ?_
          refine wp_skip ?_
          refine then_n ?_
          refine wp_seq ?_
          refine region_pl ?_
          refine q_ hf rfl rfl rfl (e_assign hf rfl) fun a hf => ?_
          refine pl_nil ?_
          refine then_n ?_
          refine wp_ret ?_
          obtain rfl := some_inj h
          have hM := hM.outs (own' := []) 0 rfl
          exact leave1 hf rfl rfl ⟨rfl, hM.fin⟩

set_option maxRecDepth 100000 in
set_option maxHeartbeats 4000000 in
theorem r_laws_FnExactEndAfter (C : Cx) (aB1 : Board) (hp2 : R64 aB1.Size) (hp3 : aB1.Premium.length ≤ maxLen) (hp4 : aB1.Cells.length ≤ maxLen) (aMine5 : Str) (hp6 : aMine5.length ≤ maxLen) (aUnseen7 : Str) (hp8 : aUnseen7.length ≤ maxLen) (aP9 : Play) (hp10 : R64 aP9.Row) (hp11 : R64 aP9.Col) (hp12 : aP9.Word.length ≤ maxLen) (aTile13 : Str) (hp14 : aTile13.length ≤ maxLen) (r : Bool) (h : m_laws_FnExactEndAfter aB1 aMine5 aUnseen7 aP9 aTile13 = some r) :
    Calls Tryz.prog 4 #[.agg #[vI (aB1.Size), vS (aB1.Premium), vS (aB1.Cells)], vS (aMine5), vS (aUnseen7), .agg #[vI (aP9.Row), vI (aP9.Col), .bool (aP9.Down), vS (aP9.Word)], vS (aTile13)] C.w0 fun e w => e = .returned (.bool (r)) ∧ Mem C w [] [] := by
  have hM := Mem.begin C [] trivial
  refine enter Tryz.func4 rfl Tryz.ntmps4 rfl fun a hf => ?_
  unfold m_laws_FnExactEndAfter at h
  refine wp_seq ?_
  refine region_pl ?_
  refine pl_l hf rfl rfl rfl (w_box hf hM (cs := [vI (aB1.Size), vS (aB1.Premium), vS (aB1.Cells)]) rfl rfl fun b15 w16 hx17 hM a hf => ?_)
  refine pl_l hf rfl rfl rfl (w_box hf hM (cs := [vI (aP9.Row), vI (aP9.Col), .bool (aP9.Down), vS (aP9.Word)]) rfl rfl fun b19 w20 hx21 hM a hf => ?_)
  refine q_ hf rfl rfl rfl (e_assign hf rfl) fun a hf => ?_
  refine pl_nil ?_
  refine then_n ?_
  refine wp_seq ?_
  refine wp_seq ?_
  refine region_pl ?_
  refine q_ hf rfl rfl rfl (e_move hf rfl) fun a hf => ?_
  refine q_ hf rfl rfl rfl (e_lenS hf (x := aMine5) rfl Tryz.underlying9) fun a hf => ?_
  refine q_ hf rfl rfl rfl (e_gt hf (x := (aMine5.length : Int)) (y := 1048576) rfl rfl) fun a hf => ?_
  refine pl_nil ?_
  refine then_n ?_
  rcases cond_some h with ⟨hc23, h⟩ | ⟨hc23, h⟩
  · refine cond_t hf rfl hc23 ?_
    refine wp_seq ?_
    refine region_pl ?_
    refine q_ hf rfl rfl rfl (e_assign hf rfl) fun a hf => ?_
    refine pl_nil ?_
    refine then_n ?_
    refine wp_ret ?_
    refine then_r ?_
    obtain rfl := some_inj h
    have hM := hM.outs (own' := []) 0 rfl
    exact leave1 hf rfl rfl ⟨rfl, hM.fin⟩
  · refine cond_f hf rfl hc23 ?_
    refine wp_skip ?_
    refine then_n ?_
    refine wp_seq ?_
    refine wp_seq ?_
    refine region_pl ?_
    refine q_ hf rfl rfl rfl (e_move hf rfl) fun a hf => ?_
    refine q_ hf rfl rfl rfl (e_lenS hf (x := aUnseen7) rfl Tryz.underlying9) fun a hf => ?_
    refine q_ hf rfl rfl rfl (e_gt hf (x := (aUnseen7.length : Int)) (y := 1048576) rfl rfl) fun a hf => ?_
    refine pl_nil ?_
    refine then_n ?_
    rcases cond_some h with ⟨hc24, h⟩ | ⟨hc24, h⟩
    · refine cond_t hf rfl hc24 ?_
      refine wp_seq ?_
      refine region_pl ?_
      refine q_ hf rfl rfl rfl (e_assign hf rfl) fun a hf => ?_
      refine pl_nil ?_
      refine then_n ?_
      refine wp_ret ?_
      refine then_r ?_
      obtain rfl := some_inj h
      have hM := hM.outs (own' := []) 0 rfl
      exact leave1 hf rfl rfl ⟨rfl, hM.fin⟩
    · refine cond_f hf rfl hc24 ?_
      refine wp_skip ?_
      refine then_n ?_
      refine wp_seq ?_
      refine wp_seq ?_
      refine region_pl ?_
      refine q_ hf rfl rfl rfl (e_move hf rfl) fun a hf => ?_
      refine q_ hf rfl rfl rfl (e_lenS hf (x := aTile13) rfl Tryz.underlying9) fun a hf => ?_
      refine q_ hf rfl rfl rfl (e_gt hf (x := (aTile13.length : Int)) (y := 1048576) rfl rfl) fun a hf => ?_
      refine pl_nil ?_
      refine then_n ?_
      rcases cond_some h with ⟨hc25, h⟩ | ⟨hc25, h⟩
      · refine cond_t hf rfl hc25 ?_
        refine wp_seq ?_
        refine region_pl ?_
        refine q_ hf rfl rfl rfl (e_assign hf rfl) fun a hf => ?_
        refine pl_nil ?_
        refine then_n ?_
        refine wp_ret ?_
        refine then_r ?_
        obtain rfl := some_inj h
        have hM := hM.outs (own' := []) 0 rfl
        exact leave1 hf rfl rfl ⟨rfl, hM.fin⟩
      · refine cond_f hf rfl hc25 ?_
        refine wp_skip ?_
        refine then_n ?_
        refine wp_seq ?_
        refine region_pl ?_
        refine q_ hf rfl rfl rfl (e_assign hf rfl) fun a hf => ?_
        refine pl_nil ?_
        refine then_n ?_
        refine wp_seq ?_
        refine region_pl ?_
        refine q_ hf rfl rfl rfl (e_loadA hf (us := [vI (aB1.Size), vS (aB1.Premium), vS (aB1.Cells)]) rfl ⟨Tryz.isAgg23, Tryz.sizeOf23⟩ rfl (hM.boxSub (k := 1) (us := [vI (aB1.Size), vS (aB1.Premium), vS (aB1.Cells)]) (o := 0) rfl rfl)) fun a hf => ?_
        refine q_ hf rfl rfl rfl (e_move hf rfl) fun a hf => ?_
        obtain ⟨y26, hz27, h⟩ := bind_some h
        refine pl_l hf rfl rfl rfl (w_call hf Tryz.call9 rfl (r_laws_szBoard ⟨_, Sh C _ _, none_, hM.sh_lt, none_not, C.G, hM.g_lt, g_none, hM.tabs⟩ aB1 hp2 hp3 hp4 1048576 (R64_lit rfl) _ hz27) ?_)
        rintro _ w29 ⟨rfl, hM2, hv28⟩
        obtain ⟨hM, hx30, hup31⟩ := hM.back hM2
        dsimp only [List.cons_append, List.nil_append] at hM hup31
        clear hM2
        refine ⟨_, rfl, fun a hf => ?_⟩
        refine q_ hf rfl rfl rfl (e_assign hf rfl) fun a hf => ?_
        refine pl_nil ?_
        refine then_n ?_
        refine wp_seq ?_
        refine wp_seq ?_
        refine region_pl ?_
        refine q_ hf rfl rfl rfl (e_move hf rfl) fun a hf => ?_
        refine q_ hf rfl rfl rfl (e_lt hf (x := y26) (y := 0) rfl rfl) fun a hf => ?_
        refine pl_nil ?_
        refine then_n ?_
        rcases cond_some h with ⟨hc32, h⟩ | ⟨hc32, h⟩
        · refine cond_t hf rfl hc32 ?_
          refine wp_seq ?_
          refine region_pl ?_
          refine q_ hf rfl rfl rfl (e_assign hf rfl) fun a hf => ?_
          refine pl_nil ?_
          refine then_n ?_
          refine wp_ret ?_
          refine then_r ?_
          obtain rfl := some_inj h
          have hM := hM.outs (own' := []) 0 rfl
          exact leave1 hf rfl rfl ⟨rfl, hM.fin⟩
        · refine cond_f hf rfl hc32 ?_
          refine wp_skip ?_
          refine then_n ?_
          refine wp_seq ?_
          refine region_pl ?_
          refine q_ hf rfl rfl rfl (e_loadA hf (us := [vI (aP9.Row), vI (aP9.Col), .bool (aP9.Down), vS (aP9.Word)]) rfl ⟨Tryz.isAgg35, Tryz.sizeOf35⟩ rfl (hM.boxSub (k := 0) (us := [vI (aP9.Row), vI (aP9.Col), .bool (aP9.Down), vS (aP9.Word)]) (o := 0) rfl rfl)) fun a hf => ?_
          refine q_ hf rfl rfl rfl (e_move hf rfl) fun a hf => ?_
          obtain ⟨y33, hz34, h⟩ := bind_some h
          refine pl_l hf rfl rfl rfl (w_call hf Tryz.call16 rfl (r_laws_szPlay ⟨_, Sh C _ _, none_, hM.sh_lt, none_not, C.G, hM.g_lt, g_none, hM.tabs⟩ aP9 hp10 hp11 hp12 y26 hv28 _ hz34) ?_)
          rintro _ w36 ⟨rfl, hM2, hv35⟩
          obtain ⟨hM, hx37, hup38⟩ := hM.back hM2
          dsimp only [List.cons_append, List.nil_append] at hM hup38
          clear hM2
          refine ⟨_, rfl, fun a hf => ?_⟩
          refine q_ hf rfl rfl rfl (e_assign hf rfl) fun a hf => ?_
          refine pl_nil ?_
          refine then_n ?_
          refine wp_seq ?_
          refine wp_seq ?_
          refine region_pl ?_
          refine q_ hf rfl rfl rfl (e_move hf rfl) fun a hf => ?_
          refine q_ hf rfl rfl rfl (e_lt hf (x := y33) (y := 0) rfl rfl) fun a hf => ?_
          refine pl_nil ?_
          refine then_n ?_
          rcases cond_some h with ⟨hc39, h⟩ | ⟨hc39, h⟩
          · refine cond_t hf rfl hc39 ?_
            refine wp_seq ?_
            refine region_pl ?_
            refine q_ hf rfl rfl rfl (e_assign hf rfl) fun a hf => ?_
            refine pl_nil ?_
            refine then_n ?_
            refine wp_ret ?_
            refine then_r ?_
            obtain rfl := some_inj h
            have hM := hM.outs (own' := []) 0 rfl
            exact leave1 hf rfl rfl ⟨rfl, hM.fin⟩
          · refine cond_f hf rfl hc39 ?_
            refine wp_skip ?_
            refine then_n ?_
            refine wp_seq ?_
            obtain ⟨w40, hw⟩ : ∃ x, x = w36.drew := ⟨_, rfl⟩
            refine region_pi (.q 0 (.q 2 (.q 3 (.q 4 (.q 6 (.b 1 11 (.b 5 11 (.b 7 11 (.q 8 (.q 9 (.q 10 (.l 11 (.l 12 (.q 13 (.nil))))))) (.l 7 (.q 8 (.q 9 (.q 10 (.l 12 (.q 13 (.nil)))))))) (.l 5 (.l 7 (.q 8 (.q 9 (.q 10 (.l 12 (.q 13 (.nil))))))))) (.l 1 (.l 5 (.l 7 (.q 8 (.q 9 (.q 10 (.l 12 (.q 13 (.nil))))))))))))))) (ExtM [] w40) rfl (by kernel_rfl) ?_
            have hM := hM.drew
            rw [← hw] at hM ⊢
            clear hw
            refine pi_q hf rfl rfl rfl rfl (ExtM.refl _ _) (e_loadAM hf (us := [vI (aB1.Size), vS (aB1.Premium), vS (aB1.Cells)]) rfl ⟨Tryz.isAgg23, Tryz.sizeOf23⟩ rfl (hM.boxSub (k := 1) (us := [vI (aB1.Size), vS (aB1.Premium), vS (aB1.Cells)]) (o := 0) rfl rfl) (hM.apart (js := []) rfl (k := 1) rfl rfl rfl)) fun a hf => ?_
            refine pi_q hf rfl rfl rfl rfl (ExtM.refl _ _) (e_move hf rfl) fun a hf => ?_
            refine pi_q hf rfl rfl rfl rfl (ExtM.refl _ _) (e_move hf rfl) fun a hf => ?_
            refine pi_q hf rfl rfl rfl rfl (ExtM.refl _ _) (e_loadAM hf (us := [vI (aP9.Row), vI (aP9.Col), .bool (aP9.Down), vS (aP9.Word)]) rfl ⟨Tryz.isAgg35, Tryz.sizeOf35⟩ rfl (hM.boxSub (k := 0) (us := [vI (aP9.Row), vI (aP9.Col), .bool (aP9.Down), vS (aP9.Word)]) (o := 0) rfl rfl) (hM.apart (js := []) rfl (k := 0) rfl rfl rfl)) fun a hf => ?_
            refine pi_q hf rfl rfl rfl rfl (ExtM.refl _ _) (e_move hf rfl) fun a hf => ?_
            obtain ⟨y41, hz42, h⟩ := bind_some h
            refine pi_two ?_ ?_
            · refine pi_l hf rfl rfl rfl rfl (w_call hf Tryz.call12 rfl (r_laws_toBoard ⟨_, Sh C _ _, none_, hM.sh_lt, none_not, C.G, hM.g_lt, g_none, hM.tabs⟩ aB1 hp2 hp3 hp4 _ hz42) ?_)
              rintro _ w56 ⟨rfl, hM2, hv53, hv54, hv55⟩
              obtain ⟨hM, hx57, hup58⟩ := hM.back hM2
              dsimp only [List.cons_append, List.nil_append] at hM hup58
              clear hM2
              refine ⟨_, rfl, ExtM [] w56, fun _ h => ExtM.trans hx57 h, ExtM.refl _ _, fun a hf => ?_⟩
              obtain ⟨y59, hz60, h⟩ := bind_some h
              refine pi_two ?_ ?_
              · refine pi_l hf rfl rfl rfl rfl (w_call hf Tryz.call18 rfl (r_laws_toPlay ⟨_, Sh C _ _, none_, hM.sh_lt, none_not, C.G, hM.g_lt, g_none, hM.tabs⟩ aP9 hp10 hp11 hp12 _ hz60) ?_)
                rintro _ w70 ⟨rfl, hM2, hv67, hv68, hv69⟩
                obtain ⟨hM, hx71, hup72⟩ := hM.back hM2
                dsimp only [List.cons_append, List.nil_append] at hM hup72
                clear hM2
                refine ⟨_, rfl, ExtM [] w70, fun _ h => ExtM.trans hx71 h, ExtM.refl _ _, fun a hf => ?_⟩
                obtain ⟨y73, hz74, h⟩ := bind_some h
                refine pi_two ?_ ?_
                · refine pi_l hf rfl rfl rfl rfl (w_call hf Tryz.call17 rfl (r_spec_EndAfter ⟨_, Sh C _ _, none_, hM.sh_lt, none_not, C.G, hM.g_lt, g_none, hM.tabs⟩ y41 hv53 hv54 hv55 aMine5 hp6 aUnseen7 hp8 y59 hv67 hv68 hv69 aTile13 hp14 _ hz74) ?_)
                  rintro _ w90 ⟨rfl, hM2, hv84, hv85, hv86, hv87, hv88, hv89⟩
                  obtain ⟨hM, hx91, hup92⟩ := hM.back hM2
                  dsimp only [List.cons_append, List.nil_append] at hM hup92
                  clear hM2
                  refine ⟨_, rfl, ExtM [] w90, fun _ h => ExtM.trans hx91 h, ExtM.refl _ _, fun a hf => ?_⟩
                  refine pi_q hf rfl rfl rfl rfl (ExtM.refl _ _) (e_move hf rfl) fun a hf => ?_
                  refine pi_q hf rfl rfl rfl rfl (ExtM.refl _ _) (e_extract hf rfl rfl) fun a hf => ?_
                  refine pi_q hf rfl rfl rfl rfl (ExtM.refl _ _) (e_extract hf rfl rfl) fun a hf => ?_
                  refine pi_one ?_
                  refine pi_l hf rfl rfl rfl rfl (w_allocM hM (cs := [vI (0), vS (([] : Str)), vS (([] : Str)), vS (([] : Str)), vS (([] : Str)), .bool (false)]) Tryz.zeroValue38 rfl fun b93 w94 hx95 hn96 hM => ⟨ExtM [some b93] w94, fun _ h => ExtM.grow hx95 hn96 h, ExtM.refl _ _, fun a hf => ?_⟩)
                  refine pi_one ?_
                  refine pi_l0 hf rfl rfl rfl (w_storeM hf (List.mem_of_getElem? (i := 0) rfl) hM (us := [vI (y73.1.Board.Size), vS (y73.1.Board.Premium), vS (y73.1.Board.Cells), vS (y73.1.Mine), vS (y73.1.Theirs), .bool (y73.1.Passed)]) (cs' := [vI (y73.1.Board.Size), vS (y73.1.Board.Premium), vS (y73.1.Board.Cells), vS (y73.1.Mine), vS (y73.1.Theirs), .bool (y73.1.Passed)]) rfl rfl (k := 0) rfl rfl Tryz.sizeOf38 rfl rfl rfl fun w97 hxm98 hsz99 hM => ⟨Ext w97, fun _ h => ExtM.last hxm98 hsz99 h, Ext.refl _, ?_⟩)
                  dsimp only [List.set] at hM
                  refine pi_q hf rfl rfl rfl rfl (Ext.refl _) (e_assign hf rfl) fun a hf => ?_
                  refine pi_nil ?_
                  refine then_n ?_
                  refine wp_seq ?_
                  obtain ⟨w100, hw⟩ : ∃ x, x = w97.drew := ⟨_, rfl⟩
                  refine region_pi (.q 0 (.q 2 (.q 3 (.q 4 (.q 6 (.b 1 11 (.b 5 11 (.b 7 11 (.q 8 (.q 9 (.q 10 (.l 11 (.l 12 (.q 13 (.nil))))))) (.l 7 (.q 8 (.q 9 (.q 10 (.l 12 (.q 13 (.nil)))))))) (.l 5 (.l 7 (.q 8 (.q 9 (.q 10 (.l 12 (.q 13 (.nil))))))))) (.l 1 (.l 5 (.l 7 (.q 8 (.q 9 (.q 10 (.l 12 (.q 13 (.nil))))))))))))))) (ExtM [] w100) rfl (by kernel_rfl) ?_
                  have hM := hM.drew
                  rw [← hw] at hM ⊢
                  clear hw
                  refine pi_q hf rfl rfl rfl rfl (ExtM.refl _ _) (e_loadAM hf (us := [vI (aB1.Size), vS (aB1.Premium), vS (aB1.Cells)]) rfl ⟨Tryz.isAgg23, Tryz.sizeOf23⟩ rfl (hM.boxSub (k := 2) (us := [vI (aB1.Size), vS (aB1.Premium), vS (aB1.Cells)]) (o := 0) rfl rfl) (hM.apart (js := []) rfl (k := 2) rfl rfl rfl)) fun a hf => ?_
                  refine pi_q hf rfl rfl rfl rfl (ExtM.refl _ _) (e_move hf rfl) fun a hf => ?_
                  refine pi_q hf rfl rfl rfl rfl (ExtM.refl _ _) (e_move hf rfl) fun a hf => ?_
                  refine pi_q hf rfl rfl rfl rfl (ExtM.refl _ _) (e_loadAM hf (us := [vI (aP9.Row), vI (aP9.Col), .bool (aP9.Down), vS (aP9.Word)]) rfl ⟨Tryz.isAgg35, Tryz.sizeOf35⟩ rfl (hM.boxSub (k := 1) (us := [vI (aP9.Row), vI (aP9.Col), .bool (aP9.Down), vS (aP9.Word)]) (o := 0) rfl rfl) (hM.apart (js := []) rfl (k := 1) rfl rfl rfl)) fun a hf => ?_
                  refine pi_q hf rfl rfl rfl rfl (ExtM.refl _ _) (e_move hf rfl) fun a hf => ?_
                  obtain ⟨y101, hz102, h⟩ := bind_some h
                  refine pi_two ?_ ?_
                  · refine pi_l hf rfl rfl rfl rfl (w_call hf Tryz.call12 rfl (r_laws_toBoard ⟨_, Sh C _ _, none_, hM.sh_lt, none_not, C.G, hM.g_lt, g_none, hM.tabs⟩ aB1 hp2 hp3 hp4 _ hz102) ?_)
                    rintro _ w116 ⟨rfl, hM2, hv113, hv114, hv115⟩
                    obtain ⟨hM, hx117, hup118⟩ := hM.back hM2
                    dsimp only [List.cons_append, List.nil_append] at hM hup118
                    clear hM2
                    refine ⟨_, rfl, ExtM [] w116, fun _ h => ExtM.trans hx117 h, ExtM.refl _ _, fun a hf => ?_⟩
                    obtain ⟨y119, hz120, h⟩ := bind_some h
                    refine pi_two ?_ ?_
                    · refine pi_l hf rfl rfl rfl rfl (w_call hf Tryz.call18 rfl (r_laws_toPlay ⟨_, Sh C _ _, none_, hM.sh_lt, none_not, C.G, hM.g_lt, g_none, hM.tabs⟩ aP9 hp10 hp11 hp12 _ hz120) ?_)
                      rintro _ w130 ⟨rfl, hM2, hv127, hv128, hv129⟩
                      obtain ⟨hM, hx131, hup132⟩ := hM.back hM2
                      dsimp only [List.cons_append, List.nil_append] at hM hup132
                      clear hM2
                      refine ⟨_, rfl, ExtM [] w130, fun _ h => ExtM.trans hx131 h, ExtM.refl _ _, fun a hf => ?_⟩
                      obtain ⟨y133, hz134, h⟩ := bind_some h
                      refine pi_two ?_ ?_
                      · refine pi_l hf rfl rfl rfl rfl (w_call hf Tryz.call19 rfl (r_impl_EndAfter ⟨_, Sh C _ _, none_, hM.sh_lt, none_not, C.G, hM.g_lt, g_none, hM.tabs⟩ y101 hv113 hv114 hv115 aMine5 hp6 aUnseen7 hp8 y119 hv127 hv128 hv129 aTile13 hp14 _ hz134) ?_)
                        rintro _ w150 ⟨rfl, hM2, hv144, hv145, hv146, hv147, hv148, hv149⟩
                        obtain ⟨hM, hx151, hup152⟩ := hM.back hM2
                        dsimp only [List.cons_append, List.nil_append] at hM hup152
                        clear hM2
                        refine ⟨_, rfl, ExtM [] w150, fun _ h => ExtM.trans hx151 h, ExtM.refl _ _, fun a hf => ?_⟩
                        refine pi_q hf rfl rfl rfl rfl (ExtM.refl _ _) (e_move hf rfl) fun a hf => ?_
                        refine pi_q hf rfl rfl rfl rfl (ExtM.refl _ _) (e_extract hf rfl rfl) fun a hf => ?_
                        refine pi_q hf rfl rfl rfl rfl (ExtM.refl _ _) (e_extract hf rfl rfl) fun a hf => ?_
                        refine pi_one ?_
                        refine pi_l hf rfl rfl rfl rfl (w_allocM hM (cs := [vI (0), vS (([] : Str)), vS (([] : Str)), vS (([] : Str)), vS (([] : Str)), .bool (false)]) Tryz.zeroValue38 rfl fun b153 w154 hx155 hn156 hM => ⟨ExtM [some b153] w154, fun _ h => ExtM.grow hx155 hn156 h, ExtM.refl _ _, fun a hf => ?_⟩)
                        refine pi_one ?_
                        refine pi_l0 hf rfl rfl rfl (w_storeM hf (List.mem_of_getElem? (i := 0) rfl) hM (us := [vI (y133.1.Board.Size), vS (y133.1.Board.Premium), vS (y133.1.Board.Cells), vS (y133.1.Mine), vS (y133.1.Theirs), .bool (y133.1.Passed)]) (cs' := [vI (y133.1.Board.Size), vS (y133.1.Board.Premium), vS (y133.1.Board.Cells), vS (y133.1.Mine), vS (y133.1.Theirs), .bool (y133.1.Passed)]) rfl rfl (k := 0) rfl rfl Tryz.sizeOf38 rfl rfl rfl fun w157 hxm158 hsz159 hM => ⟨Ext w157, fun _ h => ExtM.last hxm158 hsz159 h, Ext.refl _, ?_⟩)
                        dsimp only [List.set] at hM
                        refine pi_q hf rfl rfl rfl rfl (Ext.refl _) (e_assign hf rfl) fun a hf => ?_
                        refine pi_nil ?_
                        refine then_n ?_
                        refine wp_seq ?_
                        obtain ⟨x162, h163, h⟩ := bind_some h
                        refine seq_join (fun a w => ∃ (t160 : Bool), t160 = x162 ∧ Has 66 a [(65, .bool (t160))] ∧ Mem C w [.box b153 [vI (y133.1.Board.Size), vS (y133.1.Board.Premium), vS (y133.1.Board.Cells), vS (y133.1.Mine), vS (y133.1.Theirs), .bool (y133.1.Passed)] 38, .box b93 [vI (y73.1.Board.Size), vS (y73.1.Board.Premium), vS (y73.1.Board.Cells), vS (y73.1.Mine), vS (y73.1.Theirs), .bool (y73.1.Passed)] 38, .box b19 [vI (aP9.Row), vI (aP9.Col), .bool (aP9.Down), vS (aP9.Word)] 35, .box b15 [vI (aB1.Size), vS (aB1.Premium), vS (aB1.Cells)] 23] []) ?_ ?_
                        · refine region_pl ?_
                          refine q_ hf rfl rfl rfl (e_loadA hf (us := [vI (y133.1.Board.Size), vS (y133.1.Board.Premium), vS (y133.1.Board.Cells), vS (y133.1.Mine), vS (y133.1.Theirs), .bool (y133.1.Passed)]) rfl ⟨Tryz.isAgg38, Tryz.sizeOf38⟩ rfl (hM.boxSub (k := 0) (us := [vI (y133.1.Board.Size), vS (y133.1.Board.Premium), vS (y133.1.Board.Cells), vS (y133.1.Mine), vS (y133.1.Theirs), .bool (y133.1.Passed)]) (o := 0) rfl rfl)) fun a hf => ?_
                          refine q_ hf rfl rfl rfl (e_loadA hf (us := [vI (y73.1.Board.Size), vS (y73.1.Board.Premium), vS (y73.1.Board.Cells), vS (y73.1.Mine), vS (y73.1.Theirs), .bool (y73.1.Passed)]) rfl ⟨Tryz.isAgg38, Tryz.sizeOf38⟩ rfl (hM.boxSub (k := 1) (us := [vI (y73.1.Board.Size), vS (y73.1.Board.Premium), vS (y73.1.Board.Cells), vS (y73.1.Mine), vS (y73.1.Theirs), .bool (y73.1.Passed)]) (o := 0) rfl rfl)) fun a hf => ?_
                          obtain ⟨y164, hz165, h163⟩ := bind_some h163
                          refine pl_l hf rfl rfl rfl (w_call hf Tryz.call20 rfl (r_laws_eqEnd ⟨_, Sh C _ _, none_, hM.sh_lt, none_not, C.G, hM.g_lt, g_none, hM.tabs⟩ y133.1 hv144 hv145 hv146 hv147 hv148 y73.1 hv84 hv85 hv86 hv87 hv88 _ hz165) ?_)
                          rintro _ w166 ⟨rfl, hM2⟩
                          obtain ⟨hM, hx167, hup168⟩ := hM.back hM2
                          dsimp only [List.cons_append, List.nil_append] at hM hup168
                          clear hM2
                          refine ⟨_, rfl, fun a hf => ?_⟩
                          refine q_ hf rfl rfl rfl (e_not hf rfl) fun a hf => ?_
                          refine q_ hf rfl rfl rfl (e_move hf rfl) fun a hf => ?_
                          rcases cond_some h163 with ⟨hc169, h163⟩ | ⟨hc169, h163⟩
                          · refine pl_gs (wanted_f hf rfl rfl rfl rfl hc169) hf rfl rfl fun a hf => ?_
                            refine pl_gs (wanted_f hf rfl rfl rfl rfl hc169) hf rfl rfl fun a hf => ?_
                            refine pl_gs (wanted_f hf rfl rfl rfl rfl hc169) hf rfl rfl fun a hf => ?_
                            refine q_ hf rfl rfl rfl (e_pick_t hf rfl hc169 rfl) fun a hf => ?_
                            refine pl_nil ?_
                            obtain rfl := some_inj h163
                            refine then_n ?_
                            exact ⟨true, rfl, hf.keep ⟨rfl, trivial⟩, hM.pick [] rfl⟩
                          · refine gq (wanted_t hf rfl rfl rfl rfl hc169) hf rfl rfl (e_move hf rfl) fun a hf => ?_
                            refine gq (wanted_t hf rfl rfl rfl rfl hc169) hf rfl rfl (e_move hf rfl) fun a hf => ?_
                            refine gq (wanted_t hf rfl rfl rfl rfl hc169) hf rfl rfl (e_ne hf (x := y133.2) (y := y73.2) rfl rfl) fun a hf => ?_
                            refine q_ hf rfl rfl rfl (e_pick_f hf rfl hc169 rfl) fun a hf => ?_
                            refine pl_nil ?_
                            obtain rfl := some_inj h163
                            refine then_n ?_
                            exact ⟨(y133.2 != y73.2), rfl, hf.keep ⟨rfl, trivial⟩, hM.pick [] rfl⟩
                        · rintro a w172 ⟨t160, rfl, hf, hM⟩
                          try dsimp only at h
                          rcases cond_some h with ⟨hc173, h⟩ | ⟨hc173, h⟩
                          · refine cond_t hf rfl hc173 ?_
                            refine wp_seq ?_
                            refine region_pl ?_
                            refine q_ hf rfl rfl rfl (e_assign hf rfl) fun a hf => ?_
                            refine pl_nil ?_
                            refine then_n ?_
                            refine wp_ret ?_
                            refine then_r ?_
                            obtain rfl := some_inj h
                            have hM := hM.outs (own' := []) 0 rfl
                            exact leave1 hf rfl rfl ⟨rfl, hM.fin⟩
                          · refine cond_f hf rfl hc173 ?_
                            refine wp_skip ?_
                            refine then_n ?_
                            refine wp_seq ?_
                            refine region_pl ?_
                            refine q_ hf rfl rfl rfl (e_assign hf rfl) fun a hf => ?_
                            refine pl_nil ?_
                            refine then_n ?_
                            refine wp_ret ?_
                            obtain rfl := some_inj h
                            have hM := hM.outs (own' := []) 0 rfl
                            exact leave1 hf rfl rfl ⟨rfl, hM.fin⟩
                      · refine pi_l hf rfl rfl rfl rfl (w_allocM hM (cs := [vI (0), vS (([] : Str)), vS (([] : Str)), vS (([] : Str)), vS (([] : Str)), .bool (false)]) Tryz.zeroValue38 rfl fun b174 w175 hx176 hn177 hM => ⟨ExtM [some b174] w175, fun _ h => ExtM.grow hx176 hn177 h, ExtM.refl _ _, fun a hf => ?_⟩)
                        refine pi_one ?_
                        refine pi_l hf rfl rfl rfl rfl (w_call hf Tryz.call19 rfl (r_impl_EndAfter ⟨_, Sh C _ _, none_, hM.sh_lt, none_not, C.G, hM.g_lt, g_none, hM.tabs⟩ y101 hv113 hv114 hv115 aMine5 hp6 aUnseen7 hp8 y119 hv127 hv128 hv129 aTile13 hp14 _ hz134) ?_)
                        rintro _ w184 ⟨rfl, hM2, hv178, hv179, hv180, hv181, hv182, hv183⟩
                        obtain ⟨hM, hx185, hup186⟩ := hM.back hM2
                        dsimp only [List.cons_append, List.nil_append] at hM hup186
                        clear hM2
                        refine ⟨_, rfl, ExtM [some b174] w184, fun _ h => ExtM.trans hx185 h, ExtM.refl _ _, fun a hf => ?_⟩
                        refine pi_q hf rfl rfl rfl rfl (ExtM.refl _ _) (e_move hf rfl) fun a hf => ?_
                        refine pi_q hf rfl rfl rfl rfl (ExtM.refl _ _) (e_extract hf rfl rfl) fun a hf => ?_
                        refine pi_q hf rfl rfl rfl rfl (ExtM.refl _ _) (e_extract hf rfl rfl) fun a hf => ?_
                        refine pi_one ?_
                        refine pi_l0 hf rfl rfl rfl (w_storeM hf (List.mem_of_getElem? (i := 0) rfl) hM (us := [vI (y133.1.Board.Size), vS (y133.1.Board.Premium), vS (y133.1.Board.Cells), vS (y133.1.Mine), vS (y133.1.Theirs), .bool (y133.1.Passed)]) (cs' := [vI (y133.1.Board.Size), vS (y133.1.Board.Premium), vS (y133.1.Board.Cells), vS (y133.1.Mine), vS (y133.1.Theirs), .bool (y133.1.Passed)]) rfl rfl (k := 0) rfl rfl Tryz.sizeOf38 rfl rfl rfl fun w187 hxm188 hsz189 hM => ⟨Ext w187, fun _ h => ExtM.last hxm188 hsz189 h, Ext.refl _, ?_⟩)
                        dsimp only [List.set] at hM
                        refine pi_q hf rfl rfl rfl rfl (Ext.refl _) (e_assign hf rfl) fun a hf => ?_
                        refine pi_nil ?_
                        refine then_n ?_
                        refine wp_seq ?_
                        obtain ⟨x192, h193, h⟩ := bind_some h
                        refine seq_join (fun a w => ∃ (t190 : Bool), t190 = x192 ∧ Has 66 a [(65, .bool (t190))] ∧ Mem C w [.box b174 [vI (y133.1.Board.Size), vS (y133.1.Board.Premium), vS (y133.1.Board.Cells), vS (y133.1.Mine), vS (y133.1.Theirs), .bool (y133.1.Passed)] 38, .box b93 [vI (y73.1.Board.Size), vS (y73.1.Board.Premium), vS (y73.1.Board.Cells), vS (y73.1.Mine), vS (y73.1.Theirs), .bool (y73.1.Passed)] 38, .box b19 [vI (aP9.Row), vI (aP9.Col), .bool (aP9.Down), vS (aP9.Word)] 35, .box b15 [vI (aB1.Size), vS (aB1.Premium), vS (aB1.Cells)] 23] []) ?_ ?_
                        · refine region_pl ?_
                          refine q_ hf rfl rfl rfl (e_loadA hf (us := [vI (y133.1.Board.Size), vS (y133.1.Board.Premium), vS (y133.1.Board.Cells), vS (y133.1.Mine), vS (y133.1.Theirs), .bool (y133.1.Passed)]) rfl ⟨Tryz.isAgg38, Tryz.sizeOf38⟩ rfl (hM.boxSub (k := 0) (us := [vI (y133.1.Board.Size), vS (y133.1.Board.Premium), vS (y133.1.Board.Cells), vS (y133.1.Mine), vS (y133.1.Theirs), .bool (y133.1.Passed)]) (o := 0) rfl rfl)) fun a hf => ?_
                          refine q_ hf rfl rfl rfl (e_loadA hf (us := [vI (y73.1.Board.Size), vS (y73.1.Board.Premium), vS (y73.1.Board.Cells), vS (y73.1.Mine), vS (y73.1.Theirs), .bool (y73.1.Passed)]) rfl ⟨Tryz.isAgg38, Tryz.sizeOf38⟩ rfl (hM.boxSub (k := 1) (us := [vI (y73.1.Board.Size), vS (y73.1.Board.Premium), vS (y73.1.Board.Cells), vS (y73.1.Mine), vS (y73.1.Theirs), .bool (y73.1.Passed)]) (o := 0) rfl rfl)) fun a hf => ?_
                          obtain ⟨y194, hz195, h193⟩ := bind_some h193
                          refine pl_l hf rfl rfl rfl (w_call hf Tryz.call20 rfl (r_laws_eqEnd ⟨_, Sh C _ _, none_, hM.sh_lt, none_not, C.G, hM.g_lt, g_none, hM.tabs⟩ y133.1 hv178 hv179 hv180 hv181 hv182 y73.1 hv84 hv85 hv86 hv87 hv88 _ hz195) ?_)
                          rintro _ w196 ⟨rfl, hM2⟩
                          obtain ⟨hM, hx197, hup198⟩ := hM.back hM2
                          dsimp only [List.cons_append, List.nil_append] at hM hup198
                          clear hM2
                          refine ⟨_, rfl, fun a hf => ?_⟩
                          refine q_ hf rfl rfl rfl (e_not hf rfl) fun a hf => ?_
                          refine q_ hf rfl rfl rfl (e_move hf rfl) fun a hf => ?_
                          rcases cond_some h193 with ⟨hc199, h193⟩ | ⟨hc199, h193⟩
                          · refine pl_gs (wanted_f hf rfl rfl rfl rfl hc199) hf rfl rfl fun a hf => ?_
                            refine pl_gs (wanted_f hf rfl rfl rfl rfl hc199) hf rfl rfl fun a hf => ?_
                            refine pl_gs (wanted_f hf rfl rfl rfl rfl hc199) hf rfl rfl fun a hf => ?_
                            refine q_ hf rfl rfl rfl (e_pick_t hf rfl hc199 rfl) fun a hf => ?_
                            refine pl_nil ?_
                            obtain rfl := some_inj h193
                            refine then_n ?_
                            exact ⟨true, rfl, hf.keep ⟨rfl, trivial⟩, hM.pick [] rfl⟩
                          · refine gq (wanted_t hf rfl rfl rfl rfl hc199) hf rfl rfl (e_move hf rfl) fun a hf => ?_
                            refine gq (wanted_t hf rfl rfl rfl rfl hc199) hf rfl rfl (e_move hf rfl) fun a hf => ?_
                            refine gq (wanted_t hf rfl rfl rfl rfl hc199) hf rfl rfl (e_ne hf (x := y133.2) (y := y73.2) rfl rfl) fun a hf => ?_
                            refine q_ hf rfl rfl rfl (e_pick_f hf rfl hc199 rfl) fun a hf => ?_
                            refine pl_nil ?_
                            obtain rfl := some_inj h193
                            refine then_n ?_
                            exact ⟨(y133.2 != y73.2), rfl, hf.keep ⟨rfl, trivial⟩, hM.pick [] rfl⟩
                        · rintro a w202 ⟨t190, rfl, hf, hM⟩
                          try dsimp only at h
                          rcases cond_some h with ⟨hc203, h⟩ | ⟨hc203, h⟩
                          · refine cond_t hf rfl hc203 ?_
                            refine wp_seq ?_
                            refine region_pl ?_
                            refine q_ hf rfl rfl rfl (e_assign hf rfl) fun a hf => ?_
                            refine pl_nil ?_
                            refine then_n ?_
                            refine wp_ret ?_
                            refine then_r ?_
                            obtain rfl := some_inj h
                            have hM := hM.outs (own' := []) 0 rfl
                            exact leave1 hf rfl rfl ⟨rfl, hM.fin⟩
                          · refine cond_f hf rfl hc203 ?_
                            refine wp_skip ?_
                            refine then_n ?_
                            refine wp_seq ?_
                            refine region_pl ?_
                            refine q_ hf rfl rfl rfl (e_assign hf rfl) fun a hf => ?_
                            refine pl_nil ?_
                            refine then_n ?_
                            refine wp_ret ?_
                            obtain rfl := some_inj h
                            have hM := hM.outs (own' := []) 0 rfl
                            exact leave1 hf rfl rfl ⟨rfl, hM.fin⟩
                    · refine pi_l hf rfl rfl rfl rfl (w_allocM hM (cs := [vI (0), vS (([] : Str)), vS (([] : Str)), vS (([] : Str)), vS (([] : Str)), .bool (false)]) Tryz.zeroValue38 rfl fun b204 w205 hx206 hn207 hM => ⟨ExtM [some b204] w205, fun _ h => ExtM.grow hx206 hn207 h, ExtM.refl _ _, fun a hf => ?_⟩)
                      refine pi_one ?_
                      refine pi_l hf rfl rfl rfl rfl (w_call hf Tryz.call18 rfl (r_laws_toPlay ⟨_, Sh C _ _, none_, hM.sh_lt, none_not, C.G, hM.g_lt, g_none, hM.tabs⟩ aP9 hp10 hp11 hp12 _ hz120) ?_)
                      rintro _ w211 ⟨rfl, hM2, hv208, hv209, hv210⟩
                      obtain ⟨hM, hx212, hup213⟩ := hM.back hM2
                      dsimp only [List.cons_append, List.nil_append] at hM hup213
                      clear hM2
                      refine ⟨_, rfl, ExtM [some b204] w211, fun _ h => ExtM.trans hx212 h, ExtM.refl _ _, fun a hf => ?_⟩
                      refine pi_one ?_
                      obtain ⟨y214, hz215, h⟩ := bind_some h
                      refine pi_l hf rfl rfl rfl rfl (w_call hf Tryz.call19 rfl (r_impl_EndAfter ⟨_, Sh C _ _, none_, hM.sh_lt, none_not, C.G, hM.g_lt, g_none, hM.tabs⟩ y101 hv113 hv114 hv115 aMine5 hp6 aUnseen7 hp8 y119 hv208 hv209 hv210 aTile13 hp14 _ hz215) ?_)
                      rintro _ w222 ⟨rfl, hM2, hv216, hv217, hv218, hv219, hv220, hv221⟩
                      obtain ⟨hM, hx223, hup224⟩ := hM.back hM2
                      dsimp only [List.cons_append, List.nil_append] at hM hup224
                      clear hM2
                      refine ⟨_, rfl, ExtM [some b204] w222, fun _ h => ExtM.trans hx223 h, ExtM.refl _ _, fun a hf => ?_⟩
                      refine pi_q hf rfl rfl rfl rfl (ExtM.refl _ _) (e_move hf rfl) fun a hf => ?_
                      refine pi_q hf rfl rfl rfl rfl (ExtM.refl _ _) (e_extract hf rfl rfl) fun a hf => ?_
                      refine pi_q hf rfl rfl rfl rfl (ExtM.refl _ _) (e_extract hf rfl rfl) fun a hf => ?_
                      refine pi_one ?_
                      refine pi_l0 hf rfl rfl rfl (w_storeM hf (List.mem_of_getElem? (i := 0) rfl) hM (us := [vI (y214.1.Board.Size), vS (y214.1.Board.Premium), vS (y214.1.Board.Cells), vS (y214.1.Mine), vS (y214.1.Theirs), .bool (y214.1.Passed)]) (cs' := [vI (y214.1.Board.Size), vS (y214.1.Board.Premium), vS (y214.1.Board.Cells), vS (y214.1.Mine), vS (y214.1.Theirs), .bool (y214.1.Passed)]) rfl rfl (k := 0) rfl rfl Tryz.sizeOf38 rfl rfl rfl fun w225 hxm226 hsz227 hM => ⟨Ext w225, fun _ h => ExtM.last hxm226 hsz227 h, Ext.refl _, ?_⟩)
                      dsimp only [List.set] at hM
                      refine pi_q hf rfl rfl rfl rfl (Ext.refl _) (e_assign hf rfl) fun a hf => ?_
                      refine pi_nil ?_
                      refine then_n ?_
                      refine wp_seq ?_
                      obtain ⟨x230, h231, h⟩ := bind_some h
                      refine seq_join (fun a w => ∃ (t228 : Bool), t228 = x230 ∧ Has 66 a [(65, .bool (t228))] ∧ Mem C w [.box b204 [vI (y214.1.Board.Size), vS (y214.1.Board.Premium), vS (y214.1.Board.Cells), vS (y214.1.Mine), vS (y214.1.Theirs), .bool (y214.1.Passed)] 38, .box b93 [vI (y73.1.Board.Size), vS (y73.1.Board.Premium), vS (y73.1.Board.Cells), vS (y73.1.Mine), vS (y73.1.Theirs), .bool (y73.1.Passed)] 38, .box b19 [vI (aP9.Row), vI (aP9.Col), .bool (aP9.Down), vS (aP9.Word)] 35, .box b15 [vI (aB1.Size), vS (aB1.Premium), vS (aB1.Cells)] 23] []) ?_ ?_
                      · refine region_pl ?_
                        refine q_ hf rfl rfl rfl (e_loadA hf (us := [vI (y214.1.Board.Size), vS (y214.1.Board.Premium), vS (y214.1.Board.Cells), vS (y214.1.Mine), vS (y214.1.Theirs), .bool (y214.1.Passed)]) rfl ⟨Tryz.isAgg38, Tryz.sizeOf38⟩ rfl (hM.boxSub (k := 0) (us := [vI (y214.1.Board.Size), vS (y214.1.Board.Premium), vS (y214.1.Board.Cells), vS (y214.1.Mine), vS (y214.1.Theirs), .bool (y214.1.Passed)]) (o := 0) rfl rfl)) fun a hf => ?_
                        refine q_ hf rfl rfl rfl (e_loadA hf (us := [vI (y73.1.Board.Size), vS (y73.1.Board.Premium), vS (y73.1.Board.Cells), vS (y73.1.Mine), vS (y73.1.Theirs), .bool (y73.1.Passed)]) rfl ⟨Tryz.isAgg38, Tryz.sizeOf38⟩ rfl (hM.boxSub (k := 1) (us := [vI (y73.1.Board.Size), vS (y73.1.Board.Premium), vS (y73.1.Board.Cells), vS (y73.1.Mine), vS (y73.1.Theirs), .bool (y73.1.Passed)]) (o := 0) rfl rfl)) fun a hf => ?_
                        obtain ⟨y232, hz233, h231⟩ := bind_some h231
                        refine pl_l hf rfl rfl rfl (w_call hf Tryz.call20 rfl (r_laws_eqEnd ⟨_, Sh C _ _, none_, hM.sh_lt, none_not, C.G, hM.g_lt, g_none, hM.tabs⟩ y214.1 hv216 hv217 hv218 hv219 hv220 y73.1 hv84 hv85 hv86 hv87 hv88 _ hz233) ?_)
                        rintro _ w234 ⟨rfl, hM2⟩
                        obtain ⟨hM, hx235, hup236⟩ := hM.back hM2
                        dsimp only [List.cons_append, List.nil_append] at hM hup236
                        clear hM2
                        refine ⟨_, rfl, fun a hf => ?_⟩
                        refine q_ hf rfl rfl rfl (e_not hf rfl) fun a hf => ?_
                        refine q_ hf rfl rfl rfl (e_move hf rfl) fun a hf => ?_
                        rcases cond_some h231 with ⟨hc237, h231⟩ | ⟨hc237, h231⟩
                        · refine pl_gs (wanted_f hf rfl rfl rfl rfl hc237) hf rfl rfl fun a hf => ?_
                          refine pl_gs (wanted_f hf rfl rfl rfl rfl hc237) hf rfl rfl fun a hf => ?_
                          refine pl_gs (wanted_f hf rfl rfl rfl rfl hc237) hf rfl rfl fun a hf => ?_
                          refine q_ hf rfl rfl rfl (e_pick_t hf rfl hc237 rfl) fun a hf => ?_
                          refine pl_nil ?_
                          obtain rfl := some_inj h231
                          refine then_n ?_
                          exact ⟨true, rfl, hf.keep ⟨rfl, trivial⟩, hM.pick [] rfl⟩
                        · refine gq (wanted_t hf rfl rfl rfl rfl hc237) hf rfl rfl (e_move hf rfl) fun a hf => ?_
                          refine gq (wanted_t hf rfl rfl rfl rfl hc237) hf rfl rfl (e_move hf rfl) fun a hf => ?_
                          refine gq (wanted_t hf rfl rfl rfl rfl hc237) hf rfl rfl (e_ne hf (x := y214.2) (y := y73.2) rfl rfl) fun a hf => ?_
                          refine q_ hf rfl rfl rfl (e_pick_f hf rfl hc237 rfl) fun a hf => ?_
                          refine pl_nil ?_
                          obtain rfl := some_inj h231
                          refine then_n ?_
                          exact ⟨(y214.2 != y73.2), rfl, hf.keep ⟨rfl, trivial⟩, hM.pick [] rfl⟩
                      · rintro a w240 ⟨t228, rfl, hf, hM⟩
                        try dsimp only at h
                        rcases cond_some h with ⟨hc241, h⟩ | ⟨hc241, h⟩
                        · refine cond_t hf rfl hc241 ?_
                          refine wp_seq ?_
                          refine region_pl ?_
                          refine q_ hf rfl rfl rfl (e_assign hf rfl) fun a hf => ?_
                          refine pl_nil ?_
                          refine then_n ?_
                          refine wp_ret ?_
                          refine then_r ?_
                          obtain rfl := some_inj h
                          have hM := hM.outs (own' := []) 0 rfl
                          exact leave1 hf rfl rfl ⟨rfl, hM.fin⟩
                        · refine cond_f hf rfl hc241 ?_
                          refine wp_skip ?_
                          refine then_n ?_
                          refine wp_seq ?_
                          refine region_pl ?_
                          refine q_ hf rfl rfl rfl (e_assign hf rfl) fun a hf => ?_
                          refine pl_nil ?_
                          refine then_n ?_
                          refine wp_ret ?_
                          obtain rfl := some_inj h
                          have hM := hM.outs (own' := []) 0 rfl
                          exact leave1 hf rfl rfl ⟨rfl, hM.fin⟩
                  · refine pi_l hf rfl rfl rfl rfl (w_allocM hM (cs := [vI (0), vS (([] : Str)), vS (([] : Str)), vS (([] : Str)), vS (([] : Str)), .bool (false)]) Tryz.zeroValue38 rfl fun b242 w243 hx244 hn245 hM => ⟨ExtM [some b242] w243, fun _ h => ExtM.grow hx244 hn245 h, ExtM.refl _ _, fun a hf => ?_⟩)
                    refine pi_one ?_
                    refine pi_l hf rfl rfl rfl rfl (w_call hf Tryz.call12 rfl (r_laws_toBoard ⟨_, Sh C _ _, none_, hM.sh_lt, none_not, C.G, hM.g_lt, g_none, hM.tabs⟩ aB1 hp2 hp3 hp4 _ hz102) ?_)
                    rintro _ w249 ⟨rfl, hM2, hv246, hv247, hv248⟩
                    obtain ⟨hM, hx250, hup251⟩ := hM.back hM2
                    dsimp only [List.cons_append, List.nil_append] at hM hup251
                    clear hM2
                    refine ⟨_, rfl, ExtM [some b242] w249, fun _ h => ExtM.trans hx250 h, ExtM.refl _ _, fun a hf => ?_⟩
                    refine pi_one ?_
                    obtain ⟨y252, hz253, h⟩ := bind_some h
                    refine pi_l hf rfl rfl rfl rfl (w_call hf Tryz.call18 rfl (r_laws_toPlay ⟨_, Sh C _ _, none_, hM.sh_lt, none_not, C.G, hM.g_lt, g_none, hM.tabs⟩ aP9 hp10 hp11 hp12 _ hz253) ?_)
                    rintro _ w257 ⟨rfl, hM2, hv254, hv255, hv256⟩
                    obtain ⟨hM, hx258, hup259⟩ := hM.back hM2
                    dsimp only [List.cons_append, List.nil_append] at hM hup259
                    clear hM2
                    refine ⟨_, rfl, ExtM [some b242] w257, fun _ h => ExtM.trans hx258 h, ExtM.refl _ _, fun a hf => ?_⟩
                    refine pi_one ?_
                    obtain ⟨y260, hz261, h⟩ := bind_some h
                    refine pi_l hf rfl rfl rfl rfl (w_call hf Tryz.call19 rfl (r_impl_EndAfter ⟨_, Sh C _ _, none_, hM.sh_lt, none_not, C.G, hM.g_lt, g_none, hM.tabs⟩ y101 hv246 hv247 hv248 aMine5 hp6 aUnseen7 hp8 y252 hv254 hv255 hv256 aTile13 hp14 _ hz261) ?_)
                    rintro _ w268 ⟨rfl, hM2, hv262, hv263, hv264, hv265, hv266, hv267⟩
                    obtain ⟨hM, hx269, hup270⟩ := hM.back hM2
                    dsimp only [List.cons_append, List.nil_append] at hM hup270
                    clear hM2
                    refine ⟨_, rfl, ExtM [some b242] w268, fun _ h => ExtM.trans hx269 h, ExtM.refl _ _, fun a hf => ?_⟩
                    refine pi_q hf rfl rfl rfl rfl (ExtM.refl _ _) (e_move hf rfl) fun a hf => ?_
                    refine pi_q hf rfl rfl rfl rfl (ExtM.refl _ _) (e_extract hf rfl rfl) fun a hf => ?_
                    refine pi_q hf rfl rfl rfl rfl (ExtM.refl _ _) (e_extract hf rfl rfl) fun a hf => ?_
                    refine pi_one ?_
                    refine pi_l0 hf rfl rfl rfl (w_storeM hf (List.mem_of_getElem? (i := 0) rfl) hM (us := [vI (y260.1.Board.Size), vS (y260.1.Board.Premium), vS (y260.1.Board.Cells), vS (y260.1.Mine), vS (y260.1.Theirs), .bool (y260.1.Passed)]) (cs' := [vI (y260.1.Board.Size), vS (y260.1.Board.Premium), vS (y260.1.Board.Cells), vS (y260.1.Mine), vS (y260.1.Theirs), .bool (y260.1.Passed)]) rfl rfl (k := 0) rfl rfl Tryz.sizeOf38 rfl rfl rfl fun w271 hxm272 hsz273 hM => ⟨Ext w271, fun _ h => ExtM.last hxm272 hsz273 h, Ext.refl _, ?_⟩)
                    dsimp only [List.set] at hM
                    refine pi_q hf rfl rfl rfl rfl (Ext.refl _) (e_assign hf rfl) fun a hf => ?_
                    refine pi_nil ?_
                    refine then_n ?_
                    refine wp_seq ?_
                    obtain ⟨x276, h277, h⟩ := bind_some h
                    refine seq_join (fun a w => ∃ (t274 : Bool), t274 = x276 ∧ Has 66 a [(65, .bool (t274))] ∧ Mem C w [.box b242 [vI (y260.1.Board.Size), vS (y260.1.Board.Premium), vS (y260.1.Board.Cells), vS (y260.1.Mine), vS (y260.1.Theirs), .bool (y260.1.Passed)] 38, .box b93 [vI (y73.1.Board.Size), vS (y73.1.Board.Premium), vS (y73.1.Board.Cells), vS (y73.1.Mine), vS (y73.1.Theirs), .bool (y73.1.Passed)] 38, .box b19 [vI (aP9.Row), vI (aP9.Col), .bool (aP9.Down), vS (aP9.Word)] 35, .box b15 [vI (aB1.Size), vS (aB1.Premium), vS (aB1.Cells)] 23] []) ?_ ?_
                    · refine region_pl ?_
                      refine q_ hf rfl rfl rfl (e_loadA hf (us := [vI (y260.1.Board.Size), vS (y260.1.Board.Premium), vS (y260.1.Board.Cells), vS (y260.1.Mine), vS (y260.1.Theirs), .bool (y260.1.Passed)]) rfl ⟨Tryz.isAgg38, Tryz.sizeOf38⟩ rfl (hM.boxSub (k := 0) (us := [vI (y260.1.Board.Size), vS (y260.1.Board.Premium), vS (y260.1.Board.Cells), vS (y260.1.Mine), vS (y260.1.Theirs), .bool (y260.1.Passed)]) (o := 0) rfl rfl)) fun a hf => ?_
                      refine q_ hf rfl rfl rfl (e_loadA hf (us := [vI (y73.1.Board.Size), vS (y73.1.Board.Premium), vS (y73.1.Board.Cells), vS (y73.1.Mine), vS (y73.1.Theirs), .bool (y73.1.Passed)]) rfl ⟨Tryz.isAgg38, Tryz.sizeOf38⟩ rfl (hM.boxSub (k := 1) (us := [vI (y73.1.Board.Size), vS (y73.1.Board.Premium), vS (y73.1.Board.Cells), vS (y73.1.Mine), vS (y73.1.Theirs), .bool (y73.1.Passed)]) (o := 0) rfl rfl)) fun a hf => ?_
                      obtain ⟨y278, hz279, h277⟩ := bind_some h277
                      refine pl_l hf rfl rfl rfl (w_call hf Tryz.call20 rfl (r_laws_eqEnd ⟨_, Sh C _ _, none_, hM.sh_lt, none_not, C.G, hM.g_lt, g_none, hM.tabs⟩ y260.1 hv262 hv263 hv264 hv265 hv266 y73.1 hv84 hv85 hv86 hv87 hv88 _ hz279) ?_)
                      rintro _ w280 ⟨rfl, hM2⟩
                      obtain ⟨hM, hx281, hup282⟩ := hM.back hM2
                      dsimp only [List.cons_append, List.nil_append] at hM hup282
                      clear hM2
                      refine ⟨_, rfl, fun a hf => ?_⟩
                      refine q_ hf rfl rfl rfl (e_not hf rfl) fun a hf => ?_
                      refine q_ hf rfl rfl rfl (e_move hf rfl) fun a hf => ?_
                      rcases cond_some h277 with ⟨hc283, h277⟩ | ⟨hc283, h277⟩
                      · refine pl_gs (wanted_f hf rfl rfl rfl rfl hc283) hf rfl rfl fun a hf => ?_
                        refine pl_gs (wanted_f hf rfl rfl rfl rfl hc283) hf rfl rfl fun a hf => ?_
                        refine pl_gs (wanted_f hf rfl rfl rfl rfl hc283) hf rfl rfl fun a hf => ?_
                        refine q_ hf rfl rfl rfl (e_pick_t hf rfl hc283 rfl) fun a hf => ?_
                        refine pl_nil ?_
                        obtain rfl := some_inj h277
                        refine then_n ?_
                        exact ⟨true, rfl, hf.keep ⟨rfl, trivial⟩, hM.pick [] rfl⟩
                      · refine gq (wanted_t hf rfl rfl rfl rfl hc283) hf rfl rfl (e_move hf rfl) fun a hf => ?_
                        refine gq (wanted_t hf rfl rfl rfl rfl hc283) hf rfl rfl (e_move hf rfl) fun a hf => ?_
                        refine gq (wanted_t hf rfl rfl rfl rfl hc283) hf rfl rfl (e_ne hf (x := y260.2) (y := y73.2) rfl rfl) fun a hf => ?_
                        refine q_ hf rfl rfl rfl (e_pick_f hf rfl hc283 rfl) fun a hf => ?_
                        refine pl_nil ?_
                        obtain rfl := some_inj h277
                        refine then_n ?_
                        exact ⟨(y260.2 != y73.2), rfl, hf.keep ⟨rfl, trivial⟩, hM.pick [] rfl⟩
                    · rintro a w286 ⟨t274, rfl, hf, hM⟩
                      try dsimp only at h
                      rcases cond_some h with ⟨hc287, h⟩ | ⟨hc287, h⟩
                      · refine cond_t hf rfl hc287 ?_
                        refine wp_seq ?_
                        refine region_pl ?_
                        refine q_ hf rfl rfl rfl (e_assign hf rfl) fun a hf => ?_
                        refine pl_nil ?_
                        refine then_n ?_
                        refine wp_ret ?_
                        refine then_r ?_
                        obtain rfl := some_inj h
                        have hM := hM.outs (own' := []) 0 rfl
                        exact leave1 hf rfl rfl ⟨rfl, hM.fin⟩
                      · refine cond_f hf rfl hc287 ?_
                        refine wp_skip ?_
                        refine then_n ?_
                        refine wp_seq ?_
                        refine region_pl ?_
                        refine q_ hf rfl rfl rfl (e_assign hf rfl) fun a hf => ?_
                        refine pl_nil ?_
                        refine then_n ?_
                        refine wp_ret ?_
                        obtain rfl := some_inj h
                        have hM := hM.outs (own' := []) 0 rfl
                        exact leave1 hf rfl rfl ⟨rfl, hM.fin⟩
                · refine pi_l hf rfl rfl rfl rfl (w_allocM hM (cs := [vI (0), vS (([] : Str)), vS (([] : Str)), vS (([] : Str)), vS (([] : Str)), .bool (false)]) Tryz.zeroValue38 rfl fun b288 w289 hx290 hn291 hM => ⟨ExtM [some b288] w289, fun _ h => ExtM.grow hx290 hn291 h, ExtM.refl _ _, fun a hf => ?_⟩)
                  refine pi_one ?_
                  refine pi_l hf rfl rfl rfl rfl (w_call hf Tryz.call17 rfl (r_spec_EndAfter ⟨_, Sh C _ _, none_, hM.sh_lt, none_not, C.G, hM.g_lt, g_none, hM.tabs⟩ y41 hv53 hv54 hv55 aMine5 hp6 aUnseen7 hp8 y59 hv67 hv68 hv69 aTile13 hp14 _ hz74) ?_)
                  rintro _ w298 ⟨rfl, hM2, hv292, hv293, hv294, hv295, hv296, hv297⟩
                  obtain ⟨hM, hx299, hup300⟩ := hM.back hM2
                  dsimp only [List.cons_append, List.nil_append] at hM hup300
                  clear hM2
                  refine ⟨_, rfl, ExtM [some b288] w298, fun _ h => ExtM.trans hx299 h, ExtM.refl _ _, fun a hf => ?_⟩
                  refine pi_q hf rfl rfl rfl rfl (ExtM.refl _ _) (e_move hf rfl) fun a hf => ?_
                  refine pi_q hf rfl rfl rfl rfl (ExtM.refl _ _) (e_extract hf rfl rfl) fun a hf => ?_
                  refine pi_q hf rfl rfl rfl rfl (ExtM.refl _ _) (e_extract hf rfl rfl) fun a hf => ?_
                  refine pi_one ?_
                  refine pi_l0 hf rfl rfl rfl (w_storeM hf (List.mem_of_getElem? (i := 0) rfl) hM (us := [vI (y73.1.Board.Size), vS (y73.1.Board.Premium), vS (y73.1.Board.Cells), vS (y73.1.Mine), vS (y73.1.Theirs), .bool (y73.1.Passed)]) (cs' := [vI (y73.1.Board.Size), vS (y73.1.Board.Premium), vS (y73.1.Board.Cells), vS (y73.1.Mine), vS (y73.1.Theirs), .bool (y73.1.Passed)]) rfl rfl (k := 0) rfl rfl Tryz.sizeOf38 rfl rfl rfl fun w301 hxm302 hsz303 hM => ⟨Ext w301, fun _ h => ExtM.last hxm302 hsz303 h, Ext.refl _, ?_⟩)
                  dsimp only [List.set] at hM
                  refine pi_q hf rfl rfl rfl rfl (Ext.refl _) (e_assign hf rfl) fun a hf => ?_
                  refine pi_nil ?_
                  refine then_n ?_
                  refine wp_seq ?_
                  obtain ⟨w304, hw⟩ : ∃ x, x = w301.drew := ⟨_, rfl⟩
                  refine region_pi (.q 0 (.q 2 (.q 3 (.q 4 (.q 6 (.b 1 11 (.b 5 11 (.b 7 11 (.q 8 (.q 9 (.q 10 (.l 11 (.l 12 (.q 13 (.nil))))))) (.l 7 (.q 8 (.q 9 (.q 10 (.l 12 (.q 13 (.nil)))))))) (.l 5 (.l 7 (.q 8 (.q 9 (.q 10 (.l 12 (.q 13 (.nil))))))))) (.l 1 (.l 5 (.l 7 (.q 8 (.q 9 (.q 10 (.l 12 (.q 13 (.nil))))))))))))))) (ExtM [] w304) rfl (by kernel_rfl) ?_
                  have hM := hM.drew
                  rw [← hw] at hM ⊢
                  clear hw
                  refine pi_q hf rfl rfl rfl rfl (ExtM.refl _ _) (e_loadAM hf (us := [vI (aB1.Size), vS (aB1.Premium), vS (aB1.Cells)]) rfl ⟨Tryz.isAgg23, Tryz.sizeOf23⟩ rfl (hM.boxSub (k := 2) (us := [vI (aB1.Size), vS (aB1.Premium), vS (aB1.Cells)]) (o := 0) rfl rfl) (hM.apart (js := []) rfl (k := 2) rfl rfl rfl)) fun a hf => ?_
                  refine pi_q hf rfl rfl rfl rfl (ExtM.refl _ _) (e_move hf rfl) fun a hf => ?_
                  refine pi_q hf rfl rfl rfl rfl (ExtM.refl _ _) (e_move hf rfl) fun a hf => ?_
                  refine pi_q hf rfl rfl rfl rfl (ExtM.refl _ _) (e_loadAM hf (us := [vI (aP9.Row), vI (aP9.Col), .bool (aP9.Down), vS (aP9.Word)]) rfl ⟨Tryz.isAgg35, Tryz.sizeOf35⟩ rfl (hM.boxSub (k := 1) (us := [vI (aP9.Row), vI (aP9.Col), .bool (aP9.Down), vS (aP9.Word)]) (o := 0) rfl rfl) (hM.apart (js := []) rfl (k := 1) rfl rfl rfl)) fun a hf => ?_
                  refine pi_q hf rfl rfl rfl rfl (ExtM.refl _ _) (e_move hf rfl) fun a hf => ?_
                  obtain ⟨y305, hz306, h⟩ := bind_some h
                  refine pi_two ?_ ?_
                  · refine pi_l hf rfl rfl rfl rfl (w_call hf Tryz.call12 rfl (r_laws_toBoard ⟨_, Sh C _ _, none_, hM.sh_lt, none_not, C.G, hM.g_lt, g_none, hM.tabs⟩ aB1 hp2 hp3 hp4 _ hz306) ?_)
                    rintro _ w320 ⟨rfl, hM2, hv317, hv318, hv319⟩
                    obtain ⟨hM, hx321, hup322⟩ := hM.back hM2
                    dsimp only [List.cons_append, List.nil_append] at hM hup322
                    clear hM2
                    refine ⟨_, rfl, ExtM [] w320, fun _ h => ExtM.trans hx321 h, ExtM.refl _ _, fun a hf => ?_⟩
                    obtain ⟨y323, hz324, h⟩ := bind_some h
                    refine pi_two ?_ ?_
                    · refine pi_l hf rfl rfl rfl rfl (w_call hf Tryz.call18 rfl (r_laws_toPlay ⟨_, Sh C _ _, none_, hM.sh_lt, none_not, C.G, hM.g_lt, g_none, hM.tabs⟩ aP9 hp10 hp11 hp12 _ hz324) ?_)
                      rintro _ w334 ⟨rfl, hM2, hv331, hv332, hv333⟩
                      obtain ⟨hM, hx335, hup336⟩ := hM.back hM2
                      dsimp only [List.cons_append, List.nil_append] at hM hup336
                      clear hM2
                      refine ⟨_, rfl, ExtM [] w334, fun _ h => ExtM.trans hx335 h, ExtM.refl _ _, fun a hf => ?_⟩
                      obtain ⟨y337, hz338, h⟩ := bind_some h
                      refine pi_two ?_ ?_
                      · refine pi_l hf rfl rfl rfl rfl (w_call hf Tryz.call19 rfl (r_impl_EndAfter ⟨_, Sh C _ _, none_, hM.sh_lt, none_not, C.G, hM.g_lt, g_none, hM.tabs⟩ y305 hv317 hv318 hv319 aMine5 hp6 aUnseen7 hp8 y323 hv331 hv332 hv333 aTile13 hp14 _ hz338) ?_)
                        rintro _ w354 ⟨rfl, hM2, hv348, hv349, hv350, hv351, hv352, hv353⟩
                        obtain ⟨hM, hx355, hup356⟩ := hM.back hM2
                        dsimp only [List.cons_append, List.nil_append] at hM hup356
                        clear hM2
                        refine ⟨_, rfl, ExtM [] w354, fun _ h => ExtM.trans hx355 h, ExtM.refl _ _, fun a hf => ?_⟩
                        refine pi_q hf rfl rfl rfl rfl (ExtM.refl _ _) (e_move hf rfl) fun a hf => ?_
                        refine pi_q hf rfl rfl rfl rfl (ExtM.refl _ _) (e_extract hf rfl rfl) fun a hf => ?_
                        refine pi_q hf rfl rfl rfl rfl (ExtM.refl _ _) (e_extract hf rfl rfl) fun a hf => ?_
                        refine pi_one ?_
                        refine pi_l hf rfl rfl rfl rfl (w_allocM hM (cs := [vI (0), vS (([] : Str)), vS (([] : Str)), vS (([] : Str)), vS (([] : Str)), .bool (false)]) Tryz.zeroValue38 rfl fun b357 w358 hx359 hn360 hM => ⟨ExtM [some b357] w358, fun _ h => ExtM.grow hx359 hn360 h, ExtM.refl _ _, fun a hf => ?_⟩)
                        refine pi_one ?_
                        refine pi_l0 hf rfl rfl rfl (w_storeM hf (List.mem_of_getElem? (i := 0) rfl) hM (us := [vI (y337.1.Board.Size), vS (y337.1.Board.Premium), vS (y337.1.Board.Cells), vS (y337.1.Mine), vS (y337.1.Theirs), .bool (y337.1.Passed)]) (cs' := [vI (y337.1.Board.Size), vS (y337.1.Board.Premium), vS (y337.1.Board.Cells), vS (y337.1.Mine), vS (y337.1.Theirs), .bool (y337.1.Passed)]) rfl rfl (k := 0) rfl rfl Tryz.sizeOf38 rfl rfl rfl fun w361 hxm362 hsz363 hM => ⟨Ext w361, fun _ h => ExtM.last hxm362 hsz363 h, Ext.refl _, ?_⟩)
                        dsimp only [List.set] at hM
                        refine pi_q hf rfl rfl rfl rfl (Ext.refl _) (e_assign hf rfl) fun a hf => ?_
                        refine pi_nil ?_
                        refine then_n ?_
                        refine wp_seq ?_
                        obtain ⟨x366, h367, h⟩ := bind_some h
                        refine seq_join (fun a w => ∃ (t364 : Bool), t364 = x366 ∧ Has 66 a [(65, .bool (t364))] ∧ Mem C w [.box b357 [vI (y337.1.Board.Size), vS (y337.1.Board.Premium), vS (y337.1.Board.Cells), vS (y337.1.Mine), vS (y337.1.Theirs), .bool (y337.1.Passed)] 38, .box b288 [vI (y73.1.Board.Size), vS (y73.1.Board.Premium), vS (y73.1.Board.Cells), vS (y73.1.Mine), vS (y73.1.Theirs), .bool (y73.1.Passed)] 38, .box b19 [vI (aP9.Row), vI (aP9.Col), .bool (aP9.Down), vS (aP9.Word)] 35, .box b15 [vI (aB1.Size), vS (aB1.Premium), vS (aB1.Cells)] 23] []) ?_ ?_
                        · refine region_pl ?_
                          refine q_ hf rfl rfl rfl (e_loadA hf (us := [vI (y337.1.Board.Size), vS (y337.1.Board.Premium), vS (y337.1.Board.Cells), vS (y337.1.Mine), vS (y337.1.Theirs), .bool (y337.1.Passed)]) rfl ⟨Tryz.isAgg38, Tryz.sizeOf38⟩ rfl (hM.boxSub (k := 0) (us := [vI (y337.1.Board.Size), vS (y337.1.Board.Premium), vS (y337.1.Board.Cells), vS (y337.1.Mine), vS (y337.1.Theirs), .bool (y337.1.Passed)]) (o := 0) rfl rfl)) fun a hf => ?_
                          refine q_ hf rfl rfl rfl (e_loadA hf (us := [vI (y73.1.Board.Size), vS (y73.1.Board.Premium), vS (y73.1.Board.Cells), vS (y73.1.Mine), vS (y73.1.Theirs), .bool (y73.1.Passed)]) rfl ⟨Tryz.isAgg38, Tryz.sizeOf38⟩ rfl (hM.boxSub (k := 1) (us := [vI (y73.1.Board.Size), vS (y73.1.Board.Premium), vS (y73.1.Board.Cells), vS (y73.1.Mine), vS (y73.1.Theirs), .bool (y73.1.Passed)]) (o := 0) rfl rfl)) fun a hf => ?_
                          obtain ⟨y368, hz369, h367⟩ := bind_some h367
                          refine pl_l hf rfl rfl rfl (w_call hf Tryz.call20 rfl (r_laws_eqEnd ⟨_, Sh C _ _, none_, hM.sh_lt, none_not, C.G, hM.g_lt, g_none, hM.tabs⟩ y337.1 hv348 hv349 hv350 hv351 hv352 y73.1 hv292 hv293 hv294 hv295 hv296 _ hz369) ?_)
                          rintro _ w370 ⟨rfl, hM2⟩
                          obtain ⟨hM, hx371, hup372⟩ := hM.back hM2
                          dsimp only [List.cons_append, List.nil_append] at hM hup372
                          clear hM2
                          refine ⟨_, rfl, fun a hf => ?_⟩
                          refine q_ hf rfl rfl rfl (e_not hf rfl) fun a hf => ?_
                          refine q_ hf rfl rfl rfl (e_move hf rfl) fun a hf => ?_
                          rcases cond_some h367 with ⟨hc373, h367⟩ | ⟨hc373, h367⟩
                          · refine pl_gs (wanted_f hf rfl rfl rfl rfl hc373) hf rfl rfl fun a hf => ?_
                            refine pl_gs (wanted_f hf rfl rfl rfl rfl hc373) hf rfl rfl fun a hf => ?_
                            refine pl_gs (wanted_f hf rfl rfl rfl rfl hc373) hf rfl rfl fun a hf => ?_
                            refine q_ hf rfl rfl rfl (e_pick_t hf rfl hc373 rfl) fun a hf => ?_
                            refine pl_nil ?_
                            obtain rfl := some_inj h367
                            refine then_n ?_
                            exact ⟨true, rfl, hf.keep ⟨rfl, trivial⟩, hM.pick [] rfl⟩
                          · refine gq (wanted_t hf rfl rfl rfl rfl hc373) hf rfl rfl (e_move hf rfl) fun a hf => ?_
                            refine gq (wanted_t hf rfl rfl rfl rfl hc373) hf rfl rfl (e_move hf rfl) fun a hf => ?_
                            refine gq (wanted_t hf rfl rfl rfl rfl hc373) hf rfl rfl (e_ne hf (x := y337.2) (y := y73.2) rfl rfl) fun a hf => ?_
                            refine q_ hf rfl rfl rfl (e_pick_f hf rfl hc373 rfl) fun a hf => ?_
                            refine pl_nil ?_
                            obtain rfl := some_inj h367
                            refine then_n ?_
                            exact ⟨(y337.2 != y73.2), rfl, hf.keep ⟨rfl, trivial⟩, hM.pick [] rfl⟩
                        · rintro a w376 ⟨t364, rfl, hf, hM⟩
                          try dsimp only at h
                          rcases cond_some h with ⟨hc377, h⟩ | ⟨hc377, h⟩
                          · refine cond_t hf rfl hc377 ?_
                            refine wp_seq ?_
                            refine region_pl ?_
                            refine q_ hf rfl rfl rfl (e_assign hf rfl) fun a hf => ?_
                            refine pl_nil ?_
                            refine then_n ?_
                            refine wp_ret ?_
                            refine then_r ?_
                            obtain rfl := some_inj h
                            have hM := hM.outs (own' := []) 0 rfl
                            exact leave1 hf rfl rfl ⟨rfl, hM.fin⟩
                          · refine cond_f hf rfl hc377 ?_
                            refine wp_skip ?_
                            refine then_n ?_
                            refine wp_seq ?_
                            refine region_pl ?_
                            refine q_ hf rfl rfl rfl (e_assign hf rfl) fun a hf => ?_
                            refine pl_nil ?_
                            refine then_n ?_
                            refine wp_ret ?_
                            obtain rfl := some_inj h
                            have hM := hM.outs (own' := []) 0 rfl
                            exact leave1 hf rfl rfl ⟨rfl, hM.fin⟩
                      · refine pi_l hf rfl rfl rfl rfl (w_allocM hM (cs := [vI (0), vS (([] : Str)), vS (([] : Str)), vS (([] : Str)), vS (([] : Str)), .bool (false)]) Tryz.zeroValue38 rfl fun b378 w379 hx380 hn381 hM => ⟨ExtM [some b378] w379, fun _ h => ExtM.grow hx380 hn381 h, ExtM.refl _ _, fun a hf => ?_⟩)
                        refine pi_one ?_
                        refine pi_l hf rfl rfl rfl rfl (w_call hf Tryz.call19 rfl (r_impl_EndAfter ⟨_, Sh C _ _, none_, hM.sh_lt, none_not, C.G, hM.g_lt, g_none, hM.tabs⟩ y305 hv317 hv318 hv319 aMine5 hp6 aUnseen7 hp8 y323 hv331 hv332 hv333 aTile13 hp14 _ hz338) ?_)
                        rintro _ w388 ⟨rfl, hM2, hv382, hv383, hv384, hv385, hv386, hv387⟩
                        obtain ⟨hM, hx389, hup390⟩ := hM.back hM2
                        dsimp only [List.cons_append, List.nil_append] at hM hup390
                        clear hM2
                        refine ⟨_, rfl, ExtM [some b378] w388, fun _ h => ExtM.trans hx389 h, ExtM.refl _ _, fun a hf => ?_⟩
                        refine pi_q hf rfl rfl rfl rfl (ExtM.refl _ _) (e_move hf rfl) fun a hf => ?_
                        refine pi_q hf rfl rfl rfl rfl (ExtM.refl _ _) (e_extract hf rfl rfl) fun a hf => ?_
                        refine pi_q hf rfl rfl rfl rfl (ExtM.refl _ _) (e_extract hf rfl rfl) fun a hf => ?_
                        refine pi_one ?_
                        refine pi_l0 hf rfl rfl rfl (w_storeM hf (List.mem_of_getElem? (i := 0) rfl) hM (us := [vI (y337.1.Board.Size), vS (y337.1.Board.Premium), vS (y337.1.Board.Cells), vS (y337.1.Mine), vS (y337.1.Theirs), .bool (y337.1.Passed)]) (cs' := [vI (y337.1.Board.Size), vS (y337.1.Board.Premium), vS (y337.1.Board.Cells), vS (y337.1.Mine), vS (y337.1.Theirs), .bool (y337.1.Passed)]) rfl rfl (k := 0) rfl rfl Tryz.sizeOf38 rfl rfl rfl fun w391 hxm392 hsz393 hM => ⟨Ext w391, fun _ h => ExtM.last hxm392 hsz393 h, Ext.refl _, ?_⟩)
                        dsimp only [List.set] at hM
                        refine pi_q hf rfl rfl rfl rfl (Ext.refl _) (e_assign hf rfl) fun a hf => ?_
                        refine pi_nil ?_
                        refine then_n ?_
                        refine wp_seq ?_
                        obtain ⟨x396, h397, h⟩ := bind_some h
                        refine seq_join (fun a w => ∃ (t394 : Bool), t394 = x396 ∧ Has 66 a [(65, .bool (t394))] ∧ Mem C w [.box b378 [vI (y337.1.Board.Size), vS (y337.1.Board.Premium), vS (y337.1.Board.Cells), vS (y337.1.Mine), vS (y337.1.Theirs), .bool (y337.1.Passed)] 38, .box b288 [vI (y73.1.Board.Size), vS (y73.1.Board.Premium), vS (y73.1.Board.Cells), vS (y73.1.Mine), vS (y73.1.Theirs), .bool (y73.1.Passed)] 38, .box b19 [vI (aP9.Row), vI (aP9.Col), .bool (aP9.Down), vS (aP9.Word)] 35, .box b15 [vI (aB1.Size), vS (aB1.Premium), vS (aB1.Cells)] 23] []) ?_ ?_
                        · refine region_pl ?_
                          refine q_ hf rfl rfl rfl (e_loadA hf (us := [vI (y337.1.Board.Size), vS (y337.1.Board.Premium), vS (y337.1.Board.Cells), vS (y337.1.Mine), vS (y337.1.Theirs), .bool (y337.1.Passed)]) rfl ⟨Tryz.isAgg38, Tryz.sizeOf38⟩ rfl (hM.boxSub (k := 0) (us := [vI (y337.1.Board.Size), vS (y337.1.Board.Premium), vS (y337.1.Board.Cells), vS (y337.1.Mine), vS (y337.1.Theirs), .bool (y337.1.Passed)]) (o := 0) rfl rfl)) fun a hf => ?_
                          refine q_ hf rfl rfl rfl (e_loadA hf (us := [vI (y73.1.Board.Size), vS (y73.1.Board.Premium), vS (y73.1.Board.Cells), vS (y73.1.Mine), vS (y73.1.Theirs), .bool (y73.1.Passed)]) rfl ⟨Tryz.isAgg38, Tryz.sizeOf38⟩ rfl (hM.boxSub (k := 1) (us := [vI (y73.1.Board.Size), vS (y73.1.Board.Premium), vS (y73.1.Board.Cells), vS (y73.1.Mine), vS (y73.1.Theirs), .bool (y73.1.Passed)]) (o := 0) rfl rfl)) fun a hf => ?_
                          obtain ⟨y398, hz399, h397⟩ := bind_some h397
                          refine pl_l hf rfl rfl rfl (w_call hf Tryz.call20 rfl (r_laws_eqEnd ⟨_, Sh C _ _, none_, hM.sh_lt, none_not, C.G, hM.g_lt, g_none, hM.tabs⟩ y337.1 hv382 hv383 hv384 hv385 hv386 y73.1 hv292 hv293 hv294 hv295 hv296 _ hz399) ?_)
                          rintro _ w400 ⟨rfl, hM2⟩
                          obtain ⟨hM, hx401, hup402⟩ := hM.back hM2
                          dsimp only [List.cons_append, List.nil_append] at hM hup402
                          clear hM2
                          refine ⟨_, rfl, fun a hf => ?_⟩
                          refine q_ hf rfl rfl rfl (e_not hf rfl) fun a hf => ?_
                          refine q_ hf rfl rfl rfl (e_move hf rfl) fun a hf => ?_
                          rcases cond_some h397 with ⟨hc403, h397⟩ | ⟨hc403, h397⟩
                          · refine pl_gs (wanted_f hf rfl rfl rfl rfl hc403) hf rfl rfl fun a hf => ?_
                            refine pl_gs (wanted_f hf rfl rfl rfl rfl hc403) hf rfl rfl fun a hf => ?_
                            refine pl_gs (wanted_f hf rfl rfl rfl rfl hc403) hf rfl rfl fun a hf => ?_
                            refine q_ hf rfl rfl rfl (e_pick_t hf rfl hc403 rfl) fun a hf => ?_
                            refine pl_nil ?_
                            obtain rfl := some_inj h397
                            refine then_n ?_
                            exact ⟨true, rfl, hf.keep ⟨rfl, trivial⟩, hM.pick [] rfl⟩
                          · refine gq (wanted_t hf rfl rfl rfl rfl hc403) hf rfl rfl (e_move hf rfl) fun a hf => ?_
                            refine gq (wanted_t hf rfl rfl rfl rfl hc403) hf rfl rfl (e_move hf rfl) fun a hf => ?_
                            refine gq (wanted_t hf rfl rfl rfl rfl hc403) hf rfl rfl (e_ne hf (x := y337.2) (y := y73.2) rfl rfl) fun a hf => ?_
                            refine q_ hf rfl rfl rfl (e_pick_f hf rfl hc403 rfl) fun a hf => ?_
                            refine pl_nil ?_
                            obtain rfl := some_inj h397
                            refine then_n ?_
                            exact ⟨(y337.2 != y73.2), rfl, hf.keep ⟨rfl, trivial⟩, hM.pick [] rfl⟩
                        · rintro a w406 ⟨t394, rfl, hf, hM⟩
                          try dsimp only at h
                          rcases cond_some h with ⟨hc407, h⟩ | ⟨hc407, h⟩
                          · refine cond_t hf rfl hc407 ?_
                            refine wp_seq ?_
                            refine region_pl ?_
                            refine q_ hf rfl rfl rfl (e_assign hf rfl) fun a hf => ?_
                            refine pl_nil ?_
                            refine then_n ?_
                            refine wp_ret ?_
                            refine then_r ?_
                            obtain rfl := some_inj h
                            have hM := hM.outs (own' := []) 0 rfl
                            exact leave1 hf rfl rfl ⟨rfl, hM.fin⟩
                          · refine cond_f hf rfl hc407 ?_
                            refine wp_skip ?_
                            refine then_n ?_
                            refine wp_seq ?_
                            refine region_pl ?_
                            refine q_ hf rfl rfl rfl (e_assign hf rfl) fun a hf => ?_
                            refine pl_nil ?_
                            refine then_n ?_
                            refine wp_ret ?_
                            obtain rfl := some_inj h
                            have hM := hM.outs (own' := []) 0 rfl
                            exact leave1 hf rfl rfl ⟨rfl, hM.fin⟩
                    · refine pi_l hf rfl rfl rfl rfl (w_allocM hM (cs := [vI (0), vS (([] : Str)), vS (([] : Str)), vS (([] : Str)), vS (([] : Str)), .bool (false)]) Tryz.zeroValue38 rfl fun b408 w409 hx410 hn411 hM => ⟨ExtM [some b408] w409, fun _ h => ExtM.grow hx410 hn411 h, ExtM.refl _ _, fun a hf => ?_⟩)
                      refine pi_one ?_
                      refine pi_l hf rfl rfl rfl rfl (w_call hf Tryz.call18 rfl (r_laws_toPlay ⟨_, Sh C _ _, none_, hM.sh_lt, none_not, C.G, hM.g_lt, g_none, hM.tabs⟩ aP9 hp10 hp11 hp12 _ hz324) ?_)
                      rintro _ w415 ⟨rfl, hM2, hv412, hv413, hv414⟩
                      obtain ⟨hM, hx416, hup417⟩ := hM.back hM2
                      dsimp only [List.cons_append, List.nil_append] at hM hup417
                      clear hM2
                      refine ⟨_, rfl, ExtM [some b408] w415, fun _ h => ExtM.trans hx416 h, ExtM.refl _ _, fun a hf => ?_⟩
                      refine pi_one ?_
                      obtain ⟨y418, hz419, h⟩ := bind_some h
                      refine pi_l hf rfl rfl rfl rfl (w_call hf Tryz.call19 rfl (r_impl_EndAfter ⟨_, Sh C _ _, none_, hM.sh_lt, none_not, C.G, hM.g_lt, g_none, hM.tabs⟩ y305 hv317 hv318 hv319 aMine5 hp6 aUnseen7 hp8 y323 hv412 hv413 hv414 aTile13 hp14 _ hz419) ?_)
                      rintro _ w426 ⟨rfl, hM2, hv420, hv421, hv422, hv423, hv424, hv425⟩
                      obtain ⟨hM, hx427, hup428⟩ := hM.back hM2
                      dsimp only [List.cons_append, List.nil_append] at hM hup428
                      clear hM2
                      refine ⟨_, rfl, ExtM [some b408] w426, fun _ h => ExtM.trans hx427 h, ExtM.refl _ _, fun a hf => ?_⟩
                      refine pi_q hf rfl rfl rfl rfl (ExtM.refl _ _) (e_move hf rfl) fun a hf => ?_
                      refine pi_q hf rfl rfl rfl rfl (ExtM.refl _ _) (e_extract hf rfl rfl) fun a hf => ?_
                      refine pi_q hf rfl rfl rfl rfl (ExtM.refl _ _) (e_extract hf rfl rfl) fun a hf => ?_
                      refine pi_one ?_
                      refine pi_l0 hf rfl rfl rfl (w_storeM hf (List.mem_of_getElem? (i := 0) rfl) hM (us := [vI (y418.1.Board.Size), vS (y418.1.Board.Premium), vS (y418.1.Board.Cells), vS (y418.1.Mine), vS (y418.1.Theirs), .bool (y418.1.Passed)]) (cs' := [vI (y418.1.Board.Size), vS (y418.1.Board.Premium), vS (y418.1.Board.Cells), vS (y418.1.Mine), vS (y418.1.Theirs), .bool (y418.1.Passed)]) rfl rfl (k := 0) rfl rfl Tryz.sizeOf38 rfl rfl rfl fun w429 hxm430 hsz431 hM => ⟨Ext w429, fun _ h => ExtM.last hxm430 hsz431 h, Ext.refl _, ?_⟩)
                      dsimp only [List.set] at hM
                      refine pi_q hf rfl rfl rfl rfl (Ext.refl _) (e_assign hf rfl) fun a hf => ?_
                      refine pi_nil ?_
                      refine then_n ?_
                      refine wp_seq ?_
                      obtain ⟨x434, h435, h⟩ := bind_some h
                      refine seq_join (fun a w => ∃ (t432 : Bool), t432 = x434 ∧ Has 66 a [(65, .bool (t432))] ∧ Mem C w [.box b408 [vI (y418.1.Board.Size), vS (y418.1.Board.Premium), vS (y418.1.Board.Cells), vS (y418.1.Mine), vS (y418.1.Theirs), .bool (y418.1.Passed)] 38, .box b288 [vI (y73.1.Board.Size), vS (y73.1.Board.Premium), vS (y73.1.Board.Cells), vS (y73.1.Mine), vS (y73.1.Theirs), .bool (y73.1.Passed)] 38, .box b19 [vI (aP9.Row), vI (aP9.Col), .bool (aP9.Down), vS (aP9.Word)] 35, .box b15 [vI (aB1.Size), vS (aB1.Premium), vS (aB1.Cells)] 23] []) ?_ ?_
                      · refine region_pl ?_
                        refine q_ hf rfl rfl rfl (e_loadA hf (us := [vI (y418.1.Board.Size), vS (y418.1.Board.Premium), vS (y418.1.Board.Cells), vS (y418.1.Mine), vS (y418.1.Theirs), .bool (y418.1.Passed)]) rfl ⟨Tryz.isAgg38, Tryz.sizeOf38⟩ rfl (hM.boxSub (k := 0) (us := [vI (y418.1.Board.Size), vS (y418.1.Board.Premium), vS (y418.1.Board.Cells), vS (y418.1.Mine), vS (y418.1.Theirs), .bool (y418.1.Passed)]) (o := 0) rfl rfl)) fun a hf => ?_
                        refine q_ hf rfl rfl rfl (e_loadA hf (us := [vI (y73.1.Board.Size), vS (y73.1.Board.Premium), vS (y73.1.Board.Cells), vS (y73.1.Mine), vS (y73.1.Theirs), .bool (y73.1.Passed)]) rfl ⟨Tryz.isAgg38, Tryz.sizeOf38⟩ rfl (hM.boxSub (k := 1) (us := [vI (y73.1.Board.Size), vS (y73.1.Board.Premium), vS (y73.1.Board.Cells), vS (y73.1.Mine), vS (y73.1.Theirs), .bool (y73.1.Passed)]) (o := 0) rfl rfl)) fun a hf => ?_
                        obtain ⟨y436, hz437, h435⟩ := bind_some h435
                        refine pl_l hf rfl rfl rfl (w_call hf Tryz.call20 rfl (r_laws_eqEnd ⟨_, Sh C _ _, none_, hM.sh_lt, none_not, C.G, hM.g_lt, g_none, hM.tabs⟩ y418.1 hv420 hv421 hv422 hv423 hv424 y73.1 hv292 hv293 hv294 hv295 hv296 _ hz437) ?_)
                        rintro _ w438 ⟨rfl, hM2⟩
                        obtain ⟨hM, hx439, hup440⟩ := hM.back hM2
                        dsimp only [List.cons_append, List.nil_append] at hM hup440
                        clear hM2
                        refine ⟨_, rfl, fun a hf => ?_⟩
                        refine q_ hf rfl rfl rfl (e_not hf rfl) fun a hf => ?_
                        refine q_ hf rfl rfl rfl (e_move hf rfl) fun a hf => ?_
                        rcases cond_some h435 with ⟨hc441, h435⟩ | ⟨hc441, h435⟩
                        · refine pl_gs (wanted_f hf rfl rfl rfl rfl hc441) hf rfl rfl fun a hf => ?_
                          refine pl_gs (wanted_f hf rfl rfl rfl rfl hc441) hf rfl rfl fun a hf => ?_
                          refine pl_gs (wanted_f hf rfl rfl rfl rfl hc441) hf rfl rfl fun a hf => ?_
                          refine q_ hf rfl rfl rfl (e_pick_t hf rfl hc441 rfl) fun a hf => ?_
                          refine pl_nil ?_
                          obtain rfl := some_inj h435
                          refine then_n ?_
                          exact ⟨true, rfl, hf.keep ⟨rfl, trivial⟩, hM.pick [] rfl⟩
                        · refine gq (wanted_t hf rfl rfl rfl rfl hc441) hf rfl rfl (e_move hf rfl) fun a hf => ?_
                          refine gq (wanted_t hf rfl rfl rfl rfl hc441) hf rfl rfl (e_move hf rfl) fun a hf => ?_
                          refine gq (wanted_t hf rfl rfl rfl rfl hc441) hf rfl rfl (e_ne hf (x := y418.2) (y := y73.2) rfl rfl) fun a hf => ?_
                          refine q_ hf rfl rfl rfl (e_pick_f hf rfl hc441 rfl) fun a hf => ?_
                          refine pl_nil ?_
                          obtain rfl := some_inj h435
                          refine then_n ?_
                          exact ⟨(y418.2 != y73.2), rfl, hf.keep ⟨rfl, trivial⟩, hM.pick [] rfl⟩
                      · rintro a w444 ⟨t432, rfl, hf, hM⟩
                        try dsimp only at h
                        rcases cond_some h with ⟨hc445, h⟩ | ⟨hc445, h⟩
                        · refine cond_t hf rfl hc445 ?_
                          refine wp_seq ?_
                          refine region_pl ?_
                          refine q_ hf rfl rfl rfl (e_assign hf rfl) fun a hf => ?_
                          refine pl_nil ?_
                          refine then_n ?_
                          refine wp_ret ?_
                          refine then_r ?_
                          obtain rfl := some_inj h
                          have hM := hM.outs (own' := []) 0 rfl
                          exact leave1 hf rfl rfl ⟨rfl, hM.fin⟩
                        · refine cond_f hf rfl hc445 ?_
                          refine wp_skip ?_
                          refine then_n ?_
                          refine wp_seq ?_
                          refine region_pl ?_
                          refine q_ hf rfl rfl rfl (e_assign hf rfl) fun a hf => ?_
                          refine pl_nil ?_
                          refine then_n ?_
                          refine wp_ret ?_
                          obtain rfl := some_inj h
                          have hM := hM.outs (own' := []) 0 rfl
                          exact leave1 hf rfl rfl ⟨rfl, hM.fin⟩
                  · refine pi_l hf rfl rfl rfl rfl (w_allocM hM (cs := [vI (0), vS (([] : Str)), vS (([] : Str)), vS (([] : Str)), vS (([] : Str)), .bool (false)]) Tryz.zeroValue38 rfl fun b446 w447 hx448 hn449 hM => ⟨ExtM [some b446] w447, fun _ h => ExtM.grow hx448 hn449 h, ExtM.refl _ _, fun a hf => ?_⟩)
                    refine pi_one ?_
                    refine pi_l hf rfl rfl rfl rfl (w_call hf Tryz.call12 rfl (r_laws_toBoard ⟨_, Sh C _ _, none_, hM.sh_lt, none_not, C.G, hM.g_lt, g_none, hM.tabs⟩ aB1 hp2 hp3 hp4 _ hz306) ?_)
                    rintro _ w453 ⟨rfl, hM2, hv450, hv451, hv452⟩
                    obtain ⟨hM, hx454, hup455⟩ := hM.back hM2
                    dsimp only [List.cons_append, List.nil_append] at hM hup455
                    clear hM2
                    refine ⟨_, rfl, ExtM [some b446] w453, fun _ h => ExtM.trans hx454 h, ExtM.refl _ _, fun a hf => ?_⟩
                    refine pi_one ?_
                    obtain ⟨y456, hz457, h⟩ := bind_some h
                    refine pi_l hf rfl rfl rfl rfl (w_call hf Tryz.call18 rfl (r_laws_toPlay ⟨_, Sh C _ _, none_, hM.sh_lt, none_not, C.G, hM.g_lt, g_none, hM.tabs⟩ aP9 hp10 hp11 hp12 _ hz457) ?_)
                    rintro _ w461 ⟨rfl, hM2, hv458, hv459, hv460⟩
                    obtain ⟨hM, hx462, hup463⟩ := hM.back hM2
                    dsimp only [List.cons_append, List.nil_append] at hM hup463
                    clear hM2
                    refine ⟨_, rfl, ExtM [some b446] w461, fun _ h => ExtM.trans hx462 h, ExtM.refl _ _, fun a hf => ?_⟩
                    refine pi_one ?_
                    obtain ⟨y464, hz465, h⟩ := bind_some h
                    refine pi_l hf rfl rfl rfl rfl (w_call hf Tryz.call19 rfl (r_impl_EndAfter ⟨_, Sh C _ _, none_, hM.sh_lt, none_not, C.G, hM.g_lt, g_none, hM.tabs⟩ y305 hv450 hv451 hv452 aMine5 hp6 aUnseen7 hp8 y456 hv458 hv459 hv460 aTile13 hp14 _ hz465) ?_)
                    rintro _ w472 ⟨rfl, hM2, hv466, hv467, hv468, hv469, hv470, hv471⟩
                    obtain ⟨hM, hx473, hup474⟩ := hM.back hM2
                    dsimp only [List.cons_append, List.nil_append] at hM hup474
                    clear hM2
                    refine ⟨_, rfl, ExtM [some b446] w472, fun _ h => ExtM.trans hx473 h, ExtM.refl _ _, fun a hf => ?_⟩
                    refine pi_q hf rfl rfl rfl rfl (ExtM.refl _ _) (e_move hf rfl) fun a hf => ?_
                    refine pi_q hf rfl rfl rfl rfl (ExtM.refl _ _) (e_extract hf rfl rfl) fun a hf => ?_
                    refine pi_q hf rfl rfl rfl rfl (ExtM.refl _ _) (e_extract hf rfl rfl) fun a hf => ?_
                    refine pi_one ?_
                    refine pi_l0 hf rfl rfl rfl (w_storeM hf (List.mem_of_getElem? (i := 0) rfl) hM (us := [vI (y464.1.Board.Size), vS (y464.1.Board.Premium), vS (y464.1.Board.Cells), vS (y464.1.Mine), vS (y464.1.Theirs), .bool (y464.1.Passed)]) (cs' := [vI (y464.1.Board.Size), vS (y464.1.Board.Premium), vS (y464.1.Board.Cells), vS (y464.1.Mine), vS (y464.1.Theirs), .bool (y464.1.Passed)]) rfl rfl (k := 0) rfl rfl Tryz.sizeOf38 rfl rfl rfl fun w475 hxm476 hsz477 hM => ⟨Ext w475, fun _ h => ExtM.last hxm476 hsz477 h, Ext.refl _, ?_⟩)
                    dsimp only [List.set] at hM
                    refine pi_q hf rfl rfl rfl rfl (Ext.refl _) (e_assign hf rfl) fun a hf => ?_
                    refine pi_nil ?_
                    refine then_n ?_
                    refine wp_seq ?_
                    obtain ⟨x480, h481, h⟩ := bind_some h
                    refine seq_join (fun a w => ∃ (t478 : Bool), t478 = x480 ∧ Has 66 a [(65, .bool (t478))] ∧ Mem C w [.box b446 [vI (y464.1.Board.Size), vS (y464.1.Board.Premium), vS (y464.1.Board.Cells), vS (y464.1.Mine), vS (y464.1.Theirs), .bool (y464.1.Passed)] 38, .box b288 [vI (y73.1.Board.Size), vS (y73.1.Board.Premium), vS (y73.1.Board.Cells), vS (y73.1.Mine), vS (y73.1.Theirs), .bool (y73.1.Passed)] 38, .box b19 [vI (aP9.Row), vI (aP9.Col), .bool (aP9.Down), vS (aP9.Word)] 35, .box b15 [vI (aB1.Size), vS (aB1.Premium), vS (aB1.Cells)] 23] []) ?_ ?_
                    · refine region_pl ?_
                      refine q_ hf rfl rfl rfl (e_loadA hf (us := [vI (y464.1.Board.Size), vS (y464.1.Board.Premium), vS (y464.1.Board.Cells), vS (y464.1.Mine), vS (y464.1.Theirs), .bool (y464.1.Passed)]) rfl ⟨Tryz.isAgg38, Tryz.sizeOf38⟩ rfl (hM.boxSub (k := 0) (us := [vI (y464.1.Board.Size), vS (y464.1.Board.Premium), vS (y464.1.Board.Cells), vS (y464.1.Mine), vS (y464.1.Theirs), .bool (y464.1.Passed)]) (o := 0) rfl rfl)) fun a hf => ?_
                      refine q_ hf rfl rfl rfl (e_loadA hf (us := [vI (y73.1.Board.Size), vS (y73.1.Board.Premium), vS (y73.1.Board.Cells), vS (y73.1.Mine), vS (y73.1.Theirs), .bool (y73.1.Passed)]) rfl ⟨Tryz.isAgg38, Tryz.sizeOf38⟩ rfl (hM.boxSub (k := 1) (us := [vI (y73.1.Board.Size), vS (y73.1.Board.Premium), vS (y73.1.Board.Cells), vS (y73.1.Mine), vS (y73.1.Theirs), .bool (y73.1.Passed)]) (o := 0) rfl rfl)) fun a hf => ?_
                      obtain ⟨y482, hz483, h481⟩ := bind_some h481
                      refine pl_l hf rfl rfl rfl (w_call hf Tryz.call20 rfl (r_laws_eqEnd ⟨_, Sh C _ _, none_, hM.sh_lt, none_not, C.G, hM.g_lt, g_none, hM.tabs⟩ y464.1 hv466 hv467 hv468 hv469 hv470 y73.1 hv292 hv293 hv294 hv295 hv296 _ hz483) ?_)
                      rintro _ w484 ⟨rfl, hM2⟩
                      obtain ⟨hM, hx485, hup486⟩ := hM.back hM2
                      dsimp only [List.cons_append, List.nil_append] at hM hup486
                      clear hM2
                      refine ⟨_, rfl, fun a hf => ?_⟩
                      refine q_ hf rfl rfl rfl (e_not hf rfl) fun a hf => ?_
                      refine q_ hf rfl rfl rfl (e_move hf rfl) fun a hf => ?_
                      rcases cond_some h481 with ⟨hc487, h481⟩ | ⟨hc487, h481⟩
                      · refine pl_gs (wanted_f hf rfl rfl rfl rfl hc487) hf rfl rfl fun a hf => ?_
                        refine pl_gs (wanted_f hf rfl rfl rfl rfl hc487) hf rfl rfl fun a hf => ?_
                        refine pl_gs (wanted_f hf rfl rfl rfl rfl hc487) hf rfl rfl fun a hf => ?_
                        refine q_ hf rfl rfl rfl (e_pick_t hf rfl hc487 rfl) fun a hf => ?_
                        refine pl_nil ?_
                        obtain rfl := some_inj h481
                        refine then_n ?_
                        exact ⟨true, rfl, hf.keep ⟨rfl, trivial⟩, hM.pick [] rfl⟩
                      · refine gq (wanted_t hf rfl rfl rfl rfl hc487) hf rfl rfl (e_move hf rfl) fun a hf => ?_
                        refine gq (wanted_t hf rfl rfl rfl rfl hc487) hf rfl rfl (e_move hf rfl) fun a hf => ?_
                        refine gq (wanted_t hf rfl rfl rfl rfl hc487) hf rfl rfl (e_ne hf (x := y464.2) (y := y73.2) rfl rfl) fun a hf => ?_
                        refine q_ hf rfl rfl rfl (e_pick_f hf rfl hc487 rfl) fun a hf => ?_
                        refine pl_nil ?_
                        obtain rfl := some_inj h481
                        refine then_n ?_
                        exact ⟨(y464.2 != y73.2), rfl, hf.keep ⟨rfl, trivial⟩, hM.pick [] rfl⟩
                    · rintro a w490 ⟨t478, rfl, hf, hM⟩
                      try dsimp only at h
                      rcases cond_some h with ⟨hc491, h⟩ | ⟨hc491, h⟩
                      · refine cond_t hf rfl hc491 ?_
                        refine wp_seq ?_
                        refine region_pl ?_
                        refine q_ hf rfl rfl rfl (e_assign hf rfl) fun a hf => ?_
                        refine pl_nil ?_
                        refine then_n ?_
                        refine wp_ret ?_
                        refine then_r ?_
                        obtain rfl := some_inj h
                        have hM := hM.outs (own' := []) 0 rfl
                        exact leave1 hf rfl rfl ⟨rfl, hM.fin⟩
                      · refine cond_f hf rfl hc491 ?_
                        refine wp_skip ?_
                        refine then_n ?_
                        refine wp_seq ?_
                        refine region_pl ?_
                        refine q_ hf rfl rfl rfl (e_assign hf rfl) fun a hf => ?_
                        refine pl_nil ?_
                        refine then_n ?_
                        refine wp_ret ?_
                        obtain rfl := some_inj h
                        have hM := hM.outs (own' := []) 0 rfl
                        exact leave1 hf rfl rfl ⟨rfl, hM.fin⟩
              · refine pi_l hf rfl rfl rfl rfl (w_allocM hM (cs := [vI (0), vS (([] : Str)), vS (([] : Str)), vS (([] : Str)), vS (([] : Str)), .bool (false)]) Tryz.zeroValue38 rfl fun b492 w493 hx494 hn495 hM => ⟨ExtM [some b492] w493, fun _ h => ExtM.grow hx494 hn495 h, ExtM.refl _ _, fun a hf => ?_⟩)
                refine pi_one ?_
                refine pi_l hf rfl rfl rfl rfl (w_call hf Tryz.call18 rfl (r_laws_toPlay ⟨_, Sh C _ _, none_, hM.sh_lt, none_not, C.G, hM.g_lt, g_none, hM.tabs⟩ aP9 hp10 hp11 hp12 _ hz60) ?_)
                rintro _ w499 ⟨rfl, hM2, hv496, hv497, hv498⟩
                obtain ⟨hM, hx500, hup501⟩ := hM.back hM2
                dsimp only [List.cons_append, List.nil_append] at hM hup501
                clear hM2
                refine ⟨_, rfl, ExtM [some b492] w499, fun _ h => ExtM.trans hx500 h, ExtM.refl _ _, fun a hf => ?_⟩
                refine pi_one ?_
                obtain ⟨y502, hz503, h⟩ := bind_some h
                refine pi_l hf rfl rfl rfl rfl (w_call hf Tryz.call17 rfl (r_spec_EndAfter ⟨_, Sh C _ _, none_, hM.sh_lt, none_not, C.G, hM.g_lt, g_none, hM.tabs⟩ y41 hv53 hv54 hv55 aMine5 hp6 aUnseen7 hp8 y59 hv496 hv497 hv498 aTile13 hp14 _ hz503) ?_)
                rintro _ w510 ⟨rfl, hM2, hv504, hv505, hv506, hv507, hv508, hv509⟩
                obtain ⟨hM, hx511, hup512⟩ := hM.back hM2
                dsimp only [List.cons_append, List.nil_append] at hM hup512
                clear hM2
                refine ⟨_, rfl, ExtM [some b492] w510, fun _ h => ExtM.trans hx511 h, ExtM.refl _ _, fun a hf => ?_⟩
                refine pi_q hf rfl rfl rfl rfl (ExtM.refl _ _) (e_move hf rfl) fun a hf => ?_
                refine pi_q hf rfl rfl rfl rfl (ExtM.refl _ _) (e_extract hf rfl rfl) fun a hf => ?_
                refine pi_q hf rfl rfl rfl rfl (ExtM.refl _ _) (e_extract hf rfl rfl) fun a hf => ?_
                refine pi_one ?_
                refine pi_l0 hf rfl rfl rfl (w_storeM hf (List.mem_of_getElem? (i := 0) rfl) hM (us := [vI (y502.1.Board.Size), vS (y502.1.Board.Premium), vS (y502.1.Board.Cells), vS (y502.1.Mine), vS (y502.1.Theirs), .bool (y502.1.Passed)]) (cs' := [vI (y502.1.Board.Size), vS (y502.1.Board.Premium), vS (y502.1.Board.Cells), vS (y502.1.Mine), vS (y502.1.Theirs), .bool (y502.1.Passed)]) rfl rfl (k := 0) rfl rfl Tryz.sizeOf38 rfl rfl rfl fun w513 hxm514 hsz515 hM => ⟨Ext w513, fun _ h => ExtM.last hxm514 hsz515 h, Ext.refl _, ?_⟩)
                dsimp only [List.set] at hM
                refine pi_q hf rfl rfl rfl rfl (Ext.refl _) (e_assign hf rfl) fun a hf => ?_
                refine pi_nil ?_
                refine then_n ?_
                refine wp_seq ?_
                obtain ⟨w516, hw⟩ : ∃ x, x = w513.drew := ⟨_, rfl⟩
                refine region_pi (.q 0 (.q 2 (.q 3 (.q 4 (.q 6 (.b 1 11 (.b 5 11 (.b 7 11 (.q 8 (.q 9 (.q 10 (.l 11 (.l 12 (.q 13 (.nil))))))) (.l 7 (.q 8 (.q 9 (.q 10 (.l 12 (.q 13 (.nil)))))))) (.l 5 (.l 7 (.q 8 (.q 9 (.q 10 (.l 12 (.q 13 (.nil))))))))) (.l 1 (.l 5 (.l 7 (.q 8 (.q 9 (.q 10 (.l 12 (.q 13 (.nil))))))))))))))) (ExtM [] w516) rfl (by kernel_rfl) ?_
                have hM := hM.drew
                rw [← hw] at hM ⊢
                clear hw
                refine pi_q hf rfl rfl rfl rfl (ExtM.refl _ _) (e_loadAM hf (us := [vI (aB1.Size), vS (aB1.Premium), vS (aB1.Cells)]) rfl ⟨Tryz.isAgg23, Tryz.sizeOf23⟩ rfl (hM.boxSub (k := 2) (us := [vI (aB1.Size), vS (aB1.Premium), vS (aB1.Cells)]) (o := 0) rfl rfl) (hM.apart (js := []) rfl (k := 2) rfl rfl rfl)) fun a hf => ?_
                refine pi_q hf rfl rfl rfl rfl (ExtM.refl _ _) (e_move hf rfl) fun a hf => ?_
                refine pi_q hf rfl rfl rfl rfl (ExtM.refl _ _) (e_move hf rfl) fun a hf => ?_
                refine pi_q hf rfl rfl rfl rfl (ExtM.refl _ _) (e_loadAM hf (us := [vI (aP9.Row), vI (aP9.Col), .bool (aP9.Down), vS (aP9.Word)]) rfl ⟨Tryz.isAgg35, Tryz.sizeOf35⟩ rfl (hM.boxSub (k := 1) (us := [vI (aP9.Row), vI (aP9.Col), .bool (aP9.Down), vS (aP9.Word)]) (o := 0) rfl rfl) (hM.apart (js := []) rfl (k := 1) rfl rfl rfl)) fun a hf => ?_
                refine pi_q hf rfl rfl rfl rfl (ExtM.refl _ _) (e_move hf rfl) fun a hf => ?_
                obtain ⟨y517, hz518, h⟩ := bind_some h
                refine pi_two ?_ ?_
                · refine pi_l hf rfl rfl rfl rfl (w_call hf Tryz.call12 rfl (r_laws_toBoard ⟨_, Sh C _ _, none_, hM.sh_lt, none_not, C.G, hM.g_lt, g_none, hM.tabs⟩ aB1 hp2 hp3 hp4 _ hz518) ?_)
                  rintro _ w532 ⟨rfl, hM2, hv529, hv530, hv531⟩
                  obtain ⟨hM, hx533, hup534⟩ := hM.back hM2
                  dsimp only [List.cons_append, List.nil_append] at hM hup534
                  clear hM2
                  refine ⟨_, rfl, ExtM [] w532, fun _ h => ExtM.trans hx533 h, ExtM.refl _ _, fun a hf => ?_⟩
                  obtain ⟨y535, hz536, h⟩ := bind_some h
                  refine pi_two ?_ ?_
                  · refine pi_l hf rfl rfl rfl rfl (w_call hf Tryz.call18 rfl (r_laws_toPlay ⟨_, Sh C _ _, none_, hM.sh_lt, none_not, C.G, hM.g_lt, g_none, hM.tabs⟩ aP9 hp10 hp11 hp12 _ hz536) ?_)
                    rintro _ w546 ⟨rfl, hM2, hv543, hv544, hv545⟩
                    obtain ⟨hM, hx547, hup548⟩ := hM.back hM2
                    dsimp only [List.cons_append, List.nil_append] at hM hup548
                    clear hM2
                    refine ⟨_, rfl, ExtM [] w546, fun _ h => ExtM.trans hx547 h, ExtM.refl _ _, fun a hf => ?_⟩
                    obtain ⟨y549, hz550, h⟩ := bind_some h
                    refine pi_two ?_ ?_
                    · refine pi_l hf rfl rfl rfl rfl (w_call hf Tryz.call19 rfl (r_impl_EndAfter ⟨_, Sh C _ _, none_, hM.sh_lt, none_not, C.G, hM.g_lt, g_none, hM.tabs⟩ y517 hv529 hv530 hv531 aMine5 hp6 aUnseen7 hp8 y535 hv543 hv544 hv545 aTile13 hp14 _ hz550) ?_)
                      rintro _ w566 ⟨rfl, hM2, hv560, hv561, hv562, hv563, hv564, hv565⟩
                      obtain ⟨hM, hx567, hup568⟩ := hM.back hM2
                      dsimp only [List.cons_append, List.nil_append] at hM hup568
                      clear hM2
                      refine ⟨_, rfl, ExtM [] w566, fun _ h => ExtM.trans hx567 h, ExtM.refl _ _, fun a hf => ?_⟩
                      refine pi_q hf rfl rfl rfl rfl (ExtM.refl _ _) (e_move hf rfl) fun a hf => ?_
                      refine pi_q hf rfl rfl rfl rfl (ExtM.refl _ _) (e_extract hf rfl rfl) fun a hf => ?_
                      refine pi_q hf rfl rfl rfl rfl (ExtM.refl _ _) (e_extract hf rfl rfl) fun a hf => ?_
                      refine pi_one ?_
                      refine pi_l hf rfl rfl rfl rfl (w_allocM hM (cs := [vI (0), vS (([] : Str)), vS (([] : Str)), vS (([] : Str)), vS (([] : Str)), .bool (false)]) Tryz.zeroValue38 rfl fun b569 w570 hx571 hn572 hM => ⟨ExtM [some b569] w570, fun _ h => ExtM.grow hx571 hn572 h, ExtM.refl _ _, fun a hf => ?_⟩)
                      refine pi_one ?_
                      refine pi_l0 hf rfl rfl rfl (w_storeM hf (List.mem_of_getElem? (i := 0) rfl) hM (us := [vI (y549.1.Board.Size), vS (y549.1.Board.Premium), vS (y549.1.Board.Cells), vS (y549.1.Mine), vS (y549.1.Theirs), .bool (y549.1.Passed)]) (cs' := [vI (y549.1.Board.Size), vS (y549.1.Board.Premium), vS (y549.1.Board.Cells), vS (y549.1.Mine), vS (y549.1.Theirs), .bool (y549.1.Passed)]) rfl rfl (k := 0) rfl rfl Tryz.sizeOf38 rfl rfl rfl fun w573 hxm574 hsz575 hM => ⟨Ext w573, fun _ h => ExtM.last hxm574 hsz575 h, Ext.refl _, ?_⟩)
                      dsimp only [List.set] at hM
                      refine pi_q hf rfl rfl rfl rfl (Ext.refl _) (e_assign hf rfl) fun a hf => ?_
                      refine pi_nil ?_
                      refine then_n ?_
                      refine wp_seq ?_
                      obtain ⟨x578, h579, h⟩ := bind_some h
                      refine seq_join (fun a w => ∃ (t576 : Bool), t576 = x578 ∧ Has 66 a [(65, .bool (t576))] ∧ Mem C w [.box b569 [vI (y549.1.Board.Size), vS (y549.1.Board.Premium), vS (y549.1.Board.Cells), vS (y549.1.Mine), vS (y549.1.Theirs), .bool (y549.1.Passed)] 38, .box b492 [vI (y502.1.Board.Size), vS (y502.1.Board.Premium), vS (y502.1.Board.Cells), vS (y502.1.Mine), vS (y502.1.Theirs), .bool (y502.1.Passed)] 38, .box b19 [vI (aP9.Row), vI (aP9.Col), .bool (aP9.Down), vS (aP9.Word)] 35, .box b15 [vI (aB1.Size), vS (aB1.Premium), vS (aB1.Cells)] 23] []) ?_ ?_
                      · refine region_pl ?_
                        refine q_ hf rfl rfl rfl (e_loadA hf (us := [vI (y549.1.Board.Size), vS (y549.1.Board.Premium), vS (y549.1.Board.Cells), vS (y549.1.Mine), vS (y549.1.Theirs), .bool (y549.1.Passed)]) rfl ⟨Tryz.isAgg38, Tryz.sizeOf38⟩ rfl (hM.boxSub (k := 0) (us := [vI (y549.1.Board.Size), vS (y549.1.Board.Premium), vS (y549.1.Board.Cells), vS (y549.1.Mine), vS (y549.1.Theirs), .bool (y549.1.Passed)]) (o := 0) rfl rfl)) fun a hf => ?_
                        refine q_ hf rfl rfl rfl (e_loadA hf (us := [vI (y502.1.Board.Size), vS (y502.1.Board.Premium), vS (y502.1.Board.Cells), vS (y502.1.Mine), vS (y502.1.Theirs), .bool (y502.1.Passed)]) rfl ⟨Tryz.isAgg38, Tryz.sizeOf38⟩ rfl (hM.boxSub (k := 1) (us := [vI (y502.1.Board.Size), vS (y502.1.Board.Premium), vS (y502.1.Board.Cells), vS (y502.1.Mine), vS (y502.1.Theirs), .bool (y502.1.Passed)]) (o := 0) rfl rfl)) fun a hf => ?_
                        obtain ⟨y580, hz581, h579⟩ := bind_some h579
                        refine pl_l hf rfl rfl rfl (w_call hf Tryz.call20 rfl (r_laws_eqEnd ⟨_, Sh C _ _, none_, hM.sh_lt, none_not, C.G, hM.g_lt, g_none, hM.tabs⟩ y549.1 hv560 hv561 hv562 hv563 hv564 y502.1 hv504 hv505 hv506 hv507 hv508 _ hz581) ?_)
                        rintro _ w582 ⟨rfl, hM2⟩
                        obtain ⟨hM, hx583, hup584⟩ := hM.back hM2
                        dsimp only [List.cons_append, List.nil_append] at hM hup584
                        clear hM2
                        refine ⟨_, rfl, fun a hf => ?_⟩
                        refine q_ hf rfl rfl rfl (e_not hf rfl) fun a hf => ?_
                        refine q_ hf rfl rfl rfl (e_move hf rfl) fun a hf => ?_
                        rcases cond_some h579 with ⟨hc585, h579⟩ | ⟨hc585, h579⟩
                        · refine pl_gs (wanted_f hf rfl rfl rfl rfl hc585) hf rfl rfl fun a hf => ?_
                          refine pl_gs (wanted_f hf rfl rfl rfl rfl hc585) hf rfl rfl fun a hf => ?_
                          refine pl_gs (wanted_f hf rfl rfl rfl rfl hc585) hf rfl rfl fun a hf => ?_
                          refine q_ hf rfl rfl rfl (e_pick_t hf rfl hc585 rfl) fun a hf => ?_
                          refine pl_nil ?_
                          obtain rfl := some_inj h579
                          refine then_n ?_
                          exact ⟨true, rfl, hf.keep ⟨rfl, trivial⟩, hM.pick [] rfl⟩
                        · refine gq (wanted_t hf rfl rfl rfl rfl hc585) hf rfl rfl (e_move hf rfl) fun a hf => ?_
                          refine gq (wanted_t hf rfl rfl rfl rfl hc585) hf rfl rfl (e_move hf rfl) fun a hf => ?_
                          refine gq (wanted_t hf rfl rfl rfl rfl hc585) hf rfl rfl (e_ne hf (x := y549.2) (y := y502.2) rfl rfl) fun a hf => ?_
                          refine q_ hf rfl rfl rfl (e_pick_f hf rfl hc585 rfl) fun a hf => ?_
                          refine pl_nil ?_
                          obtain rfl := some_inj h579
                          refine then_n ?_
                          exact ⟨(y549.2 != y502.2), rfl, hf.keep ⟨rfl, trivial⟩, hM.pick [] rfl⟩
                      · rintro a w588 ⟨t576, rfl, hf, hM⟩
                        try dsimp only at h
                        rcases cond_some h with ⟨hc589, h⟩ | ⟨hc589, h⟩
                        · refine cond_t hf rfl hc589 ?_
                          refine wp_seq ?_
                          refine region_pl ?_
                          refine q_ hf rfl rfl rfl (e_assign hf rfl) fun a hf => ?_
                          refine pl_nil ?_
                          refine then_n ?_
                          refine wp_ret ?_
                          refine then_r ?_
                          obtain rfl := some_inj h
                          have hM := hM.outs (own' := []) 0 rfl
                          exact leave1 hf rfl rfl ⟨rfl, hM.fin⟩
                        · refine cond_f hf rfl hc589 ?_
                          refine wp_skip ?_
                          refine then_n ?_
                          refine wp_seq ?_
                          refine region_pl ?_
                          refine q_ hf rfl rfl rfl (e_assign hf rfl) fun a hf => ?_
                          refine pl_nil ?_
                          refine then_n ?_
                          refine wp_ret ?_
                          obtain rfl := some_inj h
                          have hM := hM.outs (own' := []) 0 rfl
                          exact leave1 hf rfl rfl ⟨rfl, hM.fin⟩
                    · refine pi_l hf rfl rfl rfl rfl (w_allocM hM (cs := [vI (0), vS (([] : Str)), vS (([] : Str)), vS (([] : Str)), vS (([] : Str)), .bool (false)]) Tryz.zeroValue38 rfl fun b590 w591 hx592 hn593 hM => ⟨ExtM [some b590] w591, fun _ h => ExtM.grow hx592 hn593 h, ExtM.refl _ _, fun a hf => ?_⟩)
                      refine pi_one ?_
                      refine pi_l hf rfl rfl rfl rfl (w_call hf Tryz.call19 rfl (r_impl_EndAfter ⟨_, Sh C _ _, none_, hM.sh_lt, none_not, C.G, hM.g_lt, g_none, hM.tabs⟩ y517 hv529 hv530 hv531 aMine5 hp6 aUnseen7 hp8 y535 hv543 hv544 hv545 aTile13 hp14 _ hz550) ?_)
                      rintro _ w600 ⟨rfl, hM2, hv594, hv595, hv596, hv597, hv598, hv599⟩
                      obtain ⟨hM, hx601, hup602⟩ := hM.back hM2
                      dsimp only [List.cons_append, List.nil_append] at hM hup602
                      clear hM2
                      refine ⟨_, rfl, ExtM [some b590] w600, fun _ h => ExtM.trans hx601 h, ExtM.refl _ _, fun a hf => ?_⟩
                      refine pi_q hf rfl rfl rfl rfl (ExtM.refl _ _) (e_move hf rfl) fun a hf => ?_
                      refine pi_q hf rfl rfl rfl rfl (ExtM.refl _ _) (e_extract hf rfl rfl) fun a hf => ?_
                      refine pi_q hf rfl rfl rfl rfl (ExtM.refl _ _) (e_extract hf rfl rfl) fun a hf => ?_
                      refine pi_one ?_
                      refine pi_l0 hf rfl rfl rfl (w_storeM hf (List.mem_of_getElem? (i := 0) rfl) hM (us := [vI (y549.1.Board.Size), vS (y549.1.Board.Premium), vS (y549.1.Board.Cells), vS (y549.1.Mine), vS (y549.1.Theirs), .bool (y549.1.Passed)]) (cs' := [vI (y549.1.Board.Size), vS (y549.1.Board.Premium), vS (y549.1.Board.Cells), vS (y549.1.Mine), vS (y549.1.Theirs), .bool (y549.1.Passed)]) rfl rfl (k := 0) rfl rfl Tryz.sizeOf38 rfl rfl rfl fun w603 hxm604 hsz605 hM => ⟨Ext w603, fun _ h => ExtM.last hxm604 hsz605 h, Ext.refl _, ?_⟩)
                      dsimp only [List.set] at hM
                      refine pi_q hf rfl rfl rfl rfl (Ext.refl _) (e_assign hf rfl) fun a hf => ?_
                      refine pi_nil ?_
                      refine then_n ?_
                      refine wp_seq ?_
                      obtain ⟨x608, h609, h⟩ := bind_some h
                      refine seq_join (fun a w => ∃ (t606 : Bool), t606 = x608 ∧ Has 66 a [(65, .bool (t606))] ∧ Mem C w [.box b590 [vI (y549.1.Board.Size), vS (y549.1.Board.Premium), vS (y549.1.Board.Cells), vS (y549.1.Mine), vS (y549.1.Theirs), .bool (y549.1.Passed)] 38, .box b492 [vI (y502.1.Board.Size), vS (y502.1.Board.Premium), vS (y502.1.Board.Cells), vS (y502.1.Mine), vS (y502.1.Theirs), .bool (y502.1.Passed)] 38, .box b19 [vI (aP9.Row), vI (aP9.Col), .bool (aP9.Down), vS (aP9.Word)] 35, .box b15 [vI (aB1.Size), vS (aB1.Premium), vS (aB1.Cells)] 23] []) ?_ ?_
                      · refine region_pl ?_
                        refine q_ hf rfl rfl rfl (e_loadA hf (us := [vI (y549.1.Board.Size), vS (y549.1.Board.Premium), vS (y549.1.Board.Cells), vS (y549.1.Mine), vS (y549.1.Theirs), .bool (y549.1.Passed)]) rfl ⟨Tryz.isAgg38, Tryz.sizeOf38⟩ rfl (hM.boxSub (k := 0) (us := [vI (y549.1.Board.Size), vS (y549.1.Board.Premium), vS (y549.1.Board.Cells), vS (y549.1.Mine), vS (y549.1.Theirs), .bool (y549.1.Passed)]) (o := 0) rfl rfl)) fun a hf => ?_
                        refine q_ hf rfl rfl rfl (e_loadA hf (us := [vI (y502.1.Board.Size), vS (y502.1.Board.Premium), vS (y502.1.Board.Cells), vS (y502.1.Mine), vS (y502.1.Theirs), .bool (y502.1.Passed)]) rfl ⟨Tryz.isAgg38, Tryz.sizeOf38⟩ rfl (hM.boxSub (k := 1) (us := [vI (y502.1.Board.Size), vS (y502.1.Board.Premium), vS (y502.1.Board.Cells), vS (y502.1.Mine), vS (y502.1.Theirs), .bool (y502.1.Passed)]) (o := 0) rfl rfl)) fun a hf => ?_
                        obtain ⟨y610, hz611, h609⟩ := bind_some h609
                        refine pl_l hf rfl rfl rfl (w_call hf Tryz.call20 rfl (r_laws_eqEnd ⟨_, Sh C _ _, none_, hM.sh_lt, none_not, C.G, hM.g_lt, g_none, hM.tabs⟩ y549.1 hv594 hv595 hv596 hv597 hv598 y502.1 hv504 hv505 hv506 hv507 hv508 _ hz611) ?_)
                        rintro _ w612 ⟨rfl, hM2⟩
                        obtain ⟨hM, hx613, hup614⟩ := hM.back hM2
                        dsimp only [List.cons_append, List.nil_append] at hM hup614
                        clear hM2
                        refine ⟨_, rfl, fun a hf => ?_⟩
                        refine q_ hf rfl rfl rfl (e_not hf rfl) fun a hf => ?_
                        refine q_ hf rfl rfl rfl (e_move hf rfl) fun a hf => ?_
                        rcases cond_some h609 with ⟨hc615, h609⟩ | ⟨hc615, h609⟩
                        · refine pl_gs (wanted_f hf rfl rfl rfl rfl hc615) hf rfl rfl fun a hf => ?_
                          refine pl_gs (wanted_f hf rfl rfl rfl rfl hc615) hf rfl rfl fun a hf => ?_
                          refine pl_gs (wanted_f hf rfl rfl rfl rfl hc615) hf rfl rfl fun a hf => ?_
                          refine q_ hf rfl rfl rfl (e_pick_t hf rfl hc615 rfl) fun a hf => ?_
                          refine pl_nil ?_
                          obtain rfl := some_inj h609
                          refine then_n ?_
                          exact ⟨true, rfl, hf.keep ⟨rfl, trivial⟩, hM.pick [] rfl⟩
                        · refine gq (wanted_t hf rfl rfl rfl rfl hc615) hf rfl rfl (e_move hf rfl) fun a hf => ?_
                          refine gq (wanted_t hf rfl rfl rfl rfl hc615) hf rfl rfl (e_move hf rfl) fun a hf => ?_
                          refine gq (wanted_t hf rfl rfl rfl rfl hc615) hf rfl rfl (e_ne hf (x := y549.2) (y := y502.2) rfl rfl) fun a hf => ?_
                          refine q_ hf rfl rfl rfl (e_pick_f hf rfl hc615 rfl) fun a hf => ?_
                          refine pl_nil ?_
                          obtain rfl := some_inj h609
                          refine then_n ?_
                          exact ⟨(y549.2 != y502.2), rfl, hf.keep ⟨rfl, trivial⟩, hM.pick [] rfl⟩
                      · rintro a w618 ⟨t606, rfl, hf, hM⟩
                        try dsimp only at h
                        rcases cond_some h with ⟨hc619, h⟩ | ⟨hc619, h⟩
                        · refine cond_t hf rfl hc619 ?_
                          refine wp_seq ?_
                          refine region_pl ?_
                          refine q_ hf rfl rfl rfl (e_assign hf rfl) fun a hf => ?_
                          refine pl_nil ?_
                          refine then_n ?_
                          refine wp_ret ?_
                          refine then_r ?_
                          obtain rfl := some_inj h
                          have hM := hM.outs (own' := []) 0 rfl
                          exact leave1 hf rfl rfl ⟨rfl, hM.fin⟩
                        · refine cond_f hf rfl hc619 ?_
                          refine wp_skip ?_
                          refine then_n ?_
                          refine wp_seq ?_
                          refine region_pl ?_
                          refine q_ hf rfl rfl rfl (e_assign hf rfl) fun a hf => ?_
                          refine pl_nil ?_
                          refine then_n ?_
                          refine wp_ret ?_
                          obtain rfl := some_inj h
                          have hM := hM.outs (own' := []) 0 rfl
                          exact leave1 hf rfl rfl ⟨rfl, hM.fin⟩
                  · refine pi_l hf rfl rfl rfl rfl (w_allocM hM (cs := [vI (0), vS (([] : Str)), vS (([] : Str)), vS (([] : Str)), vS (([] : Str)), .bool (false)]) Tryz.zeroValue38 rfl fun b620 w621 hx622 hn623 hM => ⟨ExtM [some b620] w621, fun _ h => ExtM.grow hx622 hn623 h, ExtM.refl _ _, fun a hf => ?_⟩)
                    refine pi_one ?_
                    refine pi_l hf rfl rfl rfl rfl (w_call hf Tryz.call18 rfl (r_laws_toPlay ⟨_, Sh C _ _, none_, hM.sh_lt, none_not, C.G, hM.g_lt, g_none, hM.tabs⟩ aP9 hp10 hp11 hp12 _ hz536) ?_)
                    rintro _ w627 ⟨rfl, hM2, hv624, hv625, hv626⟩
                    obtain ⟨hM, hx628, hup629⟩ := hM.back hM2
                    dsimp only [List.cons_append, List.nil_append] at hM hup629
                    clear hM2
                    refine ⟨_, rfl, ExtM [some b620] w627, fun _ h => ExtM.trans hx628 h, ExtM.refl _ _, fun a hf => ?_⟩
                    refine pi_one ?_
                    obtain ⟨y630, hz631, h⟩ := bind_some h
                    refine pi_l hf rfl rfl rfl rfl (w_call hf Tryz.call19 rfl (r_impl_EndAfter ⟨_, Sh C _ _, none_, hM.sh_lt, none_not, C.G, hM.g_lt, g_none, hM.tabs⟩ y517 hv529 hv530 hv531 aMine5 hp6 aUnseen7 hp8 y535 hv624 hv625 hv626 aTile13 hp14 _ hz631) ?_)
                    rintro _ w638 ⟨rfl, hM2, hv632, hv633, hv634, hv635, hv636, hv637⟩
                    obtain ⟨hM, hx639, hup640⟩ := hM.back hM2
                    dsimp only [List.cons_append, List.nil_append] at hM hup640
                    clear hM2
                    refine ⟨_, rfl, ExtM [some b620] w638, fun _ h => ExtM.trans hx639 h, ExtM.refl _ _, fun a hf => ?_⟩
                    refine pi_q hf rfl rfl rfl rfl (ExtM.refl _ _) (e_move hf rfl) fun a hf => ?_
                    refine pi_q hf rfl rfl rfl rfl (ExtM.refl _ _) (e_extract hf rfl rfl) fun a hf => ?_
                    refine pi_q hf rfl rfl rfl rfl (ExtM.refl _ _) (e_extract hf rfl rfl) fun a hf => ?_
                    refine pi_one ?_
                    refine pi_l0 hf rfl rfl rfl (w_storeM hf (List.mem_of_getElem? (i := 0) rfl) hM (us := [vI (y630.1.Board.Size), vS (y630.1.Board.Premium), vS (y630.1.Board.Cells), vS (y630.1.Mine), vS (y630.1.Theirs), .bool (y630.1.Passed)]) (cs' := [vI (y630.1.Board.Size), vS (y630.1.Board.Premium), vS (y630.1.Board.Cells), vS (y630.1.Mine), vS (y630.1.Theirs), .bool (y630.1.Passed)]) rfl rfl (k := 0) rfl rfl Tryz.sizeOf38 rfl rfl rfl fun w641 hxm642 hsz643 hM => ⟨Ext w641, fun _ h => ExtM.last hxm642 hsz643 h, Ext.refl _, ?_⟩)
                    dsimp only [List.set] at hM
                    refine pi_q hf rfl rfl rfl rfl (Ext.refl _) (e_assign hf rfl) fun a hf => ?_
                    refine pi_nil ?_
                    refine then_n ?_
                    refine wp_seq ?_
                    obtain ⟨x646, h647, h⟩ := bind_some h
                    refine seq_join (fun a w => ∃ (t644 : Bool), t644 = x646 ∧ Has 66 a [(65, .bool (t644))] ∧ Mem C w [.box b620 [vI (y630.1.Board.Size), vS (y630.1.Board.Premium), vS (y630.1.Board.Cells), vS (y630.1.Mine), vS (y630.1.Theirs), .bool (y630.1.Passed)] 38, .box b492 [vI (y502.1.Board.Size), vS (y502.1.Board.Premium), vS (y502.1.Board.Cells), vS (y502.1.Mine), vS (y502.1.Theirs), .bool (y502.1.Passed)] 38, .box b19 [vI (aP9.Row), vI (aP9.Col), .bool (aP9.Down), vS (aP9.Word)] 35, .box b15 [vI (aB1.Size), vS (aB1.Premium), vS (aB1.Cells)] 23] []) ?_ ?_
                    · refine region_pl ?_
                      refine q_ hf rfl rfl rfl (e_loadA hf (us := [vI (y630.1.Board.Size), vS (y630.1.Board.Premium), vS (y630.1.Board.Cells), vS (y630.1.Mine), vS (y630.1.Theirs), .bool (y630.1.Passed)]) rfl ⟨Tryz.isAgg38, Tryz.sizeOf38⟩ rfl (hM.boxSub (k := 0) (us := [vI (y630.1.Board.Size), vS (y630.1.Board.Premium), vS (y630.1.Board.Cells), vS (y630.1.Mine), vS (y630.1.Theirs), .bool (y630.1.Passed)]) (o := 0) rfl rfl)) fun a hf => ?_
                      refine q_ hf rfl rfl rfl (e_loadA hf (us := [vI (y502.1.Board.Size), vS (y502.1.Board.Premium), vS (y502.1.Board.Cells), vS (y502.1.Mine), vS (y502.1.Theirs), .bool (y502.1.Passed)]) rfl ⟨Tryz.isAgg38, Tryz.sizeOf38⟩ rfl (hM.boxSub (k := 1) (us := [vI (y502.1.Board.Size), vS (y502.1.Board.Premium), vS (y502.1.Board.Cells), vS (y502.1.Mine), vS (y502.1.Theirs), .bool (y502.1.Passed)]) (o := 0) rfl rfl)) fun a hf => ?_
                      obtain ⟨y648, hz649, h647⟩ := bind_some h647
                      refine pl_l hf rfl rfl rfl (w_call hf Tryz.call20 rfl (r_laws_eqEnd ⟨_, Sh C _ _, none_, hM.sh_lt, none_not, C.G, hM.g_lt, g_none, hM.tabs⟩ y630.1 hv632 hv633 hv634 hv635 hv636 y502.1 hv504 hv505 hv506 hv507 hv508 _ hz649) ?_)
                      rintro _ w650 ⟨rfl, hM2⟩
                      obtain ⟨hM, hx651, hup652⟩ := hM.back hM2
                      dsimp only [List.cons_append, List.nil_append] at hM hup652
                      clear hM2
                      refine ⟨_, rfl, fun a hf => ?_⟩
                      refine q_ hf rfl rfl rfl (e_not hf rfl) fun a hf => ?_
                      refine q_ hf rfl rfl rfl (e_move hf rfl) fun a hf => ?_
                      rcases cond_some h647 with ⟨hc653, h647⟩ | ⟨hc653, h647⟩
                      · refine pl_gs (wanted_f hf rfl rfl rfl rfl hc653) hf rfl rfl fun a hf => ?_
                        refine pl_gs (wanted_f hf rfl rfl rfl rfl hc653) hf rfl rfl fun a hf => ?_
                        refine pl_gs (wanted_f hf rfl rfl rfl rfl hc653) hf rfl rfl fun a hf => ?_
                        refine q_ hf rfl rfl rfl (e_pick_t hf rfl hc653 rfl) fun a hf => ?_
                        refine pl_nil ?_
                        obtain rfl := some_inj h647
                        refine then_n ?_
                        exact ⟨true, rfl, hf.keep ⟨rfl, trivial⟩, hM.pick [] rfl⟩
                      · refine gq (wanted_t hf rfl rfl rfl rfl hc653) hf rfl rfl (e_move hf rfl) fun a hf => ?_
                        refine gq (wanted_t hf rfl rfl rfl rfl hc653) hf rfl rfl (e_move hf rfl) fun a hf => ?_
                        refine gq (wanted_t hf rfl rfl rfl rfl hc653) hf rfl rfl (e_ne hf (x := y630.2) (y := y502.2) rfl rfl) fun a hf => ?_
                        refine q_ hf rfl rfl rfl (e_pick_f hf rfl hc653 rfl) fun a hf => ?_
                        refine pl_nil ?_
                        obtain rfl := some_inj h647
                        refine then_n ?_
                        exact ⟨(y630.2 != y502.2), rfl, hf.keep ⟨rfl, trivial⟩, hM.pick [] rfl⟩
                    · rintro a w656 ⟨t644, rfl, hf, hM⟩
                      try dsimp only at h
                      rcases cond_some h with ⟨hc657, h⟩ | ⟨hc657, h⟩
                      · refine cond_t hf rfl hc657 ?_
                        refine wp_seq ?_
                        refine region_pl ?_
                        refine q_ hf rfl rfl rfl (e_assign hf rfl) fun a hf => ?_
                        refine pl_nil ?_
                        refine then_n ?_
                        refine wp_ret ?_
                        refine then_r ?_
                        obtain rfl := some_inj h
                        have hM := hM.outs (own' := []) 0 rfl
                        exact leave1 hf rfl rfl ⟨rfl, hM.fin⟩
                      · refine cond_f hf rfl hc657 ?_
                        refine wp_skip ?_
                        refine then_n ?_
                        refine wp_seq ?_
                        refine region_pl ?_
                        refine q_ hf rfl rfl rfl (e_assign hf rfl) fun a hf => ?_
                        refine pl_nil ?_
                        refine then_n ?_
                        refine wp_ret ?_
                        obtain rfl := some_inj h
                        have hM := hM.outs (own' := []) 0 rfl
                        exact leave1 hf rfl rfl ⟨rfl, hM.fin⟩
                · refine pi_l hf rfl rfl rfl rfl (w_allocM hM (cs := [vI (0), vS (([] : Str)), vS (([] : Str)), vS (([] : Str)), vS (([] : Str)), .bool (false)]) Tryz.zeroValue38 rfl fun b658 w659 hx660 hn661 hM => ⟨ExtM [some b658] w659, fun _ h => ExtM.grow hx660 hn661 h, ExtM.refl _ _, fun a hf => ?_⟩)
                  refine pi_one ?_
                  refine pi_l hf rfl rfl rfl rfl (w_call hf Tryz.call12 rfl (r_laws_toBoard ⟨_, Sh C _ _, none_, hM.sh_lt, none_not, C.G, hM.g_lt, g_none, hM.tabs⟩ aB1 hp2 hp3 hp4 _ hz518) ?_)
                  rintro _ w665 ⟨rfl, hM2, hv662, hv663, hv664⟩
                  obtain ⟨hM, hx666, hup667⟩ := hM.back hM2
                  dsimp only [List.cons_append, List.nil_append] at hM hup667
                  clear hM2
                  refine ⟨_, rfl, ExtM [some b658] w665, fun _ h => ExtM.trans hx666 h, ExtM.refl _ _, fun a hf => ?_⟩
                  refine pi_one ?_
                  obtain ⟨y668, hz669, h⟩ := bind_some h
                  refine pi_l hf rfl rfl rfl rfl (w_call hf Tryz.call18 rfl (r_laws_toPlay ⟨_, Sh C _ _, none_, hM.sh_lt, none_not, C.G, hM.g_lt, g_none, hM.tabs⟩ aP9 hp10 hp11 hp12 _ hz669) ?_)
                  rintro _ w673 ⟨rfl, hM2, hv670, hv671, hv672⟩
                  obtain ⟨hM, hx674, hup675⟩ := hM.back hM2
                  dsimp only [List.cons_append, List.nil_append] at hM hup675
                  clear hM2
                  refine ⟨_, rfl, ExtM [some b658] w673, fun _ h => ExtM.trans hx674 h, ExtM.refl _ _, fun a hf => ?_⟩
                  refine pi_one ?_
                  obtain ⟨y676, hz677, h⟩ := bind_some h
                  refine pi_l hf rfl rfl rfl rfl (w_call hf Tryz.call19 rfl (r_impl_EndAfter ⟨_, Sh C _ _, none_, hM.sh_lt, none_not, C.G, hM.g_lt, g_none, hM.tabs⟩ y517 hv662 hv663 hv664 aMine5 hp6 aUnseen7 hp8 y668 hv670 hv671 hv672 aTile13 hp14 _ hz677) ?_)
                  rintro _ w684 ⟨rfl, hM2, hv678, hv679, hv680, hv681, hv682, hv683⟩
                  obtain ⟨hM, hx685, hup686⟩ := hM.back hM2
                  dsimp only [List.cons_append, List.nil_append] at hM hup686
                  clear hM2
                  refine ⟨_, rfl, ExtM [some b658] w684, fun _ h => ExtM.trans hx685 h, ExtM.refl _ _, fun a hf => ?_⟩
                  refine pi_q hf rfl rfl rfl rfl (ExtM.refl _ _) (e_move hf rfl) fun a hf => ?_
                  refine pi_q hf rfl rfl rfl rfl (ExtM.refl _ _) (e_extract hf rfl rfl) fun a hf => ?_
                  refine pi_q hf rfl rfl rfl rfl (ExtM.refl _ _) (e_extract hf rfl rfl) fun a hf => ?_
                  refine pi_one ?_
                  refine pi_l0 hf rfl rfl rfl (w_storeM hf (List.mem_of_getElem? (i := 0) rfl) hM (us := [vI (y676.1.Board.Size), vS (y676.1.Board.Premium), vS (y676.1.Board.Cells), vS (y676.1.Mine), vS (y676.1.Theirs), .bool (y676.1.Passed)]) (cs' := [vI (y676.1.Board.Size), vS (y676.1.Board.Premium), vS (y676.1.Board.Cells), vS (y676.1.Mine), vS (y676.1.Theirs), .bool (y676.1.Passed)]) rfl rfl (k := 0) rfl rfl Tryz.sizeOf38 rfl rfl rfl fun w687 hxm688 hsz689 hM => ⟨Ext w687, fun _ h => ExtM.last hxm688 hsz689 h, Ext.refl _, ?_⟩)
                  dsimp only [List.set] at hM
                  refine pi_q hf rfl rfl rfl rfl (Ext.refl _) (e_assign hf rfl) fun a hf => ?_
                  refine pi_nil ?_
                  refine then_n ?_
                  refine wp_seq ?_
                  obtain ⟨x692, h693, h⟩ := bind_some h
                  refine seq_join (fun a w => ∃ (t690 : Bool), t690 = x692 ∧ Has 66 a [(65, .bool (t690))] ∧ Mem C w [.box b658 [vI (y676.1.Board.Size), vS (y676.1.Board.Premium), vS (y676.1.Board.Cells), vS (y676.1.Mine), vS (y676.1.Theirs), .bool (y676.1.Passed)] 38, .box b492 [vI (y502.1.Board.Size), vS (y502.1.Board.Premium), vS (y502.1.Board.Cells), vS (y502.1.Mine), vS (y502.1.Theirs), .bool (y502.1.Passed)] 38, .box b19 [vI (aP9.Row), vI (aP9.Col), .bool (aP9.Down), vS (aP9.Word)] 35, .box b15 [vI (aB1.Size), vS (aB1.Premium), vS (aB1.Cells)] 23] []) ?_ ?_
                  · refine region_pl ?_
                    refine q_ hf rfl rfl rfl (e_loadA hf (us := [vI (y676.1.Board.Size), vS (y676.1.Board.Premium), vS (y676.1.Board.Cells), vS (y676.1.Mine), vS (y676.1.Theirs), .bool (y676.1.Passed)]) rfl ⟨Tryz.isAgg38, Tryz.sizeOf38⟩ rfl (hM.boxSub (k := 0) (us := [vI (y676.1.Board.Size), vS (y676.1.Board.Premium), vS (y676.1.Board.Cells), vS (y676.1.Mine), vS (y676.1.Theirs), .bool (y676.1.Passed)]) (o := 0) rfl rfl)) fun a hf => ?_
                    refine q_ hf rfl rfl rfl (e_loadA hf (us := [vI (y502.1.Board.Size), vS (y502.1.Board.Premium), vS (y502.1.Board.Cells), vS (y502.1.Mine), vS (y502.1.Theirs), .bool (y502.1.Passed)]) rfl ⟨Tryz.isAgg38, Tryz.sizeOf38⟩ rfl (hM.boxSub (k := 1) (us := [vI (y502.1.Board.Size), vS (y502.1.Board.Premium), vS (y502.1.Board.Cells), vS (y502.1.Mine), vS (y502.1.Theirs), .bool (y502.1.Passed)]) (o := 0) rfl rfl)) fun a hf => ?_
                    obtain ⟨y694, hz695, h693⟩ := bind_some h693
                    refine pl_l hf rfl rfl rfl (w_call hf Tryz.call20 rfl (r_laws_eqEnd ⟨_, Sh C _ _, none_, hM.sh_lt, none_not, C.G, hM.g_lt, g_none, hM.tabs⟩ y676.1 hv678 hv679 hv680 hv681 hv682 y502.1 hv504 hv505 hv506 hv507 hv508 _ hz695) ?_)
                    rintro _ w696 ⟨rfl, hM2⟩
                    obtain ⟨hM, hx697, hup698⟩ := hM.back hM2
                    dsimp only [List.cons_append, List.nil_append] at hM hup698
                    clear hM2
                    refine ⟨_, rfl, fun a hf => ?_⟩
                    refine q_ hf rfl rfl rfl (e_not hf rfl) fun a hf => ?_
                    refine q_ hf rfl rfl rfl (e_move hf rfl) fun a hf => ?_
                    rcases cond_some h693 with ⟨hc699, h693⟩ | ⟨hc699, h693⟩
                    · refine pl_gs (wanted_f hf rfl rfl rfl rfl hc699) hf rfl rfl fun a hf => ?_
                      refine pl_gs (wanted_f hf rfl rfl rfl rfl hc699) hf rfl rfl fun a hf => ?_
                      refine pl_gs (wanted_f hf rfl rfl rfl rfl hc699) hf rfl rfl fun a hf => ?_
                      refine q_ hf rfl rfl rfl (e_pick_t hf rfl hc699 rfl) fun a hf => ?_
                      refine pl_nil ?_
                      obtain rfl := some_inj h693
                      refine then_n ?_
                      exact ⟨true, rfl, hf.keep ⟨rfl, trivial⟩, hM.pick [] rfl⟩
                    · refine gq (wanted_t hf rfl rfl rfl rfl hc699) hf rfl rfl (e_move hf rfl) fun a hf => ?_
                      refine gq (wanted_t hf rfl rfl rfl rfl hc699) hf rfl rfl (e_move hf rfl) fun a hf => ?_
                      refine gq (wanted_t hf rfl rfl rfl rfl hc699) hf rfl rfl (e_ne hf (x := y676.2) (y := y502.2) rfl rfl) fun a hf => ?_
                      refine q_ hf rfl rfl rfl (e_pick_f hf rfl hc699 rfl) fun a hf => ?_
                      refine pl_nil ?_
                      obtain rfl := some_inj h693
                      refine then_n ?_
                      exact ⟨(y676.2 != y502.2), rfl, hf.keep ⟨rfl, trivial⟩, hM.pick [] rfl⟩
                  · rintro a w702 ⟨t690, rfl, hf, hM⟩
                    try dsimp only at h
                    rcases cond_some h with ⟨hc703, h⟩ | ⟨hc703, h⟩
                    · refine cond_t hf rfl hc703 ?_
                      refine wp_seq ?_
                      refine region_pl ?_
                      refine q_ hf rfl rfl rfl (e_assign hf rfl) fun a hf => ?_
                      refine pl_nil ?_
                      refine then_n ?_
                      refine wp_ret ?_
                      refine then_r ?_
                      obtain rfl := some_inj h
                      have hM := hM.outs (own' := []) 0 rfl
                      exact leave1 hf rfl rfl ⟨rfl, hM.fin⟩
                    · refine cond_f hf rfl hc703 ?_
                      refine wp_skip ?_
                      refine then_n ?_
                      refine wp_seq ?_
                      refine region_pl ?_
                      refine q_ hf rfl rfl rfl (e_assign hf rfl) fun a hf => ?_
                      refine pl_nil ?_
                      refine then_n ?_
                      refine wp_ret ?_
                      obtain rfl := some_inj h
                      have hM := hM.outs (own' := []) 0 rfl
                      exact leave1 hf rfl rfl ⟨rfl, hM.fin⟩
            · refine pi_l hf rfl rfl rfl rfl (w_allocM hM (cs := [vI (0), vS (([] : Str)), vS (([] : Str)), vS (([] : Str)), vS (([] : Str)), .bool (false)]) Tryz.zeroValue38 rfl fun b704 w705 hx706 hn707 hM => ⟨ExtM [some b704] w705, fun _ h => ExtM.grow hx706 hn707 h, ExtM.refl _ _, fun a hf => ?_⟩)
              refine pi_one ?_
              refine pi_l hf rfl rfl rfl rfl (w_call hf Tryz.call12 rfl (r_laws_toBoard ⟨_, Sh C _ _, none_, hM.sh_lt, none_not, C.G, hM.g_lt, g_none, hM.tabs⟩ aB1 hp2 hp3 hp4 _ hz42) ?_)
              rintro _ w711 ⟨rfl, hM2, hv708, hv709, hv710⟩
              obtain ⟨hM, hx712, hup713⟩ := hM.back hM2
              dsimp only [List.cons_append, List.nil_append] at hM hup713
              clear hM2
              refine ⟨_, rfl, ExtM [some b704] w711, fun _ h => ExtM.trans hx712 h, ExtM.refl _ _, fun a hf => ?_⟩
              refine pi_one ?_
              obtain ⟨y714, hz715, h⟩ := bind_some h
              refine pi_l hf rfl rfl rfl rfl (w_call hf Tryz.call18 rfl (r_laws_toPlay ⟨_, Sh C _ _, none_, hM.sh_lt, none_not, C.G, hM.g_lt, g_none, hM.tabs⟩ aP9 hp10 hp11 hp12 _ hz715) ?_)
              rintro _ w719 ⟨rfl, hM2, hv716, hv717, hv718⟩
              obtain ⟨hM, hx720, hup721⟩ := hM.back hM2
              dsimp only [List.cons_append, List.nil_append] at hM hup721
              clear hM2
              refine ⟨_, rfl, ExtM [some b704] w719, fun _ h => ExtM.trans hx720 h, ExtM.refl _ _, fun a hf => ?_⟩
              refine pi_one ?_
              obtain ⟨y722, hz723, h⟩ := bind_some h
              refine pi_l hf rfl rfl rfl rfl (w_call hf Tryz.call17 rfl (r_spec_EndAfter ⟨_, Sh C _ _, none_, hM.sh_lt, none_not, C.G, hM.g_lt, g_none, hM.tabs⟩ y41 hv708 hv709 hv710 aMine5 hp6 aUnseen7 hp8 y714 hv716 hv717 hv718 aTile13 hp14 _ hz723) ?_)
              rintro _ w730 ⟨rfl, hM2, hv724, hv725, hv726, hv727, hv728, hv729⟩
              obtain ⟨hM, hx731, hup732⟩ := hM.back hM2
              dsimp only [List.cons_append, List.nil_append] at hM hup732
              clear hM2
              refine ⟨_, rfl, ExtM [some b704] w730, fun _ h => ExtM.trans hx731 h, ExtM.refl _ _, fun a hf => ?_⟩
              refine pi_q hf rfl rfl rfl rfl (ExtM.refl _ _) (e_move hf rfl) fun a hf => ?_
              refine pi_q hf rfl rfl rfl rfl (ExtM.refl _ _) (e_extract hf rfl rfl) fun a hf => ?_
              refine pi_q hf rfl rfl rfl rfl (ExtM.refl _ _) (e_extract hf rfl rfl) fun a hf => ?_
              refine pi_one ?_
              refine pi_l0 hf rfl rfl rfl (w_storeM hf (List.mem_of_getElem? (i := 0) rfl) hM (us := [vI (y722.1.Board.Size), vS (y722.1.Board.Premium), vS (y722.1.Board.Cells), vS (y722.1.Mine), vS (y722.1.Theirs), .bool (y722.1.Passed)]) (cs' := [vI (y722.1.Board.Size), vS (y722.1.Board.Premium), vS (y722.1.Board.Cells), vS (y722.1.Mine), vS (y722.1.Theirs), .bool (y722.1.Passed)]) rfl rfl (k := 0) rfl rfl Tryz.sizeOf38 rfl rfl rfl fun w733 hxm734 hsz735 hM => ⟨Ext w733, fun _ h => ExtM.last hxm734 hsz735 h, Ext.refl _, ?_⟩)
              dsimp only [List.set] at hM
              refine pi_q hf rfl rfl rfl rfl (Ext.refl _) (e_assign hf rfl) fun a hf => ?_
              refine pi_nil ?_
              refine then_n ?_
              refine wp_seq ?_
              obtain ⟨w736, hw⟩ : ∃ x, x = w733.drew := ⟨_, rfl⟩
              refine region_pi (.q 0 (.q 2 (.q 3 (.q 4 (.q 6 (.b 1 11 (.b 5 11 (.b 7 11 (.q 8 (.q 9 (.q 10 (.l 11 (.l 12 (.q 13 (.nil))))))) (.l 7 (.q 8 (.q 9 (.q 10 (.l 12 (.q 13 (.nil)))))))) (.l 5 (.l 7 (.q 8 (.q 9 (.q 10 (.l 12 (.q 13 (.nil))))))))) (.l 1 (.l 5 (.l 7 (.q 8 (.q 9 (.q 10 (.l 12 (.q 13 (.nil))))))))))))))) (ExtM [] w736) rfl (by kernel_rfl) ?_
              have hM := hM.drew
              rw [← hw] at hM ⊢
              clear hw
              refine pi_q hf rfl rfl rfl rfl (ExtM.refl _ _) (e_loadAM hf (us := [vI (aB1.Size), vS (aB1.Premium), vS (aB1.Cells)]) rfl ⟨Tryz.isAgg23, Tryz.sizeOf23⟩ rfl (hM.boxSub (k := 2) (us := [vI (aB1.Size), vS (aB1.Premium), vS (aB1.Cells)]) (o := 0) rfl rfl) (hM.apart (js := []) rfl (k := 2) rfl rfl rfl)) fun a hf => ?_
              refine pi_q hf rfl rfl rfl rfl (ExtM.refl _ _) (e_move hf rfl) fun a hf => ?_
              refine pi_q hf rfl rfl rfl rfl (ExtM.refl _ _) (e_move hf rfl) fun a hf => ?_
              refine pi_q hf rfl rfl rfl rfl (ExtM.refl _ _) (e_loadAM hf (us := [vI (aP9.Row), vI (aP9.Col), .bool (aP9.Down), vS (aP9.Word)]) rfl ⟨Tryz.isAgg35, Tryz.sizeOf35⟩ rfl (hM.boxSub (k := 1) (us := [vI (aP9.Row), vI (aP9.Col), .bool (aP9.Down), vS (aP9.Word)]) (o := 0) rfl rfl) (hM.apart (js := []) rfl (k := 1) rfl rfl rfl)) fun a hf => ?_
              refine pi_q hf rfl rfl rfl rfl (ExtM.refl _ _) (e_move hf rfl) fun a hf => ?_
              obtain ⟨y737, hz738, h⟩ := bind_some h
              refine pi_two ?_ ?_
              · refine pi_l hf rfl rfl rfl rfl (w_call hf Tryz.call12 rfl (r_laws_toBoard ⟨_, Sh C _ _, none_, hM.sh_lt, none_not, C.G, hM.g_lt, g_none, hM.tabs⟩ aB1 hp2 hp3 hp4 _ hz738) ?_)
                rintro _ w752 ⟨rfl, hM2, hv749, hv750, hv751⟩
                obtain ⟨hM, hx753, hup754⟩ := hM.back hM2
                dsimp only [List.cons_append, List.nil_append] at hM hup754
                clear hM2
                refine ⟨_, rfl, ExtM [] w752, fun _ h => ExtM.trans hx753 h, ExtM.refl _ _, fun a hf => ?_⟩
                obtain ⟨y755, hz756, h⟩ := bind_some h
                refine pi_two ?_ ?_
                · refine pi_l hf rfl rfl rfl rfl (w_call hf Tryz.call18 rfl (r_laws_toPlay ⟨_, Sh C _ _, none_, hM.sh_lt, none_not, C.G, hM.g_lt, g_none, hM.tabs⟩ aP9 hp10 hp11 hp12 _ hz756) ?_)
                  rintro _ w766 ⟨rfl, hM2, hv763, hv764, hv765⟩
                  obtain ⟨hM, hx767, hup768⟩ := hM.back hM2
                  dsimp only [List.cons_append, List.nil_append] at hM hup768
                  clear hM2
                  refine ⟨_, rfl, ExtM [] w766, fun _ h => ExtM.trans hx767 h, ExtM.refl _ _, fun a hf => ?_⟩
                  obtain ⟨y769, hz770, h⟩ := bind_some h
                  refine pi_two ?_ ?_
                  · refine pi_l hf rfl rfl rfl rfl (w_call hf Tryz.call19 rfl (r_impl_EndAfter ⟨_, Sh C _ _, none_, hM.sh_lt, none_not, C.G, hM.g_lt, g_none, hM.tabs⟩ y737 hv749 hv750 hv751 aMine5 hp6 aUnseen7 hp8 y755 hv763 hv764 hv765 aTile13 hp14 _ hz770) ?_)
                    rintro _ w786 ⟨rfl, hM2, hv780, hv781, hv782, hv783, hv784, hv785⟩
                    obtain ⟨hM, hx787, hup788⟩ := hM.back hM2
                    dsimp only [List.cons_append, List.nil_append] at hM hup788
                    clear hM2
                    refine ⟨_, rfl, ExtM [] w786, fun _ h => ExtM.trans hx787 h, ExtM.refl _ _, fun a hf => ?_⟩
                    refine pi_q hf rfl rfl rfl rfl (ExtM.refl _ _) (e_move hf rfl) fun a hf => ?_
                    refine pi_q hf rfl rfl rfl rfl (ExtM.refl _ _) (e_extract hf rfl rfl) fun a hf => ?_
                    refine pi_q hf rfl rfl rfl rfl (ExtM.refl _ _) (e_extract hf rfl rfl) fun a hf => ?_
                    refine pi_one ?_
                    refine pi_l hf rfl rfl rfl rfl (w_allocM hM (cs := [vI (0), vS (([] : Str)), vS (([] : Str)), vS (([] : Str)), vS (([] : Str)), .bool (false)]) Tryz.zeroValue38 rfl fun b789 w790 hx791 hn792 hM => ⟨ExtM [some b789] w790, fun _ h => ExtM.grow hx791 hn792 h, ExtM.refl _ _, fun a hf => ?_⟩)
                    refine pi_one ?_
                    refine pi_l0 hf rfl rfl rfl (w_storeM hf (List.mem_of_getElem? (i := 0) rfl) hM (us := [vI (y769.1.Board.Size), vS (y769.1.Board.Premium), vS (y769.1.Board.Cells), vS (y769.1.Mine), vS (y769.1.Theirs), .bool (y769.1.Passed)]) (cs' := [vI (y769.1.Board.Size), vS (y769.1.Board.Premium), vS (y769.1.Board.Cells), vS (y769.1.Mine), vS (y769.1.Theirs), .bool (y769.1.Passed)]) rfl rfl (k := 0) rfl rfl Tryz.sizeOf38 rfl rfl rfl fun w793 hxm794 hsz795 hM => ⟨Ext w793, fun _ h => ExtM.last hxm794 hsz795 h, Ext.refl _, ?_⟩)
                    dsimp only [List.set] at hM
                    refine pi_q hf rfl rfl rfl rfl (Ext.refl _) (e_assign hf rfl) fun a hf => ?_
                    refine pi_nil ?_
                    refine then_n ?_
                    refine wp_seq ?_
                    obtain ⟨x798, h799, h⟩ := bind_some h
                    refine seq_join (fun a w => ∃ (t796 : Bool), t796 = x798 ∧ Has 66 a [(65, .bool (t796))] ∧ Mem C w [.box b789 [vI (y769.1.Board.Size), vS (y769.1.Board.Premium), vS (y769.1.Board.Cells), vS (y769.1.Mine), vS (y769.1.Theirs), .bool (y769.1.Passed)] 38, .box b704 [vI (y722.1.Board.Size), vS (y722.1.Board.Premium), vS (y722.1.Board.Cells), vS (y722.1.Mine), vS (y722.1.Theirs), .bool (y722.1.Passed)] 38, .box b19 [vI (aP9.Row), vI (aP9.Col), .bool (aP9.Down), vS (aP9.Word)] 35, .box b15 [vI (aB1.Size), vS (aB1.Premium), vS (aB1.Cells)] 23] []) ?_ ?_
                    · refine region_pl ?_
                      refine q_ hf rfl rfl rfl (e_loadA hf (us := [vI (y769.1.Board.Size), vS (y769.1.Board.Premium), vS (y769.1.Board.Cells), vS (y769.1.Mine), vS (y769.1.Theirs), .bool (y769.1.Passed)]) rfl ⟨Tryz.isAgg38, Tryz.sizeOf38⟩ rfl (hM.boxSub (k := 0) (us := [vI (y769.1.Board.Size), vS (y769.1.Board.Premium), vS (y769.1.Board.Cells), vS (y769.1.Mine), vS (y769.1.Theirs), .bool (y769.1.Passed)]) (o := 0) rfl rfl)) fun a hf => ?_
                      refine q_ hf rfl rfl rfl (e_loadA hf (us := [vI (y722.1.Board.Size), vS (y722.1.Board.Premium), vS (y722.1.Board.Cells), vS (y722.1.Mine), vS (y722.1.Theirs), .bool (y722.1.Passed)]) rfl ⟨Tryz.isAgg38, Tryz.sizeOf38⟩ rfl (hM.boxSub (k := 1) (us := [vI (y722.1.Board.Size), vS (y722.1.Board.Premium), vS (y722.1.Board.Cells), vS (y722.1.Mine), vS (y722.1.Theirs), .bool (y722.1.Passed)]) (o := 0) rfl rfl)) fun a hf => ?_
                      obtain ⟨y800, hz801, h799⟩ := bind_some h799
                      refine pl_l hf rfl rfl rfl (w_call hf Tryz.call20 rfl (r_laws_eqEnd ⟨_, Sh C _ _, none_, hM.sh_lt, none_not, C.G, hM.g_lt, g_none, hM.tabs⟩ y769.1 hv780 hv781 hv782 hv783 hv784 y722.1 hv724 hv725 hv726 hv727 hv728 _ hz801) ?_)
                      rintro _ w802 ⟨rfl, hM2⟩
                      obtain ⟨hM, hx803, hup804⟩ := hM.back hM2
                      dsimp only [List.cons_append, List.nil_append] at hM hup804
                      clear hM2
                      refine ⟨_, rfl, fun a hf => ?_⟩
                      refine q_ hf rfl rfl rfl (e_not hf rfl) fun a hf => ?_
                      refine q_ hf rfl rfl rfl (e_move hf rfl) fun a hf => ?_
                      rcases cond_some h799 with ⟨hc805, h799⟩ | ⟨hc805, h799⟩
                      · refine pl_gs (wanted_f hf rfl rfl rfl rfl hc805) hf rfl rfl fun a hf => ?_
                        refine pl_gs (wanted_f hf rfl rfl rfl rfl hc805) hf rfl rfl fun a hf => ?_
                        refine pl_gs (wanted_f hf rfl rfl rfl rfl hc805) hf rfl rfl fun a hf => ?_
                        refine q_ hf rfl rfl rfl (e_pick_t hf rfl hc805 rfl) fun a hf => ?_
                        refine pl_nil ?_
                        obtain rfl := some_inj h799
                        refine then_n ?_
                        exact ⟨true, rfl, hf.keep ⟨rfl, trivial⟩, hM.pick [] rfl⟩
                      · refine gq (wanted_t hf rfl rfl rfl rfl hc805) hf rfl rfl (e_move hf rfl) fun a hf => ?_
                        refine gq (wanted_t hf rfl rfl rfl rfl hc805) hf rfl rfl (e_move hf rfl) fun a hf => ?_
                        refine gq (wanted_t hf rfl rfl rfl rfl hc805) hf rfl rfl (e_ne hf (x := y769.2) (y := y722.2) rfl rfl) fun a hf => ?_
                        refine q_ hf rfl rfl rfl (e_pick_f hf rfl hc805 rfl) fun a hf => ?_
                        refine pl_nil ?_
                        obtain rfl := some_inj h799
                        refine then_n ?_
                        exact ⟨(y769.2 != y722.2), rfl, hf.keep ⟨rfl, trivial⟩, hM.pick [] rfl⟩
                    · rintro a w808 ⟨t796, rfl, hf, hM⟩
                      try dsimp only at h
                      rcases cond_some h with ⟨hc809, h⟩ | ⟨hc809, h⟩
                      · refine cond_t hf rfl hc809 ?_
                        refine wp_seq ?_
                        refine region_pl ?_
                        refine q_ hf rfl rfl rfl (e_assign hf rfl) fun a hf => ?_
                        refine pl_nil ?_
                        refine then_n ?_
                        refine wp_ret ?_
                        refine then_r ?_
                        obtain rfl := some_inj h
                        have hM := hM.outs (own' := []) 0 rfl
                        exact leave1 hf rfl rfl ⟨rfl, hM.fin⟩
                      · refine cond_f hf rfl hc809 ?_
                        refine wp_skip ?_
                        refine then_n ?_
                        refine wp_seq ?_
                        refine region_pl ?_
                        refine q_ hf rfl rfl rfl (e_assign hf rfl) fun a hf => ?_
                        refine pl_nil ?_
                        refine then_n ?_
                        refine wp_ret ?_
                        obtain rfl := some_inj h
                        have hM := hM.outs (own' := []) 0 rfl
                        exact leave1 hf rfl rfl ⟨rfl, hM.fin⟩
                  · refine pi_l hf rfl rfl rfl rfl (w_allocM hM (cs := [vI (0), vS (([] : Str)), vS (([] : Str)), vS (([] : Str)), vS (([] : Str)), .bool (false)]) Tryz.zeroValue38 rfl fun b810 w811 hx812 hn813 hM => ⟨ExtM [some b810] w811, fun _ h => ExtM.grow hx812 hn813 h, ExtM.refl _ _, fun a hf => ?_⟩)
                    refine pi_one ?_
                    refine pi_l hf rfl rfl rfl rfl (w_call hf Tryz.call19 rfl (r_impl_EndAfter ⟨_, Sh C _ _, none_, hM.sh_lt, none_not, C.G, hM.g_lt, g_none, hM.tabs⟩ y737 hv749 hv750 hv751 aMine5 hp6 aUnseen7 hp8 y755 hv763 hv764 hv765 aTile13 hp14 _ hz770) ?_)
                    rintro _ w820 ⟨rfl, hM2, hv814, hv815, hv816, hv817, hv818, hv819⟩
                    obtain ⟨hM, hx821, hup822⟩ := hM.back hM2
                    dsimp only [List.cons_append, List.nil_append] at hM hup822
                    clear hM2
                    refine ⟨_, rfl, ExtM [some b810] w820, fun _ h => ExtM.trans hx821 h, ExtM.refl _ _, fun a hf => ?_⟩
                    refine pi_q hf rfl rfl rfl rfl (ExtM.refl _ _) (e_move hf rfl) fun a hf => ?_
                    refine pi_q hf rfl rfl rfl rfl (ExtM.refl _ _) (e_extract hf rfl rfl) fun a hf => ?_
                    refine pi_q hf rfl rfl rfl rfl (ExtM.refl _ _) (e_extract hf rfl rfl) fun a hf => ?_
                    refine pi_one ?_
                    refine pi_l0 hf rfl rfl rfl (w_storeM hf (List.mem_of_getElem? (i := 0) rfl) hM (us := [vI (y769.1.Board.Size), vS (y769.1.Board.Premium), vS (y769.1.Board.Cells), vS (y769.1.Mine), vS (y769.1.Theirs), .bool (y769.1.Passed)]) (cs' := [vI (y769.1.Board.Size), vS (y769.1.Board.Premium), vS (y769.1.Board.Cells), vS (y769.1.Mine), vS (y769.1.Theirs), .bool (y769.1.Passed)]) rfl rfl (k := 0) rfl rfl Tryz.sizeOf38 rfl rfl rfl fun w823 hxm824 hsz825 hM => ⟨Ext w823, fun _ h => ExtM.last hxm824 hsz825 h, Ext.refl _, ?_⟩)
                    dsimp only [List.set] at hM
                    refine pi_q hf rfl rfl rfl rfl (Ext.refl _) (e_assign hf rfl) fun a hf => ?_
                    refine pi_nil ?_
                    refine then_n ?_
                    refine wp_seq ?_
                    obtain ⟨x828, h829, h⟩ := bind_some h
                    refine seq_join (fun a w => ∃ (t826 : Bool), t826 = x828 ∧ Has 66 a [(65, .bool (t826))] ∧ Mem C w [.box b810 [vI (y769.1.Board.Size), vS (y769.1.Board.Premium), vS (y769.1.Board.Cells), vS (y769.1.Mine), vS (y769.1.Theirs), .bool (y769.1.Passed)] 38, .box b704 [vI (y722.1.Board.Size), vS (y722.1.Board.Premium), vS (y722.1.Board.Cells), vS (y722.1.Mine), vS (y722.1.Theirs), .bool (y722.1.Passed)] 38, .box b19 [vI (aP9.Row), vI (aP9.Col), .bool (aP9.Down), vS (aP9.Word)] 35, .box b15 [vI (aB1.Size), vS (aB1.Premium), vS (aB1.Cells)] 23] []) ?_ ?_
                    · refine region_pl ?_
                      refine q_ hf rfl rfl rfl (e_loadA hf (us := [vI (y769.1.Board.Size), vS (y769.1.Board.Premium), vS (y769.1.Board.Cells), vS (y769.1.Mine), vS (y769.1.Theirs), .bool (y769.1.Passed)]) rfl ⟨Tryz.isAgg38, Tryz.sizeOf38⟩ rfl (hM.boxSub (k := 0) (us := [vI (y769.1.Board.Size), vS (y769.1.Board.Premium), vS (y769.1.Board.Cells), vS (y769.1.Mine), vS (y769.1.Theirs), .bool (y769.1.Passed)]) (o := 0) rfl rfl)) fun a hf => ?_
                      refine q_ hf rfl rfl rfl (e_loadA hf (us := [vI (y722.1.Board.Size), vS (y722.1.Board.Premium), vS (y722.1.Board.Cells), vS (y722.1.Mine), vS (y722.1.Theirs), .bool (y722.1.Passed)]) rfl ⟨Tryz.isAgg38, Tryz.sizeOf38⟩ rfl (hM.boxSub (k := 1) (us := [vI (y722.1.Board.Size), vS (y722.1.Board.Premium), vS (y722.1.Board.Cells), vS (y722.1.Mine), vS (y722.1.Theirs), .bool (y722.1.Passed)]) (o := 0) rfl rfl)) fun a hf => ?_
                      obtain ⟨y830, hz831, h829⟩ := bind_some h829
                      refine pl_l hf rfl rfl rfl (w_call hf Tryz.call20 rfl (r_laws_eqEnd ⟨_, Sh C _ _, none_, hM.sh_lt, none_not, C.G, hM.g_lt, g_none, hM.tabs⟩ y769.1 hv814 hv815 hv816 hv817 hv818 y722.1 hv724 hv725 hv726 hv727 hv728 _ hz831) ?_)
                      rintro _ w832 ⟨rfl, hM2⟩
                      obtain ⟨hM, hx833, hup834⟩ := hM.back hM2
                      dsimp only [List.cons_append, List.nil_append] at hM hup834
                      clear hM2
                      refine ⟨_, rfl, fun a hf => ?_⟩
                      refine q_ hf rfl rfl rfl (e_not hf rfl) fun a hf => ?_
                      refine q_ hf rfl rfl rfl (e_move hf rfl) fun a hf => ?_
                      rcases cond_some h829 with ⟨hc835, h829⟩ | ⟨hc835, h829⟩
                      · refine pl_gs (wanted_f hf rfl rfl rfl rfl hc835) hf rfl rfl fun a hf => ?_
                        refine pl_gs (wanted_f hf rfl rfl rfl rfl hc835) hf rfl rfl fun a hf => ?_
                        refine pl_gs (wanted_f hf rfl rfl rfl rfl hc835) hf rfl rfl fun a hf => ?_
                        refine q_ hf rfl rfl rfl (e_pick_t hf rfl hc835 rfl) fun a hf => ?_
                        refine pl_nil ?_
                        obtain rfl := some_inj h829
                        refine then_n ?_
                        exact ⟨true, rfl, hf.keep ⟨rfl, trivial⟩, hM.pick [] rfl⟩
                      · refine gq (wanted_t hf rfl rfl rfl rfl hc835) hf rfl rfl (e_move hf rfl) fun a hf => ?_
                        refine gq (wanted_t hf rfl rfl rfl rfl hc835) hf rfl rfl (e_move hf rfl) fun a hf => ?_
                        refine gq (wanted_t hf rfl rfl rfl rfl hc835) hf rfl rfl (e_ne hf (x := y769.2) (y := y722.2) rfl rfl) fun a hf => ?_
                        refine q_ hf rfl rfl rfl (e_pick_f hf rfl hc835 rfl) fun a hf => ?_
                        refine pl_nil ?_
                        obtain rfl := some_inj h829
                        refine then_n ?_
                        exact ⟨(y769.2 != y722.2), rfl, hf.keep ⟨rfl, trivial⟩, hM.pick [] rfl⟩
                    · rintro a w838 ⟨t826, rfl, hf, hM⟩
                      try dsimp only at h
                      rcases cond_some h with ⟨hc839, h⟩ | ⟨hc839, h⟩
                      · refine cond_t hf rfl hc839 ?_
                        refine wp_seq ?_
                        refine region_pl ?_
                        refine q_ hf rfl rfl rfl (e_assign hf rfl) fun a hf => ?_
                        refine pl_nil ?_
                        refine then_n ?_
                        refine wp_ret ?_
                        refine then_r ?_
                        obtain rfl := some_inj h
                        have hM := hM.outs (own' := []) 0 rfl
                        exact leave1 hf rfl rfl ⟨rfl, hM.fin⟩
                      · refine cond_f hf rfl hc839 ?_
                        refine wp_skip ?_
                        refine then_n ?_
                        refine wp_seq ?_
                        refine region_pl ?_
                        refine q_ hf rfl rfl rfl (e_assign hf rfl) fun a hf => ?_
                        refine pl_nil ?_
                        refine then_n ?_
                        refine wp_ret ?_
                        obtain rfl := some_inj h
                        have hM := hM.outs (own' := []) 0 rfl
                        exact leave1 hf rfl rfl ⟨rfl, hM.fin⟩
                · refine pi_l hf rfl rfl rfl rfl (w_allocM hM (cs := [vI (0), vS (([] : Str)), vS (([] : Str)), vS (([] : Str)), vS (([] : Str)), .bool (false)]) Tryz.zeroValue38 rfl fun b840 w841 hx842 hn843 hM => ⟨ExtM [some b840] w841, fun _ h => ExtM.grow hx842 hn843 h, ExtM.refl _ _, fun a hf => ?_⟩)
                  refine pi_one ?_
                  refine pi_l hf rfl rfl rfl rfl (w_call hf Tryz.call18 rfl (r_laws_toPlay ⟨_, Sh C _ _, none_, hM.sh_lt, none_not, C.G, hM.g_lt, g_none, hM.tabs⟩ aP9 hp10 hp11 hp12 _ hz756) ?_)
                  rintro _ w847 ⟨rfl, hM2, hv844, hv845, hv846⟩
                  obtain ⟨hM, hx848, hup849⟩ := hM.back hM2
                  dsimp only [List.cons_append, List.nil_append] at hM hup849
                  clear hM2
                  refine ⟨_, rfl, ExtM [some b840] w847, fun _ h => ExtM.trans hx848 h, ExtM.refl _ _, fun a hf => ?_⟩
                  refine pi_one ?_
                  obtain ⟨y850, hz851, h⟩ := bind_some h
                  refine pi_l hf rfl rfl rfl rfl (w_call hf Tryz.call19 rfl (r_impl_EndAfter ⟨_, Sh C _ _, none_, hM.sh_lt, none_not, C.G, hM.g_lt, g_none, hM.tabs⟩ y737 hv749 hv750 hv751 aMine5 hp6 aUnseen7 hp8 y755 hv844 hv845 hv846 aTile13 hp14 _ hz851) ?_)
                  rintro _ w858 ⟨rfl, hM2, hv852, hv853, hv854, hv855, hv856, hv857⟩
                  obtain ⟨hM, hx859, hup860⟩ := hM.back hM2
                  dsimp only [List.cons_append, List.nil_append] at hM hup860
                  clear hM2
                  refine ⟨_, rfl, ExtM [some b840] w858, fun _ h => ExtM.trans hx859 h, ExtM.refl _ _, fun a hf => ?_⟩
                  refine pi_q hf rfl rfl rfl rfl (ExtM.refl _ _) (e_move hf rfl) fun a hf => ?_
                  refine pi_q hf rfl rfl rfl rfl (ExtM.refl _ _) (e_extract hf rfl rfl) fun a hf => ?_
                  refine pi_q hf rfl rfl rfl rfl (ExtM.refl _ _) (e_extract hf rfl rfl) fun a hf => ?_
                  refine pi_one ?_
                  refine pi_l0 hf rfl rfl rfl (w_storeM hf (List.mem_of_getElem? (i := 0) rfl) hM (us := [vI (y850.1.Board.Size), vS (y850.1.Board.Premium), vS (y850.1.Board.Cells), vS (y850.1.Mine), vS (y850.1.Theirs), .bool (y850.1.Passed)]) (cs' := [vI (y850.1.Board.Size), vS (y850.1.Board.Premium), vS (y850.1.Board.Cells), vS (y850.1.Mine), vS (y850.1.Theirs), .bool (y850.1.Passed)]) rfl rfl (k := 0) rfl rfl Tryz.sizeOf38 rfl rfl rfl fun w861 hxm862 hsz863 hM => ⟨Ext w861, fun _ h => ExtM.last hxm862 hsz863 h, Ext.refl _, ?_⟩)
                  dsimp only [List.set] at hM
                  refine pi_q hf rfl rfl rfl rfl (Ext.refl _) (e_assign hf rfl) fun a hf => ?_
                  refine pi_nil ?_
                  refine then_n ?_
                  refine wp_seq ?_
                  obtain ⟨x866, h867, h⟩ := bind_some h
                  refine seq_join (fun a w => ∃ (t864 : Bool), t864 = x866 ∧ Has 66 a [(65, .bool (t864))] ∧ Mem C w [.box b840 [vI (y850.1.Board.Size), vS (y850.1.Board.Premium), vS (y850.1.Board.Cells), vS (y850.1.Mine), vS (y850.1.Theirs), .bool (y850.1.Passed)] 38, .box b704 [vI (y722.1.Board.Size), vS (y722.1.Board.Premium), vS (y722.1.Board.Cells), vS (y722.1.Mine), vS (y722.1.Theirs), .bool (y722.1.Passed)] 38, .box b19 [vI (aP9.Row), vI (aP9.Col), .bool (aP9.Down), vS (aP9.Word)] 35, .box b15 [vI (aB1.Size), vS (aB1.Premium), vS (aB1.Cells)] 23] []) ?_ ?_
                  · refine region_pl ?_
                    refine q_ hf rfl rfl rfl (e_loadA hf (us := [vI (y850.1.Board.Size), vS (y850.1.Board.Premium), vS (y850.1.Board.Cells), vS (y850.1.Mine), vS (y850.1.Theirs), .bool (y850.1.Passed)]) rfl ⟨Tryz.isAgg38, Tryz.sizeOf38⟩ rfl (hM.boxSub (k := 0) (us := [vI (y850.1.Board.Size), vS (y850.1.Board.Premium), vS (y850.1.Board.Cells), vS (y850.1.Mine), vS (y850.1.Theirs), .bool (y850.1.Passed)]) (o := 0) rfl rfl)) fun a hf => ?_
                    refine q_ hf rfl rfl rfl (e_loadA hf (us := [vI (y722.1.Board.Size), vS (y722.1.Board.Premium), vS (y722.1.Board.Cells), vS (y722.1.Mine), vS (y722.1.Theirs), .bool (y722.1.Passed)]) rfl ⟨Tryz.isAgg38, Tryz.sizeOf38⟩ rfl (hM.boxSub (k := 1) (us := [vI (y722.1.Board.Size), vS (y722.1.Board.Premium), vS (y722.1.Board.Cells), vS (y722.1.Mine), vS (y722.1.Theirs), .bool (y722.1.Passed)]) (o := 0) rfl rfl)) fun a hf => ?_
                    obtain ⟨y868, hz869, h867⟩ := bind_some h867
                    refine pl_l hf rfl rfl rfl (w_call hf Tryz.call20 rfl (r_laws_eqEnd ⟨_, Sh C _ _, none_, hM.sh_lt, none_not, C.G, hM.g_lt, g_none, hM.tabs⟩ y850.1 hv852 hv853 hv854 hv855 hv856 y722.1 hv724 hv725 hv726 hv727 hv728 _ hz869) ?_)
                    rintro _ w870 ⟨rfl, hM2⟩
                    obtain ⟨hM, hx871, hup872⟩ := hM.back hM2
                    dsimp only [List.cons_append, List.nil_append] at hM hup872
                    clear hM2
                    refine ⟨_, rfl, fun a hf => ?_⟩
                    refine q_ hf rfl rfl rfl (e_not hf rfl) fun a hf => ?_
                    refine q_ hf rfl rfl rfl (e_move hf rfl) fun a hf => ?_
                    rcases cond_some h867 with ⟨hc873, h867⟩ | ⟨hc873, h867⟩
                    · refine pl_gs (wanted_f hf rfl rfl rfl rfl hc873) hf rfl rfl fun a hf => ?_
                      refine pl_gs (wanted_f hf rfl rfl rfl rfl hc873) hf rfl rfl fun a hf => ?_
                      refine pl_gs (wanted_f hf rfl rfl rfl rfl hc873) hf rfl rfl fun a hf => ?_
                      refine q_ hf rfl rfl rfl (e_pick_t hf rfl hc873 rfl) fun a hf => ?_
                      refine pl_nil ?_
                      obtain rfl := some_inj h867
                      refine then_n ?_
                      exact ⟨true, rfl, hf.keep ⟨rfl, trivial⟩, hM.pick [] rfl⟩
                    · refine gq (wanted_t hf rfl rfl rfl rfl hc873) hf rfl rfl (e_move hf rfl) fun a hf => ?_
                      refine gq (wanted_t hf rfl rfl rfl rfl hc873) hf rfl rfl (e_move hf rfl) fun a hf => ?_
                      refine gq (wanted_t hf rfl rfl rfl rfl hc873) hf rfl rfl (e_ne hf (x := y850.2) (y := y722.2) rfl rfl) fun a hf => ?_
                      refine q_ hf rfl rfl rfl (e_pick_f hf rfl hc873 rfl) fun a hf => ?_
                      refine pl_nil ?_
                      obtain rfl := some_inj h867
                      refine then_n ?_
                      exact ⟨(y850.2 != y722.2), rfl, hf.keep ⟨rfl, trivial⟩, hM.pick [] rfl⟩
                  · rintro a w876 ⟨t864, rfl, hf, hM⟩
                    try dsimp only at h
                    rcases cond_some h with ⟨hc877, h⟩ | ⟨hc877, h⟩
                    · refine cond_t hf rfl hc877 ?_
                      refine wp_seq ?_
                      refine region_pl ?_
                      refine q_ hf rfl rfl rfl (e_assign hf rfl) fun a hf => ?_
                      refine pl_nil ?_
                      refine then_n ?_
                      refine wp_ret ?_
                      refine then_r ?_
                      obtain rfl := some_inj h
                      have hM := hM.outs (own' := []) 0 rfl
                      exact leave1 hf rfl rfl ⟨rfl, hM.fin⟩
                    · refine cond_f hf rfl hc877 ?_
                      refine wp_skip ?_
                      refine then_n ?_
                      refine wp_seq ?_
                      refine region_pl ?_
                      refine q_ hf rfl rfl rfl (e_assign hf rfl) fun a hf => ?_
                      refine pl_nil ?_
                      refine then_n ?_
                      refine wp_ret ?_
                      obtain rfl := some_inj h
                      have hM := hM.outs (own' := []) 0 rfl
                      exact leave1 hf rfl rfl ⟨rfl, hM.fin⟩
              · refine pi_l hf rfl rfl rfl rfl (w_allocM hM (cs := [vI (0), vS (([] : Str)), vS (([] : Str)), vS (([] : Str)), vS (([] : Str)), .bool (false)]) Tryz.zeroValue38 rfl fun b878 w879 hx880 hn881 hM => ⟨ExtM [some b878] w879, fun _ h => ExtM.grow hx880 hn881 h, ExtM.refl _ _, fun a hf => ?_⟩)
                refine pi_one ?_
                refine pi_l hf rfl rfl rfl rfl (w_call hf Tryz.call12 rfl (r_laws_toBoard ⟨_, Sh C _ _, none_, hM.sh_lt, none_not, C.G, hM.g_lt, g_none, hM.tabs⟩ aB1 hp2 hp3 hp4 _ hz738) ?_)
                rintro _ w885 ⟨rfl, hM2, hv882, hv883, hv884⟩
                obtain ⟨hM, hx886, hup887⟩ := hM.back hM2
                dsimp only [List.cons_append, List.nil_append] at hM hup887
                clear hM2
                refine ⟨_, rfl, ExtM [some b878] w885, fun _ h => ExtM.trans hx886 h, ExtM.refl _ _, fun a hf => ?_⟩
                refine pi_one ?_
                obtain ⟨y888, hz889, h⟩ := bind_some h
                refine pi_l hf rfl rfl rfl rfl (w_call hf Tryz.call18 rfl (r_laws_toPlay ⟨_, Sh C _ _, none_, hM.sh_lt, none_not, C.G, hM.g_lt, g_none, hM.tabs⟩ aP9 hp10 hp11 hp12 _ hz889) ?_)
                rintro _ w893 ⟨rfl, hM2, hv890, hv891, hv892⟩
                obtain ⟨hM, hx894, hup895⟩ := hM.back hM2
                dsimp only [List.cons_append, List.nil_append] at hM hup895
                clear hM2
                refine ⟨_, rfl, ExtM [some b878] w893, fun _ h => ExtM.trans hx894 h, ExtM.refl _ _, fun a hf => ?_⟩
                refine pi_one ?_
                obtain ⟨y896, hz897, h⟩ := bind_some h
                refine pi_l hf rfl rfl rfl rfl (w_call hf Tryz.call19 rfl (r_impl_EndAfter ⟨_, Sh C _ _, none_, hM.sh_lt, none_not, C.G, hM.g_lt, g_none, hM.tabs⟩ y737 hv882 hv883 hv884 aMine5 hp6 aUnseen7 hp8 y888 hv890 hv891 hv892 aTile13 hp14 _ hz897) ?_)
                rintro _ w904 ⟨rfl, hM2, hv898, hv899, hv900, hv901, hv902, hv903⟩
                obtain ⟨hM, hx905, hup906⟩ := hM.back hM2
                dsimp only [List.cons_append, List.nil_append] at hM hup906
                clear hM2
                refine ⟨_, rfl, ExtM [some b878] w904, fun _ h => ExtM.trans hx905 h, ExtM.refl _ _, fun a hf => ?_⟩
                refine pi_q hf rfl rfl rfl rfl (ExtM.refl _ _) (e_move hf rfl) fun a hf => ?_
                refine pi_q hf rfl rfl rfl rfl (ExtM.refl _ _) (e_extract hf rfl rfl) fun a hf => ?_
                refine pi_q hf rfl rfl rfl rfl (ExtM.refl _ _) (e_extract hf rfl rfl) fun a hf => ?_
                refine pi_one ?_
                refine pi_l0 hf rfl rfl rfl (w_storeM hf (List.mem_of_getElem? (i := 0) rfl) hM (us := [vI (y896.1.Board.Size), vS (y896.1.Board.Premium), vS (y896.1.Board.Cells), vS (y896.1.Mine), vS (y896.1.Theirs), .bool (y896.1.Passed)]) (cs' := [vI (y896.1.Board.Size), vS (y896.1.Board.Premium), vS (y896.1.Board.Cells), vS (y896.1.Mine), vS (y896.1.Theirs), .bool (y896.1.Passed)]) rfl rfl (k := 0) rfl rfl Tryz.sizeOf38 rfl rfl rfl fun w907 hxm908 hsz909 hM => ⟨Ext w907, fun _ h => ExtM.last hxm908 hsz909 h, Ext.refl _, ?_⟩)
                dsimp only [List.set] at hM
                refine pi_q hf rfl rfl rfl rfl (Ext.refl _) (e_assign hf rfl) fun a hf => ?_
                refine pi_nil ?_
                refine then_n ?_
                refine wp_seq ?_
                obtain ⟨x912, h913, h⟩ := bind_some h
                refine seq_join (fun a w => ∃ (t910 : Bool), t910 = x912 ∧ Has 66 a [(65, .bool (t910))] ∧ Mem C w [.box b878 [vI (y896.1.Board.Size), vS (y896.1.Board.Premium), vS (y896.1.Board.Cells), vS (y896.1.Mine), vS (y896.1.Theirs), .bool (y896.1.Passed)] 38, .box b704 [vI (y722.1.Board.Size), vS (y722.1.Board.Premium), vS (y722.1.Board.Cells), vS (y722.1.Mine), vS (y722.1.Theirs), .bool (y722.1.Passed)] 38, .box b19 [vI (aP9.Row), vI (aP9.Col), .bool (aP9.Down), vS (aP9.Word)] 35, .box b15 [vI (aB1.Size), vS (aB1.Premium), vS (aB1.Cells)] 23] []) ?_ ?_
                · refine region_pl ?_
                  refine q_ hf rfl rfl rfl (e_loadA hf (us := [vI (y896.1.Board.Size), vS (y896.1.Board.Premium), vS (y896.1.Board.Cells), vS (y896.1.Mine), vS (y896.1.Theirs), .bool (y896.1.Passed)]) rfl ⟨Tryz.isAgg38, Tryz.sizeOf38⟩ rfl (hM.boxSub (k := 0) (us := [vI (y896.1.Board.Size), vS (y896.1.Board.Premium), vS (y896.1.Board.Cells), vS (y896.1.Mine), vS (y896.1.Theirs), .bool (y896.1.Passed)]) (o := 0) rfl rfl)) fun a hf => ?_
                  refine q_ hf rfl rfl rfl (e_loadA hf (us := [vI (y722.1.Board.Size), vS (y722.1.Board.Premium), vS (y722.1.Board.Cells), vS (y722.1.Mine), vS (y722.1.Theirs), .bool (y722.1.Passed)]) rfl ⟨Tryz.isAgg38, Tryz.sizeOf38⟩ rfl (hM.boxSub (k := 1) (us := [vI (y722.1.Board.Size), vS (y722.1.Board.Premium), vS (y722.1.Board.Cells), vS (y722.1.Mine), vS (y722.1.Theirs), .bool (y722.1.Passed)]) (o := 0) rfl rfl)) fun a hf => ?_
                  obtain ⟨y914, hz915, h913⟩ := bind_some h913
                  refine pl_l hf rfl rfl rfl (w_call hf Tryz.call20 rfl (r_laws_eqEnd ⟨_, Sh C _ _, none_, hM.sh_lt, none_not, C.G, hM.g_lt, g_none, hM.tabs⟩ y896.1 hv898 hv899 hv900 hv901 hv902 y722.1 hv724 hv725 hv726 hv727 hv728 _ hz915) ?_)
                  rintro _ w916 ⟨rfl, hM2⟩
                  obtain ⟨hM, hx917, hup918⟩ := hM.back hM2
                  dsimp only [List.cons_append, List.nil_append] at hM hup918
                  clear hM2
                  refine ⟨_, rfl, fun a hf => ?_⟩
                  refine q_ hf rfl rfl rfl (e_not hf rfl) fun a hf => ?_
                  refine q_ hf rfl rfl rfl (e_move hf rfl) fun a hf => ?_
                  rcases cond_some h913 with ⟨hc919, h913⟩ | ⟨hc919, h913⟩
                  · refine pl_gs (wanted_f hf rfl rfl rfl rfl hc919) hf rfl rfl fun a hf => ?_
                    refine pl_gs (wanted_f hf rfl rfl rfl rfl hc919) hf rfl rfl fun a hf => ?_
                    refine pl_gs (wanted_f hf rfl rfl rfl rfl hc919) hf rfl rfl fun a hf => ?_
                    refine q_ hf rfl rfl rfl (e_pick_t hf rfl hc919 rfl) fun a hf => ?_
                    refine pl_nil ?_
                    obtain rfl := some_inj h913
                    refine then_n ?_
                    exact ⟨true, rfl, hf.keep ⟨rfl, trivial⟩, hM.pick [] rfl⟩
                  · refine gq (wanted_t hf rfl rfl rfl rfl hc919) hf rfl rfl (e_move hf rfl) fun a hf => ?_
                    refine gq (wanted_t hf rfl rfl rfl rfl hc919) hf rfl rfl (e_move hf rfl) fun a hf => ?_
                    refine gq (wanted_t hf rfl rfl rfl rfl hc919) hf rfl rfl (e_ne hf (x := y896.2) (y := y722.2) rfl rfl) fun a hf => ?_
                    refine q_ hf rfl rfl rfl (e_pick_f hf rfl hc919 rfl) fun a hf => ?_
                    refine pl_nil ?_
                    obtain rfl := some_inj h913
                    refine then_n ?_
                    exact ⟨(y896.2 != y722.2), rfl, hf.keep ⟨rfl, trivial⟩, hM.pick [] rfl⟩
                · rintro a w922 ⟨t910, rfl, hf, hM⟩
                  try dsimp only at h
                  rcases cond_some h with ⟨hc923, h⟩ | ⟨hc923, h⟩
                  · refine cond_t hf rfl hc923 ?_
                    refine wp_seq ?_
                    refine region_pl ?_
                    refine q_ hf rfl rfl rfl (e_assign hf rfl) fun a hf => ?_
                    refine pl_nil ?_
                    refine then_n ?_
                    refine wp_ret ?_
                    refine then_r ?_
                    obtain rfl := some_inj h
                    have hM := hM.outs (own' := []) 0 rfl
                    exact leave1 hf rfl rfl ⟨rfl, hM.fin⟩
                  · refine cond_f hf rfl hc923 ?_
                    refine wp_skip ?_
                    refine then_n ?_
                    refine wp_seq ?_
                    refine region_pl ?_
                    refine q_ hf rfl rfl rfl (e_assign hf rfl) fun a hf => ?_
                    refine pl_nil ?_
                    refine then_n ?_
                    refine wp_ret ?_
                    obtain rfl := some_inj h
                    have hM := hM.outs (own' := []) 0 rfl
                    exact leave1 hf rfl rfl ⟨rfl, hM.fin⟩

end Go.Proofs.YtbekokenomhgeaaGreatDoor
