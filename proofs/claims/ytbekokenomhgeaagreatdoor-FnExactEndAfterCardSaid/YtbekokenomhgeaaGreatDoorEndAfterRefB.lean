/- The functions that this law reaches do what their models say. Printed by gen.py. -/
import Derived.Test.YtbekokenomhgeaaGreatDoorMod
import Derived.Test.YtbekokenomhgeaaGreatDoorLib
import Derived.Test.YtbekokenomhgeaaGreatDoorEndAfterRef
namespace Go.Proofs.YtbekokenomhgeaaGreatDoor
open Go Go.RowKit
set_option linter.unusedSimpArgs false
set_option linter.unusedVariables false

set_option maxRecDepth 100000 in
set_option maxHeartbeats 4000000 in
theorem r_spec_EndAfter (C : Cx) (b1 : Board) (hp2 : R64 b1.Size) (hp3 : b1.Premium.length ≤ maxLen) (hp4 : b1.Cells.length ≤ maxLen) (mine5 : Str) (hp6 : mine5.length ≤ maxLen) (unseen7 : Str) (hp8 : unseen7.length ≤ maxLen) (p9 : Play) (hp10 : R64 p9.Row) (hp11 : R64 p9.Col) (hp12 : p9.Word.length ≤ maxLen) (tile13 : Str) (hp14 : tile13.length ≤ maxLen) (r : (End × Int)) (h : m_spec_EndAfter b1 mine5 unseen7 p9 tile13 = some r) :
    Calls Tryz.prog 17 #[.agg #[vI (b1.Size), vS (b1.Premium), vS (b1.Cells)], vS (mine5), vS (unseen7), .agg #[vI (p9.Row), vI (p9.Col), .bool (p9.Down), vS (p9.Word)], vS (tile13)] C.w0 fun e w => e = .returned (.tuple #[.agg #[vI (r.1.Board.Size), vS (r.1.Board.Premium), vS (r.1.Board.Cells), vS (r.1.Mine), vS (r.1.Theirs), .bool (r.1.Passed)], vI (r.2)]) ∧ Mem C w [] [] ∧ R64 r.1.Board.Size ∧ r.1.Board.Premium.length ≤ maxLen ∧ r.1.Board.Cells.length ≤ maxLen ∧ r.1.Mine.length ≤ maxLen ∧ r.1.Theirs.length ≤ maxLen ∧ R64 r.2 := by
  have hM := Mem.begin C [] trivial
  refine enter Tryz.func17 rfl Tryz.ntmps17 rfl fun a hf => ?_
  unfold m_spec_EndAfter at h
  refine wp_seq ?_
  refine region_pl ?_
  refine pl_l hf rfl rfl rfl (w_box hf hM (cs := [vI (b1.Size), vS (b1.Premium), vS (b1.Cells)]) rfl rfl fun b15 w16 hx17 hM a hf => ?_)
  refine pl_l hf rfl rfl rfl (w_box hf hM (cs := [vI (p9.Row), vI (p9.Col), .bool (p9.Down), vS (p9.Word)]) rfl rfl fun b19 w20 hx21 hM a hf => ?_)
  refine pl_l hf rfl rfl rfl (w_alloc hM (cs := [vI (0), vS (([] : Str)), vS (([] : Str)), vS (([] : Str)), vS (([] : Str)), .bool (false)]) Tryz.zeroValue38 rfl fun b23 w24 hx25 hM a hf => ?_)
  refine q_ hf rfl rfl rfl (e_assign hf rfl) fun a hf => ?_
  refine pl_nil ?_
  refine then_n ?_
  refine wp_seq ?_
  obtain ⟨x29, h30, h⟩ := bind_some h
  refine seq_join (fun a w => ∃ (t27 : Bool), t27 = x29 ∧ Has 43 a [(1, vS (mine5)), (2, vS (unseen7)), (4, vS (tile13)), (5, vP b15 (0)), (8, vP b19 (0)), (10, vP b23 (0)), (25, .bool (t27))] ∧ Mem C w [.box b23 [vI (0), vS (([] : Str)), vS (([] : Str)), vS (([] : Str)), vS (([] : Str)), .bool (false)] 38, .box b19 [vI (p9.Row), vI (p9.Col), .bool (p9.Down), vS (p9.Word)] 41, .box b15 [vI (b1.Size), vS (b1.Premium), vS (b1.Cells)] 28] []) ?_ ?_
  · refine region_pl ?_
    obtain ⟨y31, hz32, h30⟩ := bind_some h30
    refine pl_l hf rfl rfl rfl (w_call hf Tryz.call39 rfl (r_spec_l11Ok ⟨_, All C _ _, none_, hM.all_lt, none_not, C.G, hM.g_lt, g_none, hM.tabs⟩ b1 _ _ (hM.lendBox (k := 2) rfl (BoardRep_mk (x := b1) hp2 hp3 hp4)) _ hz32) ?_)
    rintro _ w33 ⟨rfl, hM2⟩
    obtain ⟨hM, hx34⟩ := hM.backA hM2
    clear hM2
    refine ⟨_, rfl, fun a hf => ?_⟩
    refine q_ hf rfl rfl rfl (e_not hf rfl) fun a hf => ?_
    refine q_ hf rfl rfl rfl (e_move hf rfl) fun a hf => ?_
    rcases cond_some h30 with ⟨hc36, h30⟩ | ⟨hc36, h30⟩
    · refine pl_gs (wanted_f hf rfl rfl rfl rfl hc36) hf rfl rfl fun a hf => ?_
      refine pl_gs (wanted_f hf rfl rfl rfl rfl hc36) hf rfl rfl fun a hf => ?_
      refine pl_gs (wanted_f hf rfl rfl rfl rfl hc36) hf rfl rfl fun a hf => ?_
      refine q_ hf rfl rfl rfl (e_pick_t hf rfl hc36 rfl) fun a hf => ?_
      refine q_ hf rfl rfl rfl (e_move hf rfl) fun a hf => ?_
      refine pl_gs (wanted_f hf rfl rfl rfl rfl rfl) hf rfl rfl fun a hf => ?_
      refine pl_gs (wanted_f hf rfl rfl rfl rfl rfl) hf rfl rfl fun a hf => ?_
      refine pl_gs (wanted_f hf rfl rfl rfl rfl rfl) hf rfl rfl fun a hf => ?_
      refine q_ hf rfl rfl rfl (e_pick_t hf rfl rfl rfl) fun a hf => ?_
      refine pl_nil ?_
      obtain rfl := some_inj h30
      refine then_n ?_
      exact ⟨true, rfl, hf.keep ⟨rfl, rfl, rfl, rfl, rfl, rfl, rfl, trivial⟩, hM.pick [] rfl⟩
    · refine gq (wanted_t hf rfl rfl rfl rfl hc36) hf rfl rfl (e_move hf rfl) fun a hf => ?_
      obtain ⟨y38, hz39, h30⟩ := bind_some h30
      refine pl_gl (wanted_t hf rfl rfl rfl rfl hc36) hf rfl rfl (w_call hf Tryz.call40 rfl (r_spec_l03Rack ⟨_, Sh C _ _, none_, hM.sh_lt, none_not, C.G, hM.g_lt, g_none, hM.tabs⟩ mine5 hp6 _ hz39) ?_)
      rintro _ w40 ⟨rfl, hM2⟩
      obtain ⟨hM, hx41, hup42⟩ := hM.back hM2
      dsimp only [List.cons_append, List.nil_append] at hM hup42
      clear hM2
      refine ⟨_, rfl, fun a hf => ?_⟩
      refine gq (wanted_t hf rfl rfl rfl rfl hc36) hf rfl rfl (e_not hf rfl) fun a hf => ?_
      refine q_ hf rfl rfl rfl (e_pick_f hf rfl hc36 rfl) fun a hf => ?_
      refine q_ hf rfl rfl rfl (e_move hf rfl) fun a hf => ?_
      rcases cond_some h30 with ⟨hc43, h30⟩ | ⟨hc43, h30⟩
      · refine pl_gs (wanted_f hf rfl rfl rfl rfl hc43) hf rfl rfl fun a hf => ?_
        refine pl_gs (wanted_f hf rfl rfl rfl rfl hc43) hf rfl rfl fun a hf => ?_
        refine pl_gs (wanted_f hf rfl rfl rfl rfl hc43) hf rfl rfl fun a hf => ?_
        refine q_ hf rfl rfl rfl (e_pick_t hf rfl hc43 rfl) fun a hf => ?_
        refine pl_nil ?_
        obtain rfl := some_inj h30
        refine then_n ?_
        exact ⟨true, rfl, hf.keep ⟨rfl, rfl, rfl, rfl, rfl, rfl, rfl, trivial⟩, hM.pick [] rfl⟩
      · refine gq (wanted_t hf rfl rfl rfl rfl hc43) hf rfl rfl (e_move hf rfl) fun a hf => ?_
        obtain ⟨y45, hz46, h30⟩ := bind_some h30
        refine pl_gl (wanted_t hf rfl rfl rfl rfl hc43) hf rfl rfl (w_call hf Tryz.call41 rfl (r_spec_l23Unseen ⟨_, Sh C _ _, none_, hM.sh_lt, none_not, C.G, hM.g_lt, g_none, hM.tabs⟩ unseen7 hp8 _ hz46) ?_)
        rintro _ w47 ⟨rfl, hM2⟩
        obtain ⟨hM, hx48, hup49⟩ := hM.back hM2
        dsimp only [List.cons_append, List.nil_append] at hM hup49
        clear hM2
        refine ⟨_, rfl, fun a hf => ?_⟩
        refine gq (wanted_t hf rfl rfl rfl rfl hc43) hf rfl rfl (e_not hf rfl) fun a hf => ?_
        refine q_ hf rfl rfl rfl (e_pick_f hf rfl hc43 rfl) fun a hf => ?_
        refine pl_nil ?_
        obtain rfl := some_inj h30
        refine then_n ?_
        exact ⟨(!y45), rfl, hf.keep ⟨rfl, rfl, rfl, rfl, rfl, rfl, rfl, trivial⟩, hM.pick [] rfl⟩
  · rintro a w51 ⟨t27, rfl, hf, hM⟩
    try dsimp only at h
    rcases cond_some h with ⟨hc52, h⟩ | ⟨hc52, h⟩
    · refine cond_t hf rfl hc52 ?_
      refine wp_seq ?_
      refine region_pl ?_
      refine q_ hf rfl rfl rfl (e_build hf Tryz.zeroValue38 Tryz.underlying38 (bp_38 _ Tryz.underlying38.symm) rfl (cs := #[vI (0), vS (([] : Str)), vS (([] : Str)), vS (([] : Str)), vS (([] : Str)), .bool (false)]) (by kernel_rfl)) fun a hf => ?_
      refine pl_0 hf rfl rfl (w_store hf hM (us := [vI (0), vS (([] : Str)), vS (([] : Str)), vS (([] : Str)), vS (([] : Str)), .bool (false)]) (cs' := [vI (0), vS (([] : Str)), vS (([] : Str)), vS (([] : Str)), vS (([] : Str)), .bool (false)]) rfl rfl (k := 0) rfl rfl Tryz.sizeOf38 rfl rfl rfl fun w53 hM => ?_)
      dsimp only [List.set] at hM
      refine q_ hf rfl rfl rfl (e_assign hf rfl) fun a hf => ?_
      refine pl_nil ?_
      refine then_n ?_
      refine wp_ret ?_
      refine then_r ?_
      obtain rfl := some_inj h
      have hres56 := leaveV2 (P := Tryz.prog) Tryz.results17 (res_agg hf rfl ⟨Tryz.isAgg38, Tryz.sizeOf38⟩ (us := [vI (0), vS (([] : Str)), vS (([] : Str)), vS (([] : Str)), vS (([] : Str)), .bool (false)]) rfl (hM.boxSub (k := 0) (o := 0) rfl rfl)) (res_tmp hf rfl)
      have hM := hM.outs (own' := []) 0 rfl
      exact bodyPost_ret hres56 hf.defers ⟨rfl, hM.fin, (R64_lit rfl), (lit_len rfl), (lit_len rfl), (lit_len rfl), (lit_len rfl), (R64_lit rfl)⟩
    · refine cond_f hf rfl hc52 ?_
      refine wp_skip ?_
      refine then_n ?_
      refine wp_seq ?_
      refine wp_seq ?_
      refine region_pl ?_
      refine q_ hf rfl rfl rfl (e_loadA hf (us := [vI (p9.Row), vI (p9.Col), .bool (p9.Down), vS (p9.Word)]) rfl ⟨Tryz.isAgg41, Tryz.sizeOf41⟩ rfl (hM.boxSub (k := 1) (us := [vI (p9.Row), vI (p9.Col), .bool (p9.Down), vS (p9.Word)]) (o := 0) rfl rfl)) fun a hf => ?_
      obtain ⟨y57, hz58, h⟩ := bind_some h
      refine pl_l hf rfl rfl rfl (w_call hf Tryz.call42 rfl (r_spec_l12Ok ⟨_, All C _ _, none_, hM.all_lt, none_not, C.G, hM.g_lt, g_none, hM.tabs⟩ b1 _ _ (hM.lendBox (k := 2) rfl (BoardRep_mk (x := b1) hp2 hp3 hp4)) p9 hp10 hp11 hp12 _ hz58) ?_)
      rintro _ w59 ⟨rfl, hM2⟩
      obtain ⟨hM, hx60⟩ := hM.backA hM2
      clear hM2
      refine ⟨_, rfl, fun a hf => ?_⟩
      refine q_ hf rfl rfl rfl (e_not hf rfl) fun a hf => ?_
      refine pl_nil ?_
      refine then_n ?_
      rcases cond_some h with ⟨hc62, h⟩ | ⟨hc62, h⟩
      · refine cond_t hf rfl hc62 ?_
        refine wp_seq ?_
        refine region_pl ?_
        refine q_ hf rfl rfl rfl (e_build hf Tryz.zeroValue38 Tryz.underlying38 (bp_38 _ Tryz.underlying38.symm) rfl (cs := #[vI (0), vS (([] : Str)), vS (([] : Str)), vS (([] : Str)), vS (([] : Str)), .bool (false)]) (by kernel_rfl)) fun a hf => ?_
        refine pl_0 hf rfl rfl (w_store hf hM (us := [vI (0), vS (([] : Str)), vS (([] : Str)), vS (([] : Str)), vS (([] : Str)), .bool (false)]) (cs' := [vI (0), vS (([] : Str)), vS (([] : Str)), vS (([] : Str)), vS (([] : Str)), .bool (false)]) rfl rfl (k := 0) rfl rfl Tryz.sizeOf38 rfl rfl rfl fun w63 hM => ?_)
        dsimp only [List.set] at hM
        refine q_ hf rfl rfl rfl (e_assign hf rfl) fun a hf => ?_
        refine pl_nil ?_
        refine then_n ?_
        refine wp_ret ?_
        refine then_r ?_
        obtain rfl := some_inj h
        have hres66 := leaveV2 (P := Tryz.prog) Tryz.results17 (res_agg hf rfl ⟨Tryz.isAgg38, Tryz.sizeOf38⟩ (us := [vI (0), vS (([] : Str)), vS (([] : Str)), vS (([] : Str)), vS (([] : Str)), .bool (false)]) rfl (hM.boxSub (k := 0) (o := 0) rfl rfl)) (res_tmp hf rfl)
        have hM := hM.outs (own' := []) 0 rfl
        exact bodyPost_ret hres66 hf.defers ⟨rfl, hM.fin, (R64_lit rfl), (lit_len rfl), (lit_len rfl), (lit_len rfl), (lit_len rfl), (R64_lit rfl)⟩
      · refine cond_f hf rfl hc62 ?_
        refine wp_skip ?_
        refine then_n ?_
        refine wp_seq ?_
        refine region_pl ?_
        refine q_ hf rfl rfl rfl (e_move hf rfl) fun a hf => ?_
        refine q_ hf rfl rfl rfl (e_move hf rfl) fun a hf => ?_
        refine q_ hf rfl rfl rfl (e_loadA hf (us := [vI (p9.Row), vI (p9.Col), .bool (p9.Down), vS (p9.Word)]) rfl ⟨Tryz.isAgg41, Tryz.sizeOf41⟩ rfl (hM.boxSub (k := 1) (us := [vI (p9.Row), vI (p9.Col), .bool (p9.Down), vS (p9.Word)]) (o := 0) rfl rfl)) fun a hf => ?_
        refine q_ hf rfl rfl rfl (e_move hf rfl) fun a hf => ?_
        obtain ⟨y67, hz68, h⟩ := bind_some h
        refine pl_l hf rfl rfl rfl (w_call hf Tryz.call43 rfl (r_spec_l23End ⟨_, All C _ _, none_, hM.all_lt, none_not, C.G, hM.g_lt, g_none, hM.tabs⟩ b1 _ _ (hM.lendBox (k := 2) rfl (BoardRep_mk (x := b1) hp2 hp3 hp4)) mine5 hp6 unseen7 hp8 p9 hp10 hp11 hp12 tile13 hp14 _ hz68) ?_)
        rintro _ w74 ⟨rfl, hM2, hv69, hv70, hv71, hv72, hv73⟩
        obtain ⟨hM, hx75⟩ := hM.backA hM2
        clear hM2
        refine ⟨_, rfl, fun a hf => ?_⟩
        refine q_ hf rfl rfl rfl (e_move hf rfl) fun a hf => ?_
        refine q_ hf rfl rfl rfl (e_extract hf rfl rfl) fun a hf => ?_
        refine q_ hf rfl rfl rfl (e_extract hf rfl rfl) fun a hf => ?_
        refine pl_l hf rfl rfl rfl (w_alloc hM (cs := [vI (0), vS (([] : Str)), vS (([] : Str)), vS (([] : Str)), vS (([] : Str)), .bool (false)]) Tryz.zeroValue38 rfl fun b77 w78 hx79 hM a hf => ?_)
        refine pl_0 hf rfl rfl (w_store hf hM (us := [vI (y67.1.Board.Size), vS (y67.1.Board.Premium), vS (y67.1.Board.Cells), vS (y67.1.Mine), vS (y67.1.Theirs), .bool (y67.1.Passed)]) (cs' := [vI (y67.1.Board.Size), vS (y67.1.Board.Premium), vS (y67.1.Board.Cells), vS (y67.1.Mine), vS (y67.1.Theirs), .bool (y67.1.Passed)]) rfl rfl (k := 0) rfl rfl Tryz.sizeOf38 rfl rfl rfl fun w81 hM => ?_)
        dsimp only [List.set] at hM
        refine q_ hf rfl rfl rfl (e_assign hf rfl) fun a hf => ?_
        refine pl_nil ?_
        refine then_n ?_
        refine wp_seq ?_
        refine wp_seq ?_
        refine region_pl ?_
        refine q_ hf rfl rfl rfl (e_move hf rfl) fun a hf => ?_
        refine q_ hf rfl rfl rfl (e_not hf rfl) fun a hf => ?_
        refine pl_nil ?_
        refine then_n ?_
        rcases cond_some h with ⟨hc84, h⟩ | ⟨hc84, h⟩
        · refine cond_t hf rfl hc84 ?_
          refine wp_seq ?_
          refine region_pl ?_
          refine q_ hf rfl rfl rfl (e_build hf Tryz.zeroValue38 Tryz.underlying38 (bp_38 _ Tryz.underlying38.symm) rfl (cs := #[vI (0), vS (([] : Str)), vS (([] : Str)), vS (([] : Str)), vS (([] : Str)), .bool (false)]) (by kernel_rfl)) fun a hf => ?_
          refine pl_0 hf rfl rfl (w_store hf hM (us := [vI (0), vS (([] : Str)), vS (([] : Str)), vS (([] : Str)), vS (([] : Str)), .bool (false)]) (cs' := [vI (0), vS (([] : Str)), vS (([] : Str)), vS (([] : Str)), vS (([] : Str)), .bool (false)]) rfl rfl (k := 1) rfl rfl Tryz.sizeOf38 rfl rfl rfl fun w85 hM => ?_)
          dsimp only [List.set] at hM
          refine q_ hf rfl rfl rfl (e_assign hf rfl) fun a hf => ?_
          refine pl_nil ?_
          refine then_n ?_
          refine wp_ret ?_
          refine then_r ?_
          obtain rfl := some_inj h
          have hres88 := leaveV2 (P := Tryz.prog) Tryz.results17 (res_agg hf rfl ⟨Tryz.isAgg38, Tryz.sizeOf38⟩ (us := [vI (0), vS (([] : Str)), vS (([] : Str)), vS (([] : Str)), vS (([] : Str)), .bool (false)]) rfl (hM.boxSub (k := 1) (o := 0) rfl rfl)) (res_tmp hf rfl)
          have hM := hM.outs (own' := []) 0 rfl
          exact bodyPost_ret hres88 hf.defers ⟨rfl, hM.fin, (R64_lit rfl), (lit_len rfl), (lit_len rfl), (lit_len rfl), (lit_len rfl), (R64_lit rfl)⟩
        · refine cond_f hf rfl hc84 ?_
          refine wp_skip ?_
          refine then_n ?_
          refine wp_seq ?_
          refine region_pl ?_
          refine q_ hf rfl rfl rfl (e_loadA hf (us := [vI (y67.1.Board.Size), vS (y67.1.Board.Premium), vS (y67.1.Board.Cells), vS (y67.1.Mine), vS (y67.1.Theirs), .bool (y67.1.Passed)]) rfl ⟨Tryz.isAgg38, Tryz.sizeOf38⟩ rfl (hM.boxSub (k := 0) (us := [vI (y67.1.Board.Size), vS (y67.1.Board.Premium), vS (y67.1.Board.Cells), vS (y67.1.Mine), vS (y67.1.Theirs), .bool (y67.1.Passed)]) (o := 0) rfl rfl)) fun a hf => ?_
          refine pl_0 hf rfl rfl (w_store hf hM (us := [vI (y67.1.Board.Size), vS (y67.1.Board.Premium), vS (y67.1.Board.Cells), vS (y67.1.Mine), vS (y67.1.Theirs), .bool (y67.1.Passed)]) (cs' := [vI (y67.1.Board.Size), vS (y67.1.Board.Premium), vS (y67.1.Board.Cells), vS (y67.1.Mine), vS (y67.1.Theirs), .bool (y67.1.Passed)]) rfl rfl (k := 1) rfl rfl Tryz.sizeOf38 rfl rfl rfl fun w89 hM => ?_)
          dsimp only [List.set] at hM
          refine q_ hf rfl rfl rfl (e_assign hf rfl) fun a hf => ?_
          refine pl_nil ?_
          refine then_n ?_
          refine wp_ret ?_
          obtain rfl := some_inj h
          have hres92 := leaveV2 (P := Tryz.prog) Tryz.results17 (res_agg hf rfl ⟨Tryz.isAgg38, Tryz.sizeOf38⟩ (us := [vI (y67.1.Board.Size), vS (y67.1.Board.Premium), vS (y67.1.Board.Cells), vS (y67.1.Mine), vS (y67.1.Theirs), .bool (y67.1.Passed)]) rfl (hM.boxSub (k := 1) (o := 0) rfl rfl)) (res_tmp hf rfl)
          have hM := hM.outs (own' := []) 0 rfl
          exact bodyPost_ret hres92 hf.defers ⟨rfl, hM.fin, hv69, hv70, hv71, hv72, hv73, (R64_lit rfl)⟩

set_option maxRecDepth 100000 in
set_option maxHeartbeats 4000000 in
theorem r_impl_within (C : Cx) (x1 : Int) (hp2 : R64 x1) (low3 : Int) (hp4 : R64 low3) (high5 : Int) (hp6 : R64 high5) (r : Bool) (h : m_impl_within x1 low3 high5 = some r) :
    Calls Tryz.prog 124 #[vI (x1), vI (low3), vI (high5)] C.w0 fun e w => e = .returned (.bool (r)) ∧ Mem C w [] [] := by
  have hM := Mem.begin C [] trivial
  refine enter Tryz.func124 rfl Tryz.ntmps124 rfl fun a hf => ?_
  unfold m_impl_within at h
  refine wp_seq ?_
  refine region_pl ?_
  refine q_ hf rfl rfl rfl (e_assign hf rfl) fun a hf => ?_
  refine pl_nil ?_
  refine then_n ?_
  obtain ⟨x9, h10, h⟩ := bind_some h
  refine seq_join (fun a w => ∃ (t7 : Bool), t7 = x9 ∧ Has 15 a [(6, .bool (t7))] ∧ Mem C w [] []) ?_ ?_
  · refine region_pl ?_
    refine q_ hf rfl rfl rfl (e_move hf rfl) fun a hf => ?_
    refine q_ hf rfl rfl rfl (e_move hf rfl) fun a hf => ?_
    refine q_ hf rfl rfl rfl (e_le hf (x := low3) (y := x1) rfl rfl) fun a hf => ?_
    refine q_ hf rfl rfl rfl (e_move hf rfl) fun a hf => ?_
    rcases cond_some h10 with ⟨hc11, h10⟩ | ⟨hc11, h10⟩
    · refine gq (wanted_t hf rfl rfl rfl rfl hc11) hf rfl rfl (e_move hf rfl) fun a hf => ?_
      refine gq (wanted_t hf rfl rfl rfl rfl hc11) hf rfl rfl (e_move hf rfl) fun a hf => ?_
      refine gq (wanted_t hf rfl rfl rfl rfl hc11) hf rfl rfl (e_le hf (x := x1) (y := high5) rfl rfl) fun a hf => ?_
      refine q_ hf rfl rfl rfl (e_pick_t hf rfl hc11 rfl) fun a hf => ?_
      refine q_ hf rfl rfl rfl (e_assign hf rfl) fun a hf => ?_
      refine pl_nil ?_
      obtain rfl := some_inj h10
      refine then_n ?_
      exact ⟨(decide (x1 ≤ high5)), rfl, hf.keep ⟨rfl, trivial⟩, hM.pick [] rfl⟩
    · refine pl_gs (wanted_f hf rfl rfl rfl rfl hc11) hf rfl rfl fun a hf => ?_
      refine pl_gs (wanted_f hf rfl rfl rfl rfl hc11) hf rfl rfl fun a hf => ?_
      refine pl_gs (wanted_f hf rfl rfl rfl rfl hc11) hf rfl rfl fun a hf => ?_
      refine q_ hf rfl rfl rfl (e_pick_f hf rfl hc11 rfl) fun a hf => ?_
      refine q_ hf rfl rfl rfl (e_assign hf rfl) fun a hf => ?_
      refine pl_nil ?_
      obtain rfl := some_inj h10
      refine then_n ?_
      exact ⟨false, rfl, hf.keep ⟨rfl, trivial⟩, hM.pick [] rfl⟩
  · rintro a w14 ⟨t7, rfl, hf, hM⟩
    try dsimp only at h
    refine wp_ret ?_
    obtain rfl := some_inj h
    exact leave1 hf rfl rfl ⟨rfl, hM.fin⟩

set_option maxRecDepth 100000 in
set_option maxHeartbeats 4000000 in
theorem r_impl_sizeOk (C : Cx) (size1 : Int) (hp2 : R64 size1) (r : Bool) (h : m_impl_sizeOk size1 = some r) :
    Calls Tryz.prog 94 #[vI (size1)] C.w0 fun e w => e = .returned (.bool (r)) ∧ Mem C w [] [] := by
  have hM := Mem.begin C [] trivial
  refine enter Tryz.func94 rfl Tryz.ntmps94 rfl fun a hf => ?_
  unfold m_impl_sizeOk at h
  refine wp_seq ?_
  refine region_pl ?_
  refine q_ hf rfl rfl rfl (e_assign hf rfl) fun a hf => ?_
  refine pl_nil ?_
  refine then_n ?_
  refine wp_seq ?_
  refine region_pl ?_
  refine q_ hf rfl rfl rfl (e_move hf rfl) fun a hf => ?_
  obtain ⟨y3, hz4, h⟩ := bind_some h
  refine pl_l hf rfl rfl rfl (w_call hf Tryz.call124 rfl (r_impl_within ⟨_, Sh C _ _, none_, hM.sh_lt, none_not, C.G, hM.g_lt, g_none, hM.tabs⟩ size1 hp2 5 (R64_lit rfl) 15 (R64_lit rfl) _ hz4) ?_)
  rintro _ w5 ⟨rfl, hM2⟩
  obtain ⟨hM, hx6, hup7⟩ := hM.back hM2
  dsimp only [List.cons_append, List.nil_append] at hM hup7
  clear hM2
  refine ⟨_, rfl, fun a hf => ?_⟩
  refine q_ hf rfl rfl rfl (e_assign hf rfl) fun a hf => ?_
  refine pl_nil ?_
  refine then_n ?_
  refine wp_ret ?_
  obtain rfl := some_inj h
  exact leave1 hf rfl rfl ⟨rfl, hM.fin⟩

set_option maxRecDepth 100000 in
set_option maxHeartbeats 4000000 in
theorem r_impl_allBytes (C : Cx) (s1 : Str) (hp2 : s1.length ≤ maxLen) (is3 : (UInt8 → Option Bool)) (fk4 : FuncId) (fc5 : List Value) (hfn6 : FnOk Tryz.prog C fk4 (FnC_UInt8_to_Bool fk4 fc5 is3)) (r : Bool) (h : m_impl_allBytes s1 is3 = some r) :
    Calls Tryz.prog 95 #[vS (s1), .func (.func fk4) #[] fc5.toArray] C.w0 fun e w => e = .returned (.bool (r)) ∧ Mem C w [] [] := by
  have hM := Mem.begin C [] trivial
  refine enter Tryz.func95 rfl Tryz.ntmps95 rfl fun a hf => ?_
  unfold m_impl_allBytes at h
  refine wp_seq ?_
  refine region_pl ?_
  refine q_ hf rfl rfl rfl (e_assign hf rfl) fun a hf => ?_
  refine pl_nil ?_
  refine then_n ?_
  obtain ⟨x7, h8, h⟩ := bind_some h
  refine seq_join (fun a w => (.inl ()) = x7 ∧ Has 18 a [] ∧ Mem C w [] []) ?_ ?_
  · refine wp_seq ?_
    refine region_pl ?_
    refine q_ hf rfl rfl rfl (e_assign hf rfl) fun a hf => ?_
    refine pl_nil ?_
    refine then_n ?_
    refine wp_block ?_
    obtain ⟨x12, h13, h8⟩ := bind_some h8
    refine wp_loopM h13 (fun s a w => ∃ (n9 : Int), n9 = s ∧ Has 18 a [(0, vS (s1)), (1, .func (.func fk4) #[] fc5.toArray), (5, vI (n9))] ∧ Mem C w [] [] ∧ R64 n9) ?_ ?_
    · exact ⟨0, rfl, hf.keep ⟨rfl, rfl, rfl, trivial⟩, hM.pick [] rfl, (R64_lit rfl)⟩
    · rintro s o14 a w11 ⟨n9, rfl, hf, hM, hv10⟩ h15 hd16
      replace h15 : m_impl_allBytes_l1 s1 is3 n9 = some o14 := h15
      unfold m_impl_allBytes_l1 at h15
      refine wp_seq ?_
      refine wp_seq ?_
      refine region_pl ?_
      refine q_ hf rfl rfl rfl (e_move hf rfl) fun a hf => ?_
      refine q_ hf rfl rfl rfl (e_move hf rfl) fun a hf => ?_
      refine q_ hf rfl rfl rfl (e_lenS hf (x := s1) rfl Tryz.underlying9) fun a hf => ?_
      refine q_ hf rfl rfl rfl (e_lt hf (x := n9) (y := (s1.length : Int)) rfl rfl) fun a hf => ?_
      refine pl_nil ?_
      refine then_n ?_
      rcases cond_some h15 with ⟨hc17, h15⟩ | ⟨hc17, h15⟩
      · refine cond_t hf rfl hc17 ?_
        refine wp_skip ?_
        refine then_n ?_
        refine wp_seq ?_
        refine wp_block ?_
        refine wp_seq ?_
        refine region_pl ?_
        refine q_ hf rfl rfl rfl (e_move hf rfl) fun a hf => ?_
        refine q_ hf rfl rfl rfl (e_move hf rfl) fun a hf => ?_
        refine q_ hf rfl rfl rfl (e_move hf rfl) fun a hf => ?_
        obtain ⟨c18, hz19, h15⟩ := bind_some h15
        refine q_ hf rfl rfl rfl (e_indexS hf (x := s1) rfl rfl Tryz.underlying9 hz19) fun a hf => ?_
        obtain ⟨y20, hz21, h15⟩ := bind_some h15
        refine pl_l hf rfl rfl rfl (w_callV hf rfl hfn6.1 rfl (hfn6.2 ⟨_, Sh C _ _, none_, hM.sh_lt, none_not, C.G, hM.g_lt, g_none, hM.tabs⟩ hM.sameS hM.s0sh c18 _ hz21) ?_)
        rintro _ w22 ⟨rfl, hM2⟩
        obtain ⟨hM, hx23, hup24⟩ := hM.back hM2
        dsimp only [List.cons_append, List.nil_append] at hM hup24
        clear hM2
        refine ⟨_, rfl, fun a hf => ?_⟩
        refine q_ hf rfl rfl rfl (e_not hf rfl) fun a hf => ?_
        refine pl_nil ?_
        refine then_n ?_
        rcases cond_some h15 with ⟨hc25, h15⟩ | ⟨hc25, h15⟩
        · refine cond_t hf rfl hc25 ?_
          refine wp_seq ?_
          refine region_pl ?_
          refine q_ hf rfl rfl rfl (e_assign hf rfl) fun a hf => ?_
          refine pl_nil ?_
          refine then_n ?_
          refine wp_ret ?_
          refine blk_r ?_
          refine then_r ?_
          obtain rfl := some_inj h15
          obtain rfl := hd16 _ rfl
          try dsimp only at h8
          refine then_r ?_
          refine blk_r ?_
          obtain rfl := some_inj h8
          try dsimp only at h
          refine then_r ?_
          obtain rfl := some_inj h
          exact leave1 hf rfl rfl ⟨rfl, hM.fin⟩
        · refine cond_f hf rfl hc25 ?_
          refine wp_skip ?_
          refine blk_n ?_
          refine then_n ?_
          refine region_pl ?_
          refine q_ hf rfl rfl rfl (e_move hf rfl) fun a hf => ?_
          obtain ⟨z26, hz27, h15⟩ := bind_some h15
          refine q_ hf rfl rfl rfl (e_add hf rfl rfl hz27) fun a hf => ?_
          refine q_ hf rfl rfl rfl (e_assign hf rfl) fun a hf => ?_
          refine pl_nil ?_
          obtain rfl := some_inj h15
          refine then_n ⟨_, rfl, ?_⟩
          exact ⟨z26, rfl, hf.keep ⟨rfl, rfl, rfl, trivial⟩, hM.pick [] rfl, (chk_R hz27)⟩
      · refine cond_f hf rfl hc17 ?_
        refine wp_exit ?_
        refine then_x ?_
        obtain rfl := some_inj h15
        obtain rfl := hd16 _ rfl
        try dsimp only at h8
        refine then_x ?_
        refine exit_hit ?_
        obtain rfl := some_inj h8
        refine then_n ?_
        exact ⟨rfl, hf.keep trivial, hM.pick [] rfl⟩
  · rintro a w34 ⟨rfl, hf, hM⟩
    try dsimp only at h
    refine wp_seq ?_
    refine region_pl ?_
    refine q_ hf rfl rfl rfl (e_assign hf rfl) fun a hf => ?_
    refine pl_nil ?_
    refine then_n ?_
    refine wp_ret ?_
    obtain rfl := some_inj h
    exact leave1 hf rfl rfl ⟨rfl, hM.fin⟩

set_option maxRecDepth 100000 in
set_option maxHeartbeats 4000000 in
theorem r_impl_premiumOk (C : Cx) (c1 : UInt8) (r : Bool) (h : m_impl_premiumOk c1 = some r) :
    Calls Tryz.prog 96 #[vB (c1)] C.w0 fun e w => e = .returned (.bool (r)) ∧ Mem C w [] [] := by
  have hM := Mem.begin C [] trivial
  refine enter Tryz.func96 rfl Tryz.ntmps96 rfl fun a hf => ?_
  unfold m_impl_premiumOk at h
  refine wp_seq ?_
  refine region_pl ?_
  refine q_ hf rfl rfl rfl (e_assign hf rfl) fun a hf => ?_
  refine pl_nil ?_
  refine then_n ?_
  refine wp_seq ?_
  refine region_pl ?_
  refine q_ hf rfl rfl rfl (e_move hf rfl) fun a hf => ?_
  obtain ⟨y2, hz3, h⟩ := bind_some h
  refine pl_l hf rfl rfl rfl (w_call hf Tryz.call142 rfl (r_strings_IndexByte ⟨_, Sh C _ _, none_, hM.sh_lt, none_not, C.G, hM.g_lt, g_none, hM.tabs⟩ ([50, 51, 100, 116, 46] : Str) (lit_len rfl) c1 _ hz3) ?_)
  rintro _ w5 ⟨rfl, hM2, hv4⟩
  obtain ⟨hM, hx6, hup7⟩ := hM.back hM2
  dsimp only [List.cons_append, List.nil_append] at hM hup7
  clear hM2
  refine ⟨_, rfl, fun a hf => ?_⟩
  refine q_ hf rfl rfl rfl (e_ge hf (x := y2) (y := 0) rfl rfl) fun a hf => ?_
  refine q_ hf rfl rfl rfl (e_assign hf rfl) fun a hf => ?_
  refine pl_nil ?_
  refine then_n ?_
  refine wp_ret ?_
  obtain rfl := some_inj h
  exact leave1 hf rfl rfl ⟨rfl, hM.fin⟩

set_option maxRecDepth 100000 in
set_option maxHeartbeats 4000000 in
theorem r_impl_small (C : Cx) (c1 : UInt8) (r : Bool) (h : m_impl_small c1 = some r) :
    Calls Tryz.prog 115 #[vB (c1)] C.w0 fun e w => e = .returned (.bool (r)) ∧ Mem C w [] [] := by
  have hM := Mem.begin C [] trivial
  refine enter Tryz.func115 rfl Tryz.ntmps115 rfl fun a hf => ?_
  unfold m_impl_small at h
  refine wp_seq ?_
  refine region_pl ?_
  refine q_ hf rfl rfl rfl (e_assign hf rfl) fun a hf => ?_
  refine pl_nil ?_
  refine then_n ?_
  obtain ⟨x4, h5, h⟩ := bind_some h
  refine seq_join (fun a w => ∃ (t2 : Bool), t2 = x4 ∧ Has 9 a [(2, .bool (t2))] ∧ Mem C w [] []) ?_ ?_
  · refine region_pl ?_
    refine q_ hf rfl rfl rfl (e_move hf rfl) fun a hf => ?_
    refine q_ hf rfl rfl rfl (e_leB hf (x := 97) (y := c1) rfl rfl) fun a hf => ?_
    refine q_ hf rfl rfl rfl (e_move hf rfl) fun a hf => ?_
    rcases cond_some h5 with ⟨hc6, h5⟩ | ⟨hc6, h5⟩
    · refine gq (wanted_t hf rfl rfl rfl rfl hc6) hf rfl rfl (e_move hf rfl) fun a hf => ?_
      refine gq (wanted_t hf rfl rfl rfl rfl hc6) hf rfl rfl (e_leB hf (x := c1) (y := 122) rfl rfl) fun a hf => ?_
      refine q_ hf rfl rfl rfl (e_pick_t hf rfl hc6 rfl) fun a hf => ?_
      refine q_ hf rfl rfl rfl (e_assign hf rfl) fun a hf => ?_
      refine pl_nil ?_
      obtain rfl := some_inj h5
      refine then_n ?_
      exact ⟨(decide (c1 ≤ 122)), rfl, hf.keep ⟨rfl, trivial⟩, hM.pick [] rfl⟩
    · refine pl_gs (wanted_f hf rfl rfl rfl rfl hc6) hf rfl rfl fun a hf => ?_
      refine pl_gs (wanted_f hf rfl rfl rfl rfl hc6) hf rfl rfl fun a hf => ?_
      refine q_ hf rfl rfl rfl (e_pick_f hf rfl hc6 rfl) fun a hf => ?_
      refine q_ hf rfl rfl rfl (e_assign hf rfl) fun a hf => ?_
      refine pl_nil ?_
      obtain rfl := some_inj h5
      refine then_n ?_
      exact ⟨false, rfl, hf.keep ⟨rfl, trivial⟩, hM.pick [] rfl⟩
  · rintro a w9 ⟨t2, rfl, hf, hM⟩
    try dsimp only at h
    refine wp_ret ?_
    obtain rfl := some_inj h
    exact leave1 hf rfl rfl ⟨rfl, hM.fin⟩

set_option maxRecDepth 100000 in
set_option maxHeartbeats 4000000 in
theorem r_impl_capital (C : Cx) (c1 : UInt8) (r : Bool) (h : m_impl_capital c1 = some r) :
    Calls Tryz.prog 143 #[vB (c1)] C.w0 fun e w => e = .returned (.bool (r)) ∧ Mem C w [] [] := by
  have hM := Mem.begin C [] trivial
  refine enter Tryz.func143 rfl Tryz.ntmps143 rfl fun a hf => ?_
  unfold m_impl_capital at h
  refine wp_seq ?_
  refine region_pl ?_
  refine q_ hf rfl rfl rfl (e_assign hf rfl) fun a hf => ?_
  refine pl_nil ?_
  refine then_n ?_
  obtain ⟨x4, h5, h⟩ := bind_some h
  refine seq_join (fun a w => ∃ (t2 : Bool), t2 = x4 ∧ Has 9 a [(2, .bool (t2))] ∧ Mem C w [] []) ?_ ?_
  · refine region_pl ?_
    refine q_ hf rfl rfl rfl (e_move hf rfl) fun a hf => ?_
    refine q_ hf rfl rfl rfl (e_leB hf (x := 65) (y := c1) rfl rfl) fun a hf => ?_
    refine q_ hf rfl rfl rfl (e_move hf rfl) fun a hf => ?_
    rcases cond_some h5 with ⟨hc6, h5⟩ | ⟨hc6, h5⟩
    · refine gq (wanted_t hf rfl rfl rfl rfl hc6) hf rfl rfl (e_move hf rfl) fun a hf => ?_
      refine gq (wanted_t hf rfl rfl rfl rfl hc6) hf rfl rfl (e_leB hf (x := c1) (y := 90) rfl rfl) fun a hf => ?_
      refine q_ hf rfl rfl rfl (e_pick_t hf rfl hc6 rfl) fun a hf => ?_
      refine q_ hf rfl rfl rfl (e_assign hf rfl) fun a hf => ?_
      refine pl_nil ?_
      obtain rfl := some_inj h5
      refine then_n ?_
      exact ⟨(decide (c1 ≤ 90)), rfl, hf.keep ⟨rfl, trivial⟩, hM.pick [] rfl⟩
    · refine pl_gs (wanted_f hf rfl rfl rfl rfl hc6) hf rfl rfl fun a hf => ?_
      refine pl_gs (wanted_f hf rfl rfl rfl rfl hc6) hf rfl rfl fun a hf => ?_
      refine q_ hf rfl rfl rfl (e_pick_f hf rfl hc6 rfl) fun a hf => ?_
      refine q_ hf rfl rfl rfl (e_assign hf rfl) fun a hf => ?_
      refine pl_nil ?_
      obtain rfl := some_inj h5
      refine then_n ?_
      exact ⟨false, rfl, hf.keep ⟨rfl, trivial⟩, hM.pick [] rfl⟩
  · rintro a w9 ⟨t2, rfl, hf, hM⟩
    try dsimp only at h
    refine wp_ret ?_
    obtain rfl := some_inj h
    exact leave1 hf rfl rfl ⟨rfl, hM.fin⟩

set_option maxRecDepth 100000 in
set_option maxHeartbeats 4000000 in
theorem r_impl_cellOk (C : Cx) (c1 : UInt8) (r : Bool) (h : m_impl_cellOk c1 = some r) :
    Calls Tryz.prog 97 #[vB (c1)] C.w0 fun e w => e = .returned (.bool (r)) ∧ Mem C w [] [] := by
  have hM := Mem.begin C [] trivial
  refine enter Tryz.func97 rfl Tryz.ntmps97 rfl fun a hf => ?_
  unfold m_impl_cellOk at h
  refine wp_seq ?_
  refine region_pl ?_
  refine q_ hf rfl rfl rfl (e_assign hf rfl) fun a hf => ?_
  refine pl_nil ?_
  refine then_n ?_
  obtain ⟨x4, h5, h⟩ := bind_some h
  refine seq_join (fun a w => ∃ (t2 : Bool), t2 = x4 ∧ Has 13 a [(2, .bool (t2))] ∧ Mem C w [] []) ?_ ?_
  · refine region_pl ?_
    refine q_ hf rfl rfl rfl (e_move hf rfl) fun a hf => ?_
    refine q_ hf rfl rfl rfl (e_eqB hf (x := c1) (y := 46) rfl rfl) fun a hf => ?_
    refine q_ hf rfl rfl rfl (e_move hf rfl) fun a hf => ?_
    rcases cond_some h5 with ⟨hc6, h5⟩ | ⟨hc6, h5⟩
    · refine pl_gs (wanted_f hf rfl rfl rfl rfl hc6) hf rfl rfl fun a hf => ?_
      refine pl_gs (wanted_f hf rfl rfl rfl rfl hc6) hf rfl rfl fun a hf => ?_
      refine q_ hf rfl rfl rfl (e_pick_t hf rfl hc6 rfl) fun a hf => ?_
      refine q_ hf rfl rfl rfl (e_move hf rfl) fun a hf => ?_
      refine pl_gs (wanted_f hf rfl rfl rfl rfl rfl) hf rfl rfl fun a hf => ?_
      refine pl_gs (wanted_f hf rfl rfl rfl rfl rfl) hf rfl rfl fun a hf => ?_
      refine q_ hf rfl rfl rfl (e_pick_t hf rfl rfl rfl) fun a hf => ?_
      refine q_ hf rfl rfl rfl (e_assign hf rfl) fun a hf => ?_
      refine pl_nil ?_
      obtain rfl := some_inj h5
      refine then_n ?_
      exact ⟨true, rfl, hf.keep ⟨rfl, trivial⟩, hM.pick [] rfl⟩
    · refine gq (wanted_t hf rfl rfl rfl rfl hc6) hf rfl rfl (e_move hf rfl) fun a hf => ?_
      obtain ⟨y8, hz9, h5⟩ := bind_some h5
      refine pl_gl (wanted_t hf rfl rfl rfl rfl hc6) hf rfl rfl (w_call hf Tryz.call115 rfl (r_impl_small ⟨_, Sh C _ _, none_, hM.sh_lt, none_not, C.G, hM.g_lt, g_none, hM.tabs⟩ c1 _ hz9) ?_)
      rintro _ w10 ⟨rfl, hM2⟩
      obtain ⟨hM, hx11, hup12⟩ := hM.back hM2
      dsimp only [List.cons_append, List.nil_append] at hM hup12
      clear hM2
      refine ⟨_, rfl, fun a hf => ?_⟩
      refine q_ hf rfl rfl rfl (e_pick_f hf rfl hc6 rfl) fun a hf => ?_
      refine q_ hf rfl rfl rfl (e_move hf rfl) fun a hf => ?_
      rcases cond_some h5 with ⟨hc13, h5⟩ | ⟨hc13, h5⟩
      · refine pl_gs (wanted_f hf rfl rfl rfl rfl hc13) hf rfl rfl fun a hf => ?_
        refine pl_gs (wanted_f hf rfl rfl rfl rfl hc13) hf rfl rfl fun a hf => ?_
        refine q_ hf rfl rfl rfl (e_pick_t hf rfl hc13 rfl) fun a hf => ?_
        refine q_ hf rfl rfl rfl (e_assign hf rfl) fun a hf => ?_
        refine pl_nil ?_
        obtain rfl := some_inj h5
        refine then_n ?_
        exact ⟨true, rfl, hf.keep ⟨rfl, trivial⟩, hM.pick [] rfl⟩
      · refine gq (wanted_t hf rfl rfl rfl rfl hc13) hf rfl rfl (e_move hf rfl) fun a hf => ?_
        obtain ⟨y15, hz16, h5⟩ := bind_some h5
        refine pl_gl (wanted_t hf rfl rfl rfl rfl hc13) hf rfl rfl (w_call hf Tryz.call143 rfl (r_impl_capital ⟨_, Sh C _ _, none_, hM.sh_lt, none_not, C.G, hM.g_lt, g_none, hM.tabs⟩ c1 _ hz16) ?_)
        rintro _ w17 ⟨rfl, hM2⟩
        obtain ⟨hM, hx18, hup19⟩ := hM.back hM2
        dsimp only [List.cons_append, List.nil_append] at hM hup19
        clear hM2
        refine ⟨_, rfl, fun a hf => ?_⟩
        refine q_ hf rfl rfl rfl (e_pick_f hf rfl hc13 rfl) fun a hf => ?_
        refine q_ hf rfl rfl rfl (e_assign hf rfl) fun a hf => ?_
        refine pl_nil ?_
        obtain rfl := some_inj h5
        refine then_n ?_
        exact ⟨y15, rfl, hf.keep ⟨rfl, trivial⟩, hM.pick [] rfl⟩
  · rintro a w21 ⟨t2, rfl, hf, hM⟩
    try dsimp only at h
    refine wp_ret ?_
    obtain rfl := some_inj h
    exact leave1 hf rfl rfl ⟨rfl, hM.fin⟩

set_option maxRecDepth 100000 in
set_option maxHeartbeats 4000000 in
theorem r_impl_ValidBoard (C : Cx) (b1 : Board) (hp2 : R64 b1.Size) (hp3 : b1.Premium.length ≤ maxLen) (hp4 : b1.Cells.length ≤ maxLen) (r : Bool) (h : m_impl_ValidBoard b1 = some r) :
    Calls Tryz.prog 44 #[.agg #[vI (b1.Size), vS (b1.Premium), vS (b1.Cells)]] C.w0 fun e w => e = .returned (.bool (r)) ∧ Mem C w [] [] := by
  have hM := Mem.begin C [] trivial
  refine enter Tryz.func44 rfl Tryz.ntmps44 rfl fun a hf => ?_
  unfold m_impl_ValidBoard at h
  refine wp_seq ?_
  refine region_pl ?_
  refine pl_l hf rfl rfl rfl (w_box hf hM (cs := [vI (b1.Size), vS (b1.Premium), vS (b1.Cells)]) rfl rfl fun b5 w6 hx7 hM a hf => ?_)
  refine q_ hf rfl rfl rfl (e_assign hf rfl) fun a hf => ?_
  refine pl_nil ?_
  refine then_n ?_
  refine wp_seq ?_
  obtain ⟨x11, h12, h⟩ := bind_some h
  refine seq_join (fun a w => ∃ (t9 : Bool), t9 = x11 ∧ Has 35 a [(1, vP b5 (0)), (26, .bool (t9))] ∧ Mem C w [.box b5 [vI (b1.Size), vS (b1.Premium), vS (b1.Cells)] 28] []) ?_ ?_
  · refine region_pl ?_
    refine q_ hf rfl rfl rfl (e_field hf rfl Tryz.underlying28 rfl Tryz.sizeOf2 (o' := 0) rfl) fun a hf => ?_
    refine q_ hf rfl rfl rfl (e_load1 hf rfl Tryz.isAgg2 (hM.boxCell (k := 0) rfl rfl)) fun a hf => ?_
    obtain ⟨y13, hz14, h12⟩ := bind_some h12
    refine pl_l hf rfl rfl rfl (w_call hf Tryz.call94 rfl (r_impl_sizeOk ⟨_, Sh C _ _, none_, hM.sh_lt, none_not, C.G, hM.g_lt, g_none, hM.tabs⟩ b1.Size hp2 _ hz14) ?_)
    rintro _ w15 ⟨rfl, hM2⟩
    obtain ⟨hM, hx16, hup17⟩ := hM.back hM2
    dsimp only [List.cons_append, List.nil_append] at hM hup17
    clear hM2
    refine ⟨_, rfl, fun a hf => ?_⟩
    refine q_ hf rfl rfl rfl (e_not hf rfl) fun a hf => ?_
    refine q_ hf rfl rfl rfl (e_move hf rfl) fun a hf => ?_
    rcases cond_some h12 with ⟨hc18, h12⟩ | ⟨hc18, h12⟩
    · refine pl_gs (wanted_f hf rfl rfl rfl rfl hc18) hf rfl rfl fun a hf => ?_
      refine pl_gs (wanted_f hf rfl rfl rfl rfl hc18) hf rfl rfl fun a hf => ?_
      refine pl_gs (wanted_f hf rfl rfl rfl rfl hc18) hf rfl rfl fun a hf => ?_
      refine pl_gs (wanted_f hf rfl rfl rfl rfl hc18) hf rfl rfl fun a hf => ?_
      refine pl_gs (wanted_f hf rfl rfl rfl rfl hc18) hf rfl rfl fun a hf => ?_
      refine pl_gs (wanted_f hf rfl rfl rfl rfl hc18) hf rfl rfl fun a hf => ?_
      refine pl_gs (wanted_f hf rfl rfl rfl rfl hc18) hf rfl rfl fun a hf => ?_
      refine pl_gs (wanted_f hf rfl rfl rfl rfl hc18) hf rfl rfl fun a hf => ?_
      refine pl_gs (wanted_f hf rfl rfl rfl rfl hc18) hf rfl rfl fun a hf => ?_
      refine q_ hf rfl rfl rfl (e_pick_t hf rfl hc18 rfl) fun a hf => ?_
      refine q_ hf rfl rfl rfl (e_move hf rfl) fun a hf => ?_
      refine pl_gs (wanted_f hf rfl rfl rfl rfl rfl) hf rfl rfl fun a hf => ?_
      refine pl_gs (wanted_f hf rfl rfl rfl rfl rfl) hf rfl rfl fun a hf => ?_
      refine pl_gs (wanted_f hf rfl rfl rfl rfl rfl) hf rfl rfl fun a hf => ?_
      refine pl_gs (wanted_f hf rfl rfl rfl rfl rfl) hf rfl rfl fun a hf => ?_
      refine pl_gs (wanted_f hf rfl rfl rfl rfl rfl) hf rfl rfl fun a hf => ?_
      refine pl_gs (wanted_f hf rfl rfl rfl rfl rfl) hf rfl rfl fun a hf => ?_
      refine pl_gs (wanted_f hf rfl rfl rfl rfl rfl) hf rfl rfl fun a hf => ?_
      refine q_ hf rfl rfl rfl (e_pick_t hf rfl rfl rfl) fun a hf => ?_
      refine pl_nil ?_
      obtain rfl := some_inj h12
      refine then_n ?_
      exact ⟨true, rfl, hf.keep ⟨rfl, rfl, trivial⟩, hM.pick [] rfl⟩
    · refine gq (wanted_t hf rfl rfl rfl rfl hc18) hf rfl rfl (e_field hf rfl Tryz.underlying28 rfl Tryz.sizeOf9 (o' := 1) rfl) fun a hf => ?_
      refine gq (wanted_t hf rfl rfl rfl rfl hc18) hf rfl rfl (e_load1 hf rfl Tryz.isAgg9 (hM.boxCell (k := 0) rfl rfl)) fun a hf => ?_
      refine gq (wanted_t hf rfl rfl rfl rfl hc18) hf rfl rfl (e_lenS hf (x := b1.Premium) rfl Tryz.underlying9) fun a hf => ?_
      refine gq (wanted_t hf rfl rfl rfl rfl hc18) hf rfl rfl (e_field hf rfl Tryz.underlying28 rfl Tryz.sizeOf2 (o' := 0) rfl) fun a hf => ?_
      refine gq (wanted_t hf rfl rfl rfl rfl hc18) hf rfl rfl (e_load1 hf rfl Tryz.isAgg2 (hM.boxCell (k := 0) rfl rfl)) fun a hf => ?_
      refine gq (wanted_t hf rfl rfl rfl rfl hc18) hf rfl rfl (e_field hf rfl Tryz.underlying28 rfl Tryz.sizeOf2 (o' := 0) rfl) fun a hf => ?_
      refine gq (wanted_t hf rfl rfl rfl rfl hc18) hf rfl rfl (e_load1 hf rfl Tryz.isAgg2 (hM.boxCell (k := 0) rfl rfl)) fun a hf => ?_
      obtain ⟨z20, hz21, h12⟩ := bind_some h12
      refine gq (wanted_t hf rfl rfl rfl rfl hc18) hf rfl rfl (e_mul hf rfl rfl hz21) fun a hf => ?_
      refine gq (wanted_t hf rfl rfl rfl rfl hc18) hf rfl rfl (e_ne hf (x := (b1.Premium.length : Int)) (y := z20) rfl rfl) fun a hf => ?_
      refine q_ hf rfl rfl rfl (e_pick_f hf rfl hc18 rfl) fun a hf => ?_
      refine q_ hf rfl rfl rfl (e_move hf rfl) fun a hf => ?_
      rcases cond_some h12 with ⟨hc22, h12⟩ | ⟨hc22, h12⟩
      · refine pl_gs (wanted_f hf rfl rfl rfl rfl hc22) hf rfl rfl fun a hf => ?_
        refine pl_gs (wanted_f hf rfl rfl rfl rfl hc22) hf rfl rfl fun a hf => ?_
        refine pl_gs (wanted_f hf rfl rfl rfl rfl hc22) hf rfl rfl fun a hf => ?_
        refine pl_gs (wanted_f hf rfl rfl rfl rfl hc22) hf rfl rfl fun a hf => ?_
        refine pl_gs (wanted_f hf rfl rfl rfl rfl hc22) hf rfl rfl fun a hf => ?_
        refine pl_gs (wanted_f hf rfl rfl rfl rfl hc22) hf rfl rfl fun a hf => ?_
        refine pl_gs (wanted_f hf rfl rfl rfl rfl hc22) hf rfl rfl fun a hf => ?_
        refine q_ hf rfl rfl rfl (e_pick_t hf rfl hc22 rfl) fun a hf => ?_
        refine pl_nil ?_
        obtain rfl := some_inj h12
        refine then_n ?_
        exact ⟨true, rfl, hf.keep ⟨rfl, rfl, trivial⟩, hM.pick [] rfl⟩
      · refine gq (wanted_t hf rfl rfl rfl rfl hc22) hf rfl rfl (e_field hf rfl Tryz.underlying28 rfl Tryz.sizeOf9 (o' := 2) rfl) fun a hf => ?_
        refine gq (wanted_t hf rfl rfl rfl rfl hc22) hf rfl rfl (e_load1 hf rfl Tryz.isAgg9 (hM.boxCell (k := 0) rfl rfl)) fun a hf => ?_
        refine gq (wanted_t hf rfl rfl rfl rfl hc22) hf rfl rfl (e_lenS hf (x := b1.Cells) rfl Tryz.underlying9) fun a hf => ?_
        refine gq (wanted_t hf rfl rfl rfl rfl hc22) hf rfl rfl (e_field hf rfl Tryz.underlying28 rfl Tryz.sizeOf9 (o' := 1) rfl) fun a hf => ?_
        refine gq (wanted_t hf rfl rfl rfl rfl hc22) hf rfl rfl (e_load1 hf rfl Tryz.isAgg9 (hM.boxCell (k := 0) rfl rfl)) fun a hf => ?_
        refine gq (wanted_t hf rfl rfl rfl rfl hc22) hf rfl rfl (e_lenS hf (x := b1.Premium) rfl Tryz.underlying9) fun a hf => ?_
        refine gq (wanted_t hf rfl rfl rfl rfl hc22) hf rfl rfl (e_ne hf (x := (b1.Cells.length : Int)) (y := (b1.Premium.length : Int)) rfl rfl) fun a hf => ?_
        refine q_ hf rfl rfl rfl (e_pick_f hf rfl hc22 rfl) fun a hf => ?_
        refine pl_nil ?_
        obtain rfl := some_inj h12
        refine then_n ?_
        exact ⟨((b1.Cells.length : Int) != (b1.Premium.length : Int)), rfl, hf.keep ⟨rfl, rfl, trivial⟩, hM.pick [] rfl⟩
  · rintro a w25 ⟨t9, rfl, hf, hM⟩
    try dsimp only at h
    rcases cond_some h with ⟨hc26, h⟩ | ⟨hc26, h⟩
    · refine cond_t hf rfl hc26 ?_
      refine wp_seq ?_
      refine region_pl ?_
      refine q_ hf rfl rfl rfl (e_assign hf rfl) fun a hf => ?_
      refine pl_nil ?_
      refine then_n ?_
      refine wp_ret ?_
      refine then_r ?_
      obtain rfl := some_inj h
      have hM := hM.outs (own' := []) 0 rfl
      exact leave1 hf rfl rfl ⟨rfl, hM.fin⟩
    · refine cond_f hf rfl hc26 ?_
      refine wp_skip ?_
      refine then_n ?_
      obtain ⟨x29, h30, h⟩ := bind_some h
      refine seq_join (fun a w => ∃ (t27 : Bool), t27 = x29 ∧ Has 35 a [(2, .bool (t27))] ∧ Mem C w [.box b5 [vI (b1.Size), vS (b1.Premium), vS (b1.Cells)] 28] []) ?_ ?_
      · refine region_pl ?_
        refine q_ hf rfl rfl rfl (e_field hf rfl Tryz.underlying28 rfl Tryz.sizeOf9 (o' := 1) rfl) fun a hf => ?_
        refine q_ hf rfl rfl rfl (e_load1 hf rfl Tryz.isAgg9 (hM.boxCell (k := 0) rfl rfl)) fun a hf => ?_
        obtain ⟨y31, hz32, h30⟩ := bind_some h30
        refine pl_l hf rfl rfl rfl (w_call hf Tryz.call95 rfl (r_impl_allBytes ⟨_, Sh C _ _, none_, hM.sh_lt, none_not, C.G, hM.g_lt, g_none, hM.tabs⟩ b1.Premium hp3 m_impl_premiumOk 96 [] ⟨Tryz.call96, fun C1 _ _ => r_impl_premiumOk C1⟩ _ hz32) ?_)
        rintro _ w33 ⟨rfl, hM2⟩
        obtain ⟨hM, hx34, hup35⟩ := hM.back hM2
        dsimp only [List.cons_append, List.nil_append] at hM hup35
        clear hM2
        refine ⟨_, rfl, fun a hf => ?_⟩
        refine q_ hf rfl rfl rfl (e_move hf rfl) fun a hf => ?_
        rcases cond_some h30 with ⟨hc36, h30⟩ | ⟨hc36, h30⟩
        · refine gq (wanted_t hf rfl rfl rfl rfl hc36) hf rfl rfl (e_field hf rfl Tryz.underlying28 rfl Tryz.sizeOf9 (o' := 2) rfl) fun a hf => ?_
          refine gq (wanted_t hf rfl rfl rfl rfl hc36) hf rfl rfl (e_load1 hf rfl Tryz.isAgg9 (hM.boxCell (k := 0) rfl rfl)) fun a hf => ?_
          obtain ⟨y37, hz38, h30⟩ := bind_some h30
          refine pl_gl (wanted_t hf rfl rfl rfl rfl hc36) hf rfl rfl (w_call hf Tryz.call95 rfl (r_impl_allBytes ⟨_, Sh C _ _, none_, hM.sh_lt, none_not, C.G, hM.g_lt, g_none, hM.tabs⟩ b1.Cells hp4 m_impl_cellOk 97 [] ⟨Tryz.call97, fun C1 _ _ => r_impl_cellOk C1⟩ _ hz38) ?_)
          rintro _ w39 ⟨rfl, hM2⟩
          obtain ⟨hM, hx40, hup41⟩ := hM.back hM2
          dsimp only [List.cons_append, List.nil_append] at hM hup41
          clear hM2
          refine ⟨_, rfl, fun a hf => ?_⟩
          refine q_ hf rfl rfl rfl (e_pick_t hf rfl hc36 rfl) fun a hf => ?_
          refine q_ hf rfl rfl rfl (e_assign hf rfl) fun a hf => ?_
          refine pl_nil ?_
          obtain rfl := some_inj h30
          refine then_n ?_
          exact ⟨y37, rfl, hf.keep ⟨rfl, trivial⟩, hM.pick [] rfl⟩
        · refine pl_gs (wanted_f hf rfl rfl rfl rfl hc36) hf rfl rfl fun a hf => ?_
          refine pl_gs (wanted_f hf rfl rfl rfl rfl hc36) hf rfl rfl fun a hf => ?_
          refine pl_gs (wanted_f hf rfl rfl rfl rfl hc36) hf rfl rfl fun a hf => ?_
          refine q_ hf rfl rfl rfl (e_pick_f hf rfl hc36 rfl) fun a hf => ?_
          refine q_ hf rfl rfl rfl (e_assign hf rfl) fun a hf => ?_
          refine pl_nil ?_
          obtain rfl := some_inj h30
          refine then_n ?_
          exact ⟨false, rfl, hf.keep ⟨rfl, trivial⟩, hM.pick [] rfl⟩
      · rintro a w44 ⟨t27, rfl, hf, hM⟩
        try dsimp only at h
        refine wp_ret ?_
        obtain rfl := some_inj h
        have hM := hM.outs (own' := []) 0 rfl
        exact leave1 hf rfl rfl ⟨rfl, hM.fin⟩

set_option maxRecDepth 100000 in
set_option maxHeartbeats 4000000 in
theorem r_impl_place (C : Cx) (tile1 : UInt8) (r : Int) (h : m_impl_place tile1 = some r) :
    Calls Tryz.prog 148 #[vB (tile1)] C.w0 fun e w => e = .returned (vI (r)) ∧ Mem C w [] [] ∧ R64 r := by
  have hM := Mem.begin C [] trivial
  refine enter Tryz.func148 rfl Tryz.ntmps148 rfl fun a hf => ?_
  unfold m_impl_place at h
  refine wp_seq ?_
  refine region_pl ?_
  refine q_ hf rfl rfl rfl (e_assign hf rfl) fun a hf => ?_
  refine pl_nil ?_
  refine then_n ?_
  refine wp_seq ?_
  refine wp_block ?_
  refine wp_seq ?_
  refine region_pl ?_
  refine q_ hf rfl rfl rfl (e_move hf rfl) fun a hf => ?_
  refine q_ hf rfl rfl rfl (e_eqB hf (x := tile1) (y := 63) rfl rfl) fun a hf => ?_
  refine q_ hf rfl rfl rfl (e_assign hf rfl) fun a hf => ?_
  refine pl_nil ?_
  refine then_n ?_
  rcases cond_some h with ⟨hc2, h⟩ | ⟨hc2, h⟩
  · refine cond_t hf rfl hc2 ?_
    refine wp_seq ?_
    refine region_pl ?_
    refine q_ hf rfl rfl rfl (e_assign hf rfl) fun a hf => ?_
    refine pl_nil ?_
    refine then_n ?_
    refine wp_ret ?_
    refine blk_r ?_
    refine then_r ?_
    obtain rfl := some_inj h
    exact leave1 hf rfl rfl ⟨rfl, hM.fin, (R64_lit rfl)⟩
  · refine cond_f hf rfl hc2 ?_
    refine wp_seq ?_
    refine region_pl ?_
    refine q_ hf rfl rfl rfl (e_move hf rfl) fun a hf => ?_
    obtain ⟨y3, hz4, h⟩ := bind_some h
    refine pl_l hf rfl rfl rfl (w_call hf Tryz.call115 rfl (r_impl_small ⟨_, Sh C _ _, none_, hM.sh_lt, none_not, C.G, hM.g_lt, g_none, hM.tabs⟩ tile1 _ hz4) ?_)
    rintro _ w5 ⟨rfl, hM2⟩
    obtain ⟨hM, hx6, hup7⟩ := hM.back hM2
    dsimp only [List.cons_append, List.nil_append] at hM hup7
    clear hM2
    refine ⟨_, rfl, fun a hf => ?_⟩
    refine q_ hf rfl rfl rfl (e_assign hf rfl) fun a hf => ?_
    refine pl_nil ?_
    refine then_n ?_
    rcases cond_some h with ⟨hc8, h⟩ | ⟨hc8, h⟩
    · refine cond_t hf rfl hc8 ?_
      refine wp_seq ?_
      refine region_pl ?_
      refine q_ hf rfl rfl rfl (e_move hf rfl) fun a hf => ?_
      refine q_ hf rfl rfl rfl (e_subB hf (x := tile1) (y := 97) rfl rfl) fun a hf => ?_
      refine q_ hf rfl rfl rfl (e_convBI hf (x := tile1 - 97) rfl Tryz.underlying5 Tryz.underlying3) fun a hf => ?_
      obtain ⟨z9, hz10, h⟩ := bind_some h
      refine q_ hf rfl rfl rfl (e_add hf rfl rfl hz10) fun a hf => ?_
      refine q_ hf rfl rfl rfl (e_assign hf rfl) fun a hf => ?_
      refine pl_nil ?_
      refine then_n ?_
      refine wp_ret ?_
      refine blk_r ?_
      refine then_r ?_
      obtain rfl := some_inj h
      exact leave1 hf rfl rfl ⟨rfl, hM.fin, (chk_R hz10)⟩
    · refine cond_f hf rfl hc8 ?_
      refine wp_skip ?_
      refine blk_n ?_
      refine then_n ?_
      refine wp_seq ?_
      refine region_pl ?_
      refine q_ hf rfl rfl rfl (e_assign hf rfl) fun a hf => ?_
      refine pl_nil ?_
      refine then_n ?_
      refine wp_ret ?_
      obtain rfl := some_inj h
      exact leave1 hf rfl rfl ⟨rfl, hM.fin, (R64_lit rfl)⟩

set_option maxRecDepth 100000 in
set_option maxHeartbeats 4000000 in
theorem r_impl_onlyTiles (C : Cx) (s1 : Str) (hp2 : s1.length ≤ maxLen) (r : Bool) (h : m_impl_onlyTiles s1 = some r) :
    Calls Tryz.prog 144 #[vS (s1)] C.w0 fun e w => e = .returned (.bool (r)) ∧ Mem C w [] [] := by
  have hM := Mem.begin C [] trivial
  refine enter Tryz.func144 rfl Tryz.ntmps144 rfl fun a hf => ?_
  unfold m_impl_onlyTiles at h
  refine wp_seq ?_
  refine region_pl ?_
  refine q_ hf rfl rfl rfl (e_assign hf rfl) fun a hf => ?_
  refine pl_nil ?_
  refine then_n ?_
  obtain ⟨x3, h4, h⟩ := bind_some h
  refine seq_join (fun a w => (.inl ()) = x3 ∧ Has 15 a [] ∧ Mem C w [] []) ?_ ?_
  · refine wp_seq ?_
    refine region_pl ?_
    refine q_ hf rfl rfl rfl (e_assign hf rfl) fun a hf => ?_
    refine pl_nil ?_
    refine then_n ?_
    refine wp_block ?_
    obtain ⟨x8, h9, h4⟩ := bind_some h4
    refine wp_loopM h9 (fun s a w => ∃ (n5 : Int), n5 = s ∧ Has 15 a [(0, vS (s1)), (3, vI (n5))] ∧ Mem C w [] [] ∧ R64 n5) ?_ ?_
    · exact ⟨0, rfl, hf.keep ⟨rfl, rfl, trivial⟩, hM.pick [] rfl, (R64_lit rfl)⟩
    · rintro s o10 a w7 ⟨n5, rfl, hf, hM, hv6⟩ h11 hd12
      replace h11 : m_impl_onlyTiles_l1 s1 n5 = some o10 := h11
      unfold m_impl_onlyTiles_l1 at h11
      refine wp_seq ?_
      refine wp_seq ?_
      refine region_pl ?_
      refine q_ hf rfl rfl rfl (e_move hf rfl) fun a hf => ?_
      refine q_ hf rfl rfl rfl (e_move hf rfl) fun a hf => ?_
      refine q_ hf rfl rfl rfl (e_lenS hf (x := s1) rfl Tryz.underlying9) fun a hf => ?_
      refine q_ hf rfl rfl rfl (e_lt hf (x := n5) (y := (s1.length : Int)) rfl rfl) fun a hf => ?_
      refine pl_nil ?_
      refine then_n ?_
      rcases cond_some h11 with ⟨hc13, h11⟩ | ⟨hc13, h11⟩
      · refine cond_t hf rfl hc13 ?_
        refine wp_skip ?_
        refine then_n ?_
        refine wp_seq ?_
        refine wp_block ?_
        refine wp_seq ?_
        refine region_pl ?_
        refine q_ hf rfl rfl rfl (e_move hf rfl) fun a hf => ?_
        refine q_ hf rfl rfl rfl (e_move hf rfl) fun a hf => ?_
        obtain ⟨c14, hz15, h11⟩ := bind_some h11
        refine q_ hf rfl rfl rfl (e_indexS hf (x := s1) rfl rfl Tryz.underlying9 hz15) fun a hf => ?_
        obtain ⟨y16, hz17, h11⟩ := bind_some h11
        refine pl_l hf rfl rfl rfl (w_call hf Tryz.call148 rfl (r_impl_place ⟨_, Sh C _ _, none_, hM.sh_lt, none_not, C.G, hM.g_lt, g_none, hM.tabs⟩ c14 _ hz17) ?_)
        rintro _ w19 ⟨rfl, hM2, hv18⟩
        obtain ⟨hM, hx20, hup21⟩ := hM.back hM2
        dsimp only [List.cons_append, List.nil_append] at hM hup21
        clear hM2
        refine ⟨_, rfl, fun a hf => ?_⟩
        refine q_ hf rfl rfl rfl (e_lt hf (x := y16) (y := 0) rfl rfl) fun a hf => ?_
        refine pl_nil ?_
        refine then_n ?_
        rcases cond_some h11 with ⟨hc22, h11⟩ | ⟨hc22, h11⟩
        · refine cond_t hf rfl hc22 ?_
          refine wp_seq ?_
          refine region_pl ?_
          refine q_ hf rfl rfl rfl (e_assign hf rfl) fun a hf => ?_
          refine pl_nil ?_
          refine then_n ?_
          refine wp_ret ?_
          refine blk_r ?_
          refine then_r ?_
          obtain rfl := some_inj h11
          obtain rfl := hd12 _ rfl
          try dsimp only at h4
          refine then_r ?_
          refine blk_r ?_
          obtain rfl := some_inj h4
          try dsimp only at h
          refine then_r ?_
          obtain rfl := some_inj h
          exact leave1 hf rfl rfl ⟨rfl, hM.fin⟩
        · refine cond_f hf rfl hc22 ?_
          refine wp_skip ?_
          refine blk_n ?_
          refine then_n ?_
          refine region_pl ?_
          refine q_ hf rfl rfl rfl (e_move hf rfl) fun a hf => ?_
          obtain ⟨z23, hz24, h11⟩ := bind_some h11
          refine q_ hf rfl rfl rfl (e_add hf rfl rfl hz24) fun a hf => ?_
          refine q_ hf rfl rfl rfl (e_assign hf rfl) fun a hf => ?_
          refine pl_nil ?_
          obtain rfl := some_inj h11
          refine then_n ⟨_, rfl, ?_⟩
          exact ⟨z23, rfl, hf.keep ⟨rfl, rfl, trivial⟩, hM.pick [] rfl, (chk_R hz24)⟩
      · refine cond_f hf rfl hc13 ?_
        refine wp_exit ?_
        refine then_x ?_
        obtain rfl := some_inj h11
        obtain rfl := hd12 _ rfl
        try dsimp only at h4
        refine then_x ?_
        refine exit_hit ?_
        obtain rfl := some_inj h4
        refine then_n ?_
        exact ⟨rfl, hf.keep trivial, hM.pick [] rfl⟩
  · rintro a w31 ⟨rfl, hf, hM⟩
    try dsimp only at h
    refine wp_seq ?_
    refine region_pl ?_
    refine q_ hf rfl rfl rfl (e_assign hf rfl) fun a hf => ?_
    refine pl_nil ?_
    refine then_n ?_
    refine wp_ret ?_
    obtain rfl := some_inj h
    exact leave1 hf rfl rfl ⟨rfl, hM.fin⟩

set_option maxRecDepth 100000 in
set_option maxHeartbeats 4000000 in
theorem r_impl_ValidPile (C : Cx) (s1 : Str) (hp2 : s1.length ≤ maxLen) (r : Bool) (h : m_impl_ValidPile s1 = some r) :
    Calls Tryz.prog 98 #[vS (s1)] C.w0 fun e w => e = .returned (.bool (r)) ∧ Mem C w [] [] := by
  have hM := Mem.begin C [] trivial
  refine enter Tryz.func98 rfl Tryz.ntmps98 rfl fun a hf => ?_
  unfold m_impl_ValidPile at h
  refine wp_seq ?_
  refine region_pl ?_
  refine q_ hf rfl rfl rfl (e_assign hf rfl) fun a hf => ?_
  refine pl_nil ?_
  refine then_n ?_
  refine wp_seq ?_
  obtain ⟨x5, h6, h⟩ := bind_some h
  refine seq_join (fun a w => ∃ (t3 : Bool), t3 = x5 ∧ Has 26 a [(0, vS (s1)), (11, .bool (t3))] ∧ Mem C w [] []) ?_ ?_
  · refine region_pl ?_
    refine q_ hf rfl rfl rfl (e_move hf rfl) fun a hf => ?_
    refine q_ hf rfl rfl rfl (e_lenS hf (x := s1) rfl Tryz.underlying9) fun a hf => ?_
    refine q_ hf rfl rfl rfl (e_gt hf (x := (s1.length : Int)) (y := 120) rfl rfl) fun a hf => ?_
    refine q_ hf rfl rfl rfl (e_move hf rfl) fun a hf => ?_
    rcases cond_some h6 with ⟨hc7, h6⟩ | ⟨hc7, h6⟩
    · refine pl_gs (wanted_f hf rfl rfl rfl rfl hc7) hf rfl rfl fun a hf => ?_
      refine pl_gs (wanted_f hf rfl rfl rfl rfl hc7) hf rfl rfl fun a hf => ?_
      refine pl_gs (wanted_f hf rfl rfl rfl rfl hc7) hf rfl rfl fun a hf => ?_
      refine q_ hf rfl rfl rfl (e_pick_t hf rfl hc7 rfl) fun a hf => ?_
      refine pl_nil ?_
      obtain rfl := some_inj h6
      refine then_n ?_
      exact ⟨true, rfl, hf.keep ⟨rfl, rfl, trivial⟩, hM.pick [] rfl⟩
    · refine gq (wanted_t hf rfl rfl rfl rfl hc7) hf rfl rfl (e_move hf rfl) fun a hf => ?_
      obtain ⟨y9, hz10, h6⟩ := bind_some h6
      refine pl_gl (wanted_t hf rfl rfl rfl rfl hc7) hf rfl rfl (w_call hf Tryz.call144 rfl (r_impl_onlyTiles ⟨_, Sh C _ _, none_, hM.sh_lt, none_not, C.G, hM.g_lt, g_none, hM.tabs⟩ s1 hp2 _ hz10) ?_)
      rintro _ w11 ⟨rfl, hM2⟩
      obtain ⟨hM, hx12, hup13⟩ := hM.back hM2
      dsimp only [List.cons_append, List.nil_append] at hM hup13
      clear hM2
      refine ⟨_, rfl, fun a hf => ?_⟩
      refine gq (wanted_t hf rfl rfl rfl rfl hc7) hf rfl rfl (e_not hf rfl) fun a hf => ?_
      refine q_ hf rfl rfl rfl (e_pick_f hf rfl hc7 rfl) fun a hf => ?_
      refine pl_nil ?_
      obtain rfl := some_inj h6
      refine then_n ?_
      exact ⟨(!y9), rfl, hf.keep ⟨rfl, rfl, trivial⟩, hM.pick [] rfl⟩
  · rintro a w15 ⟨t3, rfl, hf, hM⟩
    try dsimp only at h
    rcases cond_some h with ⟨hc16, h⟩ | ⟨hc16, h⟩
    · refine cond_t hf rfl hc16 ?_
      refine wp_seq ?_
      refine region_pl ?_
      refine q_ hf rfl rfl rfl (e_assign hf rfl) fun a hf => ?_
      refine pl_nil ?_
      refine then_n ?_
      refine wp_ret ?_
      refine then_r ?_
      obtain rfl := some_inj h
      exact leave1 hf rfl rfl ⟨rfl, hM.fin⟩
    · refine cond_f hf rfl hc16 ?_
      refine wp_skip ?_
      refine then_n ?_
      obtain ⟨x17, h18, h⟩ := bind_some h
      refine seq_join (fun a w => (.inl ()) = x17 ∧ Has 26 a [] ∧ Mem C w [] []) ?_ ?_
      · refine wp_seq ?_
        refine region_pl ?_
        refine q_ hf rfl rfl rfl (e_assign hf rfl) fun a hf => ?_
        refine pl_nil ?_
        refine then_n ?_
        refine wp_block ?_
        obtain ⟨x22, h23, h18⟩ := bind_some h18
        refine wp_loopM h23 (fun s a w => ∃ (n19 : Int), n19 = s ∧ Has 26 a [(0, vS (s1)), (3, vI (n19))] ∧ Mem C w [] [] ∧ R64 n19) ?_ ?_
        · exact ⟨1, rfl, hf.keep ⟨rfl, rfl, trivial⟩, hM.pick [] rfl, (R64_lit rfl)⟩
        · rintro s o24 a w21 ⟨n19, rfl, hf, hM, hv20⟩ h25 hd26
          replace h25 : m_impl_ValidPile_l1 s1 n19 = some o24 := h25
          unfold m_impl_ValidPile_l1 at h25
          refine wp_seq ?_
          refine wp_seq ?_
          refine region_pl ?_
          refine q_ hf rfl rfl rfl (e_move hf rfl) fun a hf => ?_
          refine q_ hf rfl rfl rfl (e_move hf rfl) fun a hf => ?_
          refine q_ hf rfl rfl rfl (e_lenS hf (x := s1) rfl Tryz.underlying9) fun a hf => ?_
          refine q_ hf rfl rfl rfl (e_lt hf (x := n19) (y := (s1.length : Int)) rfl rfl) fun a hf => ?_
          refine pl_nil ?_
          refine then_n ?_
          rcases cond_some h25 with ⟨hc27, h25⟩ | ⟨hc27, h25⟩
          · refine cond_t hf rfl hc27 ?_
            refine wp_skip ?_
            refine then_n ?_
            refine wp_seq ?_
            refine wp_block ?_
            refine wp_seq ?_
            obtain ⟨w28, hw⟩ : ∃ x, x = w21.drew := ⟨_, rfl⟩
            refine region_pi (.q 0 (.q 1 (.q 2 (.q 3 (.q 4 (.q 5 (.q 6 (.q 7 (.nil))))))))) (Ext w28) rfl (by kernel_rfl) ?_
            have hM := hM.drew
            rw [← hw] at hM ⊢
            clear hw
            refine pi_q hf rfl rfl rfl rfl (Ext.refl _) (e_move hf rfl) fun a hf => ?_
            refine pi_q hf rfl rfl rfl rfl (Ext.refl _) (e_move hf rfl) fun a hf => ?_
            obtain ⟨z29, hz30, h25⟩ := bind_some h25
            refine pi_q hf rfl rfl rfl rfl (Ext.refl _) (e_sub hf rfl rfl hz30) fun a hf => ?_
            obtain ⟨c31, hz32, h25⟩ := bind_some h25
            refine pi_q hf rfl rfl rfl rfl (Ext.refl _) (e_indexS hf (x := s1) rfl rfl Tryz.underlying9 hz32) fun a hf => ?_
            refine pi_q hf rfl rfl rfl rfl (Ext.refl _) (e_move hf rfl) fun a hf => ?_
            refine pi_q hf rfl rfl rfl rfl (Ext.refl _) (e_move hf rfl) fun a hf => ?_
            obtain ⟨c33, hz34, h25⟩ := bind_some h25
            refine pi_q hf rfl rfl rfl rfl (Ext.refl _) (e_indexS hf (x := s1) rfl rfl Tryz.underlying9 hz34) fun a hf => ?_
            refine pi_q hf rfl rfl rfl rfl (Ext.refl _) (e_gtB hf (x := c31) (y := c33) rfl rfl) fun a hf => ?_
            refine pi_nil ?_
            refine then_n ?_
            rcases cond_some h25 with ⟨hc35, h25⟩ | ⟨hc35, h25⟩
            · refine cond_t hf rfl hc35 ?_
              refine wp_seq ?_
              refine region_pl ?_
              refine q_ hf rfl rfl rfl (e_assign hf rfl) fun a hf => ?_
              refine pl_nil ?_
              refine then_n ?_
              refine wp_ret ?_
              refine blk_r ?_
              refine then_r ?_
              obtain rfl := some_inj h25
              obtain rfl := hd26 _ rfl
              try dsimp only at h18
              refine then_r ?_
              refine blk_r ?_
              obtain rfl := some_inj h18
              try dsimp only at h
              refine then_r ?_
              obtain rfl := some_inj h
              exact leave1 hf rfl rfl ⟨rfl, hM.fin⟩
            · refine cond_f hf rfl hc35 ?_
              refine wp_skip ?_
              refine blk_n ?_
              refine then_n ?_
              refine region_pl ?_
              refine q_ hf rfl rfl rfl (e_move hf rfl) fun a hf => ?_
              obtain ⟨z36, hz37, h25⟩ := bind_some h25
              refine q_ hf rfl rfl rfl (e_add hf rfl rfl hz37) fun a hf => ?_
              refine q_ hf rfl rfl rfl (e_assign hf rfl) fun a hf => ?_
              refine pl_nil ?_
              obtain rfl := some_inj h25
              refine then_n ⟨_, rfl, ?_⟩
              exact ⟨z36, rfl, hf.keep ⟨rfl, rfl, trivial⟩, hM.pick [] rfl, (chk_R hz37)⟩
          · refine cond_f hf rfl hc27 ?_
            refine wp_exit ?_
            refine then_x ?_
            obtain rfl := some_inj h25
            obtain rfl := hd26 _ rfl
            try dsimp only at h18
            refine then_x ?_
            refine exit_hit ?_
            obtain rfl := some_inj h18
            refine then_n ?_
            exact ⟨rfl, hf.keep trivial, hM.pick [] rfl⟩
      · rintro a w44 ⟨rfl, hf, hM⟩
        try dsimp only at h
        refine wp_seq ?_
        refine region_pl ?_
        refine q_ hf rfl rfl rfl (e_assign hf rfl) fun a hf => ?_
        refine pl_nil ?_
        refine then_n ?_
        refine wp_ret ?_
        obtain rfl := some_inj h
        exact leave1 hf rfl rfl ⟨rfl, hM.fin⟩

set_option maxRecDepth 100000 in
set_option maxHeartbeats 4000000 in
theorem r_impl_ValidRack (C : Cx) (s1 : Str) (hp2 : s1.length ≤ maxLen) (r : Bool) (h : m_impl_ValidRack s1 = some r) :
    Calls Tryz.prog 45 #[vS (s1)] C.w0 fun e w => e = .returned (.bool (r)) ∧ Mem C w [] [] := by
  have hM := Mem.begin C [] trivial
  refine enter Tryz.func45 rfl Tryz.ntmps45 rfl fun a hf => ?_
  unfold m_impl_ValidRack at h
  refine wp_seq ?_
  refine region_pl ?_
  refine q_ hf rfl rfl rfl (e_assign hf rfl) fun a hf => ?_
  refine pl_nil ?_
  refine then_n ?_
  obtain ⟨x5, h6, h⟩ := bind_some h
  refine seq_join (fun a w => ∃ (t3 : Bool), t3 = x5 ∧ Has 10 a [(2, .bool (t3))] ∧ Mem C w [] []) ?_ ?_
  · refine region_pl ?_
    refine q_ hf rfl rfl rfl (e_move hf rfl) fun a hf => ?_
    refine q_ hf rfl rfl rfl (e_lenS hf (x := s1) rfl Tryz.underlying9) fun a hf => ?_
    refine q_ hf rfl rfl rfl (e_le hf (x := (s1.length : Int)) (y := 7) rfl rfl) fun a hf => ?_
    refine q_ hf rfl rfl rfl (e_move hf rfl) fun a hf => ?_
    rcases cond_some h6 with ⟨hc7, h6⟩ | ⟨hc7, h6⟩
    · refine gq (wanted_t hf rfl rfl rfl rfl hc7) hf rfl rfl (e_move hf rfl) fun a hf => ?_
      obtain ⟨y8, hz9, h6⟩ := bind_some h6
      refine pl_gl (wanted_t hf rfl rfl rfl rfl hc7) hf rfl rfl (w_call hf Tryz.call98 rfl (r_impl_ValidPile ⟨_, Sh C _ _, none_, hM.sh_lt, none_not, C.G, hM.g_lt, g_none, hM.tabs⟩ s1 hp2 _ hz9) ?_)
      rintro _ w10 ⟨rfl, hM2⟩
      obtain ⟨hM, hx11, hup12⟩ := hM.back hM2
      dsimp only [List.cons_append, List.nil_append] at hM hup12
      clear hM2
      refine ⟨_, rfl, fun a hf => ?_⟩
      refine q_ hf rfl rfl rfl (e_pick_t hf rfl hc7 rfl) fun a hf => ?_
      refine q_ hf rfl rfl rfl (e_assign hf rfl) fun a hf => ?_
      refine pl_nil ?_
      obtain rfl := some_inj h6
      refine then_n ?_
      exact ⟨y8, rfl, hf.keep ⟨rfl, trivial⟩, hM.pick [] rfl⟩
    · refine pl_gs (wanted_f hf rfl rfl rfl rfl hc7) hf rfl rfl fun a hf => ?_
      refine pl_gs (wanted_f hf rfl rfl rfl rfl hc7) hf rfl rfl fun a hf => ?_
      refine q_ hf rfl rfl rfl (e_pick_f hf rfl hc7 rfl) fun a hf => ?_
      refine q_ hf rfl rfl rfl (e_assign hf rfl) fun a hf => ?_
      refine pl_nil ?_
      obtain rfl := some_inj h6
      refine then_n ?_
      exact ⟨false, rfl, hf.keep ⟨rfl, trivial⟩, hM.pick [] rfl⟩
  · rintro a w15 ⟨t3, rfl, hf, hM⟩
    try dsimp only at h
    refine wp_ret ?_
    obtain rfl := some_inj h
    exact leave1 hf rfl rfl ⟨rfl, hM.fin⟩

set_option maxRecDepth 100000 in
set_option maxHeartbeats 4000000 in
theorem r_impl_isUnseen (C : Cx) (s1 : Str) (hp2 : s1.length ≤ maxLen) (r : Bool) (h : m_impl_isUnseen s1 = some r) :
    Calls Tryz.prog 46 #[vS (s1)] C.w0 fun e w => e = .returned (.bool (r)) ∧ Mem C w [] [] := by
  have hM := Mem.begin C [] trivial
  refine enter Tryz.func46 rfl Tryz.ntmps46 rfl fun a hf => ?_
  unfold m_impl_isUnseen at h
  refine wp_seq ?_
  refine region_pl ?_
  refine q_ hf rfl rfl rfl (e_assign hf rfl) fun a hf => ?_
  refine pl_nil ?_
  refine then_n ?_
  obtain ⟨x5, h6, h⟩ := bind_some h
  refine seq_join (fun a w => ∃ (t3 : Bool), t3 = x5 ∧ Has 15 a [(2, .bool (t3))] ∧ Mem C w [] []) ?_ ?_
  · refine region_pl ?_
    refine q_ hf rfl rfl rfl (e_move hf rfl) fun a hf => ?_
    refine q_ hf rfl rfl rfl (e_lenS hf (x := s1) rfl Tryz.underlying9) fun a hf => ?_
    refine q_ hf rfl rfl rfl (e_ge hf (x := (s1.length : Int)) (y := 2) rfl rfl) fun a hf => ?_
    refine q_ hf rfl rfl rfl (e_move hf rfl) fun a hf => ?_
    rcases cond_some h6 with ⟨hc7, h6⟩ | ⟨hc7, h6⟩
    · refine gq (wanted_t hf rfl rfl rfl rfl hc7) hf rfl rfl (e_move hf rfl) fun a hf => ?_
      refine gq (wanted_t hf rfl rfl rfl rfl hc7) hf rfl rfl (e_lenS hf (x := s1) rfl Tryz.underlying9) fun a hf => ?_
      refine gq (wanted_t hf rfl rfl rfl rfl hc7) hf rfl rfl (e_le hf (x := (s1.length : Int)) (y := 8) rfl rfl) fun a hf => ?_
      refine q_ hf rfl rfl rfl (e_pick_t hf rfl hc7 rfl) fun a hf => ?_
      refine q_ hf rfl rfl rfl (e_move hf rfl) fun a hf => ?_
      rcases cond_some h6 with ⟨hc8, h6⟩ | ⟨hc8, h6⟩
      · refine gq (wanted_t hf rfl rfl rfl rfl hc8) hf rfl rfl (e_move hf rfl) fun a hf => ?_
        obtain ⟨y9, hz10, h6⟩ := bind_some h6
        refine pl_gl (wanted_t hf rfl rfl rfl rfl hc8) hf rfl rfl (w_call hf Tryz.call98 rfl (r_impl_ValidPile ⟨_, Sh C _ _, none_, hM.sh_lt, none_not, C.G, hM.g_lt, g_none, hM.tabs⟩ s1 hp2 _ hz10) ?_)
        rintro _ w11 ⟨rfl, hM2⟩
        obtain ⟨hM, hx12, hup13⟩ := hM.back hM2
        dsimp only [List.cons_append, List.nil_append] at hM hup13
        clear hM2
        refine ⟨_, rfl, fun a hf => ?_⟩
        refine q_ hf rfl rfl rfl (e_pick_t hf rfl hc8 rfl) fun a hf => ?_
        refine q_ hf rfl rfl rfl (e_assign hf rfl) fun a hf => ?_
        refine pl_nil ?_
        obtain rfl := some_inj h6
        refine then_n ?_
        exact ⟨y9, rfl, hf.keep ⟨rfl, trivial⟩, hM.pick [] rfl⟩
      · refine pl_gs (wanted_f hf rfl rfl rfl rfl hc8) hf rfl rfl fun a hf => ?_
        refine pl_gs (wanted_f hf rfl rfl rfl rfl hc8) hf rfl rfl fun a hf => ?_
        refine q_ hf rfl rfl rfl (e_pick_f hf rfl hc8 rfl) fun a hf => ?_
        refine q_ hf rfl rfl rfl (e_assign hf rfl) fun a hf => ?_
        refine pl_nil ?_
        obtain rfl := some_inj h6
        refine then_n ?_
        exact ⟨false, rfl, hf.keep ⟨rfl, trivial⟩, hM.pick [] rfl⟩
    · refine pl_gs (wanted_f hf rfl rfl rfl rfl hc7) hf rfl rfl fun a hf => ?_
      refine pl_gs (wanted_f hf rfl rfl rfl rfl hc7) hf rfl rfl fun a hf => ?_
      refine pl_gs (wanted_f hf rfl rfl rfl rfl hc7) hf rfl rfl fun a hf => ?_
      refine q_ hf rfl rfl rfl (e_pick_f hf rfl hc7 rfl) fun a hf => ?_
      refine q_ hf rfl rfl rfl (e_move hf rfl) fun a hf => ?_
      refine pl_gs (wanted_f hf rfl rfl rfl rfl rfl) hf rfl rfl fun a hf => ?_
      refine pl_gs (wanted_f hf rfl rfl rfl rfl rfl) hf rfl rfl fun a hf => ?_
      refine q_ hf rfl rfl rfl (e_pick_f hf rfl rfl rfl) fun a hf => ?_
      refine q_ hf rfl rfl rfl (e_assign hf rfl) fun a hf => ?_
      refine pl_nil ?_
      obtain rfl := some_inj h6
      refine then_n ?_
      exact ⟨false, rfl, hf.keep ⟨rfl, trivial⟩, hM.pick [] rfl⟩
  · rintro a w17 ⟨t3, rfl, hf, hM⟩
    try dsimp only at h
    refine wp_ret ?_
    obtain rfl := some_inj h
    exact leave1 hf rfl rfl ⟨rfl, hM.fin⟩

set_option maxRecDepth 100000 in
set_option maxHeartbeats 4000000 in
theorem r_impl_onlySmall (C : Cx) (s1 : Str) (hp2 : s1.length ≤ maxLen) (r : Bool) (h : m_impl_onlySmall s1 = some r) :
    Calls Tryz.prog 179 #[vS (s1)] C.w0 fun e w => e = .returned (.bool (r)) ∧ Mem C w [] [] := by
  have hM := Mem.begin C [] trivial
  refine enter Tryz.func179 rfl Tryz.ntmps179 rfl fun a hf => ?_
  unfold m_impl_onlySmall at h
  refine wp_seq ?_
  refine region_pl ?_
  refine q_ hf rfl rfl rfl (e_assign hf rfl) fun a hf => ?_
  refine pl_nil ?_
  refine then_n ?_
  obtain ⟨x3, h4, h⟩ := bind_some h
  refine seq_join (fun a w => (.inl ()) = x3 ∧ Has 16 a [] ∧ Mem C w [] []) ?_ ?_
  · refine wp_seq ?_
    refine region_pl ?_
    refine q_ hf rfl rfl rfl (e_move hf rfl) fun a hf => ?_
    refine pl_l hf rfl rfl rfl (w_bytes hf hM (x := s1) rfl Tryz.underlying9 Tryz.underlying138 Tryz.underlying5 hp2 fun A5 c6 w7 hx8 hM a hf => ?_)
    have hl9 := row_len (hM.ownAt (k := 0) rfl)
    refine q_ hf rfl rfl rfl (e_lenL hf (x := s1) rfl Tryz.underlying138) fun a hf => ?_
    refine q_ hf rfl rfl rfl (e_move hf rfl) fun a hf => ?_
    refine pl_nil ?_
    refine then_n ?_
    refine wp_block ?_
    obtain ⟨x13, h14, h4⟩ := bind_some h4
    refine wp_loopM h14 (fun s a w => ∃ (n10 : Int), n10 = s ∧ Has 16 a [(6, vL A5 (s1) c6), (7, vI ((s1.length : Int))), (8, vI (n10))] ∧ Mem C w [.row byteRep A5 c6 5 s1 false] [] ∧ R64 n10) ?_ ?_
    · exact ⟨0, rfl, hf.keep ⟨rfl, rfl, rfl, trivial⟩, hM.pick [] rfl, (R64_lit rfl)⟩
    · rintro s o15 a w12 ⟨n10, rfl, hf, hM, hv11⟩ h16 hd17
      replace h16 : m_impl_onlySmall_l1 s1 n10 = some o15 := h16
      unfold m_impl_onlySmall_l1 at h16
      refine wp_seq ?_
      refine region_pl ?_
      refine q_ hf rfl rfl rfl (e_lt hf (x := n10) (y := (s1.length : Int)) rfl rfl) fun a hf => ?_
      refine pl_nil ?_
      refine then_n ?_
      refine wp_seq ?_
      rcases cond_some h16 with ⟨hc18, h16⟩ | ⟨hc18, h16⟩
      · refine cond_t hf rfl hc18 ?_
        refine wp_skip ?_
        refine then_n ?_
        refine wp_seq ?_
        refine wp_block ?_
        refine wp_seq ?_
        refine region_pl ?_
        obtain ⟨e19, hz20, h16⟩ := bind_some h16
        obtain ⟨b25, _, hA26, h21, h22, hr23, hcell24⟩ := hM.rowElemN (k := 0) rfl (n := 1) rfl hz20
        obtain rfl : _ = _ := hr23
        refine q_ hf rfl rfl rfl (e_indexAddr (A := A5) (b := b25) (o := 0) (xs := s1) (i := n10) hf hA26 rfl rfl Tryz.underlying138 Tryz.sizeOf5 h21 h22) fun a hf => ?_
        refine q_ hf rfl rfl rfl (e_load1 hf rfl Tryz.isAgg5 (hcell24 0 _ rfl)) fun a hf => ?_
        refine q_ hf rfl rfl rfl (e_assign hf rfl) fun a hf => ?_
        refine pl_nil ?_
        refine then_n ?_
        refine wp_seq ?_
        refine region_pl ?_
        refine q_ hf rfl rfl rfl (e_move hf rfl) fun a hf => ?_
        obtain ⟨y27, hz28, h16⟩ := bind_some h16
        refine pl_l hf rfl rfl rfl (w_call hf Tryz.call115 rfl (r_impl_small ⟨_, Sh C _ _, none_, hM.sh_lt, none_not, C.G, hM.g_lt, g_none, hM.tabs⟩ e19 _ hz28) ?_)
        rintro _ w29 ⟨rfl, hM2⟩
        obtain ⟨hM, hx30, hup31⟩ := hM.back hM2
        dsimp only [List.cons_append, List.nil_append] at hM hup31
        clear hM2
        refine ⟨_, rfl, fun a hf => ?_⟩
        refine q_ hf rfl rfl rfl (e_not hf rfl) fun a hf => ?_
        refine pl_nil ?_
        refine then_n ?_
        rcases cond_some h16 with ⟨hc32, h16⟩ | ⟨hc32, h16⟩
        · refine cond_t hf rfl hc32 ?_
          refine wp_seq ?_
          refine region_pl ?_
          refine q_ hf rfl rfl rfl (e_assign hf rfl) fun a hf => ?_
          refine pl_nil ?_
          refine then_n ?_
          refine wp_ret ?_
          refine blk_r ?_
          refine then_r ?_
          obtain rfl := some_inj h16
          obtain rfl := hd17 _ rfl
          try dsimp only at h4
          refine then_r ?_
          refine blk_r ?_
          obtain rfl := some_inj h4
          try dsimp only at h
          refine then_r ?_
          obtain rfl := some_inj h
          have hM := hM.outs (own' := []) 0 rfl
          exact leave1 hf rfl rfl ⟨rfl, hM.fin⟩
        · refine cond_f hf rfl hc32 ?_
          refine wp_skip ?_
          refine blk_n ?_
          refine then_n ?_
          refine region_pl ?_
          obtain ⟨z33, hz34, h16⟩ := bind_some h16
          refine q_ hf rfl rfl rfl (e_add hf rfl rfl hz34) fun a hf => ?_
          refine q_ hf rfl rfl rfl (e_move hf rfl) fun a hf => ?_
          refine pl_nil ?_
          obtain rfl := some_inj h16
          refine then_n ⟨_, rfl, ?_⟩
          exact ⟨z33, rfl, hf.keep ⟨rfl, rfl, rfl, trivial⟩, hM.pick [] rfl, (chk_R hz34)⟩
      · refine cond_f hf rfl hc18 ?_
        refine wp_exit ?_
        refine then_x ?_
        obtain rfl := some_inj h16
        obtain rfl := hd17 _ rfl
        try dsimp only at h4
        refine then_x ?_
        refine exit_hit ?_
        obtain rfl := some_inj h4
        refine then_n ?_
        exact ⟨rfl, hf.keep trivial, (hM.drop (.cons _ .slnil)).pick [] rfl⟩
  · rintro a w41 ⟨rfl, hf, hM⟩
    try dsimp only at h
    refine wp_seq ?_
    refine region_pl ?_
    refine q_ hf rfl rfl rfl (e_assign hf rfl) fun a hf => ?_
    refine pl_nil ?_
    refine then_n ?_
    refine wp_ret ?_
    obtain rfl := some_inj h
    exact leave1 hf rfl rfl ⟨rfl, hM.fin⟩

set_option maxRecDepth 100000 in
set_option maxHeartbeats 4000000 in
theorem r_impl_IsWord (C : Cx) (s1 : Str) (hp2 : s1.length ≤ maxLen) (r : Bool) (h : m_impl_IsWord s1 = some r) :
    Calls Tryz.prog 164 #[vS (s1)] C.w0 fun e w => e = .returned (.bool (r)) ∧ Mem C w [] [] := by
  have hM := Mem.begin C [] trivial
  refine enter Tryz.func164 rfl Tryz.ntmps164 rfl fun a hf => ?_
  unfold m_impl_IsWord at h
  refine wp_seq ?_
  refine region_pl ?_
  refine q_ hf rfl rfl rfl (e_assign hf rfl) fun a hf => ?_
  refine pl_nil ?_
  refine then_n ?_
  obtain ⟨x5, h6, h⟩ := bind_some h
  refine seq_join (fun a w => ∃ (t3 : Bool), t3 = x5 ∧ Has 15 a [(2, .bool (t3))] ∧ Mem C w [] []) ?_ ?_
  · refine region_pl ?_
    refine q_ hf rfl rfl rfl (e_move hf rfl) fun a hf => ?_
    refine q_ hf rfl rfl rfl (e_lenS hf (x := s1) rfl Tryz.underlying9) fun a hf => ?_
    refine q_ hf rfl rfl rfl (e_ge hf (x := (s1.length : Int)) (y := 1) rfl rfl) fun a hf => ?_
    refine q_ hf rfl rfl rfl (e_move hf rfl) fun a hf => ?_
    rcases cond_some h6 with ⟨hc7, h6⟩ | ⟨hc7, h6⟩
    · refine gq (wanted_t hf rfl rfl rfl rfl hc7) hf rfl rfl (e_move hf rfl) fun a hf => ?_
      refine gq (wanted_t hf rfl rfl rfl rfl hc7) hf rfl rfl (e_lenS hf (x := s1) rfl Tryz.underlying9) fun a hf => ?_
      refine gq (wanted_t hf rfl rfl rfl rfl hc7) hf rfl rfl (e_le hf (x := (s1.length : Int)) (y := 12) rfl rfl) fun a hf => ?_
      refine q_ hf rfl rfl rfl (e_pick_t hf rfl hc7 rfl) fun a hf => ?_
      refine q_ hf rfl rfl rfl (e_move hf rfl) fun a hf => ?_
      rcases cond_some h6 with ⟨hc8, h6⟩ | ⟨hc8, h6⟩
      · refine gq (wanted_t hf rfl rfl rfl rfl hc8) hf rfl rfl (e_move hf rfl) fun a hf => ?_
        obtain ⟨y9, hz10, h6⟩ := bind_some h6
        refine pl_gl (wanted_t hf rfl rfl rfl rfl hc8) hf rfl rfl (w_call hf Tryz.call179 rfl (r_impl_onlySmall ⟨_, Sh C _ _, none_, hM.sh_lt, none_not, C.G, hM.g_lt, g_none, hM.tabs⟩ s1 hp2 _ hz10) ?_)
        rintro _ w11 ⟨rfl, hM2⟩
        obtain ⟨hM, hx12, hup13⟩ := hM.back hM2
        dsimp only [List.cons_append, List.nil_append] at hM hup13
        clear hM2
        refine ⟨_, rfl, fun a hf => ?_⟩
        refine q_ hf rfl rfl rfl (e_pick_t hf rfl hc8 rfl) fun a hf => ?_
        refine q_ hf rfl rfl rfl (e_assign hf rfl) fun a hf => ?_
        refine pl_nil ?_
        obtain rfl := some_inj h6
        refine then_n ?_
        exact ⟨y9, rfl, hf.keep ⟨rfl, trivial⟩, hM.pick [] rfl⟩
      · refine pl_gs (wanted_f hf rfl rfl rfl rfl hc8) hf rfl rfl fun a hf => ?_
        refine pl_gs (wanted_f hf rfl rfl rfl rfl hc8) hf rfl rfl fun a hf => ?_
        refine q_ hf rfl rfl rfl (e_pick_f hf rfl hc8 rfl) fun a hf => ?_
        refine q_ hf rfl rfl rfl (e_assign hf rfl) fun a hf => ?_
        refine pl_nil ?_
        obtain rfl := some_inj h6
        refine then_n ?_
        exact ⟨false, rfl, hf.keep ⟨rfl, trivial⟩, hM.pick [] rfl⟩
    · refine pl_gs (wanted_f hf rfl rfl rfl rfl hc7) hf rfl rfl fun a hf => ?_
      refine pl_gs (wanted_f hf rfl rfl rfl rfl hc7) hf rfl rfl fun a hf => ?_
      refine pl_gs (wanted_f hf rfl rfl rfl rfl hc7) hf rfl rfl fun a hf => ?_
      refine q_ hf rfl rfl rfl (e_pick_f hf rfl hc7 rfl) fun a hf => ?_
      refine q_ hf rfl rfl rfl (e_move hf rfl) fun a hf => ?_
      refine pl_gs (wanted_f hf rfl rfl rfl rfl rfl) hf rfl rfl fun a hf => ?_
      refine pl_gs (wanted_f hf rfl rfl rfl rfl rfl) hf rfl rfl fun a hf => ?_
      refine q_ hf rfl rfl rfl (e_pick_f hf rfl rfl rfl) fun a hf => ?_
      refine q_ hf rfl rfl rfl (e_assign hf rfl) fun a hf => ?_
      refine pl_nil ?_
      obtain rfl := some_inj h6
      refine then_n ?_
      exact ⟨false, rfl, hf.keep ⟨rfl, trivial⟩, hM.pick [] rfl⟩
  · rintro a w17 ⟨t3, rfl, hf, hM⟩
    try dsimp only at h
    refine wp_ret ?_
    obtain rfl := some_inj h
    exact leave1 hf rfl rfl ⟨rfl, hM.fin⟩

set_option maxRecDepth 100000 in
set_option maxHeartbeats 4000000 in
theorem r_impl_isPlaced (C : Cx) (s1 : Str) (hp2 : s1.length ≤ maxLen) (r : Bool) (h : m_impl_isPlaced s1 = some r) :
    Calls Tryz.prog 145 #[vS (s1)] C.w0 fun e w => e = .returned (.bool (r)) ∧ Mem C w [] [] := by
  have hM := Mem.begin C [] trivial
  refine enter Tryz.func145 rfl Tryz.ntmps145 rfl fun a hf => ?_
  unfold m_impl_isPlaced at h
  refine wp_seq ?_
  refine region_pl ?_
  refine q_ hf rfl rfl rfl (e_assign hf rfl) fun a hf => ?_
  refine pl_nil ?_
  refine then_n ?_
  obtain ⟨x5, h6, h⟩ := bind_some h
  refine seq_join (fun a w => ∃ (t3 : Bool), t3 = x5 ∧ Has 14 a [(2, .bool (t3))] ∧ Mem C w [] []) ?_ ?_
  · refine region_pl ?_
    refine q_ hf rfl rfl rfl (e_move hf rfl) fun a hf => ?_
    obtain ⟨y7, hz8, h6⟩ := bind_some h6
    refine pl_l hf rfl rfl rfl (w_call hf Tryz.call165 rfl (r_strings_ToLower ⟨_, Sh C _ _, none_, hM.sh_lt, none_not, C.G, hM.g_lt, g_none, hM.tabs⟩ s1 hp2 _ hz8) ?_)
    rintro _ w10 ⟨rfl, hM2, hv9⟩
    obtain ⟨hM, hx11, hup12⟩ := hM.back hM2
    dsimp only [List.cons_append, List.nil_append] at hM hup12
    clear hM2
    refine ⟨_, rfl, fun a hf => ?_⟩
    obtain ⟨y13, hz14, h6⟩ := bind_some h6
    refine pl_l hf rfl rfl rfl (w_call hf Tryz.call164 rfl (r_impl_IsWord ⟨_, Sh C _ _, none_, hM.sh_lt, none_not, C.G, hM.g_lt, g_none, hM.tabs⟩ y7 hv9 _ hz14) ?_)
    rintro _ w15 ⟨rfl, hM2⟩
    obtain ⟨hM, hx16, hup17⟩ := hM.back hM2
    dsimp only [List.cons_append, List.nil_append] at hM hup17
    clear hM2
    refine ⟨_, rfl, fun a hf => ?_⟩
    refine q_ hf rfl rfl rfl (e_move hf rfl) fun a hf => ?_
    rcases cond_some h6 with ⟨hc18, h6⟩ | ⟨hc18, h6⟩
    · refine gq (wanted_t hf rfl rfl rfl rfl hc18) hf rfl rfl (e_move hf rfl) fun a hf => ?_
      refine gq (wanted_t hf rfl rfl rfl rfl hc18) hf rfl rfl (e_lenS hf (x := s1) rfl Tryz.underlying9) fun a hf => ?_
      refine gq (wanted_t hf rfl rfl rfl rfl hc18) hf rfl rfl (e_move hf rfl) fun a hf => ?_
      obtain ⟨y19, hz20, h6⟩ := bind_some h6
      refine pl_gl (wanted_t hf rfl rfl rfl rfl hc18) hf rfl rfl (w_call hf Tryz.call165 rfl (r_strings_ToLower ⟨_, Sh C _ _, none_, hM.sh_lt, none_not, C.G, hM.g_lt, g_none, hM.tabs⟩ s1 hp2 _ hz20) ?_)
      rintro _ w22 ⟨rfl, hM2, hv21⟩
      obtain ⟨hM, hx23, hup24⟩ := hM.back hM2
      dsimp only [List.cons_append, List.nil_append] at hM hup24
      clear hM2
      refine ⟨_, rfl, fun a hf => ?_⟩
      refine gq (wanted_t hf rfl rfl rfl rfl hc18) hf rfl rfl (e_lenS hf (x := y19) rfl Tryz.underlying9) fun a hf => ?_
      refine gq (wanted_t hf rfl rfl rfl rfl hc18) hf rfl rfl (e_eq hf (x := (s1.length : Int)) (y := (y19.length : Int)) rfl rfl) fun a hf => ?_
      refine q_ hf rfl rfl rfl (e_pick_t hf rfl hc18 rfl) fun a hf => ?_
      refine q_ hf rfl rfl rfl (e_assign hf rfl) fun a hf => ?_
      refine pl_nil ?_
      obtain rfl := some_inj h6
      refine then_n ?_
      exact ⟨((s1.length : Int) == (y19.length : Int)), rfl, hf.keep ⟨rfl, trivial⟩, hM.pick [] rfl⟩
    · refine pl_gs (wanted_f hf rfl rfl rfl rfl hc18) hf rfl rfl fun a hf => ?_
      refine pl_gs (wanted_f hf rfl rfl rfl rfl hc18) hf rfl rfl fun a hf => ?_
      refine pl_gs (wanted_f hf rfl rfl rfl rfl hc18) hf rfl rfl fun a hf => ?_
      refine pl_gs (wanted_f hf rfl rfl rfl rfl hc18) hf rfl rfl fun a hf => ?_
      refine pl_gs (wanted_f hf rfl rfl rfl rfl hc18) hf rfl rfl fun a hf => ?_
      refine pl_gs (wanted_f hf rfl rfl rfl rfl hc18) hf rfl rfl fun a hf => ?_
      refine q_ hf rfl rfl rfl (e_pick_f hf rfl hc18 rfl) fun a hf => ?_
      refine q_ hf rfl rfl rfl (e_assign hf rfl) fun a hf => ?_
      refine pl_nil ?_
      obtain rfl := some_inj h6
      refine then_n ?_
      exact ⟨false, rfl, hf.keep ⟨rfl, trivial⟩, hM.pick [] rfl⟩
  · rintro a w27 ⟨t3, rfl, hf, hM⟩
    try dsimp only at h
    refine wp_ret ?_
    obtain rfl := some_inj h
    exact leave1 hf rfl rfl ⟨rfl, hM.fin⟩

set_option maxRecDepth 100000 in
set_option maxHeartbeats 4000000 in
theorem r_impl_isMain (C : Cx) (s1 : Str) (hp2 : s1.length ≤ maxLen) (r : Bool) (h : m_impl_isMain s1 = some r) :
    Calls Tryz.prog 99 #[vS (s1)] C.w0 fun e w => e = .returned (.bool (r)) ∧ Mem C w [] [] := by
  have hM := Mem.begin C [] trivial
  refine enter Tryz.func99 rfl Tryz.ntmps99 rfl fun a hf => ?_
  unfold m_impl_isMain at h
  refine wp_seq ?_
  refine region_pl ?_
  refine q_ hf rfl rfl rfl (e_assign hf rfl) fun a hf => ?_
  refine pl_nil ?_
  refine then_n ?_
  obtain ⟨x5, h6, h⟩ := bind_some h
  refine seq_join (fun a w => ∃ (t3 : Bool), t3 = x5 ∧ Has 10 a [(2, .bool (t3))] ∧ Mem C w [] []) ?_ ?_
  · refine region_pl ?_
    refine q_ hf rfl rfl rfl (e_move hf rfl) fun a hf => ?_
    refine q_ hf rfl rfl rfl (e_lenS hf (x := s1) rfl Tryz.underlying9) fun a hf => ?_
    refine q_ hf rfl rfl rfl (e_ge hf (x := (s1.length : Int)) (y := 2) rfl rfl) fun a hf => ?_
    refine q_ hf rfl rfl rfl (e_move hf rfl) fun a hf => ?_
    rcases cond_some h6 with ⟨hc7, h6⟩ | ⟨hc7, h6⟩
    · refine gq (wanted_t hf rfl rfl rfl rfl hc7) hf rfl rfl (e_move hf rfl) fun a hf => ?_
      obtain ⟨y8, hz9, h6⟩ := bind_some h6
      refine pl_gl (wanted_t hf rfl rfl rfl rfl hc7) hf rfl rfl (w_call hf Tryz.call145 rfl (r_impl_isPlaced ⟨_, Sh C _ _, none_, hM.sh_lt, none_not, C.G, hM.g_lt, g_none, hM.tabs⟩ s1 hp2 _ hz9) ?_)
      rintro _ w10 ⟨rfl, hM2⟩
      obtain ⟨hM, hx11, hup12⟩ := hM.back hM2
      dsimp only [List.cons_append, List.nil_append] at hM hup12
      clear hM2
      refine ⟨_, rfl, fun a hf => ?_⟩
      refine q_ hf rfl rfl rfl (e_pick_t hf rfl hc7 rfl) fun a hf => ?_
      refine q_ hf rfl rfl rfl (e_assign hf rfl) fun a hf => ?_
      refine pl_nil ?_
      obtain rfl := some_inj h6
      refine then_n ?_
      exact ⟨y8, rfl, hf.keep ⟨rfl, trivial⟩, hM.pick [] rfl⟩
    · refine pl_gs (wanted_f hf rfl rfl rfl rfl hc7) hf rfl rfl fun a hf => ?_
      refine pl_gs (wanted_f hf rfl rfl rfl rfl hc7) hf rfl rfl fun a hf => ?_
      refine q_ hf rfl rfl rfl (e_pick_f hf rfl hc7 rfl) fun a hf => ?_
      refine q_ hf rfl rfl rfl (e_assign hf rfl) fun a hf => ?_
      refine pl_nil ?_
      obtain rfl := some_inj h6
      refine then_n ?_
      exact ⟨false, rfl, hf.keep ⟨rfl, trivial⟩, hM.pick [] rfl⟩
  · rintro a w15 ⟨t3, rfl, hf, hM⟩
    try dsimp only at h
    refine wp_ret ?_
    obtain rfl := some_inj h
    exact leave1 hf rfl rfl ⟨rfl, hM.fin⟩

set_option maxRecDepth 100000 in
set_option maxHeartbeats 4000000 in
theorem r_impl_Board_inside (C : Cx) (b1 : Board) (hp2 : R64 b1.Size) (hp3 : b1.Premium.length ≤ maxLen) (hp4 : b1.Cells.length ≤ maxLen) (row5 : Int) (hp6 : R64 row5) (col7 : Int) (hp8 : R64 col7) (r : Bool) (h : m_impl_Board_inside b1 row5 col7 = some r) :
    Calls Tryz.prog 100 #[.agg #[vI (b1.Size), vS (b1.Premium), vS (b1.Cells)], vI (row5), vI (col7)] C.w0 fun e w => e = .returned (.bool (r)) ∧ Mem C w [] [] := by
  have hM := Mem.begin C [] trivial
  refine enter Tryz.func100 rfl Tryz.ntmps100 rfl fun a hf => ?_
  unfold m_impl_Board_inside at h
  refine wp_seq ?_
  refine region_pl ?_
  refine pl_l hf rfl rfl rfl (w_box hf hM (cs := [vI (b1.Size), vS (b1.Premium), vS (b1.Cells)]) rfl rfl fun b9 w10 hx11 hM a hf => ?_)
  refine q_ hf rfl rfl rfl (e_assign hf rfl) fun a hf => ?_
  refine pl_nil ?_
  refine then_n ?_
  obtain ⟨x15, h16, h⟩ := bind_some h
  refine seq_join (fun a w => ∃ (t13 : Bool), t13 = x15 ∧ Has 19 a [(6, .bool (t13))] ∧ Mem C w [.box b9 [vI (b1.Size), vS (b1.Premium), vS (b1.Cells)] 28] []) ?_ ?_
  · refine region_pl ?_
    refine q_ hf rfl rfl rfl (e_move hf rfl) fun a hf => ?_
    refine q_ hf rfl rfl rfl (e_field hf rfl Tryz.underlying28 rfl Tryz.sizeOf2 (o' := 0) rfl) fun a hf => ?_
    refine q_ hf rfl rfl rfl (e_load1 hf rfl Tryz.isAgg2 (hM.boxCell (k := 0) rfl rfl)) fun a hf => ?_
    obtain ⟨z17, hz18, h16⟩ := bind_some h16
    refine q_ hf rfl rfl rfl (e_sub hf rfl rfl hz18) fun a hf => ?_
    obtain ⟨y19, hz20, h16⟩ := bind_some h16
    refine pl_l hf rfl rfl rfl (w_call hf Tryz.call124 rfl (r_impl_within ⟨_, Sh C _ _, none_, hM.sh_lt, none_not, C.G, hM.g_lt, g_none, hM.tabs⟩ row5 hp6 0 (R64_lit rfl) z17 (chk_R hz18) _ hz20) ?_)
    rintro _ w21 ⟨rfl, hM2⟩
    obtain ⟨hM, hx22, hup23⟩ := hM.back hM2
    dsimp only [List.cons_append, List.nil_append] at hM hup23
    clear hM2
    refine ⟨_, rfl, fun a hf => ?_⟩
    refine q_ hf rfl rfl rfl (e_move hf rfl) fun a hf => ?_
    rcases cond_some h16 with ⟨hc24, h16⟩ | ⟨hc24, h16⟩
    · refine gq (wanted_t hf rfl rfl rfl rfl hc24) hf rfl rfl (e_move hf rfl) fun a hf => ?_
      refine gq (wanted_t hf rfl rfl rfl rfl hc24) hf rfl rfl (e_field hf rfl Tryz.underlying28 rfl Tryz.sizeOf2 (o' := 0) rfl) fun a hf => ?_
      refine gq (wanted_t hf rfl rfl rfl rfl hc24) hf rfl rfl (e_load1 hf rfl Tryz.isAgg2 (hM.boxCell (k := 0) rfl rfl)) fun a hf => ?_
      obtain ⟨z25, hz26, h16⟩ := bind_some h16
      refine gq (wanted_t hf rfl rfl rfl rfl hc24) hf rfl rfl (e_sub hf rfl rfl hz26) fun a hf => ?_
      obtain ⟨y27, hz28, h16⟩ := bind_some h16
      refine pl_gl (wanted_t hf rfl rfl rfl rfl hc24) hf rfl rfl (w_call hf Tryz.call124 rfl (r_impl_within ⟨_, Sh C _ _, none_, hM.sh_lt, none_not, C.G, hM.g_lt, g_none, hM.tabs⟩ col7 hp8 0 (R64_lit rfl) z25 (chk_R hz26) _ hz28) ?_)
      rintro _ w29 ⟨rfl, hM2⟩
      obtain ⟨hM, hx30, hup31⟩ := hM.back hM2
      dsimp only [List.cons_append, List.nil_append] at hM hup31
      clear hM2
      refine ⟨_, rfl, fun a hf => ?_⟩
      refine q_ hf rfl rfl rfl (e_pick_t hf rfl hc24 rfl) fun a hf => ?_
      refine q_ hf rfl rfl rfl (e_assign hf rfl) fun a hf => ?_
      refine pl_nil ?_
      obtain rfl := some_inj h16
      refine then_n ?_
      exact ⟨y27, rfl, hf.keep ⟨rfl, trivial⟩, hM.pick [] rfl⟩
    · refine pl_gs (wanted_f hf rfl rfl rfl rfl hc24) hf rfl rfl fun a hf => ?_
      refine pl_gs (wanted_f hf rfl rfl rfl rfl hc24) hf rfl rfl fun a hf => ?_
      refine pl_gs (wanted_f hf rfl rfl rfl rfl hc24) hf rfl rfl fun a hf => ?_
      refine pl_gs (wanted_f hf rfl rfl rfl rfl hc24) hf rfl rfl fun a hf => ?_
      refine pl_gs (wanted_f hf rfl rfl rfl rfl hc24) hf rfl rfl fun a hf => ?_
      refine q_ hf rfl rfl rfl (e_pick_f hf rfl hc24 rfl) fun a hf => ?_
      refine q_ hf rfl rfl rfl (e_assign hf rfl) fun a hf => ?_
      refine pl_nil ?_
      obtain rfl := some_inj h16
      refine then_n ?_
      exact ⟨false, rfl, hf.keep ⟨rfl, trivial⟩, hM.pick [] rfl⟩
  · rintro a w34 ⟨t13, rfl, hf, hM⟩
    try dsimp only at h
    refine wp_ret ?_
    obtain rfl := some_inj h
    have hM := hM.outs (own' := []) 0 rfl
    exact leave1 hf rfl rfl ⟨rfl, hM.fin⟩

set_option maxRecDepth 100000 in
set_option maxHeartbeats 4000000 in
theorem r_impl_directionOf (C : Cx) (down1 : Bool) (r : Bool) (h : m_impl_directionOf down1 = some r) :
    Calls Tryz.prog 146 #[.bool (down1)] C.w0 fun e w => e = .returned (dirV (r)) ∧ Mem C w [] [] := by
  have hM := Mem.begin C [] trivial
  refine enter Tryz.func146 rfl Tryz.ntmps146 rfl fun a hf => ?_
  unfold m_impl_directionOf at h
  refine wp_seq ?_
  refine region_pl ?_
  refine q_ hf rfl rfl rfl (e_assign hf rfl) fun a hf => ?_
  refine pl_nil ?_
  refine then_n ?_
  refine wp_seq ?_
  refine wp_seq ?_
  refine region_pl ?_
  refine q_ hf rfl rfl rfl (e_move hf rfl) fun a hf => ?_
  refine pl_nil ?_
  refine then_n ?_
  rcases cond_some h with ⟨hc2, h⟩ | ⟨hc2, h⟩
  · refine cond_t hf rfl hc2 ?_
    refine wp_seq ?_
    refine region_pl ?_
    refine q_ hf rfl rfl rfl (e_build hf Tryz.zeroValue180 Tryz.underlying180 (bp_180 _ Tryz.underlying180.symm) rfl (cs := #[]) (by kernel_rfl)) fun a hf => ?_
    refine q_ hf rfl rfl rfl (e_makeIface hf rfl (by kernel_rfl)) fun a hf => ?_
    refine q_ hf rfl rfl rfl (e_assign hf rfl) fun a hf => ?_
    refine pl_nil ?_
    refine then_n ?_
    refine wp_ret ?_
    refine then_r ?_
    obtain rfl := some_inj h
    exact leave1 hf rfl rfl ⟨rfl, hM.fin⟩
  · refine cond_f hf rfl hc2 ?_
    refine wp_skip ?_
    refine then_n ?_
    refine wp_seq ?_
    refine region_pl ?_
    refine q_ hf rfl rfl rfl (e_build hf Tryz.zeroValue181 Tryz.underlying181 (bp_181 _ Tryz.underlying181.symm) rfl (cs := #[]) (by kernel_rfl)) fun a hf => ?_
    refine q_ hf rfl rfl rfl (e_makeIface hf rfl (by kernel_rfl)) fun a hf => ?_
    refine q_ hf rfl rfl rfl (e_assign hf rfl) fun a hf => ?_
    refine pl_nil ?_
    refine then_n ?_
    refine wp_ret ?_
    obtain rfl := some_inj h
    exact leave1 hf rfl rfl ⟨rfl, hM.fin⟩

set_option maxRecDepth 100000 in
set_option maxHeartbeats 4000000 in
theorem r_impl_right_at (C : Cx) (p1 : Unit) (row2 : Int) (hp3 : R64 row2) (col4 : Int) (hp5 : R64 col4) (n6 : Int) (hp7 : R64 n6) (r : Square) (h : m_impl_right_at p1 row2 col4 n6 = some r) :
    Calls Tryz.prog 235 #[.agg #[], vI (row2), vI (col4), vI (n6)] C.w0 fun e w => e = .returned (.agg #[vI (r.Row), vI (r.Col)]) ∧ Mem C w [] [] ∧ R64 r.Row ∧ R64 r.Col := by
  have hM := Mem.begin C [] trivial
  refine enter Tryz.func235 rfl Tryz.ntmps235 rfl fun a hf => ?_
  unfold m_impl_right_at at h
  refine wp_seq ?_
  refine region_pl ?_
  refine pl_l hf rfl rfl rfl (w_box hf hM (cs := []) rfl rfl fun b8 w9 hx10 hM a hf => ?_)
  refine pl_l hf rfl rfl rfl (w_alloc hM (cs := [vI (0), vI (0)]) Tryz.zeroValue124 rfl fun b12 w13 hx14 hM a hf => ?_)
  refine pl_nil ?_
  refine then_n ?_
  refine wp_seq ?_
  refine region_pl ?_
  refine q_ hf rfl rfl rfl (e_move hf rfl) fun a hf => ?_
  refine q_ hf rfl rfl rfl (e_move hf rfl) fun a hf => ?_
  refine q_ hf rfl rfl rfl (e_move hf rfl) fun a hf => ?_
  obtain ⟨z16, hz17, h⟩ := bind_some h
  refine q_ hf rfl rfl rfl (e_add hf rfl rfl hz17) fun a hf => ?_
  refine q_ hf rfl rfl rfl (e_build hf Tryz.zeroValue124 Tryz.underlying124 (bp_124 _ Tryz.underlying124.symm) rfl (cs := #[vI (row2), vI (z16)]) (by kernel_rfl)) fun a hf => ?_
  refine pl_0 hf rfl rfl (w_store hf hM (us := [vI (row2), vI (z16)]) (cs' := [vI (row2), vI (z16)]) rfl rfl (k := 0) rfl rfl Tryz.sizeOf124 rfl rfl rfl fun w18 hM => ?_)
  dsimp only [List.set] at hM
  refine pl_nil ?_
  refine then_n ?_
  refine wp_ret ?_
  obtain rfl := some_inj h
  have hres21 := leaveV1 (P := Tryz.prog) Tryz.results235 (res_agg hf rfl ⟨Tryz.isAgg124, Tryz.sizeOf124⟩ (us := [vI (row2), vI (z16)]) rfl (hM.boxSub (k := 0) (o := 0) rfl rfl))
  have hM := hM.outs (own' := []) 0 rfl
  exact bodyPost_ret hres21 hf.defers ⟨rfl, hM.fin, hp3, (chk_R hz17)⟩

set_option maxRecDepth 100000 in
set_option maxHeartbeats 4000000 in
theorem r_impl_downwards_at (C : Cx) (p1 : Unit) (row2 : Int) (hp3 : R64 row2) (col4 : Int) (hp5 : R64 col4) (n6 : Int) (hp7 : R64 n6) (r : Square) (h : m_impl_downwards_at p1 row2 col4 n6 = some r) :
    Calls Tryz.prog 233 #[.agg #[], vI (row2), vI (col4), vI (n6)] C.w0 fun e w => e = .returned (.agg #[vI (r.Row), vI (r.Col)]) ∧ Mem C w [] [] ∧ R64 r.Row ∧ R64 r.Col := by
  have hM := Mem.begin C [] trivial
  refine enter Tryz.func233 rfl Tryz.ntmps233 rfl fun a hf => ?_
  unfold m_impl_downwards_at at h
  refine wp_seq ?_
  refine region_pl ?_
  refine pl_l hf rfl rfl rfl (w_box hf hM (cs := []) rfl rfl fun b8 w9 hx10 hM a hf => ?_)
  refine pl_l hf rfl rfl rfl (w_alloc hM (cs := [vI (0), vI (0)]) Tryz.zeroValue124 rfl fun b12 w13 hx14 hM a hf => ?_)
  refine pl_nil ?_
  refine then_n ?_
  refine wp_seq ?_
  refine region_pl ?_
  refine q_ hf rfl rfl rfl (e_move hf rfl) fun a hf => ?_
  refine q_ hf rfl rfl rfl (e_move hf rfl) fun a hf => ?_
  obtain ⟨z16, hz17, h⟩ := bind_some h
  refine q_ hf rfl rfl rfl (e_add hf rfl rfl hz17) fun a hf => ?_
  refine q_ hf rfl rfl rfl (e_move hf rfl) fun a hf => ?_
  refine q_ hf rfl rfl rfl (e_build hf Tryz.zeroValue124 Tryz.underlying124 (bp_124 _ Tryz.underlying124.symm) rfl (cs := #[vI (z16), vI (col4)]) (by kernel_rfl)) fun a hf => ?_
  refine pl_0 hf rfl rfl (w_store hf hM (us := [vI (z16), vI (col4)]) (cs' := [vI (z16), vI (col4)]) rfl rfl (k := 0) rfl rfl Tryz.sizeOf124 rfl rfl rfl fun w18 hM => ?_)
  dsimp only [List.set] at hM
  refine pl_nil ?_
  refine then_n ?_
  refine wp_ret ?_
  obtain rfl := some_inj h
  have hres21 := leaveV1 (P := Tryz.prog) Tryz.results233 (res_agg hf rfl ⟨Tryz.isAgg124, Tryz.sizeOf124⟩ (us := [vI (z16), vI (col4)]) rfl (hM.boxSub (k := 0) (o := 0) rfl rfl))
  have hM := hM.outs (own' := []) 0 rfl
  exact bodyPost_ret hres21 hf.defers ⟨rfl, hM.fin, (chk_R hz17), hp5⟩

set_option maxRecDepth 100000 in
set_option maxHeartbeats 4000000 in
theorem r_impl_Play_square (C : Cx) (p1 : Play) (hp2 : R64 p1.Row) (hp3 : R64 p1.Col) (hp4 : p1.Word.length ≤ maxLen) (n5 : Int) (hp6 : R64 n5) (r : Square) (h : m_impl_Play_square p1 n5 = some r) :
    Calls Tryz.prog 101 #[.agg #[vI (p1.Row), vI (p1.Col), .bool (p1.Down), vS (p1.Word)], vI (n5)] C.w0 fun e w => e = .returned (.agg #[vI (r.Row), vI (r.Col)]) ∧ Mem C w [] [] ∧ R64 r.Row ∧ R64 r.Col := by
  have hM := Mem.begin C [] trivial
  refine enter Tryz.func101 rfl Tryz.ntmps101 rfl fun a hf => ?_
  unfold m_impl_Play_square at h
  refine wp_seq ?_
  refine region_pl ?_
  refine pl_l hf rfl rfl rfl (w_box hf hM (cs := [vI (p1.Row), vI (p1.Col), .bool (p1.Down), vS (p1.Word)]) rfl rfl fun b7 w8 hx9 hM a hf => ?_)
  refine pl_l hf rfl rfl rfl (w_alloc hM (cs := [vI (0), vI (0)]) Tryz.zeroValue124 rfl fun b11 w12 hx13 hM a hf => ?_)
  refine pl_nil ?_
  refine then_n ?_
  refine wp_seq ?_
  obtain ⟨w15, hw⟩ : ∃ x, x = w12.drew := ⟨_, rfl⟩
  refine region_pi (.q 0 (.q 1 (.q 3 (.q 4 (.q 5 (.q 6 (.q 7 (.l 2 (.l 8 (.l 9 (.nil))))))))))) (Ext w15) rfl (by kernel_rfl) ?_
  have hM := hM.drew
  rw [← hw] at hM ⊢
  clear hw
  refine pi_q hf rfl rfl rfl rfl (Ext.refl _) (e_field hf rfl Tryz.underlying41 rfl Tryz.sizeOf4 (o' := 2) rfl) fun a hf => ?_
  refine pi_q hf rfl rfl rfl rfl (Ext.refl _) (e_load1 hf rfl Tryz.isAgg4 (hM.boxCell (k := 1) rfl rfl)) fun a hf => ?_
  refine pi_q hf rfl rfl rfl rfl (Ext.refl _) (e_field hf rfl Tryz.underlying41 rfl Tryz.sizeOf2 (o' := 0) rfl) fun a hf => ?_
  refine pi_q hf rfl rfl rfl rfl (Ext.refl _) (e_load1 hf rfl Tryz.isAgg2 (hM.boxCell (k := 1) rfl rfl)) fun a hf => ?_
  refine pi_q hf rfl rfl rfl rfl (Ext.refl _) (e_field hf rfl Tryz.underlying41 rfl Tryz.sizeOf2 (o' := 1) rfl) fun a hf => ?_
  refine pi_q hf rfl rfl rfl rfl (Ext.refl _) (e_load1 hf rfl Tryz.isAgg2 (hM.boxCell (k := 1) rfl rfl)) fun a hf => ?_
  refine pi_q hf rfl rfl rfl rfl (Ext.refl _) (e_move hf rfl) fun a hf => ?_
  refine pi_one ?_
  obtain ⟨y16, hz17, h⟩ := bind_some h
  refine pi_l hf rfl rfl rfl rfl (w_call hf Tryz.call146 rfl (r_impl_directionOf ⟨_, Sh C _ _, none_, hM.sh_lt, none_not, C.G, hM.g_lt, g_none, hM.tabs⟩ p1.Down _ hz17) ?_)
  rintro _ w18 ⟨rfl, hM2⟩
  obtain ⟨hM, hx19, hup20⟩ := hM.back hM2
  dsimp only [List.cons_append, List.nil_append] at hM hup20
  clear hM2
  refine ⟨_, rfl, Ext w18, fun _ h => Ext.trans hx19 h, Ext.refl _, fun a hf => ?_⟩
  rcases cond_some h with ⟨hc21, h⟩ | ⟨hc21, h⟩
  · refine pi_one ?_
    obtain ⟨y22, hz23, h⟩ := bind_some h
    refine pi_l hf rfl rfl rfl rfl (w_invoke hf (dirAt_t rfl hc21) dir_m_233 Tryz.call233 rfl (r_impl_downwards_at ⟨_, Sh C _ _, none_, hM.sh_lt, none_not, C.G, hM.g_lt, g_none, hM.tabs⟩ (⟨⟩ : Unit) p1.Row hp2 p1.Col hp3 n5 hp6 _ hz23) ?_)
    rintro _ w26 ⟨rfl, hM2, hv24, hv25⟩
    obtain ⟨hM, hx27, hup28⟩ := hM.back hM2
    dsimp only [List.cons_append, List.nil_append] at hM hup28
    clear hM2
    refine ⟨_, rfl, Ext w26, fun _ h => Ext.trans hx27 h, Ext.refl _, fun a hf => ?_⟩
    refine pi_one ?_
    refine pi_z0 hf rfl rfl rfl (by kernel_rfl) (w_store hf hM (us := [vI (y22.Row), vI (y22.Col)]) (cs' := [vI (y22.Row), vI (y22.Col)]) rfl rfl (k := 0) rfl rfl Tryz.sizeOf124 rfl rfl rfl fun w29 hM => ?_)
    dsimp only [List.set] at hM
    refine pi_nil ?_
    refine then_n ?_
    refine wp_ret ?_
    obtain rfl := some_inj h
    have hres32 := leaveV1 (P := Tryz.prog) Tryz.results101 (res_agg hf rfl ⟨Tryz.isAgg124, Tryz.sizeOf124⟩ (us := [vI (y22.Row), vI (y22.Col)]) rfl (hM.boxSub (k := 0) (o := 0) rfl rfl))
    have hM := hM.outs (own' := []) 0 rfl
    exact bodyPost_ret hres32 hf.defers ⟨rfl, hM.fin, hv24, hv25⟩
  · refine pi_one ?_
    obtain ⟨y33, hz34, h⟩ := bind_some h
    refine pi_l hf rfl rfl rfl rfl (w_invoke hf (dirAt_f rfl hc21) dir_m_235 Tryz.call235 rfl (r_impl_right_at ⟨_, Sh C _ _, none_, hM.sh_lt, none_not, C.G, hM.g_lt, g_none, hM.tabs⟩ (⟨⟩ : Unit) p1.Row hp2 p1.Col hp3 n5 hp6 _ hz34) ?_)
    rintro _ w37 ⟨rfl, hM2, hv35, hv36⟩
    obtain ⟨hM, hx38, hup39⟩ := hM.back hM2
    dsimp only [List.cons_append, List.nil_append] at hM hup39
    clear hM2
    refine ⟨_, rfl, Ext w37, fun _ h => Ext.trans hx38 h, Ext.refl _, fun a hf => ?_⟩
    refine pi_one ?_
    refine pi_z0 hf rfl rfl rfl (by kernel_rfl) (w_store hf hM (us := [vI (y33.Row), vI (y33.Col)]) (cs' := [vI (y33.Row), vI (y33.Col)]) rfl rfl (k := 0) rfl rfl Tryz.sizeOf124 rfl rfl rfl fun w40 hM => ?_)
    dsimp only [List.set] at hM
    refine pi_nil ?_
    refine then_n ?_
    refine wp_ret ?_
    obtain rfl := some_inj h
    have hres43 := leaveV1 (P := Tryz.prog) Tryz.results101 (res_agg hf rfl ⟨Tryz.isAgg124, Tryz.sizeOf124⟩ (us := [vI (y33.Row), vI (y33.Col)]) rfl (hM.boxSub (k := 0) (o := 0) rfl rfl))
    have hM := hM.outs (own' := []) 0 rfl
    exact bodyPost_ret hres43 hf.defers ⟨rfl, hM.fin, hv35, hv36⟩

set_option maxRecDepth 100000 in
set_option maxHeartbeats 4000000 in
theorem r_impl_Board_cell (C : Cx) (b1 : Board) (hp2 : R64 b1.Size) (hp3 : b1.Premium.length ≤ maxLen) (hp4 : b1.Cells.length ≤ maxLen) (row5 : Int) (hp6 : R64 row5) (col7 : Int) (hp8 : R64 col7) (r : UInt8) (h : m_impl_Board_cell b1 row5 col7 = some r) :
    Calls Tryz.prog 103 #[.agg #[vI (b1.Size), vS (b1.Premium), vS (b1.Cells)], vI (row5), vI (col7)] C.w0 fun e w => e = .returned (vB (r)) ∧ Mem C w [] [] := by
  have hM := Mem.begin C [] trivial
  refine enter Tryz.func103 rfl Tryz.ntmps103 rfl fun a hf => ?_
  unfold m_impl_Board_cell at h
  refine wp_seq ?_
  refine region_pl ?_
  refine pl_l hf rfl rfl rfl (w_box hf hM (cs := [vI (b1.Size), vS (b1.Premium), vS (b1.Cells)]) rfl rfl fun b9 w10 hx11 hM a hf => ?_)
  refine q_ hf rfl rfl rfl (e_assign hf rfl) fun a hf => ?_
  refine pl_nil ?_
  refine then_n ?_
  refine wp_seq ?_
  refine wp_seq ?_
  refine region_pl ?_
  refine q_ hf rfl rfl rfl (e_loadA hf (us := [vI (b1.Size), vS (b1.Premium), vS (b1.Cells)]) rfl ⟨Tryz.isAgg28, Tryz.sizeOf28⟩ rfl (hM.boxSub (k := 0) (us := [vI (b1.Size), vS (b1.Premium), vS (b1.Cells)]) (o := 0) rfl rfl)) fun a hf => ?_
  refine q_ hf rfl rfl rfl (e_move hf rfl) fun a hf => ?_
  refine q_ hf rfl rfl rfl (e_move hf rfl) fun a hf => ?_
  obtain ⟨y13, hz14, h⟩ := bind_some h
  refine pl_l hf rfl rfl rfl (w_call hf Tryz.call100 rfl (r_impl_Board_inside ⟨_, Sh C _ _, none_, hM.sh_lt, none_not, C.G, hM.g_lt, g_none, hM.tabs⟩ b1 hp2 hp3 hp4 row5 hp6 col7 hp8 _ hz14) ?_)
  rintro _ w15 ⟨rfl, hM2⟩
  obtain ⟨hM, hx16, hup17⟩ := hM.back hM2
  dsimp only [List.cons_append, List.nil_append] at hM hup17
  clear hM2
  refine ⟨_, rfl, fun a hf => ?_⟩
  refine q_ hf rfl rfl rfl (e_not hf rfl) fun a hf => ?_
  refine pl_nil ?_
  refine then_n ?_
  rcases cond_some h with ⟨hc18, h⟩ | ⟨hc18, h⟩
  · refine cond_t hf rfl hc18 ?_
    refine wp_seq ?_
    refine region_pl ?_
    refine q_ hf rfl rfl rfl (e_assign hf rfl) fun a hf => ?_
    refine pl_nil ?_
    refine then_n ?_
    refine wp_ret ?_
    refine then_r ?_
    obtain rfl := some_inj h
    have hM := hM.outs (own' := []) 0 rfl
    exact leave1 hf rfl rfl ⟨rfl, hM.fin⟩
  · refine cond_f hf rfl hc18 ?_
    refine wp_skip ?_
    refine then_n ?_
    refine wp_seq ?_
    refine region_pl ?_
    refine q_ hf rfl rfl rfl (e_field hf rfl Tryz.underlying28 rfl Tryz.sizeOf9 (o' := 2) rfl) fun a hf => ?_
    refine q_ hf rfl rfl rfl (e_load1 hf rfl Tryz.isAgg9 (hM.boxCell (k := 0) rfl rfl)) fun a hf => ?_
    refine q_ hf rfl rfl rfl (e_move hf rfl) fun a hf => ?_
    refine q_ hf rfl rfl rfl (e_field hf rfl Tryz.underlying28 rfl Tryz.sizeOf2 (o' := 0) rfl) fun a hf => ?_
    refine q_ hf rfl rfl rfl (e_load1 hf rfl Tryz.isAgg2 (hM.boxCell (k := 0) rfl rfl)) fun a hf => ?_
    obtain ⟨z19, hz20, h⟩ := bind_some h
    refine q_ hf rfl rfl rfl (e_mul hf rfl rfl hz20) fun a hf => ?_
    refine q_ hf rfl rfl rfl (e_move hf rfl) fun a hf => ?_
    obtain ⟨z21, hz22, h⟩ := bind_some h
    refine q_ hf rfl rfl rfl (e_add hf rfl rfl hz22) fun a hf => ?_
    obtain ⟨c23, hz24, h⟩ := bind_some h
    refine q_ hf rfl rfl rfl (e_indexS hf (x := b1.Cells) rfl rfl Tryz.underlying9 hz24) fun a hf => ?_
    refine q_ hf rfl rfl rfl (e_assign hf rfl) fun a hf => ?_
    refine pl_nil ?_
    refine then_n ?_
    refine wp_ret ?_
    obtain rfl := some_inj h
    have hM := hM.outs (own' := []) 0 rfl
    exact leave1 hf rfl rfl ⟨rfl, hM.fin⟩

set_option maxRecDepth 100000 in
set_option maxHeartbeats 4000000 in
theorem r_impl_Board_letter (C : Cx) (b1 : Board) (hp2 : R64 b1.Size) (hp3 : b1.Premium.length ≤ maxLen) (hp4 : b1.Cells.length ≤ maxLen) (row5 : Int) (hp6 : R64 row5) (col7 : Int) (hp8 : R64 col7) (r : Bool) (h : m_impl_Board_letter b1 row5 col7 = some r) :
    Calls Tryz.prog 147 #[.agg #[vI (b1.Size), vS (b1.Premium), vS (b1.Cells)], vI (row5), vI (col7)] C.w0 fun e w => e = .returned (.bool (r)) ∧ Mem C w [] [] := by
  have hM := Mem.begin C [] trivial
  refine enter Tryz.func147 rfl Tryz.ntmps147 rfl fun a hf => ?_
  unfold m_impl_Board_letter at h
  refine wp_seq ?_
  refine region_pl ?_
  refine pl_l hf rfl rfl rfl (w_box hf hM (cs := [vI (b1.Size), vS (b1.Premium), vS (b1.Cells)]) rfl rfl fun b9 w10 hx11 hM a hf => ?_)
  refine q_ hf rfl rfl rfl (e_assign hf rfl) fun a hf => ?_
  refine pl_nil ?_
  refine then_n ?_
  refine wp_seq ?_
  refine region_pl ?_
  refine q_ hf rfl rfl rfl (e_loadA hf (us := [vI (b1.Size), vS (b1.Premium), vS (b1.Cells)]) rfl ⟨Tryz.isAgg28, Tryz.sizeOf28⟩ rfl (hM.boxSub (k := 0) (us := [vI (b1.Size), vS (b1.Premium), vS (b1.Cells)]) (o := 0) rfl rfl)) fun a hf => ?_
  refine q_ hf rfl rfl rfl (e_move hf rfl) fun a hf => ?_
  refine q_ hf rfl rfl rfl (e_move hf rfl) fun a hf => ?_
  obtain ⟨y13, hz14, h⟩ := bind_some h
  refine pl_l hf rfl rfl rfl (w_call hf Tryz.call103 rfl (r_impl_Board_cell ⟨_, Sh C _ _, none_, hM.sh_lt, none_not, C.G, hM.g_lt, g_none, hM.tabs⟩ b1 hp2 hp3 hp4 row5 hp6 col7 hp8 _ hz14) ?_)
  rintro _ w15 ⟨rfl, hM2⟩
  obtain ⟨hM, hx16, hup17⟩ := hM.back hM2
  dsimp only [List.cons_append, List.nil_append] at hM hup17
  clear hM2
  refine ⟨_, rfl, fun a hf => ?_⟩
  refine q_ hf rfl rfl rfl (e_assign hf rfl) fun a hf => ?_
  refine pl_nil ?_
  refine then_n ?_
  obtain ⟨x20, h21, h⟩ := bind_some h
  refine seq_join (fun a w => ∃ (t18 : Bool), t18 = x20 ∧ Has 18 a [(6, .bool (t18))] ∧ Mem C w [.box b9 [vI (b1.Size), vS (b1.Premium), vS (b1.Cells)] 28] []) ?_ ?_
  · refine region_pl ?_
    refine q_ hf rfl rfl rfl (e_move hf rfl) fun a hf => ?_
    refine q_ hf rfl rfl rfl (e_neB hf (x := y13) (y := 0) rfl rfl) fun a hf => ?_
    refine q_ hf rfl rfl rfl (e_move hf rfl) fun a hf => ?_
    rcases cond_some h21 with ⟨hc22, h21⟩ | ⟨hc22, h21⟩
    · refine gq (wanted_t hf rfl rfl rfl rfl hc22) hf rfl rfl (e_move hf rfl) fun a hf => ?_
      refine gq (wanted_t hf rfl rfl rfl rfl hc22) hf rfl rfl (e_neB hf (x := y13) (y := 46) rfl rfl) fun a hf => ?_
      refine q_ hf rfl rfl rfl (e_pick_t hf rfl hc22 rfl) fun a hf => ?_
      refine q_ hf rfl rfl rfl (e_assign hf rfl) fun a hf => ?_
      refine pl_nil ?_
      obtain rfl := some_inj h21
      refine then_n ?_
      exact ⟨(y13 != 46), rfl, hf.keep ⟨rfl, trivial⟩, hM.pick [] rfl⟩
    · refine pl_gs (wanted_f hf rfl rfl rfl rfl hc22) hf rfl rfl fun a hf => ?_
      refine pl_gs (wanted_f hf rfl rfl rfl rfl hc22) hf rfl rfl fun a hf => ?_
      refine q_ hf rfl rfl rfl (e_pick_f hf rfl hc22 rfl) fun a hf => ?_
      refine q_ hf rfl rfl rfl (e_assign hf rfl) fun a hf => ?_
      refine pl_nil ?_
      obtain rfl := some_inj h21
      refine then_n ?_
      exact ⟨false, rfl, hf.keep ⟨rfl, trivial⟩, hM.pick [] rfl⟩
  · rintro a w25 ⟨t18, rfl, hf, hM⟩
    try dsimp only at h
    refine wp_ret ?_
    obtain rfl := some_inj h
    have hM := hM.outs (own' := []) 0 rfl
    exact leave1 hf rfl rfl ⟨rfl, hM.fin⟩

set_option maxRecDepth 100000 in
set_option maxHeartbeats 4000000 in
theorem r_impl_Board_on (C : Cx) (b1 : Board) (hp2 : R64 b1.Size) (hp3 : b1.Premium.length ≤ maxLen) (hp4 : b1.Cells.length ≤ maxLen) (s5 : Square) (hp6 : R64 s5.Row) (hp7 : R64 s5.Col) (r : Bool) (h : m_impl_Board_on b1 s5 = some r) :
    Calls Tryz.prog 102 #[.agg #[vI (b1.Size), vS (b1.Premium), vS (b1.Cells)], .agg #[vI (s5.Row), vI (s5.Col)]] C.w0 fun e w => e = .returned (.bool (r)) ∧ Mem C w [] [] := by
  have hM := Mem.begin C [] trivial
  refine enter Tryz.func102 rfl Tryz.ntmps102 rfl fun a hf => ?_
  unfold m_impl_Board_on at h
  refine wp_seq ?_
  refine region_pl ?_
  refine pl_l hf rfl rfl rfl (w_box hf hM (cs := [vI (b1.Size), vS (b1.Premium), vS (b1.Cells)]) rfl rfl fun b8 w9 hx10 hM a hf => ?_)
  refine pl_l hf rfl rfl rfl (w_box hf hM (cs := [vI (s5.Row), vI (s5.Col)]) rfl rfl fun b12 w13 hx14 hM a hf => ?_)
  refine q_ hf rfl rfl rfl (e_assign hf rfl) fun a hf => ?_
  refine pl_nil ?_
  refine then_n ?_
  refine wp_seq ?_
  refine region_pl ?_
  refine q_ hf rfl rfl rfl (e_loadA hf (us := [vI (b1.Size), vS (b1.Premium), vS (b1.Cells)]) rfl ⟨Tryz.isAgg28, Tryz.sizeOf28⟩ rfl (hM.boxSub (k := 1) (us := [vI (b1.Size), vS (b1.Premium), vS (b1.Cells)]) (o := 0) rfl rfl)) fun a hf => ?_
  refine q_ hf rfl rfl rfl (e_field hf rfl Tryz.underlying124 rfl Tryz.sizeOf2 (o' := 0) rfl) fun a hf => ?_
  refine q_ hf rfl rfl rfl (e_load1 hf rfl Tryz.isAgg2 (hM.boxCell (k := 0) rfl rfl)) fun a hf => ?_
  refine q_ hf rfl rfl rfl (e_field hf rfl Tryz.underlying124 rfl Tryz.sizeOf2 (o' := 1) rfl) fun a hf => ?_
  refine q_ hf rfl rfl rfl (e_load1 hf rfl Tryz.isAgg2 (hM.boxCell (k := 0) rfl rfl)) fun a hf => ?_
  obtain ⟨y16, hz17, h⟩ := bind_some h
  refine pl_l hf rfl rfl rfl (w_call hf Tryz.call147 rfl (r_impl_Board_letter ⟨_, Sh C _ _, none_, hM.sh_lt, none_not, C.G, hM.g_lt, g_none, hM.tabs⟩ b1 hp2 hp3 hp4 s5.Row hp6 s5.Col hp7 _ hz17) ?_)
  rintro _ w18 ⟨rfl, hM2⟩
  obtain ⟨hM, hx19, hup20⟩ := hM.back hM2
  dsimp only [List.cons_append, List.nil_append] at hM hup20
  clear hM2
  refine ⟨_, rfl, fun a hf => ?_⟩
  refine q_ hf rfl rfl rfl (e_assign hf rfl) fun a hf => ?_
  refine pl_nil ?_
  refine then_n ?_
  refine wp_ret ?_
  obtain rfl := some_inj h
  have hM := hM.outs (own' := []) 0 rfl
  exact leave1 hf rfl rfl ⟨rfl, hM.fin⟩

set_option maxRecDepth 100000 in
set_option maxHeartbeats 4000000 in
theorem r_impl_Play_validOn (C : Cx) (p1 : Play) (hp2 : R64 p1.Row) (hp3 : R64 p1.Col) (hp4 : p1.Word.length ≤ maxLen) (b5 : Board) (hp6 : R64 b5.Size) (hp7 : b5.Premium.length ≤ maxLen) (hp8 : b5.Cells.length ≤ maxLen) (r : Bool) (h : m_impl_Play_validOn p1 b5 = some r) :
    Calls Tryz.prog 47 #[.agg #[vI (p1.Row), vI (p1.Col), .bool (p1.Down), vS (p1.Word)], .agg #[vI (b5.Size), vS (b5.Premium), vS (b5.Cells)]] C.w0 fun e w => e = .returned (.bool (r)) ∧ Mem C w [] [] := by
  have hM := Mem.begin C [] trivial
  refine enter Tryz.func47 rfl Tryz.ntmps47 rfl fun a hf => ?_
  unfold m_impl_Play_validOn at h
  refine wp_seq ?_
  refine region_pl ?_
  refine pl_l hf rfl rfl rfl (w_box hf hM (cs := [vI (p1.Row), vI (p1.Col), .bool (p1.Down), vS (p1.Word)]) rfl rfl fun b9 w10 hx11 hM a hf => ?_)
  refine pl_l hf rfl rfl rfl (w_box hf hM (cs := [vI (b5.Size), vS (b5.Premium), vS (b5.Cells)]) rfl rfl fun b13 w14 hx15 hM a hf => ?_)
  refine q_ hf rfl rfl rfl (e_assign hf rfl) fun a hf => ?_
  refine pl_nil ?_
  refine then_n ?_
  refine wp_seq ?_
  obtain ⟨x19, h20, h⟩ := bind_some h
  refine seq_join (fun a w => ∃ (t17 : Bool), t17 = x19 ∧ Has 76 a [(2, vP b9 (0)), (3, vP b13 (0)), (22, .bool (t17))] ∧ Mem C w [.box b13 [vI (b5.Size), vS (b5.Premium), vS (b5.Cells)] 28, .box b9 [vI (p1.Row), vI (p1.Col), .bool (p1.Down), vS (p1.Word)] 41] []) ?_ ?_
  · refine region_pl ?_
    refine q_ hf rfl rfl rfl (e_field hf rfl Tryz.underlying41 rfl Tryz.sizeOf9 (o' := 3) rfl) fun a hf => ?_
    refine q_ hf rfl rfl rfl (e_load1 hf rfl Tryz.isAgg9 (hM.boxCell (k := 1) rfl rfl)) fun a hf => ?_
    obtain ⟨y21, hz22, h20⟩ := bind_some h20
    refine pl_l hf rfl rfl rfl (w_call hf Tryz.call99 rfl (r_impl_isMain ⟨_, Sh C _ _, none_, hM.sh_lt, none_not, C.G, hM.g_lt, g_none, hM.tabs⟩ p1.Word hp4 _ hz22) ?_)
    rintro _ w23 ⟨rfl, hM2⟩
    obtain ⟨hM, hx24, hup25⟩ := hM.back hM2
    dsimp only [List.cons_append, List.nil_append] at hM hup25
    clear hM2
    refine ⟨_, rfl, fun a hf => ?_⟩
    refine q_ hf rfl rfl rfl (e_not hf rfl) fun a hf => ?_
    refine q_ hf rfl rfl rfl (e_move hf rfl) fun a hf => ?_
    rcases cond_some h20 with ⟨hc26, h20⟩ | ⟨hc26, h20⟩
    · refine pl_gs (wanted_f hf rfl rfl rfl rfl hc26) hf rfl rfl fun a hf => ?_
      refine pl_gs (wanted_f hf rfl rfl rfl rfl hc26) hf rfl rfl fun a hf => ?_
      refine pl_gs (wanted_f hf rfl rfl rfl rfl hc26) hf rfl rfl fun a hf => ?_
      refine pl_gs (wanted_f hf rfl rfl rfl rfl hc26) hf rfl rfl fun a hf => ?_
      refine pl_gs (wanted_f hf rfl rfl rfl rfl hc26) hf rfl rfl fun a hf => ?_
      refine pl_gs (wanted_f hf rfl rfl rfl rfl hc26) hf rfl rfl fun a hf => ?_
      refine pl_gs (wanted_f hf rfl rfl rfl rfl hc26) hf rfl rfl fun a hf => ?_
      refine q_ hf rfl rfl rfl (e_pick_t hf rfl hc26 rfl) fun a hf => ?_
      refine pl_nil ?_
      obtain rfl := some_inj h20
      refine then_n ?_
      exact ⟨true, rfl, hf.keep ⟨rfl, rfl, rfl, trivial⟩, hM.pick [] rfl⟩
    · refine gq (wanted_t hf rfl rfl rfl rfl hc26) hf rfl rfl (e_loadA hf (us := [vI (b5.Size), vS (b5.Premium), vS (b5.Cells)]) rfl ⟨Tryz.isAgg28, Tryz.sizeOf28⟩ rfl (hM.boxSub (k := 0) (us := [vI (b5.Size), vS (b5.Premium), vS (b5.Cells)]) (o := 0) rfl rfl)) fun a hf => ?_
      refine gq (wanted_t hf rfl rfl rfl rfl hc26) hf rfl rfl (e_field hf rfl Tryz.underlying41 rfl Tryz.sizeOf2 (o' := 0) rfl) fun a hf => ?_
      refine gq (wanted_t hf rfl rfl rfl rfl hc26) hf rfl rfl (e_load1 hf rfl Tryz.isAgg2 (hM.boxCell (k := 1) rfl rfl)) fun a hf => ?_
      refine gq (wanted_t hf rfl rfl rfl rfl hc26) hf rfl rfl (e_field hf rfl Tryz.underlying41 rfl Tryz.sizeOf2 (o' := 1) rfl) fun a hf => ?_
      refine gq (wanted_t hf rfl rfl rfl rfl hc26) hf rfl rfl (e_load1 hf rfl Tryz.isAgg2 (hM.boxCell (k := 1) rfl rfl)) fun a hf => ?_
      obtain ⟨y28, hz29, h20⟩ := bind_some h20
      refine pl_gl (wanted_t hf rfl rfl rfl rfl hc26) hf rfl rfl (w_call hf Tryz.call100 rfl (r_impl_Board_inside ⟨_, Sh C _ _, none_, hM.sh_lt, none_not, C.G, hM.g_lt, g_none, hM.tabs⟩ b5 hp6 hp7 hp8 p1.Row hp2 p1.Col hp3 _ hz29) ?_)
      rintro _ w30 ⟨rfl, hM2⟩
      obtain ⟨hM, hx31, hup32⟩ := hM.back hM2
      dsimp only [List.cons_append, List.nil_append] at hM hup32
      clear hM2
      refine ⟨_, rfl, fun a hf => ?_⟩
      refine gq (wanted_t hf rfl rfl rfl rfl hc26) hf rfl rfl (e_not hf rfl) fun a hf => ?_
      refine q_ hf rfl rfl rfl (e_pick_f hf rfl hc26 rfl) fun a hf => ?_
      refine pl_nil ?_
      obtain rfl := some_inj h20
      refine then_n ?_
      exact ⟨(!y28), rfl, hf.keep ⟨rfl, rfl, rfl, trivial⟩, hM.pick [] rfl⟩
  · rintro a w34 ⟨t17, rfl, hf, hM⟩
    try dsimp only at h
    rcases cond_some h with ⟨hc35, h⟩ | ⟨hc35, h⟩
    · refine cond_t hf rfl hc35 ?_
      refine wp_seq ?_
      refine region_pl ?_
      refine q_ hf rfl rfl rfl (e_assign hf rfl) fun a hf => ?_
      refine pl_nil ?_
      refine then_n ?_
      refine wp_ret ?_
      refine then_r ?_
      obtain rfl := some_inj h
      have hM := hM.outs (own' := []) 0 rfl
      exact leave1 hf rfl rfl ⟨rfl, hM.fin⟩
    · refine cond_f hf rfl hc35 ?_
      refine wp_skip ?_
      refine then_n ?_
      refine wp_seq ?_
      refine region_pl ?_
      refine q_ hf rfl rfl rfl (e_loadA hf (us := [vI (p1.Row), vI (p1.Col), .bool (p1.Down), vS (p1.Word)]) rfl ⟨Tryz.isAgg41, Tryz.sizeOf41⟩ rfl (hM.boxSub (k := 1) (us := [vI (p1.Row), vI (p1.Col), .bool (p1.Down), vS (p1.Word)]) (o := 0) rfl rfl)) fun a hf => ?_
      refine q_ hf rfl rfl rfl (e_field hf rfl Tryz.underlying41 rfl Tryz.sizeOf9 (o' := 3) rfl) fun a hf => ?_
      refine q_ hf rfl rfl rfl (e_load1 hf rfl Tryz.isAgg9 (hM.boxCell (k := 1) rfl rfl)) fun a hf => ?_
      refine q_ hf rfl rfl rfl (e_lenS hf (x := p1.Word) rfl Tryz.underlying9) fun a hf => ?_
      obtain ⟨z36, hz37, h⟩ := bind_some h
      refine q_ hf rfl rfl rfl (e_sub hf rfl rfl hz37) fun a hf => ?_
      obtain ⟨y38, hz39, h⟩ := bind_some h
      refine pl_l hf rfl rfl rfl (w_call hf Tryz.call101 rfl (r_impl_Play_square ⟨_, Sh C _ _, none_, hM.sh_lt, none_not, C.G, hM.g_lt, g_none, hM.tabs⟩ p1 hp2 hp3 hp4 z36 (chk_R hz37) _ hz39) ?_)
      rintro _ w42 ⟨rfl, hM2, hv40, hv41⟩
      obtain ⟨hM, hx43, hup44⟩ := hM.back hM2
      dsimp only [List.cons_append, List.nil_append] at hM hup44
      clear hM2
      refine ⟨_, rfl, fun a hf => ?_⟩
      refine pl_l hf rfl rfl rfl (w_alloc hM (cs := [vI (0), vI (0)]) Tryz.zeroValue124 rfl fun b45 w46 hx47 hM a hf => ?_)
      refine pl_0 hf rfl rfl (w_store hf hM (us := [vI (y38.Row), vI (y38.Col)]) (cs' := [vI (y38.Row), vI (y38.Col)]) rfl rfl (k := 0) rfl rfl Tryz.sizeOf124 rfl rfl rfl fun w49 hM => ?_)
      dsimp only [List.set] at hM
      refine pl_nil ?_
      refine then_n ?_
      refine wp_seq ?_
      obtain ⟨x54, h55, h⟩ := bind_some h
      refine seq_join (fun a w => ∃ (t52 : Bool), t52 = x54 ∧ Has 76 a [(2, vP b9 (0)), (3, vP b13 (0)), (50, .bool (t52))] ∧ Mem C w [.box b45 [vI (y38.Row), vI (y38.Col)] 124, .box b13 [vI (b5.Size), vS (b5.Premium), vS (b5.Cells)] 28, .box b9 [vI (p1.Row), vI (p1.Col), .bool (p1.Down), vS (p1.Word)] 41] []) ?_ ?_
      · obtain ⟨w56, hw⟩ : ∃ x, x = w49.drew := ⟨_, rfl⟩
        refine region_pi (.q 0 (.q 1 (.q 2 (.q 3 (.q 4 (.l 5 (.q 6 (.q 7 (.q 8 (.q 9 (.l 10 (.l 11 (.q 12 (.q 13 (.q 14 (.q 15 (.q 16 (.q 17 (.q 18 (.l 19 (.l 20 (.q 21 (.nil))))))))))))))))))))))) (Ext w56) rfl (by kernel_rfl) ?_
        have hM := hM.drew
        rw [← hw] at hM ⊢
        clear hw
        refine pi_q hf rfl rfl rfl rfl (Ext.refl _) (e_loadA hf (us := [vI (b5.Size), vS (b5.Premium), vS (b5.Cells)]) rfl ⟨Tryz.isAgg28, Tryz.sizeOf28⟩ rfl (hM.boxSub (k := 1) (us := [vI (b5.Size), vS (b5.Premium), vS (b5.Cells)]) (o := 0) rfl rfl)) fun a hf => ?_
        refine pi_q hf rfl rfl rfl rfl (Ext.refl _) (e_field hf rfl Tryz.underlying124 rfl Tryz.sizeOf2 (o' := 0) rfl) fun a hf => ?_
        refine pi_q hf rfl rfl rfl rfl (Ext.refl _) (e_load1 hf rfl Tryz.isAgg2 (hM.boxCell (k := 0) rfl rfl)) fun a hf => ?_
        refine pi_q hf rfl rfl rfl rfl (Ext.refl _) (e_field hf rfl Tryz.underlying124 rfl Tryz.sizeOf2 (o' := 1) rfl) fun a hf => ?_
        refine pi_q hf rfl rfl rfl rfl (Ext.refl _) (e_load1 hf rfl Tryz.isAgg2 (hM.boxCell (k := 0) rfl rfl)) fun a hf => ?_
        refine pi_one ?_
        obtain ⟨y57, hz58, h55⟩ := bind_some h55
        refine pi_l hf rfl rfl rfl rfl (w_call hf Tryz.call100 rfl (r_impl_Board_inside ⟨_, Sh C _ _, none_, hM.sh_lt, none_not, C.G, hM.g_lt, g_none, hM.tabs⟩ b5 hp6 hp7 hp8 y38.Row hv40 y38.Col hv41 _ hz58) ?_)
        rintro _ w59 ⟨rfl, hM2⟩
        obtain ⟨hM, hx60, hup61⟩ := hM.back hM2
        dsimp only [List.cons_append, List.nil_append] at hM hup61
        clear hM2
        refine ⟨_, rfl, Ext w59, fun _ h => Ext.trans hx60 h, Ext.refl _, fun a hf => ?_⟩
        refine pi_q hf rfl rfl rfl rfl (Ext.refl _) (e_not hf rfl) fun a hf => ?_
        refine pi_q hf rfl rfl rfl rfl (Ext.refl _) (e_move hf rfl) fun a hf => ?_
        rcases cond_some h55 with ⟨hc62, h55⟩ | ⟨hc62, h55⟩
        · refine pi_gs hf rfl (wanted_f hf rfl rfl rfl rfl hc62) rfl rfl (Ext.refl _) fun a hf => ?_
          refine pi_gs hf rfl (wanted_f hf rfl rfl rfl rfl hc62) rfl rfl (Ext.refl _) fun a hf => ?_
          refine pi_one ?_
          refine pi_ls hf rfl (wanted_f hf rfl rfl rfl rfl hc62) rfl rfl (Ext.refl _) fun a hf => ?_
          refine pi_one ?_
          refine pi_ls hf rfl (wanted_f hf rfl rfl rfl rfl hc62) rfl rfl (Ext.refl _) fun a hf => ?_
          refine pi_q hf rfl rfl rfl rfl (Ext.refl _) (e_pick_t hf rfl hc62 rfl) fun a hf => ?_
          refine pi_q hf rfl rfl rfl rfl (Ext.refl _) (e_move hf rfl) fun a hf => ?_
          refine pi_gs hf rfl (wanted_f hf rfl rfl rfl rfl rfl) rfl rfl (Ext.refl _) fun a hf => ?_
          refine pi_gs hf rfl (wanted_f hf rfl rfl rfl rfl rfl) rfl rfl (Ext.refl _) fun a hf => ?_
          refine pi_gs hf rfl (wanted_f hf rfl rfl rfl rfl rfl) rfl rfl (Ext.refl _) fun a hf => ?_
          refine pi_gs hf rfl (wanted_f hf rfl rfl rfl rfl rfl) rfl rfl (Ext.refl _) fun a hf => ?_
          refine pi_gs hf rfl (wanted_f hf rfl rfl rfl rfl rfl) rfl rfl (Ext.refl _) fun a hf => ?_
          refine pi_one ?_
          refine pi_ls hf rfl (wanted_f hf rfl rfl rfl rfl rfl) rfl rfl (Ext.refl _) fun a hf => ?_
          refine pi_one ?_
          refine pi_ls hf rfl (wanted_f hf rfl rfl rfl rfl rfl) rfl rfl (Ext.refl _) fun a hf => ?_
          refine pi_q hf rfl rfl rfl rfl (Ext.refl _) (e_pick_t hf rfl rfl rfl) fun a hf => ?_
          refine pi_nil ?_
          obtain rfl := some_inj h55
          refine then_n ?_
          exact ⟨true, rfl, hf.keep ⟨rfl, rfl, rfl, trivial⟩, hM.pick [] rfl⟩
        · refine pi_gq hf rfl (wanted_t hf rfl rfl rfl rfl hc62) rfl rfl (Ext.refl _) (e_loadA hf (us := [vI (b5.Size), vS (b5.Premium), vS (b5.Cells)]) rfl ⟨Tryz.isAgg28, Tryz.sizeOf28⟩ rfl (hM.boxSub (k := 1) (us := [vI (b5.Size), vS (b5.Premium), vS (b5.Cells)]) (o := 0) rfl rfl)) fun a hf => ?_
          refine pi_gq hf rfl (wanted_t hf rfl rfl rfl rfl hc62) rfl rfl (Ext.refl _) (e_loadA hf (us := [vI (p1.Row), vI (p1.Col), .bool (p1.Down), vS (p1.Word)]) rfl ⟨Tryz.isAgg41, Tryz.sizeOf41⟩ rfl (hM.boxSub (k := 2) (us := [vI (p1.Row), vI (p1.Col), .bool (p1.Down), vS (p1.Word)]) (o := 0) rfl rfl)) fun a hf => ?_
          refine pi_one ?_
          obtain ⟨y64, hz65, h55⟩ := bind_some h55
          refine pi_gl hf rfl (wanted_t hf rfl rfl rfl rfl hc62) rfl rfl (w_call hf Tryz.call101 rfl (r_impl_Play_square ⟨_, Sh C _ _, none_, hM.sh_lt, none_not, C.G, hM.g_lt, g_none, hM.tabs⟩ p1 hp2 hp3 hp4 (-1) (R64_lit rfl) _ hz65) ?_)
          rintro _ w68 ⟨rfl, hM2, hv66, hv67⟩
          obtain ⟨hM, hx69, hup70⟩ := hM.back hM2
          dsimp only [List.cons_append, List.nil_append] at hM hup70
          clear hM2
          refine ⟨_, rfl, Ext w68, fun _ h => Ext.trans hx69 h, Ext.refl _, fun a hf => ?_⟩
          refine pi_one ?_
          obtain ⟨y71, hz72, h55⟩ := bind_some h55
          refine pi_gl hf rfl (wanted_t hf rfl rfl rfl rfl hc62) rfl rfl (w_call hf Tryz.call102 rfl (r_impl_Board_on ⟨_, Sh C _ _, none_, hM.sh_lt, none_not, C.G, hM.g_lt, g_none, hM.tabs⟩ b5 hp6 hp7 hp8 y64 hv66 hv67 _ hz72) ?_)
          rintro _ w73 ⟨rfl, hM2⟩
          obtain ⟨hM, hx74, hup75⟩ := hM.back hM2
          dsimp only [List.cons_append, List.nil_append] at hM hup75
          clear hM2
          refine ⟨_, rfl, Ext w73, fun _ h => Ext.trans hx74 h, Ext.refl _, fun a hf => ?_⟩
          refine pi_q hf rfl rfl rfl rfl (Ext.refl _) (e_pick_f hf rfl hc62 rfl) fun a hf => ?_
          refine pi_q hf rfl rfl rfl rfl (Ext.refl _) (e_move hf rfl) fun a hf => ?_
          rcases cond_some h55 with ⟨hc76, h55⟩ | ⟨hc76, h55⟩
          · refine pi_gs hf rfl (wanted_f hf rfl rfl rfl rfl hc76) rfl rfl (Ext.refl _) fun a hf => ?_
            refine pi_gs hf rfl (wanted_f hf rfl rfl rfl rfl hc76) rfl rfl (Ext.refl _) fun a hf => ?_
            refine pi_gs hf rfl (wanted_f hf rfl rfl rfl rfl hc76) rfl rfl (Ext.refl _) fun a hf => ?_
            refine pi_gs hf rfl (wanted_f hf rfl rfl rfl rfl hc76) rfl rfl (Ext.refl _) fun a hf => ?_
            refine pi_gs hf rfl (wanted_f hf rfl rfl rfl rfl hc76) rfl rfl (Ext.refl _) fun a hf => ?_
            refine pi_one ?_
            refine pi_ls hf rfl (wanted_f hf rfl rfl rfl rfl hc76) rfl rfl (Ext.refl _) fun a hf => ?_
            refine pi_one ?_
            refine pi_ls hf rfl (wanted_f hf rfl rfl rfl rfl hc76) rfl rfl (Ext.refl _) fun a hf => ?_
            refine pi_q hf rfl rfl rfl rfl (Ext.refl _) (e_pick_t hf rfl hc76 rfl) fun a hf => ?_
            refine pi_nil ?_
            obtain rfl := some_inj h55
            refine then_n ?_
            exact ⟨true, rfl, hf.keep ⟨rfl, rfl, rfl, trivial⟩, hM.pick [] rfl⟩
          · refine pi_gq hf rfl (wanted_t hf rfl rfl rfl rfl hc76) rfl rfl (Ext.refl _) (e_loadA hf (us := [vI (b5.Size), vS (b5.Premium), vS (b5.Cells)]) rfl ⟨Tryz.isAgg28, Tryz.sizeOf28⟩ rfl (hM.boxSub (k := 1) (us := [vI (b5.Size), vS (b5.Premium), vS (b5.Cells)]) (o := 0) rfl rfl)) fun a hf => ?_
            refine pi_gq hf rfl (wanted_t hf rfl rfl rfl rfl hc76) rfl rfl (Ext.refl _) (e_loadA hf (us := [vI (p1.Row), vI (p1.Col), .bool (p1.Down), vS (p1.Word)]) rfl ⟨Tryz.isAgg41, Tryz.sizeOf41⟩ rfl (hM.boxSub (k := 2) (us := [vI (p1.Row), vI (p1.Col), .bool (p1.Down), vS (p1.Word)]) (o := 0) rfl rfl)) fun a hf => ?_
            refine pi_gq hf rfl (wanted_t hf rfl rfl rfl rfl hc76) rfl rfl (Ext.refl _) (e_field hf rfl Tryz.underlying41 rfl Tryz.sizeOf9 (o' := 3) rfl) fun a hf => ?_
            refine pi_gq hf rfl (wanted_t hf rfl rfl rfl rfl hc76) rfl rfl (Ext.refl _) (e_load1 hf rfl Tryz.isAgg9 (hM.boxCell (k := 2) rfl rfl)) fun a hf => ?_
            refine pi_gq hf rfl (wanted_t hf rfl rfl rfl rfl hc76) rfl rfl (Ext.refl _) (e_lenS hf (x := p1.Word) rfl Tryz.underlying9) fun a hf => ?_
            refine pi_one ?_
            obtain ⟨y78, hz79, h55⟩ := bind_some h55
            refine pi_gl hf rfl (wanted_t hf rfl rfl rfl rfl hc76) rfl rfl (w_call hf Tryz.call101 rfl (r_impl_Play_square ⟨_, Sh C _ _, none_, hM.sh_lt, none_not, C.G, hM.g_lt, g_none, hM.tabs⟩ p1 hp2 hp3 hp4 (p1.Word.length : Int) (R64_len hp4) _ hz79) ?_)
            rintro _ w82 ⟨rfl, hM2, hv80, hv81⟩
            obtain ⟨hM, hx83, hup84⟩ := hM.back hM2
            dsimp only [List.cons_append, List.nil_append] at hM hup84
            clear hM2
            refine ⟨_, rfl, Ext w82, fun _ h => Ext.trans hx83 h, Ext.refl _, fun a hf => ?_⟩
            refine pi_one ?_
            obtain ⟨y85, hz86, h55⟩ := bind_some h55
            refine pi_gl hf rfl (wanted_t hf rfl rfl rfl rfl hc76) rfl rfl (w_call hf Tryz.call102 rfl (r_impl_Board_on ⟨_, Sh C _ _, none_, hM.sh_lt, none_not, C.G, hM.g_lt, g_none, hM.tabs⟩ b5 hp6 hp7 hp8 y78 hv80 hv81 _ hz86) ?_)
            rintro _ w87 ⟨rfl, hM2⟩
            obtain ⟨hM, hx88, hup89⟩ := hM.back hM2
            dsimp only [List.cons_append, List.nil_append] at hM hup89
            clear hM2
            refine ⟨_, rfl, Ext w87, fun _ h => Ext.trans hx88 h, Ext.refl _, fun a hf => ?_⟩
            refine pi_q hf rfl rfl rfl rfl (Ext.refl _) (e_pick_f hf rfl hc76 rfl) fun a hf => ?_
            refine pi_nil ?_
            obtain rfl := some_inj h55
            refine then_n ?_
            exact ⟨y85, rfl, hf.keep ⟨rfl, rfl, rfl, trivial⟩, hM.pick [] rfl⟩
      · rintro a w91 ⟨t52, rfl, hf, hM⟩
        try dsimp only at h
        rcases cond_some h with ⟨hc92, h⟩ | ⟨hc92, h⟩
        · refine cond_t hf rfl hc92 ?_
          refine wp_seq ?_
          refine region_pl ?_
          refine q_ hf rfl rfl rfl (e_assign hf rfl) fun a hf => ?_
          refine pl_nil ?_
          refine then_n ?_
          refine wp_ret ?_
          refine then_r ?_
          obtain rfl := some_inj h
          have hM := hM.outs (own' := []) 0 rfl
          exact leave1 hf rfl rfl ⟨rfl, hM.fin⟩
        · refine cond_f hf rfl hc92 ?_
          refine wp_skip ?_
          refine then_n ?_
          refine wp_seq ?_
          refine region_pl ?_
          refine q_ hf rfl rfl rfl (e_assign hf rfl) fun a hf => ?_
          refine pl_nil ?_
          refine then_n ?_
          obtain ⟨x95, h96, h⟩ := bind_some h
          refine seq_join (fun a w => ∃ (s93 : Bool), (.inl s93) = x95 ∧ Has 76 a [(6, .bool (s93))] ∧ Mem C w [.box b45 [vI (y38.Row), vI (y38.Col)] 124, .box b13 [vI (b5.Size), vS (b5.Premium), vS (b5.Cells)] 28, .box b9 [vI (p1.Row), vI (p1.Col), .bool (p1.Down), vS (p1.Word)] 41] []) ?_ ?_
          · refine wp_seq ?_
            refine region_pl ?_
            refine q_ hf rfl rfl rfl (e_assign hf rfl) fun a hf => ?_
            refine pl_nil ?_
            refine then_n ?_
            refine wp_block ?_
            obtain ⟨x104, h105, h96⟩ := bind_some h96
            refine wp_loopM h105 (fun s a w => ∃ (s97 : Bool) (c99 : Int), (s97, c99) = s ∧ Has 76 a [(2, vP b9 (0)), (3, vP b13 (0)), (6, .bool (s97)), (7, vI (c99))] ∧ Mem C w [.box b45 [vI (y38.Row), vI (y38.Col)] 124, .box b13 [vI (b5.Size), vS (b5.Premium), vS (b5.Cells)] 28, .box b9 [vI (p1.Row), vI (p1.Col), .bool (p1.Down), vS (p1.Word)] 41] [] ∧ R64 c99) ?_ ?_
            · exact ⟨false, 0, rfl, hf.keep ⟨rfl, rfl, rfl, rfl, trivial⟩, hM.pick [] rfl, (R64_lit rfl)⟩
            · rintro s o106 a w101 ⟨s97, c99, rfl, hf, hM, hv100⟩ h107 hd108
              replace h107 : m_impl_Play_validOn_l1 p1 b5 s97 c99 = some o106 := h107
              unfold m_impl_Play_validOn_l1 at h107
              refine wp_seq ?_
              refine wp_seq ?_
              refine region_pl ?_
              refine q_ hf rfl rfl rfl (e_move hf rfl) fun a hf => ?_
              refine q_ hf rfl rfl rfl (e_field hf rfl Tryz.underlying41 rfl Tryz.sizeOf9 (o' := 3) rfl) fun a hf => ?_
              refine q_ hf rfl rfl rfl (e_load1 hf rfl Tryz.isAgg9 (hM.boxCell (k := 2) rfl rfl)) fun a hf => ?_
              refine q_ hf rfl rfl rfl (e_lenS hf (x := p1.Word) rfl Tryz.underlying9) fun a hf => ?_
              refine q_ hf rfl rfl rfl (e_lt hf (x := c99) (y := (p1.Word.length : Int)) rfl rfl) fun a hf => ?_
              refine pl_nil ?_
              refine then_n ?_
              rcases cond_some h107 with ⟨hc109, h107⟩ | ⟨hc109, h107⟩
              · refine cond_t hf rfl hc109 ?_
                refine wp_skip ?_
                refine then_n ?_
                obtain ⟨x112, h113, h107⟩ := bind_some h107
                refine seq_join (fun a w => ∃ (s110 : Bool), (.inl s110) = x112 ∧ Has 76 a [(2, vP b9 (0)), (3, vP b13 (0)), (6, .bool (s110)), (7, vI (c99))] ∧ Mem C w [.box b45 [vI (y38.Row), vI (y38.Col)] 124, .box b13 [vI (b5.Size), vS (b5.Premium), vS (b5.Cells)] 28, .box b9 [vI (p1.Row), vI (p1.Col), .bool (p1.Down), vS (p1.Word)] 41] []) ?_ ?_
                · refine wp_block ?_
                  refine wp_seq ?_
                  refine region_pl ?_
                  refine q_ hf rfl rfl rfl (e_loadA hf (us := [vI (p1.Row), vI (p1.Col), .bool (p1.Down), vS (p1.Word)]) rfl ⟨Tryz.isAgg41, Tryz.sizeOf41⟩ rfl (hM.boxSub (k := 2) (us := [vI (p1.Row), vI (p1.Col), .bool (p1.Down), vS (p1.Word)]) (o := 0) rfl rfl)) fun a hf => ?_
                  refine q_ hf rfl rfl rfl (e_move hf rfl) fun a hf => ?_
                  obtain ⟨y114, hz115, h113⟩ := bind_some h113
                  refine pl_l hf rfl rfl rfl (w_call hf Tryz.call101 rfl (r_impl_Play_square ⟨_, Sh C _ _, none_, hM.sh_lt, none_not, C.G, hM.g_lt, g_none, hM.tabs⟩ p1 hp2 hp3 hp4 c99 hv100 _ hz115) ?_)
                  rintro _ w118 ⟨rfl, hM2, hv116, hv117⟩
                  obtain ⟨hM, hx119, hup120⟩ := hM.back hM2
                  dsimp only [List.cons_append, List.nil_append] at hM hup120
                  clear hM2
                  refine ⟨_, rfl, fun a hf => ?_⟩
                  refine pl_l hf rfl rfl rfl (w_alloc hM (cs := [vI (0), vI (0)]) Tryz.zeroValue124 rfl fun b121 w122 hx123 hM a hf => ?_)
                  refine pl_0 hf rfl rfl (w_store hf hM (us := [vI (y114.Row), vI (y114.Col)]) (cs' := [vI (y114.Row), vI (y114.Col)]) rfl rfl (k := 0) rfl rfl Tryz.sizeOf124 rfl rfl rfl fun w125 hM => ?_)
                  dsimp only [List.set] at hM
                  refine pl_nil ?_
                  refine then_n ?_
                  refine wp_seq ?_
                  refine region_pl ?_
                  refine q_ hf rfl rfl rfl (e_loadA hf (us := [vI (b5.Size), vS (b5.Premium), vS (b5.Cells)]) rfl ⟨Tryz.isAgg28, Tryz.sizeOf28⟩ rfl (hM.boxSub (k := 2) (us := [vI (b5.Size), vS (b5.Premium), vS (b5.Cells)]) (o := 0) rfl rfl)) fun a hf => ?_
                  refine q_ hf rfl rfl rfl (e_field hf rfl Tryz.underlying124 rfl Tryz.sizeOf2 (o' := 0) rfl) fun a hf => ?_
                  refine q_ hf rfl rfl rfl (e_load1 hf rfl Tryz.isAgg2 (hM.boxCell (k := 0) rfl rfl)) fun a hf => ?_
                  refine q_ hf rfl rfl rfl (e_field hf rfl Tryz.underlying124 rfl Tryz.sizeOf2 (o' := 1) rfl) fun a hf => ?_
                  refine q_ hf rfl rfl rfl (e_load1 hf rfl Tryz.isAgg2 (hM.boxCell (k := 0) rfl rfl)) fun a hf => ?_
                  obtain ⟨y128, hz129, h113⟩ := bind_some h113
                  refine pl_l hf rfl rfl rfl (w_call hf Tryz.call103 rfl (r_impl_Board_cell ⟨_, Sh C _ _, none_, hM.sh_lt, none_not, C.G, hM.g_lt, g_none, hM.tabs⟩ b5 hp6 hp7 hp8 y114.Row hv116 y114.Col hv117 _ hz129) ?_)
                  rintro _ w130 ⟨rfl, hM2⟩
                  obtain ⟨hM, hx131, hup132⟩ := hM.back hM2
                  dsimp only [List.cons_append, List.nil_append] at hM hup132
                  clear hM2
                  refine ⟨_, rfl, fun a hf => ?_⟩
                  refine q_ hf rfl rfl rfl (e_assign hf rfl) fun a hf => ?_
                  refine pl_nil ?_
                  refine then_n ?_
                  refine wp_seq ?_
                  refine region_pl ?_
                  refine q_ hf rfl rfl rfl (e_move hf rfl) fun a hf => ?_
                  refine q_ hf rfl rfl rfl (e_eqB hf (x := y128) (y := 46) rfl rfl) fun a hf => ?_
                  refine pl_nil ?_
                  refine then_n ?_
                  rcases cond_some h113 with ⟨hc133, h113⟩ | ⟨hc133, h113⟩
                  · refine cond_t hf rfl hc133 ?_
                    refine region_pl ?_
                    refine q_ hf rfl rfl rfl (e_assign hf rfl) fun a hf => ?_
                    refine pl_nil ?_
                    refine blk_n ?_
                    obtain rfl := some_inj h113
                    refine then_n ?_
                    exact ⟨true, rfl, hf.keep ⟨rfl, rfl, rfl, rfl, trivial⟩, (hM.drop (.cons _ (.cons_cons _ (.cons_cons _ (.cons_cons _ .slnil))))).pick [] rfl⟩
                  · refine cond_f hf rfl hc133 ?_
                    refine wp_seq ?_
                    refine region_pl ?_
                    refine q_ hf rfl rfl rfl (e_move hf rfl) fun a hf => ?_
                    refine q_ hf rfl rfl rfl (e_field hf rfl Tryz.underlying41 rfl Tryz.sizeOf9 (o' := 3) rfl) fun a hf => ?_
                    refine q_ hf rfl rfl rfl (e_load1 hf rfl Tryz.isAgg9 (hM.boxCell (k := 3) rfl rfl)) fun a hf => ?_
                    refine q_ hf rfl rfl rfl (e_move hf rfl) fun a hf => ?_
                    obtain ⟨c135, hz136, h113⟩ := bind_some h113
                    refine q_ hf rfl rfl rfl (e_indexS hf (x := p1.Word) rfl rfl Tryz.underlying9 hz136) fun a hf => ?_
                    refine q_ hf rfl rfl rfl (e_neB hf (x := y128) (y := c135) rfl rfl) fun a hf => ?_
                    refine pl_nil ?_
                    refine then_n ?_
                    rcases cond_some h113 with ⟨hc137, h113⟩ | ⟨hc137, h113⟩
                    · refine cond_t hf rfl hc137 ?_
                      refine wp_seq ?_
                      refine region_pl ?_
                      refine q_ hf rfl rfl rfl (e_assign hf rfl) fun a hf => ?_
                      refine pl_nil ?_
                      refine then_n ?_
                      refine wp_ret ?_
                      refine blk_r ?_
                      obtain rfl := some_inj h113
                      try dsimp only at h107
                      refine then_r ?_
                      obtain rfl := some_inj h107
                      obtain rfl := hd108 _ rfl
                      try dsimp only at h96
                      refine then_r ?_
                      refine blk_r ?_
                      obtain rfl := some_inj h96
                      try dsimp only at h
                      refine then_r ?_
                      obtain rfl := some_inj h
                      have hM := hM.outs (own' := []) 0 rfl
                      exact leave1 hf rfl rfl ⟨rfl, hM.fin⟩
                    · refine cond_f hf rfl hc137 ?_
                      refine wp_skip ?_
                      refine blk_n ?_
                      obtain rfl := some_inj h113
                      refine then_n ?_
                      exact ⟨s97, rfl, hf.keep ⟨rfl, rfl, rfl, rfl, trivial⟩, (hM.drop (.cons _ (.cons_cons _ (.cons_cons _ (.cons_cons _ .slnil))))).pick [] rfl⟩
                · rintro a w139 ⟨s110, rfl, hf, hM⟩
                  try dsimp only at h107
                  refine region_pl ?_
                  refine q_ hf rfl rfl rfl (e_move hf rfl) fun a hf => ?_
                  obtain ⟨z140, hz141, h107⟩ := bind_some h107
                  refine q_ hf rfl rfl rfl (e_add hf rfl rfl hz141) fun a hf => ?_
                  refine q_ hf rfl rfl rfl (e_assign hf rfl) fun a hf => ?_
                  refine pl_nil ?_
                  obtain rfl := some_inj h107
                  refine then_n ⟨_, rfl, ?_⟩
                  exact ⟨s110, z140, rfl, hf.keep ⟨rfl, rfl, rfl, rfl, trivial⟩, hM.pick [] rfl, (chk_R hz141)⟩
              · refine cond_f hf rfl hc109 ?_
                refine wp_exit ?_
                refine then_x ?_
                obtain rfl := some_inj h107
                obtain rfl := hd108 _ rfl
                try dsimp only at h96
                refine then_x ?_
                refine exit_hit ?_
                obtain rfl := some_inj h96
                refine then_n ?_
                exact ⟨s97, rfl, hf.keep ⟨rfl, trivial⟩, hM.pick [] rfl⟩
          · rintro a w149 ⟨s93, rfl, hf, hM⟩
            try dsimp only at h
            refine wp_seq ?_
            refine region_pl ?_
            refine q_ hf rfl rfl rfl (e_move hf rfl) fun a hf => ?_
            refine q_ hf rfl rfl rfl (e_assign hf rfl) fun a hf => ?_
            refine pl_nil ?_
            refine then_n ?_
            refine wp_ret ?_
            obtain rfl := some_inj h
            have hM := hM.outs (own' := []) 0 rfl
            exact leave1 hf rfl rfl ⟨rfl, hM.fin⟩

set_option maxRecDepth 100000 in
set_option maxHeartbeats 4000000 in
theorem r_impl_newSquares (C : Cx) (b1 : Board) (hp2 : R64 b1.Size) (hp3 : b1.Premium.length ≤ maxLen) (hp4 : b1.Cells.length ≤ maxLen) (p5 : Play) (hp6 : R64 p5.Row) (hp7 : R64 p5.Col) (hp8 : p5.Word.length ≤ maxLen) (r : ((List Square) × (List Int))) (h : m_impl_newSquares b1 p5 = some r) :
    Calls Tryz.prog 107 #[.agg #[vI (b1.Size), vS (b1.Premium), vS (b1.Cells)], .agg #[vI (p5.Row), vI (p5.Col), .bool (p5.Down), vS (p5.Word)]] C.w0 fun e w => ∃ (A_1 : Option Addr), ∃ (c_1 : Nat), ∃ (A_2 : Option Addr), ∃ (c_2 : Nat), e = .returned (.tuple #[vL A_1 (r.1) c_1, vL A_2 (r.2) c_2]) ∧ Mem C w [.row SquareRep A_1 c_1 124 r.1 true, .row intRep A_2 c_2 3 r.2 true] [] := by
  have hM := Mem.begin C [] trivial
  refine enter Tryz.func107 rfl Tryz.ntmps107 rfl fun a hf => ?_
  unfold m_impl_newSquares at h
  refine wp_seq ?_
  refine region_pl ?_
  refine pl_l hf rfl rfl rfl (w_box hf hM (cs := [vI (b1.Size), vS (b1.Premium), vS (b1.Cells)]) rfl rfl fun b9 w10 hx11 hM a hf => ?_)
  refine pl_l hf rfl rfl rfl (w_box hf hM (cs := [vI (p5.Row), vI (p5.Col), .bool (p5.Down), vS (p5.Word)]) rfl rfl fun b13 w14 hx15 hM a hf => ?_)
  refine q_ hf rfl rfl rfl (e_assign hf rfl) fun a hf => ?_
  refine q_ hf rfl rfl rfl (e_assign hf rfl) fun a hf => ?_
  refine pl_nil ?_
  refine then_n ?_
  refine wp_seq ?_
  refine region_pl ?_
  refine pl_l hf rfl rfl rfl (w_slice0 (K := SquareRep) hM Tryz.underlying134 ei_124 fun b17 w18 hx19 hM a hf => ?_)
  refine pl_l hf rfl rfl rfl (w_slice0 (K := intRep) hM Tryz.underlying135 ei_3 fun b20 w21 hx22 hM a hf => ?_)
  refine q_ hf rfl rfl rfl (e_assign hf rfl) fun a hf => ?_
  refine q_ hf rfl rfl rfl (e_assign hf rfl) fun a hf => ?_
  refine pl_nil ?_
  refine then_n ?_
  obtain ⟨x29, h30, h⟩ := bind_some h
  refine seq_join (fun a w => ∃ (xs23 : (List Square)) (xs26 : (List Int)) (A24 : Option Addr) (c25 : Nat) (A27 : Option Addr) (c28 : Nat), (xs23, xs26) = x29 ∧ Has 35 a [(6, vL A24 (xs23) c25), (7, vL A27 (xs26) c28)] ∧ Mem C w [.row intRep A27 c28 3 xs26 true, .row SquareRep A24 c25 124 xs23 true, .box b13 [vI (p5.Row), vI (p5.Col), .bool (p5.Down), vS (p5.Word)] 41, .box b9 [vI (b1.Size), vS (b1.Premium), vS (b1.Cells)] 28] []) ?_ ?_
  · refine wp_seq ?_
    refine region_pl ?_
    refine q_ hf rfl rfl rfl (e_field hf rfl Tryz.underlying41 rfl Tryz.sizeOf9 (o' := 3) rfl) fun a hf => ?_
    refine q_ hf rfl rfl rfl (e_load1 hf rfl Tryz.isAgg9 (hM.boxCell (k := 2) rfl rfl)) fun a hf => ?_
    refine pl_l hf rfl rfl rfl (w_range hf hM (x := p5.Word) rfl Tryz.underlying9 fun b31 w32 hx33 hM a hf => ?_)
    refine pl_nil ?_
    refine then_n ?_
    refine wp_block ?_
    obtain ⟨x49, h50, h30⟩ := bind_some h30
    refine wp_loopM h50 (fun s a w => ∃ (pos34 : Nat) (xs35 : (List Square)) (xs38 : (List Int)) (A36 : Option Addr) (c37 : Nat) (A39 : Option Addr) (c40 : Nat), (pos34, xs35, xs38) = s ∧ Has 35 a [(2, vP b9 (0)), (3, vP b13 (0)), (6, vL A36 (xs35) c37), (7, vL A39 (xs38) c40), (14, vP b31 0)] ∧ Mem C w [.obj b31 (.stringIter ⟨List.toArray p5.Word⟩ pos34), .row intRep A39 c40 3 xs38 true, .row SquareRep A36 c37 124 xs35 true, .box b13 [vI (p5.Row), vI (p5.Col), .bool (p5.Down), vS (p5.Word)] 41, .box b9 [vI (b1.Size), vS (b1.Premium), vS (b1.Cells)] 28] []) ?_ ?_
    · exact ⟨0, ([] : (List Square)), ([] : (List Int)), (some ⟨b17, 0, none⟩), 0, (some ⟨b20, 0, none⟩), 0, rfl, hf.keep ⟨rfl, rfl, rfl, rfl, rfl, trivial⟩, hM.pick [] rfl⟩
    · rintro s o51 a w41 ⟨pos34, xs35, xs38, A36, c37, A39, c40, rfl, hf, hM⟩ h52 hd53
      replace h52 : m_impl_newSquares_l1 p5 b1 pos34 xs35 xs38 = some o51 := h52
      unfold m_impl_newSquares_l1 at h52
      refine wp_seq ?_
      refine region_pl ?_
      rcases cond_some h52 with ⟨hc54, h52⟩ | ⟨hc54, h52⟩
      · refine pl_l hf rfl rfl rfl (w_next hf hM rfl (k := 0) rfl hc54 fun w55 hM a hf => ?_)
        dsimp only [List.set] at hM
        refine q_ hf rfl rfl rfl (e_extract hf rfl rfl) fun a hf => ?_
        refine pl_nil ?_
        refine then_n ?_
        refine wp_seq ?_
        refine cond_t hf rfl rfl ?_
        refine wp_skip ?_
        refine then_n ?_
        refine wp_block ?_
        refine wp_seq ?_
        refine region_pl ?_
        refine q_ hf rfl rfl rfl (e_extract hf rfl rfl) fun a hf => ?_
        refine q_ hf rfl rfl rfl (e_assign hf rfl) fun a hf => ?_
        refine pl_nil ?_
        refine then_n ?_
        refine wp_seq ?_
        refine region_pl ?_
        refine q_ hf rfl rfl rfl (e_loadA hf (us := [vI (p5.Row), vI (p5.Col), .bool (p5.Down), vS (p5.Word)]) rfl ⟨Tryz.isAgg41, Tryz.sizeOf41⟩ rfl (hM.boxSub (k := 3) (us := [vI (p5.Row), vI (p5.Col), .bool (p5.Down), vS (p5.Word)]) (o := 0) rfl rfl)) fun a hf => ?_
        refine q_ hf rfl rfl rfl (e_move hf rfl) fun a hf => ?_
        obtain ⟨y57, hz58, h52⟩ := bind_some h52
        refine pl_l hf rfl rfl rfl (w_call hf Tryz.call101 rfl (r_impl_Play_square ⟨_, Sh C _ _, none_, hM.sh_lt, none_not, C.G, hM.g_lt, g_none, hM.tabs⟩ p5 hp6 hp7 hp8 (pos34 : Int) (R64_pos hc54 hp8) _ hz58) ?_)
        rintro _ w61 ⟨rfl, hM2, hv59, hv60⟩
        obtain ⟨hM, hx62, hup63⟩ := hM.back hM2
        dsimp only [List.cons_append, List.nil_append] at hM hup63
        clear hM2
        refine ⟨_, rfl, fun a hf => ?_⟩
        refine pl_l hf rfl rfl rfl (w_alloc hM (cs := [vI (0), vI (0)]) Tryz.zeroValue124 rfl fun b64 w65 hx66 hM a hf => ?_)
        refine pl_0 hf rfl rfl (w_store hf hM (us := [vI (y57.Row), vI (y57.Col)]) (cs' := [vI (y57.Row), vI (y57.Col)]) rfl rfl (k := 0) rfl rfl Tryz.sizeOf124 rfl rfl rfl fun w68 hM => ?_)
        dsimp only [List.set] at hM
        refine pl_nil ?_
        refine then_n ?_
        refine wp_seq ?_
        refine region_pl ?_
        refine q_ hf rfl rfl rfl (e_loadA hf (us := [vI (b1.Size), vS (b1.Premium), vS (b1.Cells)]) rfl ⟨Tryz.isAgg28, Tryz.sizeOf28⟩ rfl (hM.boxSub (k := 5) (us := [vI (b1.Size), vS (b1.Premium), vS (b1.Cells)]) (o := 0) rfl rfl)) fun a hf => ?_
        refine q_ hf rfl rfl rfl (e_loadA hf (us := [vI (y57.Row), vI (y57.Col)]) rfl ⟨Tryz.isAgg124, Tryz.sizeOf124⟩ rfl (hM.boxSub (k := 0) (us := [vI (y57.Row), vI (y57.Col)]) (o := 0) rfl rfl)) fun a hf => ?_
        obtain ⟨y71, hz72, h52⟩ := bind_some h52
        refine pl_l hf rfl rfl rfl (w_call hf Tryz.call102 rfl (r_impl_Board_on ⟨_, Sh C _ _, none_, hM.sh_lt, none_not, C.G, hM.g_lt, g_none, hM.tabs⟩ b1 hp2 hp3 hp4 y57 hv59 hv60 _ hz72) ?_)
        rintro _ w73 ⟨rfl, hM2⟩
        obtain ⟨hM, hx74, hup75⟩ := hM.back hM2
        dsimp only [List.cons_append, List.nil_append] at hM hup75
        clear hM2
        refine ⟨_, rfl, fun a hf => ?_⟩
        refine q_ hf rfl rfl rfl (e_not hf rfl) fun a hf => ?_
        refine pl_nil ?_
        refine then_n ?_
        rcases cond_some h52 with ⟨hc76, h52⟩ | ⟨hc76, h52⟩
        · refine cond_t hf rfl hc76 ?_
          refine region_pl ?_
          refine q_ hf rfl rfl rfl (e_move hf rfl) fun a hf => ?_
          refine q_ hf rfl rfl rfl (e_loadA hf (us := [vI (y57.Row), vI (y57.Col)]) rfl ⟨Tryz.isAgg124, Tryz.sizeOf124⟩ rfl (hM.boxSub (k := 0) (us := [vI (y57.Row), vI (y57.Col)]) (o := 0) rfl rfl)) fun a hf => ?_
          refine pl_l hf rfl rfl rfl (w_slice hf hM (K := SquareRep) (xs := ([y57] : (List Square))) (os := [.tmp 26]) Tryz.underlying134 ei_124 rfl rfl rfl rfl rfl ⟨⟨[vI (y57.Row), vI (y57.Col)], rfl, (SquareRep_mk (x := y57) hv59 hv60)⟩, trivial⟩ rfl fun b77 w78 hx79 hM a hf => ?_)
          obtain ⟨xs80, hz81, h52⟩ := bind_some h52
          refine pl_l hf rfl rfl rfl (w_append hf hM Tryz.underlying134 ei_124 rfl rfl rfl (k := 4) rfl (hM.srcRow (k := 0) rfl) hz81 fun A82 c83 w84 hM a hf => ?_)
          dsimp only [List.set] at hM
          refine q_ hf rfl rfl rfl (e_move hf rfl) fun a hf => ?_
          refine q_ hf rfl rfl rfl (e_move hf rfl) fun a hf => ?_
          refine pl_l hf rfl rfl rfl (w_slice hf hM (K := intRep) (xs := ([(pos34 : Int)] : (List Int))) (os := [.tmp 30]) Tryz.underlying135 ei_3 rfl rfl rfl rfl rfl ⟨⟨[vI ((pos34 : Int))], rfl, ⟨rfl, (R64_pos hc54 hp8)⟩⟩, trivial⟩ rfl fun b87 w88 hx89 hM a hf => ?_)
          obtain ⟨xs90, hz91, h52⟩ := bind_some h52
          refine pl_l hf rfl rfl rfl (w_append hf hM Tryz.underlying135 ei_3 rfl rfl rfl (k := 4) rfl (hM.srcRow (k := 0) rfl) hz91 fun A92 c93 w94 hM a hf => ?_)
          dsimp only [List.set] at hM
          refine q_ hf rfl rfl rfl (e_assign hf rfl) fun a hf => ?_
          refine q_ hf rfl rfl rfl (e_assign hf rfl) fun a hf => ?_
          refine pl_nil ?_
          refine blk_n ?_
          obtain rfl := some_inj h52
          refine then_n ⟨_, rfl, ?_⟩
          exact ⟨(pos34 + runeW p5.Word pos34), xs80, xs90, A82, c83, A92, c93, rfl, hf.keep ⟨rfl, rfl, rfl, rfl, rfl, trivial⟩, (hM.drop (.cons _ (.cons _ (.cons _ (.cons_cons _ (.cons_cons _ (.cons_cons _ (.cons_cons _ (.cons_cons _ .slnil))))))))).pick [] rfl⟩
        · refine cond_f hf rfl hc76 ?_
          refine wp_skip ?_
          refine blk_n ?_
          obtain rfl := some_inj h52
          refine then_n ⟨_, rfl, ?_⟩
          exact ⟨(pos34 + runeW p5.Word pos34), xs35, xs38, A36, c37, A39, c40, rfl, hf.keep ⟨rfl, rfl, rfl, rfl, rfl, trivial⟩, (hM.drop (.cons _ (.cons_cons _ (.cons_cons _ (.cons_cons _ (.cons_cons _ (.cons_cons _ .slnil))))))).pick [] rfl⟩
      · refine pl_l hf rfl rfl rfl (w_nextEnd hf hM rfl (k := 0) rfl hc54 fun w99 hx100 hM a hf => ?_)
        refine q_ hf rfl rfl rfl (e_extract hf rfl rfl) fun a hf => ?_
        refine pl_nil ?_
        refine then_n ?_
        refine wp_seq ?_
        refine cond_f hf rfl rfl ?_
        refine wp_exit ?_
        refine then_x ?_
        obtain rfl := some_inj h52
        obtain rfl := hd53 _ rfl
        try dsimp only at h30
        refine then_x ?_
        refine exit_hit ?_
        obtain rfl := some_inj h30
        refine then_n ?_
        exact ⟨xs35, xs38, A36, c37, A39, c40, rfl, hf.keep ⟨rfl, rfl, trivial⟩, (hM.drop (.cons _ (.cons_cons _ (.cons_cons _ (.cons_cons _ (.cons_cons _ .slnil)))))).pick [] rfl⟩
  · rintro a w105 ⟨xs23, xs26, A24, c25, A27, c28, rfl, hf, hM⟩
    try dsimp only at h
    refine wp_seq ?_
    refine region_pl ?_
    refine q_ hf rfl rfl rfl (e_move hf rfl) fun a hf => ?_
    refine q_ hf rfl rfl rfl (e_move hf rfl) fun a hf => ?_
    refine q_ hf rfl rfl rfl (e_assign hf rfl) fun a hf => ?_
    refine q_ hf rfl rfl rfl (e_assign hf rfl) fun a hf => ?_
    refine pl_nil ?_
    refine then_n ?_
    refine wp_ret ?_
    obtain rfl := some_inj h
    have hM := hM.front (k := 0) rfl
    dsimp only [List.eraseIdx] at hM
    have hM := hM.front (k := 1) rfl
    dsimp only [List.eraseIdx] at hM
    have hM := hM.outs (own' := [.row SquareRep A24 c25 124 xs23 true, .row intRep A27 c28 3 xs26 true]) 2 rfl
    exact leave2 hf rfl rfl rfl ⟨A24, c25, A27, c28, rfl, hM.fin⟩

set_option maxRecDepth 100000 in
set_option maxHeartbeats 4000000 in
theorem r_impl_tileAt (C : Cx) (k1 : Int) (hp2 : R64 k1) (r : UInt8) (h : m_impl_tileAt k1 = some r) :
    Calls Tryz.prog 150 #[vI (k1)] C.w0 fun e w => e = .returned (vB (r)) ∧ Mem C w [] [] := by
  have hM := Mem.begin C [] trivial
  refine enter Tryz.func150 rfl Tryz.ntmps150 rfl fun a hf => ?_
  unfold m_impl_tileAt at h
  refine wp_seq ?_
  refine region_pl ?_
  refine q_ hf rfl rfl rfl (e_assign hf rfl) fun a hf => ?_
  refine pl_nil ?_
  refine then_n ?_
  refine wp_seq ?_
  refine wp_seq ?_
  refine region_pl ?_
  refine q_ hf rfl rfl rfl (e_move hf rfl) fun a hf => ?_
  refine q_ hf rfl rfl rfl (e_eq hf (x := k1) (y := 0) rfl rfl) fun a hf => ?_
  refine pl_nil ?_
  refine then_n ?_
  rcases cond_some h with ⟨hc3, h⟩ | ⟨hc3, h⟩
  · refine cond_t hf rfl hc3 ?_
    refine wp_seq ?_
    refine region_pl ?_
    refine q_ hf rfl rfl rfl (e_assign hf rfl) fun a hf => ?_
    refine pl_nil ?_
    refine then_n ?_
    refine wp_ret ?_
    refine then_r ?_
    obtain rfl := some_inj h
    exact leave1 hf rfl rfl ⟨rfl, hM.fin⟩
  · refine cond_f hf rfl hc3 ?_
    refine wp_skip ?_
    refine then_n ?_
    refine wp_seq ?_
    refine region_pl ?_
    refine q_ hf rfl rfl rfl (e_move hf rfl) fun a hf => ?_
    obtain ⟨z4, hz5, h⟩ := bind_some h
    refine q_ hf rfl rfl rfl (e_add hf rfl rfl hz5) fun a hf => ?_
    obtain ⟨z6, hz7, h⟩ := bind_some h
    refine q_ hf rfl rfl rfl (e_sub hf rfl rfl hz7) fun a hf => ?_
    refine q_ hf rfl rfl rfl (e_convIB hf rfl Tryz.underlying3 Tryz.underlying5) fun a hf => ?_
    refine q_ hf rfl rfl rfl (e_assign hf rfl) fun a hf => ?_
    refine pl_nil ?_
    refine then_n ?_
    refine wp_ret ?_
    obtain rfl := some_inj h
    exact leave1 hf rfl rfl ⟨rfl, hM.fin⟩

set_option maxRecDepth 100000 in
set_option maxHeartbeats 4000000 in
theorem r_strings_Builder_copyCheck (C : Cx) (b1 : Str) (b2 : Nat) (p3 : Value) (hp4 : AddrOk b2 p3) (A5 : Option Addr) (c6 : Nat) (hO : Mem C C.w0 [.box b2 [p3, vL A5 (b1) c6] 145, .row byteRep A5 c6 5 b1 true] []) (hd : ∀ b, C.S0 b → ¬ ownB [.box b2 [p3, vL A5 (b1) c6] 145, .row byteRep A5 c6 5 b1 true] b) (r : Str) (h : m_strings_Builder_copyCheck b1 = some r) :
    Calls Tryz.prog 153 #[vP b2 (0)] C.w0 fun e w => ∃ (p_1 : Value), ∃ (A_1 : Option Addr), ∃ (c_1 : Nat), e = .returned (.tuple #[]) ∧ Mem C w [.box b2 [p_1, vL A_1 (r) c_1] 145, .row byteRep A_1 c_1 5 r true] [] ∧ AddrOk b2 p_1 := by
  have hM := hO
  refine enter Tryz.func153 rfl Tryz.ntmps153 rfl fun a hf => ?_
  unfold m_strings_Builder_copyCheck at h
  rcases hp4 with rfl | rfl
  · refine wp_seq ?_
    refine region_pl ?_
    refine q_ hf rfl rfl rfl (e_move hf rfl) fun a hf => ?_
    refine q_ hf rfl rfl rfl (e_nil hf rfl) fun a hf => ?_
    refine q_ hf rfl rfl rfl (e_field hf rfl Tryz.underlying145 rfl Tryz.sizeOf143 (o' := 0) rfl) fun a hf => ?_
    refine q_ hf rfl rfl rfl (e_load1 hf rfl Tryz.isAgg143 (hM.boxCell (k := 0) rfl rfl)) fun a hf => ?_
    refine q_ hf rfl rfl rfl (e_eqPN hf rfl rfl Tryz.underlying143) fun a hf => ?_
    refine pl_nil ?_
    refine then_n ?_
    refine cond_t hf rfl rfl ?_
    refine region_pl ?_
    refine q_ hf rfl rfl rfl (e_move hf rfl) fun a hf => ?_
    refine q_ hf rfl rfl rfl (e_move hf rfl) fun a hf => ?_
    refine q_ hf rfl rfl rfl (e_toUnsafe hf hM (k := 0) (n := 2) rfl rfl Tryz.underlying143 Tryz.underlying184 (by kernel_rfl) rfl rfl) fun a hf => ?_
    refine q_ hf rfl rfl rfl (e_noEscape hf (f := 169) rfl Tryz.func169 rfl rfl (by kernel_rfl) (by kernel_rfl)) fun a hf => ?_
    refine q_ hf rfl rfl rfl (e_fromUnsafe hf hM (k := 0) (n := 2) rfl rfl Tryz.underlying184 Tryz.underlying143 (by kernel_rfl) (by kernel_rfl)) fun a hf => ?_
    refine q_ hf rfl rfl rfl (e_nil hf rfl) fun a hf => ?_
    refine q_ hf rfl rfl rfl (e_field hf rfl Tryz.underlying145 rfl Tryz.sizeOf143 (o' := 0) rfl) fun a hf => ?_
    refine pl_0 hf rfl rfl (w_store hf hM (us := [vP b2 0]) (cs' := [vP b2 0, vL A5 (b1) c6]) rfl rfl (k := 0) rfl rfl Tryz.sizeOf143 rfl rfl rfl fun w7 hM => ?_)
    dsimp only [List.set] at hM
    refine pl_nil ?_
    obtain rfl := some_inj h
    exact leave0n hf rfl ⟨(vP b2 0), A5, c6, rfl, hM.fin, (AddrOk.self _)⟩
  · refine wp_seq ?_
    refine region_pl ?_
    refine q_ hf rfl rfl rfl (e_move hf rfl) fun a hf => ?_
    refine q_ hf rfl rfl rfl (e_nil hf rfl) fun a hf => ?_
    refine q_ hf rfl rfl rfl (e_field hf rfl Tryz.underlying145 rfl Tryz.sizeOf143 (o' := 0) rfl) fun a hf => ?_
    refine q_ hf rfl rfl rfl (e_load1 hf rfl Tryz.isAgg143 (hM.boxCell (k := 0) rfl rfl)) fun a hf => ?_
    refine q_ hf rfl rfl rfl (e_eqPS hf rfl rfl Tryz.underlying143) fun a hf => ?_
    refine pl_nil ?_
    refine then_n ?_
    refine cond_f hf rfl rfl ?_
    refine wp_seq ?_
    refine region_pl ?_
    refine q_ hf rfl rfl rfl (e_move hf rfl) fun a hf => ?_
    refine q_ hf rfl rfl rfl (e_nil hf rfl) fun a hf => ?_
    refine q_ hf rfl rfl rfl (e_field hf rfl Tryz.underlying145 rfl Tryz.sizeOf143 (o' := 0) rfl) fun a hf => ?_
    refine q_ hf rfl rfl rfl (e_load1 hf rfl Tryz.isAgg143 (hM.boxCell (k := 0) rfl rfl)) fun a hf => ?_
    refine q_ hf rfl rfl rfl (e_move hf rfl) fun a hf => ?_
    refine q_ hf rfl rfl rfl (e_nePS hf (n := 2) rfl rfl Tryz.underlying143 (by kernel_rfl)) fun a hf => ?_
    refine pl_nil ?_
    refine then_n ?_
    refine cond_f hf rfl rfl ?_
    refine wp_skip ?_
    obtain rfl := some_inj h
    exact leave0n hf rfl ⟨(vP b2 0), A5, c6, rfl, hM.fin, (AddrOk.self _)⟩

set_option maxRecDepth 100000 in
set_option maxHeartbeats 4000000 in
theorem r_strings_Builder_WriteByte (C : Cx) (b1 : Str) (b2 : Nat) (p3 : Value) (hp4 : AddrOk b2 p3) (A5 : Option Addr) (c6 : Nat) (c7 : UInt8) (hO : Mem C C.w0 [.box b2 [p3, vL A5 (b1) c6] 145, .row byteRep A5 c6 5 b1 true] []) (hd : ∀ b, C.S0 b → ¬ ownB [.box b2 [p3, vL A5 (b1) c6] 145, .row byteRep A5 c6 5 b1 true] b) (r : (Unit × Str)) (h : m_strings_Builder_WriteByte b1 c7 = some r) :
    Calls Tryz.prog 149 #[vP b2 (0), vB (c7)] C.w0 fun e w => ∃ (p_1 : Value), ∃ (A_1 : Option Addr), ∃ (c_1 : Nat), e = .returned (.nilIface) ∧ Mem C w [.box b2 [p_1, vL A_1 (r.2) c_1] 145, .row byteRep A_1 c_1 5 r.2 true] [] ∧ AddrOk b2 p_1 := by
  have hM := hO
  refine enter Tryz.func149 rfl Tryz.ntmps149 rfl fun a hf => ?_
  unfold m_strings_Builder_WriteByte at h
  refine wp_seq ?_
  refine region_pl ?_
  refine q_ hf rfl rfl rfl (e_assign hf rfl) fun a hf => ?_
  refine pl_nil ?_
  refine then_n ?_
  refine wp_seq ?_
  refine region_pl ?_
  refine q_ hf rfl rfl rfl (e_move hf rfl) fun a hf => ?_
  have hM : Mem C _ ([.box b2 [p3, vL A5 (b1) c6] 145, .row byteRep A5 c6 5 b1 true] ++ []) _ := hM
  obtain ⟨y8, hz9, h⟩ := bind_some h
  refine pl_l hf rfl rfl rfl (w_call hf Tryz.call153 rfl (r_strings_Builder_copyCheck ⟨_, Sh C _ _, ownB _, hM.sh_lt, sub_dis, C.G, hM.g_lt, hM.g_own, hM.tabs⟩ b1 _ _ hp4 _ _ hM.sub sub_dis _ hz9) ?_)
  rintro _ w14 ⟨p10, A12, c13, rfl, hM2, hv11⟩
  obtain ⟨hM, hup16⟩ := hM.backG hM2
  dsimp only [List.cons_append, List.nil_append] at hM hup16
  clear hM2
  refine ⟨_, rfl, fun a hf => ?_⟩
  refine pl_nil ?_
  refine then_n ?_
  refine wp_seq ?_
  refine region_pl ?_
  refine q_ hf rfl rfl rfl (e_move hf rfl) fun a hf => ?_
  refine q_ hf rfl rfl rfl (e_move hf rfl) fun a hf => ?_
  refine q_ hf rfl rfl rfl (e_nil hf rfl) fun a hf => ?_
  refine q_ hf rfl rfl rfl (e_field hf rfl Tryz.underlying145 rfl Tryz.sizeOf138 (o' := 1) rfl) fun a hf => ?_
  refine q_ hf rfl rfl rfl (e_load1 hf rfl Tryz.isAgg138 (hM.boxCell (k := 0) rfl rfl)) fun a hf => ?_
  refine q_ hf rfl rfl rfl (e_move hf rfl) fun a hf => ?_
  refine pl_l hf rfl rfl rfl (w_slice hf hM (K := byteRep) (xs := ([c7] : Str)) (os := [.tmp 12]) Tryz.underlying138 ei_5 rfl rfl rfl rfl rfl ⟨⟨[vB (c7)], rfl, rfl⟩, trivial⟩ rfl fun b17 w18 hx19 hM a hf => ?_)
  obtain ⟨xs20, hz21, h⟩ := bind_some h
  refine pl_l hf rfl rfl rfl (w_append hf hM Tryz.underlying138 ei_5 rfl rfl rfl (k := 2) rfl (hM.srcRow (k := 0) rfl) hz21 fun A22 c23 w24 hM a hf => ?_)
  dsimp only [List.set] at hM
  refine q_ hf rfl rfl rfl (e_nil hf rfl) fun a hf => ?_
  refine q_ hf rfl rfl rfl (e_field hf rfl Tryz.underlying145 rfl Tryz.sizeOf138 (o' := 1) rfl) fun a hf => ?_
  refine pl_0 hf rfl rfl (w_store hf hM (us := [vL A22 (xs20) c23]) (cs' := [p10, vL A22 (xs20) c23]) rfl rfl (k := 1) rfl rfl Tryz.sizeOf138 rfl rfl rfl fun w27 hM => ?_)
  dsimp only [List.set] at hM
  refine pl_nil ?_
  refine then_n ?_
  refine wp_seq ?_
  refine region_pl ?_
  refine q_ hf rfl rfl rfl (e_assign hf rfl) fun a hf => ?_
  refine pl_nil ?_
  refine then_n ?_
  refine wp_ret ?_
  obtain rfl := some_inj h
  have hM := hM.front (k := 2) rfl
  dsimp only [List.eraseIdx] at hM
  have hM := hM.front (k := 2) rfl
  dsimp only [List.eraseIdx] at hM
  have hM := hM.outs (own' := [.box b2 [p10, vL A22 (xs20) c23] 145, .row byteRep A22 c23 5 xs20 true]) 2 rfl
  exact leave1 hf rfl rfl ⟨p10, A22, c23, rfl, hM.fin, hv11⟩

set_option maxRecDepth 100000 in
set_option maxHeartbeats 4000000 in
theorem r_strings_Builder_String (C : Cx) (b1 : Str) (b2 : Nat) (p3 : Value) (hp4 : AddrOk b2 p3) (A5 : Option Addr) (c6 : Nat) (hO : Mem C C.w0 [.box b2 [p3, vL A5 (b1) c6] 145, .row byteRep A5 c6 5 b1 true] []) (hd : ∀ b, C.S0 b → ¬ ownB [.box b2 [p3, vL A5 (b1) c6] 145, .row byteRep A5 c6 5 b1 true] b) (r : Str) (h : m_strings_Builder_String b1 = some r) :
    Calls Tryz.prog 119 #[vP b2 (0)] C.w0 fun e w => e = .returned (vS (r)) ∧ Mem C w [] [] ∧ r.length ≤ maxLen := by
  have hM := hO
  refine enter Tryz.func119 rfl Tryz.ntmps119 rfl fun a hf => ?_
  unfold m_strings_Builder_String at h
  refine wp_seq ?_
  refine region_pl ?_
  refine q_ hf rfl rfl rfl (e_assign hf rfl) fun a hf => ?_
  refine pl_nil ?_
  refine then_n ?_
  refine wp_seq ?_
  obtain ⟨w7, hw⟩ : ∃ x, x = C.w0.drew := ⟨_, rfl⟩
  refine region_pi (.q 0 (.q 1 (.q 2 (.q 3 (.q 5 (.q 6 (.q 7 (.q 8 (.q 9 (.l 4 (.l 10 (.q 11 (.nil))))))))))))) (Ext w7) rfl (by kernel_rfl) ?_
  have hM := hM.drew
  rw [← hw] at hM ⊢
  clear hw
  refine pi_q hf rfl rfl rfl rfl (Ext.refl _) (e_move hf rfl) fun a hf => ?_
  refine pi_q hf rfl rfl rfl rfl (Ext.refl _) (e_nil hf rfl) fun a hf => ?_
  refine pi_q hf rfl rfl rfl rfl (Ext.refl _) (e_field hf rfl Tryz.underlying145 rfl Tryz.sizeOf138 (o' := 1) rfl) fun a hf => ?_
  refine pi_q hf rfl rfl rfl rfl (Ext.refl _) (e_load1 hf rfl Tryz.isAgg138 (hM.boxCell (k := 0) rfl rfl)) fun a hf => ?_
  refine pi_q hf rfl rfl rfl rfl (Ext.refl _) (e_move hf rfl) fun a hf => ?_
  refine pi_q hf rfl rfl rfl rfl (Ext.refl _) (e_nil hf rfl) fun a hf => ?_
  refine pi_q hf rfl rfl rfl rfl (Ext.refl _) (e_field hf rfl Tryz.underlying145 rfl Tryz.sizeOf138 (o' := 1) rfl) fun a hf => ?_
  refine pi_q hf rfl rfl rfl rfl (Ext.refl _) (e_load1 hf rfl Tryz.isAgg138 (hM.boxCell (k := 0) rfl rfl)) fun a hf => ?_
  have hl8 := row_len (hM.ownAt (k := 1) rfl)
  refine pi_q hf rfl rfl rfl rfl (Ext.refl _) (e_lenL hf (x := b1) rfl Tryz.underlying138) fun a hf => ?_
  refine pi_one ?_
  refine pi_l hf rfl rfl rfl rfl (w_sliceData hf hM (k := 1) rfl rfl Tryz.underlying170 fun q9 w10 hx11 hM hq12 => ⟨Ext w10, fun _ h => Ext.trans hx11 h, Ext.refl _, fun a hf => ?_⟩)
  refine pi_one ?_
  have hl14 := row_len (hM.ownAt (k := 1) rfl)
  refine pi_z hf rfl rfl rfl rfl (by kernel_rfl) (w_unsafeString hf hM (k := 1) rfl hq12 rfl rfl Tryz.underlying170 (by kernel_rfl) fun w13 hM a hf => ?_)
  dsimp only [List.eraseIdx] at hM
  refine pi_q hf rfl rfl rfl rfl (Ext.refl _) (e_assign hf rfl) fun a hf => ?_
  refine pi_nil ?_
  refine then_n ?_
  refine wp_ret ?_
  obtain rfl := some_inj h
  have hM := hM.outs (own' := []) 0 rfl
  exact leave1 hf rfl rfl ⟨rfl, hM.fin, hl14⟩

set_option maxRecDepth 100000 in
set_option maxHeartbeats 4000000 in
theorem r_impl_counts_pile (C : Cx) (c1 : (List Int)) (hp2 : ArrOk 27 c1) (r : Str) (h : m_impl_counts_pile c1 = some r) :
    Calls Tryz.prog 106 #[.agg (arrV c1).toArray] C.w0 fun e w => e = .returned (vS (r)) ∧ Mem C w [] [] ∧ r.length ≤ maxLen := by
  have hM := Mem.begin C [] trivial
  refine enter Tryz.func106 rfl Tryz.ntmps106 rfl fun a hf => ?_
  unfold m_impl_counts_pile at h
  refine wp_seq ?_
  refine region_pl ?_
  refine pl_l hf rfl rfl rfl (w_box hf hM (cs := arrV c1) rfl rfl fun b3 w4 hx5 hM a hf => ?_)
  refine q_ hf rfl rfl rfl (e_assign hf rfl) fun a hf => ?_
  refine pl_nil ?_
  refine then_n ?_
  refine wp_seq ?_
  refine region_pl ?_
  refine pl_l hf rfl rfl rfl (w_alloc hM (cs := [.pointer none, vL none (([] : Str)) 0]) Tryz.zeroValue145 rfl fun b7 w8 hx9 hM a hf => ?_)
  have hM := hM.nilRow byteRep 5
  refine pl_nil ?_
  refine then_n ?_
  obtain ⟨x16, h17, h⟩ := bind_some h
  refine seq_join (fun a w => ∃ (xs13 : Str) (p11 : Value) (A14 : Option Addr) (c15 : Nat), xs13 = x16 ∧ Has 20 a [(3, vP b7 (0))] ∧ Mem C w [.row byteRep A14 c15 5 xs13 true, .box b7 [p11, vL A14 (xs13) c15] 145, .box b3 (arrV c1) 129] [] ∧ AddrOk b7 p11) ?_ ?_
  · refine wp_seq ?_
    refine region_pl ?_
    refine q_ hf rfl rfl rfl (e_loadA hf (us := arrV c1) rfl ⟨Tryz.isAgg129, Tryz.sizeOf129⟩ (arr_len hp2) (hM.boxSub (k := 2) (us := arrV c1) (o := 0) rfl (arr_all _))) fun a hf => ?_
    refine q_ hf rfl rfl rfl (e_move hf rfl) fun a hf => ?_
    refine pl_nil ?_
    refine then_n ?_
    refine wp_block ?_
    obtain ⟨x31, h32, h17⟩ := bind_some h17
    refine wp_loopM h32 (fun s a w => ∃ (xs20 : Str) (n23 : Int) (p18 : Value) (A21 : Option Addr) (c22 : Nat), (xs20, n23) = s ∧ Has 20 a [(3, vP b7 (0)), (6, .agg (arrV c1).toArray), (7, vI (n23))] ∧ Mem C w [.row byteRep A21 c22 5 xs20 true, .box b7 [p18, vL A21 (xs20) c22] 145, .box b3 (arrV c1) 129] [] ∧ AddrOk b7 p18 ∧ R64 n23) ?_ ?_
    · exact ⟨([] : Str), 0, (.pointer none), none, 0, rfl, hf.keep ⟨rfl, rfl, rfl, trivial⟩, hM.pick [] rfl, (AddrOk.nil _), (R64_lit rfl)⟩
    · rintro s o33 a w25 ⟨xs20, n23, p18, A21, c22, rfl, hf, hM, hv19, hv24⟩ h34 hd35
      replace h34 : m_impl_counts_pile_l1 c1 xs20 n23 = some o33 := h34
      unfold m_impl_counts_pile_l1 at h34
      refine wp_seq ?_
      refine region_pl ?_
      refine q_ hf rfl rfl rfl (e_lt hf (x := n23) (y := 27) rfl rfl) fun a hf => ?_
      refine pl_nil ?_
      refine then_n ?_
      refine wp_seq ?_
      rcases cond_some h34 with ⟨hc36, h34⟩ | ⟨hc36, h34⟩
      · refine cond_t hf rfl hc36 ?_
        refine wp_skip ?_
        refine then_n ?_
        obtain ⟨x42, h43, h34⟩ := bind_some h34
        refine seq_join (fun a w => ∃ (xs39 : Str) (p37 : Value) (A40 : Option Addr) (c41 : Nat), xs39 = x42 ∧ Has 20 a [(3, vP b7 (0)), (6, .agg (arrV c1).toArray), (7, vI (n23))] ∧ Mem C w [.row byteRep A40 c41 5 xs39 true, .box b7 [p37, vL A40 (xs39) c41] 145, .box b3 (arrV c1) 129] [] ∧ AddrOk b7 p37) ?_ ?_
        · refine wp_block ?_
          refine wp_seq ?_
          refine region_pl ?_
          refine q_ hf rfl rfl rfl (e_move hf rfl) fun a hf => ?_
          obtain ⟨n44, hz45, h43⟩ := bind_some h43
          refine q_ hf rfl rfl rfl (e_indexArr hf hp2 rfl rfl Tryz.underlying129 Tryz.isAgg3 Tryz.sizeOf3 hz45) fun a hf => ?_
          refine q_ hf rfl rfl rfl (e_assign hf rfl) fun a hf => ?_
          refine q_ hf rfl rfl rfl (e_assign hf rfl) fun a hf => ?_
          refine pl_nil ?_
          refine then_n ?_
          refine wp_block ?_
          obtain ⟨x59, h60, h43⟩ := bind_some h43
          refine wp_loopM h60 (fun s a w => ∃ (xs48 : Str) (n51 : Int) (p46 : Value) (A49 : Option Addr) (c50 : Nat), (xs48, n51) = s ∧ Has 20 a [(3, vP b7 (0)), (4, vI (n23)), (5, vI (n51)), (6, .agg (arrV c1).toArray), (7, vI (n23))] ∧ Mem C w [.row byteRep A49 c50 5 xs48 true, .box b7 [p46, vL A49 (xs48) c50] 145, .box b3 (arrV c1) 129] [] ∧ AddrOk b7 p46 ∧ R64 n51) ?_ ?_
          · exact ⟨xs20, n44, p18, A21, c22, rfl, hf.keep ⟨rfl, rfl, rfl, rfl, rfl, trivial⟩, hM.pick [] rfl, hv19, (arr_R hp2 hz45)⟩
          · rintro s o61 a w53 ⟨xs48, n51, p46, A49, c50, rfl, hf, hM, hv47, hv52⟩ h62 hd63
            replace h62 : m_impl_counts_pile_l2 n23 xs48 n51 = some o61 := h62
            unfold m_impl_counts_pile_l2 at h62
            refine wp_seq ?_
            refine wp_seq ?_
            refine region_pl ?_
            refine q_ hf rfl rfl rfl (e_move hf rfl) fun a hf => ?_
            refine q_ hf rfl rfl rfl (e_gt hf (x := n51) (y := 0) rfl rfl) fun a hf => ?_
            refine pl_nil ?_
            refine then_n ?_
            rcases cond_some h62 with ⟨hc64, h62⟩ | ⟨hc64, h62⟩
            · refine cond_t hf rfl hc64 ?_
              refine wp_skip ?_
              refine then_n ?_
              refine wp_seq ?_
              refine wp_block ?_
              refine region_pl ?_
              refine q_ hf rfl rfl rfl (e_move hf rfl) fun a hf => ?_
              obtain ⟨y65, hz66, h62⟩ := bind_some h62
              refine pl_l hf rfl rfl rfl (w_call hf Tryz.call150 rfl (r_impl_tileAt ⟨_, Sh C _ _, none_, hM.sh_lt, none_not, C.G, hM.g_lt, g_none, hM.tabs⟩ n23 hv24 _ hz66) ?_)
              rintro _ w67 ⟨rfl, hM2⟩
              obtain ⟨hM, hx68, hup69⟩ := hM.back hM2
              dsimp only [List.cons_append, List.nil_append] at hM hup69
              clear hM2
              refine ⟨_, rfl, fun a hf => ?_⟩
              have hM := hM.front (k := 0) rfl
              dsimp only [List.eraseIdx] at hM
              have hM := hM.front (k := 1) rfl
              dsimp only [List.eraseIdx] at hM
              have hM : Mem C _ ([.box b7 [p46, vL A49 (xs48) c50] 145, .row byteRep A49 c50 5 xs48 true] ++ [.box b3 (arrV c1) 129]) _ := hM
              obtain ⟨y70, hz71, h62⟩ := bind_some h62
              refine pl_l hf rfl rfl rfl (w_call hf Tryz.call149 rfl (r_strings_Builder_WriteByte ⟨_, Sh C _ _, ownB _, hM.sh_lt, sub_dis, C.G, hM.g_lt, hM.g_own, hM.tabs⟩ xs48 _ _ hv47 _ _ y65 hM.sub sub_dis _ hz71) ?_)
              rintro _ w76 ⟨p72, A74, c75, rfl, hM2, hv73⟩
              obtain ⟨hM, hup78⟩ := hM.backG hM2
              dsimp only [List.cons_append, List.nil_append] at hM hup78
              clear hM2
              refine ⟨_, rfl, fun a hf => ?_⟩
              refine pl_nil ?_
              refine blk_n ?_
              refine then_n ?_
              refine region_pl ?_
              refine q_ hf rfl rfl rfl (e_move hf rfl) fun a hf => ?_
              obtain ⟨z79, hz80, h62⟩ := bind_some h62
              refine q_ hf rfl rfl rfl (e_sub hf rfl rfl hz80) fun a hf => ?_
              refine q_ hf rfl rfl rfl (e_assign hf rfl) fun a hf => ?_
              refine pl_nil ?_
              obtain rfl := some_inj h62
              refine then_n ⟨_, rfl, ?_⟩
              have hM := hM.front (k := 2) rfl
              dsimp only [List.eraseIdx] at hM
              have hM := hM.front (k := 1) rfl
              dsimp only [List.eraseIdx] at hM
              have hM := hM.front (k := 2) rfl
              dsimp only [List.eraseIdx] at hM
              exact ⟨y70.2, z79, p72, A74, c75, rfl, hf.keep ⟨rfl, rfl, rfl, rfl, rfl, trivial⟩, hM.pick [] rfl, hv73, (chk_R hz80)⟩
            · refine cond_f hf rfl hc64 ?_
              refine wp_exit ?_
              refine then_x ?_
              obtain rfl := some_inj h62
              obtain rfl := hd63 _ rfl
              try dsimp only at h43
              refine then_x ?_
              refine exit_hit ?_
              refine blk_n ?_
              obtain rfl := some_inj h43
              refine then_n ?_
              exact ⟨xs48, p46, A49, c50, rfl, hf.keep ⟨rfl, rfl, rfl, trivial⟩, hM.pick [] rfl, hv47⟩
        · rintro a w86 ⟨xs39, p37, A40, c41, rfl, hf, hM, hv38⟩
          try dsimp only at h34
          refine region_pl ?_
          obtain ⟨z87, hz88, h34⟩ := bind_some h34
          refine q_ hf rfl rfl rfl (e_add hf rfl rfl hz88) fun a hf => ?_
          refine q_ hf rfl rfl rfl (e_move hf rfl) fun a hf => ?_
          refine pl_nil ?_
          obtain rfl := some_inj h34
          refine then_n ⟨_, rfl, ?_⟩
          exact ⟨xs39, z87, p37, A40, c41, rfl, hf.keep ⟨rfl, rfl, rfl, trivial⟩, hM.pick [] rfl, hv38, (chk_R hz88)⟩
      · refine cond_f hf rfl hc36 ?_
        refine wp_exit ?_
        refine then_x ?_
        obtain rfl := some_inj h34
        obtain rfl := hd35 _ rfl
        try dsimp only at h17
        refine then_x ?_
        refine exit_hit ?_
        obtain rfl := some_inj h17
        refine then_n ?_
        exact ⟨xs20, p18, A21, c22, rfl, hf.keep ⟨rfl, trivial⟩, hM.pick [] rfl, hv19⟩
  · rintro a w94 ⟨xs13, p11, A14, c15, rfl, hf, hM, hv12⟩
    try dsimp only at h
    refine wp_seq ?_
    refine region_pl ?_
    have hM := hM.front (k := 0) rfl
    dsimp only [List.eraseIdx] at hM
    have hM := hM.front (k := 1) rfl
    dsimp only [List.eraseIdx] at hM
    have hM : Mem C _ ([.box b7 [p11, vL A14 (xs13) c15] 145, .row byteRep A14 c15 5 xs13 true] ++ [.box b3 (arrV c1) 129]) _ := hM
    obtain ⟨y95, hz96, h⟩ := bind_some h
    refine pl_l hf rfl rfl rfl (w_call hf Tryz.call119 rfl (r_strings_Builder_String ⟨_, Sh C _ _, ownB _, hM.sh_lt, sub_dis, C.G, hM.g_lt, hM.g_own, hM.tabs⟩ xs13 _ _ hv12 _ _ hM.sub sub_dis _ hz96) ?_)
    rintro _ w98 ⟨rfl, hM2, hv97⟩
    obtain ⟨hM, hup100⟩ := hM.backG hM2
    dsimp only [List.cons_append, List.nil_append] at hM hup100
    clear hM2
    refine ⟨_, rfl, fun a hf => ?_⟩
    refine q_ hf rfl rfl rfl (e_assign hf rfl) fun a hf => ?_
    refine pl_nil ?_
    refine then_n ?_
    refine wp_ret ?_
    obtain rfl := some_inj h
    have hM := hM.outs (own' := []) 0 rfl
    exact leave1 hf rfl rfl ⟨rfl, hM.fin, hv97⟩

set_option maxRecDepth 100000 in
set_option maxHeartbeats 4000000 in
theorem r_impl_tilesOf (C : Cx) (letters1 : Str) (hp2 : letters1.length ≤ maxLen) (r : Str) (h : m_impl_tilesOf letters1 = some r) :
    Calls Tryz.prog 108 #[vS (letters1)] C.w0 fun e w => e = .returned (vS (r)) ∧ Mem C w [] [] ∧ r.length ≤ maxLen := by
  have hM := Mem.begin C [] trivial
  refine enter Tryz.func108 rfl Tryz.ntmps108 rfl fun a hf => ?_
  unfold m_impl_tilesOf at h
  refine wp_seq ?_
  refine region_pl ?_
  refine q_ hf rfl rfl rfl (e_assign hf rfl) fun a hf => ?_
  refine pl_nil ?_
  refine then_n ?_
  refine wp_seq ?_
  refine region_pl ?_
  refine pl_l hf rfl rfl rfl (w_alloc hM (cs := arrV (List.replicate 27 (0 : Int))) Tryz.zeroValue129 rfl fun b3 w4 hx5 hM a hf => ?_)
  refine pl_nil ?_
  refine then_n ?_
  obtain ⟨x9, h10, h⟩ := bind_some h
  refine seq_join (fun a w => ∃ (xs7 : (List Int)), xs7 = x9 ∧ Has 29 a [(3, vP b3 (0))] ∧ Mem C w [.box b3 (arrV xs7) 129] [] ∧ ArrOk 27 xs7) ?_ ?_
  · refine wp_seq ?_
    refine region_pl ?_
    refine q_ hf rfl rfl rfl (e_assign hf rfl) fun a hf => ?_
    refine pl_nil ?_
    refine then_n ?_
    refine wp_block ?_
    obtain ⟨x18, h19, h10⟩ := bind_some h10
    refine wp_loopM h19 (fun s a w => ∃ (xs11 : (List Int)) (n13 : Int), (xs11, n13) = s ∧ Has 29 a [(0, vS (letters1)), (3, vP b3 (0)), (4, vI (n13))] ∧ Mem C w [.box b3 (arrV xs11) 129] [] ∧ ArrOk 27 xs11 ∧ R64 n13) ?_ ?_
    · exact ⟨(List.replicate 27 (0 : Int)), 0, rfl, hf.keep ⟨rfl, rfl, rfl, trivial⟩, hM.pick [] rfl, (arr_zero 27), (R64_lit rfl)⟩
    · rintro s o20 a w15 ⟨xs11, n13, rfl, hf, hM, hv12, hv14⟩ h21 hd22
      replace h21 : m_impl_tilesOf_l1 letters1 xs11 n13 = some o20 := h21
      unfold m_impl_tilesOf_l1 at h21
      refine wp_seq ?_
      refine wp_seq ?_
      refine region_pl ?_
      refine q_ hf rfl rfl rfl (e_move hf rfl) fun a hf => ?_
      refine q_ hf rfl rfl rfl (e_move hf rfl) fun a hf => ?_
      refine q_ hf rfl rfl rfl (e_lenS hf (x := letters1) rfl Tryz.underlying9) fun a hf => ?_
      refine q_ hf rfl rfl rfl (e_lt hf (x := n13) (y := (letters1.length : Int)) rfl rfl) fun a hf => ?_
      refine pl_nil ?_
      refine then_n ?_
      rcases cond_some h21 with ⟨hc23, h21⟩ | ⟨hc23, h21⟩
      · refine cond_t hf rfl hc23 ?_
        refine wp_skip ?_
        refine then_n ?_
        obtain ⟨x26, h27, h21⟩ := bind_some h21
        refine seq_join (fun a w => ∃ (xs24 : (List Int)), xs24 = x26 ∧ Has 29 a [(0, vS (letters1)), (3, vP b3 (0)), (4, vI (n13))] ∧ Mem C w [.box b3 (arrV xs24) 129] [] ∧ ArrOk 27 xs24) ?_ ?_
        · refine wp_block ?_
          refine wp_seq ?_
          refine region_pl ?_
          refine q_ hf rfl rfl rfl (e_move hf rfl) fun a hf => ?_
          refine q_ hf rfl rfl rfl (e_move hf rfl) fun a hf => ?_
          obtain ⟨c28, hz29, h27⟩ := bind_some h27
          refine q_ hf rfl rfl rfl (e_indexS hf (x := letters1) rfl rfl Tryz.underlying9 hz29) fun a hf => ?_
          obtain ⟨y30, hz31, h27⟩ := bind_some h27
          refine pl_l hf rfl rfl rfl (w_call hf Tryz.call143 rfl (r_impl_capital ⟨_, Sh C _ _, none_, hM.sh_lt, none_not, C.G, hM.g_lt, g_none, hM.tabs⟩ c28 _ hz31) ?_)
          rintro _ w32 ⟨rfl, hM2⟩
          obtain ⟨hM, hx33, hup34⟩ := hM.back hM2
          dsimp only [List.cons_append, List.nil_append] at hM hup34
          clear hM2
          refine ⟨_, rfl, fun a hf => ?_⟩
          refine pl_nil ?_
          refine then_n ?_
          rcases cond_some h27 with ⟨hc35, h27⟩ | ⟨hc35, h27⟩
          · refine cond_t hf rfl hc35 ?_
            refine region_pl ?_
            obtain ⟨n36, hz37, h27⟩ := bind_some h27
            refine q_ hf rfl rfl rfl (e_indexAddrArr hf (i := 0) rfl rfl Tryz.underlying129 Tryz.sizeOf3 (arr_in hv12 hz37).1 (arr_in hv12 hz37).2) fun a hf => ?_
            refine q_ hf rfl rfl rfl (e_load1 hf rfl Tryz.isAgg3 (hM.boxCell (k := 0) rfl (arr_at hz37))) fun a hf => ?_
            obtain ⟨z38, hz39, h27⟩ := bind_some h27
            refine q_ hf rfl rfl rfl (e_add hf rfl rfl hz39) fun a hf => ?_
            obtain ⟨n40, hz41, h27⟩ := bind_some h27
            refine q_ hf rfl rfl rfl (e_indexAddrArr hf (i := 0) rfl rfl Tryz.underlying129 Tryz.sizeOf3 (arr_in hv12 hz41).1 (arr_in hv12 hz41).2) fun a hf => ?_
            obtain ⟨xs43, hz44, h27⟩ := bind_some h27
            refine pl_0 hf rfl rfl (w_storeAt hf hM (i := 0) rfl rfl (k := 0) rfl Tryz.sizeOf3 hz44 fun w42 hM => ?_)
            dsimp only [List.set] at hM
            refine pl_nil ?_
            refine blk_n ?_
            obtain rfl := some_inj h27
            refine then_n ?_
            exact ⟨xs43, rfl, hf.keep ⟨rfl, rfl, rfl, trivial⟩, hM.pick [] rfl, (arr_set hv12 (chk_R hz39) hz44)⟩
          · refine cond_f hf rfl hc35 ?_
            refine region_pl ?_
            refine q_ hf rfl rfl rfl (e_move hf rfl) fun a hf => ?_
            refine q_ hf rfl rfl rfl (e_move hf rfl) fun a hf => ?_
            obtain ⟨c46, hz47, h27⟩ := bind_some h27
            refine q_ hf rfl rfl rfl (e_indexS hf (x := letters1) rfl rfl Tryz.underlying9 hz47) fun a hf => ?_
            obtain ⟨y48, hz49, h27⟩ := bind_some h27
            refine pl_l hf rfl rfl rfl (w_call hf Tryz.call148 rfl (r_impl_place ⟨_, Sh C _ _, none_, hM.sh_lt, none_not, C.G, hM.g_lt, g_none, hM.tabs⟩ c46 _ hz49) ?_)
            rintro _ w51 ⟨rfl, hM2, hv50⟩
            obtain ⟨hM, hx52, hup53⟩ := hM.back hM2
            dsimp only [List.cons_append, List.nil_append] at hM hup53
            clear hM2
            refine ⟨_, rfl, fun a hf => ?_⟩
            obtain ⟨n54, hz55, h27⟩ := bind_some h27
            refine q_ hf rfl rfl rfl (e_indexAddrArr hf (i := y48) rfl rfl Tryz.underlying129 Tryz.sizeOf3 (arr_in hv12 hz55).1 (arr_in hv12 hz55).2) fun a hf => ?_
            refine q_ hf rfl rfl rfl (e_load1 hf rfl Tryz.isAgg3 (hM.boxCell (k := 0) rfl (arr_at hz55))) fun a hf => ?_
            obtain ⟨z56, hz57, h27⟩ := bind_some h27
            refine q_ hf rfl rfl rfl (e_add hf rfl rfl hz57) fun a hf => ?_
            obtain ⟨n58, hz59, h27⟩ := bind_some h27
            refine q_ hf rfl rfl rfl (e_indexAddrArr hf (i := y48) rfl rfl Tryz.underlying129 Tryz.sizeOf3 (arr_in hv12 hz59).1 (arr_in hv12 hz59).2) fun a hf => ?_
            obtain ⟨xs61, hz62, h27⟩ := bind_some h27
            refine pl_0 hf rfl rfl (w_storeAt hf hM (i := y48) rfl rfl (k := 0) rfl Tryz.sizeOf3 hz62 fun w60 hM => ?_)
            dsimp only [List.set] at hM
            refine pl_nil ?_
            refine blk_n ?_
            obtain rfl := some_inj h27
            refine then_n ?_
            exact ⟨xs61, rfl, hf.keep ⟨rfl, rfl, rfl, trivial⟩, hM.pick [] rfl, (arr_set hv12 (chk_R hz57) hz62)⟩
        · rintro a w64 ⟨xs24, rfl, hf, hM, hv25⟩
          try dsimp only at h21
          refine region_pl ?_
          refine q_ hf rfl rfl rfl (e_move hf rfl) fun a hf => ?_
          obtain ⟨z65, hz66, h21⟩ := bind_some h21
          refine q_ hf rfl rfl rfl (e_add hf rfl rfl hz66) fun a hf => ?_
          refine q_ hf rfl rfl rfl (e_assign hf rfl) fun a hf => ?_
          refine pl_nil ?_
          obtain rfl := some_inj h21
          refine then_n ⟨_, rfl, ?_⟩
          exact ⟨xs24, z65, rfl, hf.keep ⟨rfl, rfl, rfl, trivial⟩, hM.pick [] rfl, hv25, (chk_R hz66)⟩
      · refine cond_f hf rfl hc23 ?_
        refine wp_exit ?_
        refine then_x ?_
        obtain rfl := some_inj h21
        obtain rfl := hd22 _ rfl
        try dsimp only at h10
        refine then_x ?_
        refine exit_hit ?_
        obtain rfl := some_inj h10
        refine then_n ?_
        exact ⟨xs11, rfl, hf.keep ⟨rfl, trivial⟩, hM.pick [] rfl, hv12⟩
  · rintro a w72 ⟨xs7, rfl, hf, hM, hv8⟩
    try dsimp only at h
    refine wp_seq ?_
    refine region_pl ?_
    refine q_ hf rfl rfl rfl (e_loadA hf (us := arrV xs7) rfl ⟨Tryz.isAgg129, Tryz.sizeOf129⟩ (arr_len hv8) (hM.boxSub (k := 0) (us := arrV xs7) (o := 0) rfl (arr_all _))) fun a hf => ?_
    obtain ⟨y73, hz74, h⟩ := bind_some h
    refine pl_l hf rfl rfl rfl (w_call hf Tryz.call106 rfl (r_impl_counts_pile ⟨_, Sh C _ _, none_, hM.sh_lt, none_not, C.G, hM.g_lt, g_none, hM.tabs⟩ xs7 hv8 _ hz74) ?_)
    rintro _ w76 ⟨rfl, hM2, hv75⟩
    obtain ⟨hM, hx77, hup78⟩ := hM.back hM2
    dsimp only [List.cons_append, List.nil_append] at hM hup78
    clear hM2
    refine ⟨_, rfl, fun a hf => ?_⟩
    refine q_ hf rfl rfl rfl (e_assign hf rfl) fun a hf => ?_
    refine pl_nil ?_
    refine then_n ?_
    refine wp_ret ?_
    obtain rfl := some_inj h
    have hM := hM.outs (own' := []) 0 rfl
    exact leave1 hf rfl rfl ⟨rfl, hM.fin, hv75⟩

set_option maxRecDepth 100000 in
set_option maxHeartbeats 4000000 in
theorem r_impl_placedTiles (C : Cx) (b1 : Board) (hp2 : R64 b1.Size) (hp3 : b1.Premium.length ≤ maxLen) (hp4 : b1.Cells.length ≤ maxLen) (p5 : Play) (hp6 : R64 p5.Row) (hp7 : R64 p5.Col) (hp8 : p5.Word.length ≤ maxLen) (r : Str) (h : m_impl_placedTiles b1 p5 = some r) :
    Calls Tryz.prog 49 #[.agg #[vI (b1.Size), vS (b1.Premium), vS (b1.Cells)], .agg #[vI (p5.Row), vI (p5.Col), .bool (p5.Down), vS (p5.Word)]] C.w0 fun e w => e = .returned (vS (r)) ∧ Mem C w [] [] ∧ r.length ≤ maxLen := by
  have hM := Mem.begin C [] trivial
  refine enter Tryz.func49 rfl Tryz.ntmps49 rfl fun a hf => ?_
  unfold m_impl_placedTiles at h
  refine wp_seq ?_
  refine region_pl ?_
  refine pl_l hf rfl rfl rfl (w_box hf hM (cs := [vI (b1.Size), vS (b1.Premium), vS (b1.Cells)]) rfl rfl fun b9 w10 hx11 hM a hf => ?_)
  refine pl_l hf rfl rfl rfl (w_box hf hM (cs := [vI (p5.Row), vI (p5.Col), .bool (p5.Down), vS (p5.Word)]) rfl rfl fun b13 w14 hx15 hM a hf => ?_)
  refine q_ hf rfl rfl rfl (e_assign hf rfl) fun a hf => ?_
  refine pl_nil ?_
  refine then_n ?_
  refine wp_seq ?_
  refine region_pl ?_
  refine q_ hf rfl rfl rfl (e_loadA hf (us := [vI (b1.Size), vS (b1.Premium), vS (b1.Cells)]) rfl ⟨Tryz.isAgg28, Tryz.sizeOf28⟩ rfl (hM.boxSub (k := 1) (us := [vI (b1.Size), vS (b1.Premium), vS (b1.Cells)]) (o := 0) rfl rfl)) fun a hf => ?_
  refine q_ hf rfl rfl rfl (e_loadA hf (us := [vI (p5.Row), vI (p5.Col), .bool (p5.Down), vS (p5.Word)]) rfl ⟨Tryz.isAgg41, Tryz.sizeOf41⟩ rfl (hM.boxSub (k := 0) (us := [vI (p5.Row), vI (p5.Col), .bool (p5.Down), vS (p5.Word)]) (o := 0) rfl rfl)) fun a hf => ?_
  obtain ⟨y17, hz18, h⟩ := bind_some h
  refine pl_l hf rfl rfl rfl (w_call hf Tryz.call107 rfl (r_impl_newSquares ⟨_, Sh C _ _, none_, hM.sh_lt, none_not, C.G, hM.g_lt, g_none, hM.tabs⟩ b1 hp2 hp3 hp4 p5 hp6 hp7 hp8 _ hz18) ?_)
  rintro _ w23 ⟨A19, c20, A21, c22, rfl, hM2⟩
  obtain ⟨hM, hx24, hup25⟩ := hM.back hM2
  dsimp only [List.cons_append, List.nil_append] at hM hup25
  clear hM2
  refine ⟨_, rfl, fun a hf => ?_⟩
  refine q_ hf rfl rfl rfl (e_move hf rfl) fun a hf => ?_
  refine q_ hf rfl rfl rfl (e_extract hf rfl rfl) fun a hf => ?_
  refine q_ hf rfl rfl rfl (e_extract hf rfl rfl) fun a hf => ?_
  refine q_ hf rfl rfl rfl (e_assign hf rfl) fun a hf => ?_
  refine q_ hf rfl rfl rfl (e_assign hf rfl) fun a hf => ?_
  refine pl_nil ?_
  refine then_n ?_
  refine wp_seq ?_
  refine region_pl ?_
  refine pl_l hf rfl rfl rfl (w_slice0 (K := byteRep) hM Tryz.underlying138 ei_5 fun b26 w27 hx28 hM a hf => ?_)
  refine q_ hf rfl rfl rfl (e_assign hf rfl) fun a hf => ?_
  refine pl_nil ?_
  refine then_n ?_
  obtain ⟨x32, h33, h⟩ := bind_some h
  refine seq_join (fun a w => ∃ (xs29 : Str) (A30 : Option Addr) (c31 : Nat), xs29 = x32 ∧ Has 34 a [(7, vL A30 (xs29) c31)] ∧ Mem C w [.row byteRep A30 c31 5 xs29 true, .row SquareRep A19 c20 124 y17.1 true, .row intRep A21 c22 3 y17.2 true, .box b13 [vI (p5.Row), vI (p5.Col), .bool (p5.Down), vS (p5.Word)] 41, .box b9 [vI (b1.Size), vS (b1.Premium), vS (b1.Cells)] 28] []) ?_ ?_
  · refine wp_seq ?_
    refine region_pl ?_
    refine q_ hf rfl rfl rfl (e_move hf rfl) fun a hf => ?_
    have hl34 := row_len (hM.ownAt (k := 2) rfl)
    refine q_ hf rfl rfl rfl (e_lenL hf (x := y17.2) rfl Tryz.underlying135) fun a hf => ?_
    refine q_ hf rfl rfl rfl (e_move hf rfl) fun a hf => ?_
    refine pl_nil ?_
    refine then_n ?_
    refine wp_block ?_
    obtain ⟨x44, h45, h33⟩ := bind_some h33
    refine wp_loopM h45 (fun s a w => ∃ (xs35 : Str) (n38 : Int) (A36 : Option Addr) (c37 : Nat), (xs35, n38) = s ∧ Has 34 a [(3, vP b13 (0)), (7, vL A36 (xs35) c37), (17, vL A21 (y17.2) c22), (18, vI ((y17.2.length : Int))), (19, vI (n38))] ∧ Mem C w [.row byteRep A36 c37 5 xs35 true, .row SquareRep A19 c20 124 y17.1 true, .row intRep A21 c22 3 y17.2 true, .box b13 [vI (p5.Row), vI (p5.Col), .bool (p5.Down), vS (p5.Word)] 41, .box b9 [vI (b1.Size), vS (b1.Premium), vS (b1.Cells)] 28] [] ∧ R64 n38) ?_ ?_
    · exact ⟨([] : Str), 0, (some ⟨b26, 0, none⟩), 0, rfl, hf.keep ⟨rfl, rfl, rfl, rfl, rfl, trivial⟩, hM.pick [] rfl, (R64_lit rfl)⟩
    · rintro s o46 a w40 ⟨xs35, n38, A36, c37, rfl, hf, hM, hv39⟩ h47 hd48
      replace h47 : m_impl_placedTiles_l1 y17 p5 xs35 n38 = some o46 := h47
      unfold m_impl_placedTiles_l1 at h47
      refine wp_seq ?_
      refine region_pl ?_
      refine q_ hf rfl rfl rfl (e_lt hf (x := n38) (y := (y17.2.length : Int)) rfl rfl) fun a hf => ?_
      refine pl_nil ?_
      refine then_n ?_
      refine wp_seq ?_
      rcases cond_some h47 with ⟨hc49, h47⟩ | ⟨hc49, h47⟩
      · refine cond_t hf rfl hc49 ?_
        refine wp_skip ?_
        refine then_n ?_
        refine wp_seq ?_
        refine wp_block ?_
        refine wp_seq ?_
        refine region_pl ?_
        obtain ⟨e50, hz51, h47⟩ := bind_some h47
        obtain ⟨b56, _, hA57, h52, h53, hr54, hcell55⟩ := hM.rowElemN (k := 2) rfl (n := 1) rfl hz51
        obtain ⟨rfl, hv58⟩ := hr54
        refine q_ hf rfl rfl rfl (e_indexAddr (A := A21) (b := b56) (o := 0) (xs := y17.2) (i := n38) hf hA57 rfl rfl Tryz.underlying135 Tryz.sizeOf3 h52 h53) fun a hf => ?_
        refine q_ hf rfl rfl rfl (e_load1 hf rfl Tryz.isAgg3 (hcell55 0 _ rfl)) fun a hf => ?_
        refine q_ hf rfl rfl rfl (e_assign hf rfl) fun a hf => ?_
        refine pl_nil ?_
        refine then_n ?_
        refine region_pl ?_
        refine q_ hf rfl rfl rfl (e_move hf rfl) fun a hf => ?_
        refine q_ hf rfl rfl rfl (e_field hf rfl Tryz.underlying41 rfl Tryz.sizeOf9 (o' := 3) rfl) fun a hf => ?_
        refine q_ hf rfl rfl rfl (e_load1 hf rfl Tryz.isAgg9 (hM.boxCell (k := 3) rfl rfl)) fun a hf => ?_
        refine q_ hf rfl rfl rfl (e_move hf rfl) fun a hf => ?_
        obtain ⟨c59, hz60, h47⟩ := bind_some h47
        refine q_ hf rfl rfl rfl (e_indexS hf (x := p5.Word) rfl rfl Tryz.underlying9 hz60) fun a hf => ?_
        refine pl_l hf rfl rfl rfl (w_slice hf hM (K := byteRep) (xs := ([c59] : Str)) (os := [.tmp 27]) Tryz.underlying138 ei_5 rfl rfl rfl rfl rfl ⟨⟨[vB (c59)], rfl, rfl⟩, trivial⟩ rfl fun b61 w62 hx63 hM a hf => ?_)
        obtain ⟨xs64, hz65, h47⟩ := bind_some h47
        refine pl_l hf rfl rfl rfl (w_append hf hM Tryz.underlying138 ei_5 rfl rfl rfl (k := 1) rfl (hM.srcRow (k := 0) rfl) hz65 fun A66 c67 w68 hM a hf => ?_)
        dsimp only [List.set] at hM
        refine q_ hf rfl rfl rfl (e_assign hf rfl) fun a hf => ?_
        refine pl_nil ?_
        refine blk_n ?_
        refine then_n ?_
        refine region_pl ?_
        obtain ⟨z71, hz72, h47⟩ := bind_some h47
        refine q_ hf rfl rfl rfl (e_add hf rfl rfl hz72) fun a hf => ?_
        refine q_ hf rfl rfl rfl (e_move hf rfl) fun a hf => ?_
        refine pl_nil ?_
        obtain rfl := some_inj h47
        refine then_n ⟨_, rfl, ?_⟩
        exact ⟨xs64, z71, A66, c67, rfl, hf.keep ⟨rfl, rfl, rfl, rfl, rfl, trivial⟩, (hM.drop (.cons _ (.cons_cons _ (.cons_cons _ (.cons_cons _ (.cons_cons _ (.cons_cons _ .slnil))))))).pick [] rfl, (chk_R hz72)⟩
      · refine cond_f hf rfl hc49 ?_
        refine wp_exit ?_
        refine then_x ?_
        obtain rfl := some_inj h47
        obtain rfl := hd48 _ rfl
        try dsimp only at h33
        refine then_x ?_
        refine exit_hit ?_
        obtain rfl := some_inj h33
        refine then_n ?_
        exact ⟨xs35, A36, c37, rfl, hf.keep ⟨rfl, trivial⟩, hM.pick [] rfl⟩
  · rintro a w78 ⟨xs29, A30, c31, rfl, hf, hM⟩
    try dsimp only at h
    refine wp_seq ?_
    refine region_pl ?_
    refine q_ hf rfl rfl rfl (e_move hf rfl) fun a hf => ?_
    have hl79 := row_len (hM.ownAt (k := 0) rfl)
    refine q_ hf rfl rfl rfl (e_bytesStr hf (xs := xs29) rfl Tryz.underlying138 Tryz.underlying5 Tryz.underlying9 (hM.lendRow (k := 0) rfl)) fun a hf => ?_
    obtain ⟨y80, hz81, h⟩ := bind_some h
    refine pl_l hf rfl rfl rfl (w_call hf Tryz.call108 rfl (r_impl_tilesOf ⟨_, Sh C _ _, none_, hM.sh_lt, none_not, C.G, hM.g_lt, g_none, hM.tabs⟩ xs29 hl79 _ hz81) ?_)
    rintro _ w83 ⟨rfl, hM2, hv82⟩
    obtain ⟨hM, hx84, hup85⟩ := hM.back hM2
    dsimp only [List.cons_append, List.nil_append] at hM hup85
    clear hM2
    refine ⟨_, rfl, fun a hf => ?_⟩
    refine q_ hf rfl rfl rfl (e_assign hf rfl) fun a hf => ?_
    refine pl_nil ?_
    refine then_n ?_
    refine wp_ret ?_
    obtain rfl := some_inj h
    have hM := hM.outs (own' := []) 0 rfl
    exact leave1 hf rfl rfl ⟨rfl, hM.fin, hv82⟩

set_option maxRecDepth 100000 in
set_option maxHeartbeats 4000000 in
theorem r_impl_countsOf (C : Cx) (s1 : Str) (hp2 : s1.length ≤ maxLen) (r : (List Int)) (h : m_impl_countsOf s1 = some r) :
    Calls Tryz.prog 104 #[vS (s1)] C.w0 fun e w => e = .returned (.agg (arrV r).toArray) ∧ Mem C w [] [] ∧ ArrOk 27 r := by
  have hM := Mem.begin C [] trivial
  refine enter Tryz.func104 rfl Tryz.ntmps104 rfl fun a hf => ?_
  unfold m_impl_countsOf at h
  refine wp_seq ?_
  refine region_pl ?_
  refine pl_l hf rfl rfl rfl (w_alloc hM (cs := arrV (List.replicate 27 (0 : Int))) Tryz.zeroValue129 rfl fun b3 w4 hx5 hM a hf => ?_)
  refine pl_nil ?_
  refine then_n ?_
  refine wp_seq ?_
  refine region_pl ?_
  refine pl_l hf rfl rfl rfl (w_alloc hM (cs := arrV (List.replicate 27 (0 : Int))) Tryz.zeroValue129 rfl fun b7 w8 hx9 hM a hf => ?_)
  refine pl_nil ?_
  refine then_n ?_
  obtain ⟨x13, h14, h⟩ := bind_some h
  refine seq_join (fun a w => ∃ (xs11 : (List Int)), xs11 = x13 ∧ Has 20 a [(2, vP b3 (0)), (3, vP b7 (0))] ∧ Mem C w [.box b7 (arrV xs11) 129, .box b3 (arrV (List.replicate 27 (0 : Int))) 129] [] ∧ ArrOk 27 xs11) ?_ ?_
  · refine wp_seq ?_
    refine region_pl ?_
    refine q_ hf rfl rfl rfl (e_assign hf rfl) fun a hf => ?_
    refine pl_nil ?_
    refine then_n ?_
    refine wp_block ?_
    obtain ⟨x22, h23, h14⟩ := bind_some h14
    refine wp_loopM h23 (fun s a w => ∃ (xs15 : (List Int)) (n17 : Int), (xs15, n17) = s ∧ Has 20 a [(0, vS (s1)), (2, vP b3 (0)), (3, vP b7 (0)), (4, vI (n17))] ∧ Mem C w [.box b7 (arrV xs15) 129, .box b3 (arrV (List.replicate 27 (0 : Int))) 129] [] ∧ ArrOk 27 xs15 ∧ R64 n17) ?_ ?_
    · exact ⟨(List.replicate 27 (0 : Int)), 0, rfl, hf.keep ⟨rfl, rfl, rfl, rfl, trivial⟩, hM.pick [] rfl, (arr_zero 27), (R64_lit rfl)⟩
    · rintro s o24 a w19 ⟨xs15, n17, rfl, hf, hM, hv16, hv18⟩ h25 hd26
      replace h25 : m_impl_countsOf_l1 s1 xs15 n17 = some o24 := h25
      unfold m_impl_countsOf_l1 at h25
      refine wp_seq ?_
      refine wp_seq ?_
      refine region_pl ?_
      refine q_ hf rfl rfl rfl (e_move hf rfl) fun a hf => ?_
      refine q_ hf rfl rfl rfl (e_move hf rfl) fun a hf => ?_
      refine q_ hf rfl rfl rfl (e_lenS hf (x := s1) rfl Tryz.underlying9) fun a hf => ?_
      refine q_ hf rfl rfl rfl (e_lt hf (x := n17) (y := (s1.length : Int)) rfl rfl) fun a hf => ?_
      refine pl_nil ?_
      refine then_n ?_
      rcases cond_some h25 with ⟨hc27, h25⟩ | ⟨hc27, h25⟩
      · refine cond_t hf rfl hc27 ?_
        refine wp_skip ?_
        refine then_n ?_
        refine wp_seq ?_
        refine wp_block ?_
        refine region_pl ?_
        refine q_ hf rfl rfl rfl (e_move hf rfl) fun a hf => ?_
        refine q_ hf rfl rfl rfl (e_move hf rfl) fun a hf => ?_
        obtain ⟨c28, hz29, h25⟩ := bind_some h25
        refine q_ hf rfl rfl rfl (e_indexS hf (x := s1) rfl rfl Tryz.underlying9 hz29) fun a hf => ?_
        obtain ⟨y30, hz31, h25⟩ := bind_some h25
        refine pl_l hf rfl rfl rfl (w_call hf Tryz.call148 rfl (r_impl_place ⟨_, Sh C _ _, none_, hM.sh_lt, none_not, C.G, hM.g_lt, g_none, hM.tabs⟩ c28 _ hz31) ?_)
        rintro _ w33 ⟨rfl, hM2, hv32⟩
        obtain ⟨hM, hx34, hup35⟩ := hM.back hM2
        dsimp only [List.cons_append, List.nil_append] at hM hup35
        clear hM2
        refine ⟨_, rfl, fun a hf => ?_⟩
        obtain ⟨n36, hz37, h25⟩ := bind_some h25
        refine q_ hf rfl rfl rfl (e_indexAddrArr hf (i := y30) rfl rfl Tryz.underlying129 Tryz.sizeOf3 (arr_in hv16 hz37).1 (arr_in hv16 hz37).2) fun a hf => ?_
        refine q_ hf rfl rfl rfl (e_load1 hf rfl Tryz.isAgg3 (hM.boxCell (k := 0) rfl (arr_at hz37))) fun a hf => ?_
        obtain ⟨z38, hz39, h25⟩ := bind_some h25
        refine q_ hf rfl rfl rfl (e_add hf rfl rfl hz39) fun a hf => ?_
        obtain ⟨n40, hz41, h25⟩ := bind_some h25
        refine q_ hf rfl rfl rfl (e_indexAddrArr hf (i := y30) rfl rfl Tryz.underlying129 Tryz.sizeOf3 (arr_in hv16 hz41).1 (arr_in hv16 hz41).2) fun a hf => ?_
        obtain ⟨xs43, hz44, h25⟩ := bind_some h25
        refine pl_0 hf rfl rfl (w_storeAt hf hM (i := y30) rfl rfl (k := 0) rfl Tryz.sizeOf3 hz44 fun w42 hM => ?_)
        dsimp only [List.set] at hM
        refine pl_nil ?_
        refine blk_n ?_
        refine then_n ?_
        refine region_pl ?_
        refine q_ hf rfl rfl rfl (e_move hf rfl) fun a hf => ?_
        obtain ⟨z45, hz46, h25⟩ := bind_some h25
        refine q_ hf rfl rfl rfl (e_add hf rfl rfl hz46) fun a hf => ?_
        refine q_ hf rfl rfl rfl (e_assign hf rfl) fun a hf => ?_
        refine pl_nil ?_
        obtain rfl := some_inj h25
        refine then_n ⟨_, rfl, ?_⟩
        exact ⟨xs43, z45, rfl, hf.keep ⟨rfl, rfl, rfl, rfl, trivial⟩, hM.pick [] rfl, (arr_set hv16 (chk_R hz39) hz44), (chk_R hz46)⟩
      · refine cond_f hf rfl hc27 ?_
        refine wp_exit ?_
        refine then_x ?_
        obtain rfl := some_inj h25
        obtain rfl := hd26 _ rfl
        try dsimp only at h14
        refine then_x ?_
        refine exit_hit ?_
        obtain rfl := some_inj h14
        refine then_n ?_
        exact ⟨xs15, rfl, hf.keep ⟨rfl, rfl, trivial⟩, hM.pick [] rfl, hv16⟩
  · rintro a w52 ⟨xs11, rfl, hf, hM, hv12⟩
    try dsimp only at h
    refine wp_seq ?_
    refine region_pl ?_
    refine q_ hf rfl rfl rfl (e_loadA hf (us := arrV xs11) rfl ⟨Tryz.isAgg129, Tryz.sizeOf129⟩ (arr_len hv12) (hM.boxSub (k := 0) (us := arrV xs11) (o := 0) rfl (arr_all _))) fun a hf => ?_
    refine pl_0 hf rfl rfl (w_storeArr hf hM rfl rfl (k := 1) rfl (arr_zero 27) hv12 Tryz.sizeOf129 fun w53 hM => ?_)
    dsimp only [List.set] at hM
    refine pl_nil ?_
    refine then_n ?_
    refine wp_ret ?_
    obtain rfl := some_inj h
    have hres54 := leaveV1 (P := Tryz.prog) Tryz.results104 (res_agg hf rfl ⟨Tryz.isAgg129, Tryz.sizeOf129⟩ (us := arrV xs11) (arr_len hv12) (hM.boxSub (k := 1) (o := 0) rfl (arr_all _)))
    have hM := hM.outs (own' := []) 0 rfl
    exact bodyPost_ret hres54 hf.defers ⟨rfl, hM.fin, hv12⟩

set_option maxRecDepth 100000 in
set_option maxHeartbeats 4000000 in
theorem r_impl_counts_less (C : Cx) (c1 : (List Int)) (hp2 : ArrOk 27 c1) (d3 : (List Int)) (hp4 : ArrOk 27 d3) (r : ((List Int) × Bool)) (h : m_impl_counts_less c1 d3 = some r) :
    Calls Tryz.prog 105 #[.agg (arrV c1).toArray, .agg (arrV d3).toArray] C.w0 fun e w => e = .returned (.tuple #[.agg (arrV r.1).toArray, .bool (r.2)]) ∧ Mem C w [] [] ∧ ArrOk 27 r.1 := by
  have hM := Mem.begin C [] trivial
  refine enter Tryz.func105 rfl Tryz.ntmps105 rfl fun a hf => ?_
  unfold m_impl_counts_less at h
  refine wp_seq ?_
  refine region_pl ?_
  refine pl_l hf rfl rfl rfl (w_box hf hM (cs := arrV c1) rfl rfl fun b5 w6 hx7 hM a hf => ?_)
  refine pl_l hf rfl rfl rfl (w_box hf hM (cs := arrV d3) rfl rfl fun b9 w10 hx11 hM a hf => ?_)
  refine pl_l hf rfl rfl rfl (w_alloc hM (cs := arrV (List.replicate 27 (0 : Int))) Tryz.zeroValue129 rfl fun b13 w14 hx15 hM a hf => ?_)
  refine q_ hf rfl rfl rfl (e_assign hf rfl) fun a hf => ?_
  refine pl_nil ?_
  refine then_n ?_
  obtain ⟨x19, h20, h⟩ := bind_some h
  refine seq_join (fun a w => ∃ (xs17 : (List Int)), (.inl xs17) = x19 ∧ Has 26 a [(2, vP b5 (0)), (4, vP b13 (0))] ∧ Mem C w [.box b13 (arrV (List.replicate 27 (0 : Int))) 129, .box b9 (arrV d3) 129, .box b5 (arrV xs17) 129] [] ∧ ArrOk 27 xs17) ?_ ?_
  · refine wp_seq ?_
    refine region_pl ?_
    refine q_ hf rfl rfl rfl (e_loadA hf (us := arrV d3) rfl ⟨Tryz.isAgg129, Tryz.sizeOf129⟩ (arr_len hp4) (hM.boxSub (k := 1) (us := arrV d3) (o := 0) rfl (arr_all _))) fun a hf => ?_
    refine q_ hf rfl rfl rfl (e_move hf rfl) fun a hf => ?_
    refine pl_nil ?_
    refine then_n ?_
    refine wp_block ?_
    obtain ⟨x28, h29, h20⟩ := bind_some h20
    refine wp_loopM h29 (fun s a w => ∃ (xs21 : (List Int)) (n23 : Int), (xs21, n23) = s ∧ Has 26 a [(2, vP b5 (0)), (4, vP b13 (0)), (8, .agg (arrV d3).toArray), (9, vI (n23))] ∧ Mem C w [.box b13 (arrV (List.replicate 27 (0 : Int))) 129, .box b9 (arrV d3) 129, .box b5 (arrV xs21) 129] [] ∧ ArrOk 27 xs21 ∧ R64 n23) ?_ ?_
    · exact ⟨c1, 0, rfl, hf.keep ⟨rfl, rfl, rfl, rfl, trivial⟩, hM.pick [] rfl, hp2, (R64_lit rfl)⟩
    · rintro s o30 a w25 ⟨xs21, n23, rfl, hf, hM, hv22, hv24⟩ h31 hd32
      replace h31 : m_impl_counts_less_l1 d3 xs21 n23 = some o30 := h31
      unfold m_impl_counts_less_l1 at h31
      refine wp_seq ?_
      refine region_pl ?_
      refine q_ hf rfl rfl rfl (e_lt hf (x := n23) (y := 27) rfl rfl) fun a hf => ?_
      refine pl_nil ?_
      refine then_n ?_
      refine wp_seq ?_
      rcases cond_some h31 with ⟨hc33, h31⟩ | ⟨hc33, h31⟩
      · refine cond_t hf rfl hc33 ?_
        refine wp_skip ?_
        refine then_n ?_
        refine wp_seq ?_
        refine wp_block ?_
        refine wp_seq ?_
        refine region_pl ?_
        refine q_ hf rfl rfl rfl (e_move hf rfl) fun a hf => ?_
        obtain ⟨n34, hz35, h31⟩ := bind_some h31
        refine q_ hf rfl rfl rfl (e_indexArr hf hp4 rfl rfl Tryz.underlying129 Tryz.isAgg3 Tryz.sizeOf3 hz35) fun a hf => ?_
        refine q_ hf rfl rfl rfl (e_assign hf rfl) fun a hf => ?_
        refine q_ hf rfl rfl rfl (e_assign hf rfl) fun a hf => ?_
        refine pl_nil ?_
        refine then_n ?_
        refine wp_seq ?_
        refine region_pl ?_
        refine q_ hf rfl rfl rfl (e_move hf rfl) fun a hf => ?_
        obtain ⟨n36, hz37, h31⟩ := bind_some h31
        refine q_ hf rfl rfl rfl (e_indexAddrArr hf (i := n23) rfl rfl Tryz.underlying129 Tryz.sizeOf3 (arr_in hv22 hz37).1 (arr_in hv22 hz37).2) fun a hf => ?_
        refine q_ hf rfl rfl rfl (e_load1 hf rfl Tryz.isAgg3 (hM.boxCell (k := 2) rfl (arr_at hz37))) fun a hf => ?_
        refine q_ hf rfl rfl rfl (e_move hf rfl) fun a hf => ?_
        obtain ⟨z38, hz39, h31⟩ := bind_some h31
        refine q_ hf rfl rfl rfl (e_sub hf rfl rfl hz39) fun a hf => ?_
        obtain ⟨n40, hz41, h31⟩ := bind_some h31
        refine q_ hf rfl rfl rfl (e_indexAddrArr hf (i := n23) rfl rfl Tryz.underlying129 Tryz.sizeOf3 (arr_in hv22 hz41).1 (arr_in hv22 hz41).2) fun a hf => ?_
        obtain ⟨xs43, hz44, h31⟩ := bind_some h31
        refine pl_0 hf rfl rfl (w_storeAt hf hM (i := n23) rfl rfl (k := 2) rfl Tryz.sizeOf3 hz44 fun w42 hM => ?_)
        dsimp only [List.set] at hM
        refine pl_nil ?_
        refine then_n ?_
        refine wp_seq ?_
        refine region_pl ?_
        refine q_ hf rfl rfl rfl (e_move hf rfl) fun a hf => ?_
        obtain ⟨n45, hz46, h31⟩ := bind_some h31
        refine q_ hf rfl rfl rfl (e_indexAddrArr hf (i := n23) rfl rfl Tryz.underlying129 Tryz.sizeOf3 (arr_in (arr_set hv22 (chk_R hz39) hz44) hz46).1 (arr_in (arr_set hv22 (chk_R hz39) hz44) hz46).2) fun a hf => ?_
        refine q_ hf rfl rfl rfl (e_load1 hf rfl Tryz.isAgg3 (hM.boxCell (k := 2) rfl (arr_at hz46))) fun a hf => ?_
        refine q_ hf rfl rfl rfl (e_lt hf (x := n45) (y := 0) rfl rfl) fun a hf => ?_
        refine pl_nil ?_
        refine then_n ?_
        rcases cond_some h31 with ⟨hc47, h31⟩ | ⟨hc47, h31⟩
        · refine cond_t hf rfl hc47 ?_
          refine wp_seq ?_
          refine region_pl ?_
          refine q_ hf rfl rfl rfl (e_buildArr hf (cs := arrV (List.replicate 27 (0 : Int))) Tryz.zeroValue129 Tryz.underlying129 Tryz.sizeOf3 rfl) fun a hf => ?_
          refine pl_0 hf rfl rfl (w_storeArr hf hM rfl rfl (k := 0) rfl (arr_zero 27) (arr_zero 27) Tryz.sizeOf129 fun w48 hM => ?_)
          dsimp only [List.set] at hM
          refine q_ hf rfl rfl rfl (e_assign hf rfl) fun a hf => ?_
          refine pl_nil ?_
          refine then_n ?_
          refine wp_ret ?_
          refine blk_r ?_
          refine then_r ?_
          obtain rfl := some_inj h31
          obtain rfl := hd32 _ rfl
          try dsimp only at h20
          refine then_r ?_
          refine blk_r ?_
          obtain rfl := some_inj h20
          try dsimp only at h
          refine then_r ?_
          obtain rfl := some_inj h
          have hres51 := leaveV2 (P := Tryz.prog) Tryz.results105 (res_agg hf rfl ⟨Tryz.isAgg129, Tryz.sizeOf129⟩ (us := arrV (List.replicate 27 (0 : Int))) (arr_len (arr_zero 27)) (hM.boxSub (k := 0) (o := 0) rfl (arr_all _))) (res_tmp hf rfl)
          have hM := hM.outs (own' := []) 0 rfl
          exact bodyPost_ret hres51 hf.defers ⟨rfl, hM.fin, (arr_zero 27)⟩
        · refine cond_f hf rfl hc47 ?_
          refine wp_skip ?_
          refine blk_n ?_
          refine then_n ?_
          refine region_pl ?_
          obtain ⟨z52, hz53, h31⟩ := bind_some h31
          refine q_ hf rfl rfl rfl (e_add hf rfl rfl hz53) fun a hf => ?_
          refine q_ hf rfl rfl rfl (e_move hf rfl) fun a hf => ?_
          refine pl_nil ?_
          obtain rfl := some_inj h31
          refine then_n ⟨_, rfl, ?_⟩
          exact ⟨xs43, z52, rfl, hf.keep ⟨rfl, rfl, rfl, rfl, trivial⟩, hM.pick [] rfl, (arr_set hv22 (chk_R hz39) hz44), (chk_R hz53)⟩
      · refine cond_f hf rfl hc33 ?_
        refine wp_exit ?_
        refine then_x ?_
        obtain rfl := some_inj h31
        obtain rfl := hd32 _ rfl
        try dsimp only at h20
        refine then_x ?_
        refine exit_hit ?_
        obtain rfl := some_inj h20
        refine then_n ?_
        exact ⟨xs21, rfl, hf.keep ⟨rfl, rfl, trivial⟩, hM.pick [] rfl, hv22⟩
  · rintro a w60 ⟨xs17, rfl, hf, hM, hv18⟩
    try dsimp only at h
    refine wp_seq ?_
    refine region_pl ?_
    refine q_ hf rfl rfl rfl (e_loadA hf (us := arrV xs17) rfl ⟨Tryz.isAgg129, Tryz.sizeOf129⟩ (arr_len hv18) (hM.boxSub (k := 2) (us := arrV xs17) (o := 0) rfl (arr_all _))) fun a hf => ?_
    refine pl_0 hf rfl rfl (w_storeArr hf hM rfl rfl (k := 0) rfl (arr_zero 27) hv18 Tryz.sizeOf129 fun w61 hM => ?_)
    dsimp only [List.set] at hM
    refine q_ hf rfl rfl rfl (e_assign hf rfl) fun a hf => ?_
    refine pl_nil ?_
    refine then_n ?_
    refine wp_ret ?_
    obtain rfl := some_inj h
    have hres62 := leaveV2 (P := Tryz.prog) Tryz.results105 (res_agg hf rfl ⟨Tryz.isAgg129, Tryz.sizeOf129⟩ (us := arrV xs17) (arr_len hv18) (hM.boxSub (k := 0) (o := 0) rfl (arr_all _))) (res_tmp hf rfl)
    have hM := hM.outs (own' := []) 0 rfl
    exact bodyPost_ret hres62 hf.defers ⟨rfl, hM.fin, hv18⟩

set_option maxRecDepth 100000 in
set_option maxHeartbeats 4000000 in
theorem r_impl_without (C : Cx) (a1 : Str) (hp2 : a1.length ≤ maxLen) (b3 : Str) (hp4 : b3.length ≤ maxLen) (r : (Str × Bool)) (h : m_impl_without a1 b3 = some r) :
    Calls Tryz.prog 48 #[vS (a1), vS (b3)] C.w0 fun e w => e = .returned (.tuple #[vS (r.1), .bool (r.2)]) ∧ Mem C w [] [] ∧ r.1.length ≤ maxLen := by
  have hM := Mem.begin C [] trivial
  refine enter Tryz.func48 rfl Tryz.ntmps48 rfl fun a hf => ?_
  unfold m_impl_without at h
  refine wp_seq ?_
  refine region_pl ?_
  refine q_ hf rfl rfl rfl (e_assign hf rfl) fun a hf => ?_
  refine q_ hf rfl rfl rfl (e_assign hf rfl) fun a hf => ?_
  refine pl_nil ?_
  refine then_n ?_
  refine wp_seq ?_
  refine region_pl ?_
  refine q_ hf rfl rfl rfl (e_move hf rfl) fun a hf => ?_
  obtain ⟨y5, hz6, h⟩ := bind_some h
  refine pl_l hf rfl rfl rfl (w_call hf Tryz.call104 rfl (r_impl_countsOf ⟨_, Sh C _ _, none_, hM.sh_lt, none_not, C.G, hM.g_lt, g_none, hM.tabs⟩ a1 hp2 _ hz6) ?_)
  rintro _ w8 ⟨rfl, hM2, hv7⟩
  obtain ⟨hM, hx9, hup10⟩ := hM.back hM2
  dsimp only [List.cons_append, List.nil_append] at hM hup10
  clear hM2
  refine ⟨_, rfl, fun a hf => ?_⟩
  refine q_ hf rfl rfl rfl (e_move hf rfl) fun a hf => ?_
  obtain ⟨y11, hz12, h⟩ := bind_some h
  refine pl_l hf rfl rfl rfl (w_call hf Tryz.call104 rfl (r_impl_countsOf ⟨_, Sh C _ _, none_, hM.sh_lt, none_not, C.G, hM.g_lt, g_none, hM.tabs⟩ b3 hp4 _ hz12) ?_)
  rintro _ w14 ⟨rfl, hM2, hv13⟩
  obtain ⟨hM, hx15, hup16⟩ := hM.back hM2
  dsimp only [List.cons_append, List.nil_append] at hM hup16
  clear hM2
  refine ⟨_, rfl, fun a hf => ?_⟩
  obtain ⟨y17, hz18, h⟩ := bind_some h
  refine pl_l hf rfl rfl rfl (w_call hf Tryz.call105 rfl (r_impl_counts_less ⟨_, Sh C _ _, none_, hM.sh_lt, none_not, C.G, hM.g_lt, g_none, hM.tabs⟩ y5 hv7 y11 hv13 _ hz18) ?_)
  rintro _ w20 ⟨rfl, hM2, hv19⟩
  obtain ⟨hM, hx21, hup22⟩ := hM.back hM2
  dsimp only [List.cons_append, List.nil_append] at hM hup22
  clear hM2
  refine ⟨_, rfl, fun a hf => ?_⟩
  refine q_ hf rfl rfl rfl (e_move hf rfl) fun a hf => ?_
  refine q_ hf rfl rfl rfl (e_extract hf rfl rfl) fun a hf => ?_
  refine q_ hf rfl rfl rfl (e_extract hf rfl rfl) fun a hf => ?_
  refine pl_l hf rfl rfl rfl (w_alloc hM (cs := arrV (List.replicate 27 (0 : Int))) Tryz.zeroValue129 rfl fun b23 w24 hx25 hM a hf => ?_)
  refine pl_0 hf rfl rfl (w_storeArr hf hM rfl rfl (k := 0) rfl (arr_zero 27) hv19 Tryz.sizeOf129 fun w27 hM => ?_)
  dsimp only [List.set] at hM
  refine q_ hf rfl rfl rfl (e_assign hf rfl) fun a hf => ?_
  refine pl_nil ?_
  refine then_n ?_
  refine wp_seq ?_
  refine region_pl ?_
  refine q_ hf rfl rfl rfl (e_loadA hf (us := arrV y17.1) rfl ⟨Tryz.isAgg129, Tryz.sizeOf129⟩ (arr_len hv19) (hM.boxSub (k := 0) (us := arrV y17.1) (o := 0) rfl (arr_all _))) fun a hf => ?_
  obtain ⟨y28, hz29, h⟩ := bind_some h
  refine pl_l hf rfl rfl rfl (w_call hf Tryz.call106 rfl (r_impl_counts_pile ⟨_, Sh C _ _, none_, hM.sh_lt, none_not, C.G, hM.g_lt, g_none, hM.tabs⟩ y17.1 hv19 _ hz29) ?_)
  rintro _ w31 ⟨rfl, hM2, hv30⟩
  obtain ⟨hM, hx32, hup33⟩ := hM.back hM2
  dsimp only [List.cons_append, List.nil_append] at hM hup33
  clear hM2
  refine ⟨_, rfl, fun a hf => ?_⟩
  refine q_ hf rfl rfl rfl (e_move hf rfl) fun a hf => ?_
  refine q_ hf rfl rfl rfl (e_assign hf rfl) fun a hf => ?_
  refine q_ hf rfl rfl rfl (e_assign hf rfl) fun a hf => ?_
  refine pl_nil ?_
  refine then_n ?_
  refine wp_ret ?_
  obtain rfl := some_inj h
  have hM := hM.outs (own' := []) 0 rfl
  exact leave2 hf rfl rfl rfl ⟨rfl, hM.fin, hv30⟩

set_option maxRecDepth 100000 in
set_option maxHeartbeats 4000000 in
theorem r_impl_made (C : Cx) (b1 : Board) (hp2 : R64 b1.Size) (hp3 : b1.Premium.length ≤ maxLen) (hp4 : b1.Cells.length ≤ maxLen) (p5 : Play) (hp6 : R64 p5.Row) (hp7 : R64 p5.Col) (hp8 : p5.Word.length ≤ maxLen) (r : Board) (h : m_impl_made b1 p5 = some r) :
    Calls Tryz.prog 110 #[.agg #[vI (b1.Size), vS (b1.Premium), vS (b1.Cells)], .agg #[vI (p5.Row), vI (p5.Col), .bool (p5.Down), vS (p5.Word)]] C.w0 fun e w => e = .returned (.agg #[vI (r.Size), vS (r.Premium), vS (r.Cells)]) ∧ Mem C w [] [] ∧ R64 r.Size ∧ r.Premium.length ≤ maxLen ∧ r.Cells.length ≤ maxLen := by
  have hM := Mem.begin C [] trivial
  refine enter Tryz.func110 rfl Tryz.ntmps110 rfl fun a hf => ?_
  unfold m_impl_made at h
  refine wp_seq ?_
  refine region_pl ?_
  refine pl_l hf rfl rfl rfl (w_box hf hM (cs := [vI (b1.Size), vS (b1.Premium), vS (b1.Cells)]) rfl rfl fun b9 w10 hx11 hM a hf => ?_)
  refine pl_l hf rfl rfl rfl (w_box hf hM (cs := [vI (p5.Row), vI (p5.Col), .bool (p5.Down), vS (p5.Word)]) rfl rfl fun b13 w14 hx15 hM a hf => ?_)
  refine pl_l hf rfl rfl rfl (w_alloc hM (cs := [vI (0), vS (([] : Str)), vS (([] : Str))]) Tryz.zeroValue28 rfl fun b17 w18 hx19 hM a hf => ?_)
  refine pl_nil ?_
  refine then_n ?_
  refine wp_seq ?_
  refine region_pl ?_
  refine q_ hf rfl rfl rfl (e_field hf rfl Tryz.underlying28 rfl Tryz.sizeOf9 (o' := 2) rfl) fun a hf => ?_
  refine q_ hf rfl rfl rfl (e_load1 hf rfl Tryz.isAgg9 (hM.boxCell (k := 2) rfl rfl)) fun a hf => ?_
  refine pl_l hf rfl rfl rfl (w_bytes hf hM (x := b1.Cells) rfl Tryz.underlying9 Tryz.underlying138 Tryz.underlying5 hp4 fun A21 c22 w23 hx24 hM a hf => ?_)
  refine q_ hf rfl rfl rfl (e_assign hf rfl) fun a hf => ?_
  refine pl_nil ?_
  refine then_n ?_
  obtain ⟨x26, h27, h⟩ := bind_some h
  refine seq_join (fun a w => ∃ (xs25 : Str), xs25 = x26 ∧ Has 38 a [(2, vP b9 (0)), (4, vP b17 (0)), (5, vL A21 (xs25) c22)] ∧ Mem C w [.row byteRep A21 c22 5 xs25 false, .box b17 [vI (0), vS (([] : Str)), vS (([] : Str))] 28, .box b13 [vI (p5.Row), vI (p5.Col), .bool (p5.Down), vS (p5.Word)] 41, .box b9 [vI (b1.Size), vS (b1.Premium), vS (b1.Cells)] 28] []) ?_ ?_
  · refine wp_seq ?_
    refine region_pl ?_
    refine q_ hf rfl rfl rfl (e_field hf rfl Tryz.underlying41 rfl Tryz.sizeOf9 (o' := 3) rfl) fun a hf => ?_
    refine q_ hf rfl rfl rfl (e_load1 hf rfl Tryz.isAgg9 (hM.boxCell (k := 2) rfl rfl)) fun a hf => ?_
    refine pl_l hf rfl rfl rfl (w_range hf hM (x := p5.Word) rfl Tryz.underlying9 fun b28 w29 hx30 hM a hf => ?_)
    refine pl_nil ?_
    refine then_n ?_
    refine wp_block ?_
    obtain ⟨x36, h37, h27⟩ := bind_some h27
    refine wp_loopM h37 (fun s a w => ∃ (pos31 : Nat) (xs32 : Str), (pos31, xs32) = s ∧ Has 38 a [(2, vP b9 (0)), (3, vP b13 (0)), (4, vP b17 (0)), (5, vL A21 (xs32) c22), (13, vP b28 0)] ∧ Mem C w [.obj b28 (.stringIter ⟨List.toArray p5.Word⟩ pos31), .row byteRep A21 c22 5 xs32 false, .box b17 [vI (0), vS (([] : Str)), vS (([] : Str))] 28, .box b13 [vI (p5.Row), vI (p5.Col), .bool (p5.Down), vS (p5.Word)] 41, .box b9 [vI (b1.Size), vS (b1.Premium), vS (b1.Cells)] 28] []) ?_ ?_
    · exact ⟨0, b1.Cells, rfl, hf.keep ⟨rfl, rfl, rfl, rfl, rfl, trivial⟩, hM.pick [] rfl⟩
    · rintro s o38 a w33 ⟨pos31, xs32, rfl, hf, hM⟩ h39 hd40
      replace h39 : m_impl_made_l1 p5 b1 pos31 xs32 = some o38 := h39
      unfold m_impl_made_l1 at h39
      refine wp_seq ?_
      refine region_pl ?_
      rcases cond_some h39 with ⟨hc41, h39⟩ | ⟨hc41, h39⟩
      · refine pl_l hf rfl rfl rfl (w_next hf hM rfl (k := 0) rfl hc41 fun w42 hM a hf => ?_)
        dsimp only [List.set] at hM
        refine q_ hf rfl rfl rfl (e_extract hf rfl rfl) fun a hf => ?_
        refine pl_nil ?_
        refine then_n ?_
        refine wp_seq ?_
        refine cond_t hf rfl rfl ?_
        refine wp_skip ?_
        refine then_n ?_
        refine wp_block ?_
        refine wp_seq ?_
        refine region_pl ?_
        refine q_ hf rfl rfl rfl (e_extract hf rfl rfl) fun a hf => ?_
        refine q_ hf rfl rfl rfl (e_assign hf rfl) fun a hf => ?_
        refine pl_nil ?_
        refine then_n ?_
        refine wp_seq ?_
        refine region_pl ?_
        refine q_ hf rfl rfl rfl (e_loadA hf (us := [vI (p5.Row), vI (p5.Col), .bool (p5.Down), vS (p5.Word)]) rfl ⟨Tryz.isAgg41, Tryz.sizeOf41⟩ rfl (hM.boxSub (k := 3) (us := [vI (p5.Row), vI (p5.Col), .bool (p5.Down), vS (p5.Word)]) (o := 0) rfl rfl)) fun a hf => ?_
        refine q_ hf rfl rfl rfl (e_move hf rfl) fun a hf => ?_
        obtain ⟨y44, hz45, h39⟩ := bind_some h39
        refine pl_l hf rfl rfl rfl (w_call hf Tryz.call101 rfl (r_impl_Play_square ⟨_, Sh C _ _, none_, hM.sh_lt, none_not, C.G, hM.g_lt, g_none, hM.tabs⟩ p5 hp6 hp7 hp8 (pos31 : Int) (R64_pos hc41 hp8) _ hz45) ?_)
        rintro _ w48 ⟨rfl, hM2, hv46, hv47⟩
        obtain ⟨hM, hx49, hup50⟩ := hM.back hM2
        dsimp only [List.cons_append, List.nil_append] at hM hup50
        clear hM2
        refine ⟨_, rfl, fun a hf => ?_⟩
        refine pl_l hf rfl rfl rfl (w_alloc hM (cs := [vI (0), vI (0)]) Tryz.zeroValue124 rfl fun b51 w52 hx53 hM a hf => ?_)
        refine pl_0 hf rfl rfl (w_store hf hM (us := [vI (y44.Row), vI (y44.Col)]) (cs' := [vI (y44.Row), vI (y44.Col)]) rfl rfl (k := 0) rfl rfl Tryz.sizeOf124 rfl rfl rfl fun w55 hM => ?_)
        dsimp only [List.set] at hM
        refine pl_nil ?_
        refine then_n ?_
        obtain ⟨w58, hw⟩ : ∃ x, x = w55.drew := ⟨_, rfl⟩
        refine region_pi (.q 0 (.q 1 (.q 2 (.q 3 (.q 4 (.q 5 (.q 6 (.q 7 (.q 8 (.q 9 (.q 10 (.q 11 (.q 12 (.q 13 (.l 14 (.nil)))))))))))))))) (Ext w58) rfl (by kernel_rfl) ?_
        have hM := hM.drew
        rw [← hw] at hM ⊢
        clear hw
        refine pi_q hf rfl rfl rfl rfl (Ext.refl _) (e_move hf rfl) fun a hf => ?_
        refine pi_q hf rfl rfl rfl rfl (Ext.refl _) (e_field hf rfl Tryz.underlying124 rfl Tryz.sizeOf2 (o' := 0) rfl) fun a hf => ?_
        refine pi_q hf rfl rfl rfl rfl (Ext.refl _) (e_load1 hf rfl Tryz.isAgg2 (hM.boxCell (k := 0) rfl rfl)) fun a hf => ?_
        refine pi_q hf rfl rfl rfl rfl (Ext.refl _) (e_field hf rfl Tryz.underlying28 rfl Tryz.sizeOf2 (o' := 0) rfl) fun a hf => ?_
        refine pi_q hf rfl rfl rfl rfl (Ext.refl _) (e_load1 hf rfl Tryz.isAgg2 (hM.boxCell (k := 5) rfl rfl)) fun a hf => ?_
        obtain ⟨z59, hz60, h39⟩ := bind_some h39
        refine pi_q hf rfl rfl rfl rfl (Ext.refl _) (e_mul hf rfl rfl hz60) fun a hf => ?_
        refine pi_q hf rfl rfl rfl rfl (Ext.refl _) (e_field hf rfl Tryz.underlying124 rfl Tryz.sizeOf2 (o' := 1) rfl) fun a hf => ?_
        refine pi_q hf rfl rfl rfl rfl (Ext.refl _) (e_load1 hf rfl Tryz.isAgg2 (hM.boxCell (k := 0) rfl rfl)) fun a hf => ?_
        obtain ⟨z61, hz62, h39⟩ := bind_some h39
        refine pi_q hf rfl rfl rfl rfl (Ext.refl _) (e_add hf rfl rfl hz62) fun a hf => ?_
        refine pi_q hf rfl rfl rfl rfl (Ext.refl _) (e_field hf rfl Tryz.underlying41 rfl Tryz.sizeOf9 (o' := 3) rfl) fun a hf => ?_
        refine pi_q hf rfl rfl rfl rfl (Ext.refl _) (e_load1 hf rfl Tryz.isAgg9 (hM.boxCell (k := 4) rfl rfl)) fun a hf => ?_
        refine pi_q hf rfl rfl rfl rfl (Ext.refl _) (e_move hf rfl) fun a hf => ?_
        obtain ⟨c63, hz64, h39⟩ := bind_some h39
        refine pi_q hf rfl rfl rfl rfl (Ext.refl _) (e_indexS hf (x := p5.Word) rfl rfl Tryz.underlying9 hz64) fun a hf => ?_
        obtain ⟨e65, hz66, h39⟩ := bind_some h39
        obtain ⟨b71, _, hA72, h67, h68, hr69, hcell70⟩ := hM.rowElemN (k := 2) rfl (n := 1) rfl hz66
        obtain rfl : _ = _ := hr69
        refine pi_q hf rfl rfl rfl rfl (Ext.refl _) (e_indexAddr (A := A21) (b := b71) (o := 0) (xs := xs32) (i := z61) hf hA72 rfl rfl Tryz.underlying138 Tryz.sizeOf5 h67 h68) fun a hf => ?_
        refine pi_one ?_
        obtain ⟨xs74, hz75, h39⟩ := bind_some h39
        refine pi_z0 hf rfl rfl rfl (by kernel_rfl) (w_storeElem hf hM (x := c63) (row := [vB (c63)]) (i := z61) rfl rfl rfl hA72 (k := 2) rfl rfl Tryz.sizeOf5 rfl hz75 fun w73 hM => ?_)
        dsimp only [List.set] at hM
        have hf := hf.alter (d := 5) (v := vL A21 (xs74) c22) rfl (vL_len (setL_len hz75))
        have hf := hf.alter (d := 20) (v := vL A21 (xs74) c22) rfl (vL_len (setL_len hz75))
        refine pi_nil ?_
        refine blk_n ?_
        obtain rfl := some_inj h39
        refine then_n ⟨_, rfl, ?_⟩
        exact ⟨(pos31 + runeW p5.Word pos31), xs74, rfl, hf.keep ⟨rfl, rfl, rfl, rfl, rfl, trivial⟩, (hM.drop (.cons _ (.cons_cons _ (.cons_cons _ (.cons_cons _ (.cons_cons _ (.cons_cons _ .slnil))))))).pick [] rfl⟩
      · refine pl_l hf rfl rfl rfl (w_nextEnd hf hM rfl (k := 0) rfl hc41 fun w77 hx78 hM a hf => ?_)
        refine q_ hf rfl rfl rfl (e_extract hf rfl rfl) fun a hf => ?_
        refine pl_nil ?_
        refine then_n ?_
        refine wp_seq ?_
        refine cond_f hf rfl rfl ?_
        refine wp_exit ?_
        refine then_x ?_
        obtain rfl := some_inj h39
        obtain rfl := hd40 _ rfl
        try dsimp only at h27
        refine then_x ?_
        refine exit_hit ?_
        obtain rfl := some_inj h27
        refine then_n ?_
        exact ⟨xs32, rfl, hf.keep ⟨rfl, rfl, rfl, trivial⟩, (hM.drop (.cons _ (.cons_cons _ (.cons_cons _ (.cons_cons _ (.cons_cons _ .slnil)))))).pick [] rfl⟩
  · rintro a w83 ⟨xs25, rfl, hf, hM⟩
    try dsimp only at h
    refine wp_seq ?_
    refine region_pl ?_
    refine q_ hf rfl rfl rfl (e_move hf rfl) fun a hf => ?_
    have hl84 := row_len (hM.ownAt (k := 0) rfl)
    refine q_ hf rfl rfl rfl (e_bytesStr hf (xs := xs25) rfl Tryz.underlying138 Tryz.underlying5 Tryz.underlying9 (hM.lendRow (k := 0) rfl)) fun a hf => ?_
    refine q_ hf rfl rfl rfl (e_field hf rfl Tryz.underlying28 rfl Tryz.sizeOf9 (o' := 2) rfl) fun a hf => ?_
    refine pl_0 hf rfl rfl (w_store hf hM (us := [vS (xs25)]) (cs' := [vI (b1.Size), vS (b1.Premium), vS (xs25)]) rfl rfl (k := 3) rfl rfl Tryz.sizeOf9 rfl rfl rfl fun w85 hM => ?_)
    dsimp only [List.set] at hM
    refine pl_nil ?_
    refine then_n ?_
    refine wp_seq ?_
    refine region_pl ?_
    refine q_ hf rfl rfl rfl (e_loadA hf (us := [vI (b1.Size), vS (b1.Premium), vS (xs25)]) rfl ⟨Tryz.isAgg28, Tryz.sizeOf28⟩ rfl (hM.boxSub (k := 3) (us := [vI (b1.Size), vS (b1.Premium), vS (xs25)]) (o := 0) rfl rfl)) fun a hf => ?_
    refine pl_0 hf rfl rfl (w_store hf hM (us := [vI (b1.Size), vS (b1.Premium), vS (xs25)]) (cs' := [vI (b1.Size), vS (b1.Premium), vS (xs25)]) rfl rfl (k := 1) rfl rfl Tryz.sizeOf28 rfl rfl rfl fun w88 hM => ?_)
    dsimp only [List.set] at hM
    refine pl_nil ?_
    refine then_n ?_
    refine wp_ret ?_
    obtain rfl := some_inj h
    have hres91 := leaveV1 (P := Tryz.prog) Tryz.results110 (res_agg hf rfl ⟨Tryz.isAgg28, Tryz.sizeOf28⟩ (us := [vI (b1.Size), vS (b1.Premium), vS (xs25)]) rfl (hM.boxSub (k := 1) (o := 0) rfl rfl))
    have hM := hM.outs (own' := []) 0 rfl
    exact bodyPost_ret hres91 hf.defers ⟨rfl, hM.fin, hp2, hp3, hl84⟩

set_option maxRecDepth 100000 in
set_option maxHeartbeats 4000000 in
theorem r_impl_sorted (C : Cx) (s1 : Str) (hp2 : s1.length ≤ maxLen) (r : Str) (h : m_impl_sorted s1 = some r) :
    Calls Tryz.prog 111 #[vS (s1)] C.w0 fun e w => e = .returned (vS (r)) ∧ Mem C w [] [] ∧ r.length ≤ maxLen := by
  have hM := Mem.begin C [] trivial
  refine enter Tryz.func111 rfl Tryz.ntmps111 rfl fun a hf => ?_
  unfold m_impl_sorted at h
  refine wp_seq ?_
  refine region_pl ?_
  refine q_ hf rfl rfl rfl (e_assign hf rfl) fun a hf => ?_
  refine pl_nil ?_
  refine then_n ?_
  refine wp_seq ?_
  refine region_pl ?_
  refine q_ hf rfl rfl rfl (e_move hf rfl) fun a hf => ?_
  obtain ⟨y3, hz4, h⟩ := bind_some h
  refine pl_l hf rfl rfl rfl (w_call hf Tryz.call104 rfl (r_impl_countsOf ⟨_, Sh C _ _, none_, hM.sh_lt, none_not, C.G, hM.g_lt, g_none, hM.tabs⟩ s1 hp2 _ hz4) ?_)
  rintro _ w6 ⟨rfl, hM2, hv5⟩
  obtain ⟨hM, hx7, hup8⟩ := hM.back hM2
  dsimp only [List.cons_append, List.nil_append] at hM hup8
  clear hM2
  refine ⟨_, rfl, fun a hf => ?_⟩
  obtain ⟨y9, hz10, h⟩ := bind_some h
  refine pl_l hf rfl rfl rfl (w_call hf Tryz.call106 rfl (r_impl_counts_pile ⟨_, Sh C _ _, none_, hM.sh_lt, none_not, C.G, hM.g_lt, g_none, hM.tabs⟩ y3 hv5 _ hz10) ?_)
  rintro _ w12 ⟨rfl, hM2, hv11⟩
  obtain ⟨hM, hx13, hup14⟩ := hM.back hM2
  dsimp only [List.cons_append, List.nil_append] at hM hup14
  clear hM2
  refine ⟨_, rfl, fun a hf => ?_⟩
  refine q_ hf rfl rfl rfl (e_assign hf rfl) fun a hf => ?_
  refine pl_nil ?_
  refine then_n ?_
  refine wp_ret ?_
  obtain rfl := some_inj h
  exact leave1 hf rfl rfl ⟨rfl, hM.fin, hv11⟩

set_option maxRecDepth 100000 in
set_option maxHeartbeats 4000000 in
theorem r_impl_endAfter (C : Cx) (b1 : Board) (hp2 : R64 b1.Size) (hp3 : b1.Premium.length ≤ maxLen) (hp4 : b1.Cells.length ≤ maxLen) (mine5 : Str) (hp6 : mine5.length ≤ maxLen) (unseen7 : Str) (hp8 : unseen7.length ≤ maxLen) (p9 : Play) (hp10 : R64 p9.Row) (hp11 : R64 p9.Col) (hp12 : p9.Word.length ≤ maxLen) (tile13 : Str) (hp14 : tile13.length ≤ maxLen) (r : End) (h : m_impl_endAfter b1 mine5 unseen7 p9 tile13 = some r) :
    Calls Tryz.prog 51 #[.agg #[vI (b1.Size), vS (b1.Premium), vS (b1.Cells)], vS (mine5), vS (unseen7), .agg #[vI (p9.Row), vI (p9.Col), .bool (p9.Down), vS (p9.Word)], vS (tile13)] C.w0 fun e w => e = .returned (.agg #[vI (r.Board.Size), vS (r.Board.Premium), vS (r.Board.Cells), vS (r.Mine), vS (r.Theirs), .bool (r.Passed)]) ∧ Mem C w [] [] ∧ R64 r.Board.Size ∧ r.Board.Premium.length ≤ maxLen ∧ r.Board.Cells.length ≤ maxLen ∧ r.Mine.length ≤ maxLen ∧ r.Theirs.length ≤ maxLen := by
  have hM := Mem.begin C [] trivial
  refine enter Tryz.func51 rfl Tryz.ntmps51 rfl fun a hf => ?_
  unfold m_impl_endAfter at h
  refine wp_seq ?_
  refine region_pl ?_
  refine pl_l hf rfl rfl rfl (w_box hf hM (cs := [vI (b1.Size), vS (b1.Premium), vS (b1.Cells)]) rfl rfl fun b15 w16 hx17 hM a hf => ?_)
  refine pl_l hf rfl rfl rfl (w_box hf hM (cs := [vI (p9.Row), vI (p9.Col), .bool (p9.Down), vS (p9.Word)]) rfl rfl fun b19 w20 hx21 hM a hf => ?_)
  refine pl_l hf rfl rfl rfl (w_alloc hM (cs := [vI (0), vS (([] : Str)), vS (([] : Str)), vS (([] : Str)), vS (([] : Str)), .bool (false)]) Tryz.zeroValue38 rfl fun b23 w24 hx25 hM a hf => ?_)
  refine pl_nil ?_
  refine then_n ?_
  refine wp_seq ?_
  refine region_pl ?_
  refine q_ hf rfl rfl rfl (e_move hf rfl) fun a hf => ?_
  refine q_ hf rfl rfl rfl (e_loadA hf (us := [vI (b1.Size), vS (b1.Premium), vS (b1.Cells)]) rfl ⟨Tryz.isAgg28, Tryz.sizeOf28⟩ rfl (hM.boxSub (k := 2) (us := [vI (b1.Size), vS (b1.Premium), vS (b1.Cells)]) (o := 0) rfl rfl)) fun a hf => ?_
  refine q_ hf rfl rfl rfl (e_loadA hf (us := [vI (p9.Row), vI (p9.Col), .bool (p9.Down), vS (p9.Word)]) rfl ⟨Tryz.isAgg41, Tryz.sizeOf41⟩ rfl (hM.boxSub (k := 1) (us := [vI (p9.Row), vI (p9.Col), .bool (p9.Down), vS (p9.Word)]) (o := 0) rfl rfl)) fun a hf => ?_
  obtain ⟨y27, hz28, h⟩ := bind_some h
  refine pl_l hf rfl rfl rfl (w_call hf Tryz.call49 rfl (r_impl_placedTiles ⟨_, Sh C _ _, none_, hM.sh_lt, none_not, C.G, hM.g_lt, g_none, hM.tabs⟩ b1 hp2 hp3 hp4 p9 hp10 hp11 hp12 _ hz28) ?_)
  rintro _ w30 ⟨rfl, hM2, hv29⟩
  obtain ⟨hM, hx31, hup32⟩ := hM.back hM2
  dsimp only [List.cons_append, List.nil_append] at hM hup32
  clear hM2
  refine ⟨_, rfl, fun a hf => ?_⟩
  obtain ⟨y33, hz34, h⟩ := bind_some h
  refine pl_l hf rfl rfl rfl (w_call hf Tryz.call48 rfl (r_impl_without ⟨_, Sh C _ _, none_, hM.sh_lt, none_not, C.G, hM.g_lt, g_none, hM.tabs⟩ mine5 hp6 y27 hv29 _ hz34) ?_)
  rintro _ w36 ⟨rfl, hM2, hv35⟩
  obtain ⟨hM, hx37, hup38⟩ := hM.back hM2
  dsimp only [List.cons_append, List.nil_append] at hM hup38
  clear hM2
  refine ⟨_, rfl, fun a hf => ?_⟩
  refine q_ hf rfl rfl rfl (e_move hf rfl) fun a hf => ?_
  refine q_ hf rfl rfl rfl (e_extract hf rfl rfl) fun a hf => ?_
  refine q_ hf rfl rfl rfl (e_extract hf rfl rfl) fun a hf => ?_
  refine q_ hf rfl rfl rfl (e_assign hf rfl) fun a hf => ?_
  refine q_ hf rfl rfl rfl (e_assign hf rfl) fun a hf => ?_
  refine pl_nil ?_
  refine then_n ?_
  refine wp_seq ?_
  refine region_pl ?_
  refine q_ hf rfl rfl rfl (e_move hf rfl) fun a hf => ?_
  refine q_ hf rfl rfl rfl (e_move hf rfl) fun a hf => ?_
  obtain ⟨y39, hz40, h⟩ := bind_some h
  refine pl_l hf rfl rfl rfl (w_call hf Tryz.call48 rfl (r_impl_without ⟨_, Sh C _ _, none_, hM.sh_lt, none_not, C.G, hM.g_lt, g_none, hM.tabs⟩ unseen7 hp8 tile13 hp14 _ hz40) ?_)
  rintro _ w42 ⟨rfl, hM2, hv41⟩
  obtain ⟨hM, hx43, hup44⟩ := hM.back hM2
  dsimp only [List.cons_append, List.nil_append] at hM hup44
  clear hM2
  refine ⟨_, rfl, fun a hf => ?_⟩
  refine q_ hf rfl rfl rfl (e_move hf rfl) fun a hf => ?_
  refine q_ hf rfl rfl rfl (e_extract hf rfl rfl) fun a hf => ?_
  refine q_ hf rfl rfl rfl (e_extract hf rfl rfl) fun a hf => ?_
  refine q_ hf rfl rfl rfl (e_assign hf rfl) fun a hf => ?_
  refine q_ hf rfl rfl rfl (e_assign hf rfl) fun a hf => ?_
  refine pl_nil ?_
  refine then_n ?_
  refine wp_seq ?_
  refine region_pl ?_
  refine q_ hf rfl rfl rfl (e_loadA hf (us := [vI (b1.Size), vS (b1.Premium), vS (b1.Cells)]) rfl ⟨Tryz.isAgg28, Tryz.sizeOf28⟩ rfl (hM.boxSub (k := 2) (us := [vI (b1.Size), vS (b1.Premium), vS (b1.Cells)]) (o := 0) rfl rfl)) fun a hf => ?_
  refine q_ hf rfl rfl rfl (e_loadA hf (us := [vI (p9.Row), vI (p9.Col), .bool (p9.Down), vS (p9.Word)]) rfl ⟨Tryz.isAgg41, Tryz.sizeOf41⟩ rfl (hM.boxSub (k := 1) (us := [vI (p9.Row), vI (p9.Col), .bool (p9.Down), vS (p9.Word)]) (o := 0) rfl rfl)) fun a hf => ?_
  obtain ⟨y45, hz46, h⟩ := bind_some h
  refine pl_l hf rfl rfl rfl (w_call hf Tryz.call110 rfl (r_impl_made ⟨_, Sh C _ _, none_, hM.sh_lt, none_not, C.G, hM.g_lt, g_none, hM.tabs⟩ b1 hp2 hp3 hp4 p9 hp10 hp11 hp12 _ hz46) ?_)
  rintro _ w50 ⟨rfl, hM2, hv47, hv48, hv49⟩
  obtain ⟨hM, hx51, hup52⟩ := hM.back hM2
  dsimp only [List.cons_append, List.nil_append] at hM hup52
  clear hM2
  refine ⟨_, rfl, fun a hf => ?_⟩
  refine q_ hf rfl rfl rfl (e_move hf rfl) fun a hf => ?_
  refine q_ hf rfl rfl rfl (e_move hf rfl) fun a hf => ?_
  refine q_ hf rfl rfl rfl (e_move hf rfl) fun a hf => ?_
  obtain ⟨s53, hz54, h⟩ := bind_some h
  refine q_ hf rfl rfl rfl (e_cat hf (x := y33.1) (y := tile13) rfl rfl hz54) fun a hf => ?_
  obtain ⟨y55, hz56, h⟩ := bind_some h
  refine pl_l hf rfl rfl rfl (w_call hf Tryz.call111 rfl (r_impl_sorted ⟨_, Sh C _ _, none_, hM.sh_lt, none_not, C.G, hM.g_lt, g_none, hM.tabs⟩ s53 (cat_len hz54) _ hz56) ?_)
  rintro _ w58 ⟨rfl, hM2, hv57⟩
  obtain ⟨hM, hx59, hup60⟩ := hM.back hM2
  dsimp only [List.cons_append, List.nil_append] at hM hup60
  clear hM2
  refine ⟨_, rfl, fun a hf => ?_⟩
  refine q_ hf rfl rfl rfl (e_build hf Tryz.zeroValue38 Tryz.underlying38 (bp_38 _ Tryz.underlying38.symm) rfl (cs := #[vI (y45.Size), vS (y45.Premium), vS (y45.Cells), vS (y39.1), vS (y55), .bool (false)]) (by kernel_rfl)) fun a hf => ?_
  refine pl_0 hf rfl rfl (w_store hf hM (us := [vI (y45.Size), vS (y45.Premium), vS (y45.Cells), vS (y39.1), vS (y55), .bool (false)]) (cs' := [vI (y45.Size), vS (y45.Premium), vS (y45.Cells), vS (y39.1), vS (y55), .bool (false)]) rfl rfl (k := 0) rfl rfl Tryz.sizeOf38 rfl rfl rfl fun w61 hM => ?_)
  dsimp only [List.set] at hM
  refine pl_nil ?_
  refine then_n ?_
  refine wp_ret ?_
  obtain rfl := some_inj h
  have hres64 := leaveV1 (P := Tryz.prog) Tryz.results51 (res_agg hf rfl ⟨Tryz.isAgg38, Tryz.sizeOf38⟩ (us := [vI (y45.Size), vS (y45.Premium), vS (y45.Cells), vS (y39.1), vS (y55), .bool (false)]) rfl (hM.boxSub (k := 0) (o := 0) rfl rfl))
  have hM := hM.outs (own' := []) 0 rfl
  exact bodyPost_ret hres64 hf.defers ⟨rfl, hM.fin, hv47, hv48, hv49, hv41, hv57⟩

end Go.Proofs.YtbekokenomhgeaaGreatDoor
