/- The functions that this law reaches do what their models say. Printed by gen.py. -/
import Derived.Test.YtbekokenomhgeaaGreatDoorMod
import Derived.Test.YtbekokenomhgeaaGreatDoorLib
import Derived.Test.YtbekokenomhgeaaGreatDoorReplayTurnsRefB
namespace Go.Proofs.YtbekokenomhgeaaGreatDoor
open Go Go.RowKit
set_option linter.unusedSimpArgs false
set_option linter.unusedVariables false

set_option maxRecDepth 100000 in
set_option maxHeartbeats 4000000 in
theorem r_impl_Turn_possible (C : Cx) (x1 : Turn) (hp2 : x1.Rack.length ≤ maxLen) (hp3 : R64 x1.Play.Row) (hp4 : R64 x1.Play.Col) (hp5 : x1.Play.Word.length ≤ maxLen) (b6 : Board) (hp7 : R64 b6.Size) (hp8 : b6.Premium.length ≤ maxLen) (hp9 : b6.Cells.length ≤ maxLen) (r : Bool) (h : m_impl_Turn_possible x1 b6 = some r) :
    Calls Tryz.prog 80 #[.agg #[vS (x1.Rack), .bool (x1.Pass), vI (x1.Play.Row), vI (x1.Play.Col), .bool (x1.Play.Down), vS (x1.Play.Word)], .agg #[vI (b6.Size), vS (b6.Premium), vS (b6.Cells)]] C.w0 fun e w => e = .returned (.bool (r)) ∧ Mem C w [] [] := by
  have hM := Mem.begin C [] trivial
  refine enter Tryz.func80 rfl Tryz.ntmps80 rfl fun a hf => ?_
  unfold m_impl_Turn_possible at h
  refine wp_seq ?_
  refine region_pl ?_
  refine pl_l hf rfl rfl rfl (w_box hf hM (cs := [vS (x1.Rack), .bool (x1.Pass), vI (x1.Play.Row), vI (x1.Play.Col), .bool (x1.Play.Down), vS (x1.Play.Word)]) rfl rfl fun b10 w11 hx12 hM a hf => ?_)
  refine pl_l hf rfl rfl rfl (w_box hf hM (cs := [vI (b6.Size), vS (b6.Premium), vS (b6.Cells)]) rfl rfl fun b14 w15 hx16 hM a hf => ?_)
  refine q_ hf rfl rfl rfl (e_assign hf rfl) fun a hf => ?_
  refine pl_nil ?_
  refine then_n ?_
  refine wp_seq ?_
  refine wp_seq ?_
  refine region_pl ?_
  refine q_ hf rfl rfl rfl (e_field hf rfl Tryz.underlying49 rfl Tryz.sizeOf9 (o' := 0) rfl) fun a hf => ?_
  refine q_ hf rfl rfl rfl (e_load1 hf rfl Tryz.isAgg9 (hM.boxCell (k := 1) rfl rfl)) fun a hf => ?_
  obtain ⟨y18, hz19, h⟩ := bind_some h
  refine pl_l hf rfl rfl rfl (w_call hf Tryz.call45 rfl (r_impl_ValidRack ⟨_, Sh C _ _, none_, hM.sh_lt, none_not, C.G, hM.g_lt, g_none, hM.tabs⟩ x1.Rack hp2 _ hz19) ?_)
  rintro _ w20 ⟨rfl, hM2⟩
  obtain ⟨hM, hx21, hup22⟩ := hM.back hM2
  dsimp only [List.cons_append, List.nil_append] at hM hup22
  clear hM2
  refine ⟨_, rfl, fun a hf => ?_⟩
  refine q_ hf rfl rfl rfl (e_not hf rfl) fun a hf => ?_
  refine pl_nil ?_
  refine then_n ?_
  rcases cond_some h with ⟨hc23, h⟩ | ⟨hc23, h⟩
  · refine cond_t hf rfl hc23 ?_
    refine wp_seq ?_
    refine region_pl ?_
    refine q_ hf rfl rfl rfl (e_assign hf rfl) fun a hf => ?_
    refine pl_nil ?_
    refine then_n ?_
    refine wp_ret ?_
    refine then_r ?_
    obtain rfl := some_inj h
    have hM := hM.outs (own' := []) 0 rfl
    exact leave1 hf rfl rfl ⟨rfl, hM.fin⟩
  · refine cond_f hf rfl hc23 ?_
    refine wp_skip ?_
    refine then_n ?_
    refine wp_seq ?_
    refine wp_seq ?_
    refine region_pl ?_
    refine q_ hf rfl rfl rfl (e_field hf rfl Tryz.underlying49 rfl Tryz.sizeOf4 (o' := 1) rfl) fun a hf => ?_
    refine q_ hf rfl rfl rfl (e_load1 hf rfl Tryz.isAgg4 (hM.boxCell (k := 1) rfl rfl)) fun a hf => ?_
    refine pl_nil ?_
    refine then_n ?_
    rcases cond_some h with ⟨hc24, h⟩ | ⟨hc24, h⟩
    · refine cond_t hf rfl hc24 ?_
      refine wp_seq ?_
      refine region_pl ?_
      refine q_ hf rfl rfl rfl (e_field hf rfl Tryz.underlying49 rfl Tryz.sizeOf41 (o' := 2) rfl) fun a hf => ?_
      refine q_ hf rfl rfl rfl (e_loadA hf (us := [vI (x1.Play.Row), vI (x1.Play.Col), .bool (x1.Play.Down), vS (x1.Play.Word)]) rfl ⟨Tryz.isAgg41, Tryz.sizeOf41⟩ rfl (hM.boxSub (k := 1) (us := [vI (x1.Play.Row), vI (x1.Play.Col), .bool (x1.Play.Down), vS (x1.Play.Word)]) (o := 2) rfl rfl)) fun a hf => ?_
      refine q_ hf rfl rfl rfl (e_build hf Tryz.zeroValue41 Tryz.underlying41 (bp_41 _ Tryz.underlying41.symm) rfl (cs := #[vI (0), vI (0), .bool (false), vS (([] : Str))]) (by kernel_rfl)) fun a hf => ?_
      refine q_ hf rfl rfl rfl (Play_eql hf (x := x1.Play) (y := (⟨0, 0, false, ([] : Str)⟩ : Play)) rfl rfl) fun a hf => ?_
      refine q_ hf rfl rfl rfl (e_assign hf rfl) fun a hf => ?_
      refine pl_nil ?_
      refine then_n ?_
      refine wp_ret ?_
      refine then_r ?_
      obtain rfl := some_inj h
      have hM := hM.outs (own' := []) 0 rfl
      exact leave1 hf rfl rfl ⟨rfl, hM.fin⟩
    · refine cond_f hf rfl hc24 ?_
      refine wp_skip ?_
      refine then_n ?_
      refine wp_seq ?_
      refine wp_seq ?_
      refine region_pl ?_
      refine q_ hf rfl rfl rfl (e_field hf rfl Tryz.underlying49 rfl Tryz.sizeOf41 (o' := 2) rfl) fun a hf => ?_
      refine q_ hf rfl rfl rfl (e_loadA hf (us := [vI (x1.Play.Row), vI (x1.Play.Col), .bool (x1.Play.Down), vS (x1.Play.Word)]) rfl ⟨Tryz.isAgg41, Tryz.sizeOf41⟩ rfl (hM.boxSub (k := 1) (us := [vI (x1.Play.Row), vI (x1.Play.Col), .bool (x1.Play.Down), vS (x1.Play.Word)]) (o := 2) rfl rfl)) fun a hf => ?_
      refine q_ hf rfl rfl rfl (e_loadA hf (us := [vI (b6.Size), vS (b6.Premium), vS (b6.Cells)]) rfl ⟨Tryz.isAgg28, Tryz.sizeOf28⟩ rfl (hM.boxSub (k := 0) (us := [vI (b6.Size), vS (b6.Premium), vS (b6.Cells)]) (o := 0) rfl rfl)) fun a hf => ?_
      obtain ⟨y25, hz26, h⟩ := bind_some h
      refine pl_l hf rfl rfl rfl (w_call hf Tryz.call47 rfl (r_impl_Play_validOn ⟨_, Sh C _ _, none_, hM.sh_lt, none_not, C.G, hM.g_lt, g_none, hM.tabs⟩ x1.Play hp3 hp4 hp5 b6 hp7 hp8 hp9 _ hz26) ?_)
      rintro _ w27 ⟨rfl, hM2⟩
      obtain ⟨hM, hx28, hup29⟩ := hM.back hM2
      dsimp only [List.cons_append, List.nil_append] at hM hup29
      clear hM2
      refine ⟨_, rfl, fun a hf => ?_⟩
      refine q_ hf rfl rfl rfl (e_not hf rfl) fun a hf => ?_
      refine pl_nil ?_
      refine then_n ?_
      rcases cond_some h with ⟨hc30, h⟩ | ⟨hc30, h⟩
      · refine cond_t hf rfl hc30 ?_
        refine wp_seq ?_
        refine region_pl ?_
        refine q_ hf rfl rfl rfl (e_assign hf rfl) fun a hf => ?_
        refine pl_nil ?_
        refine then_n ?_
        refine wp_ret ?_
        refine then_r ?_
        obtain rfl := some_inj h
        have hM := hM.outs (own' := []) 0 rfl
        exact leave1 hf rfl rfl ⟨rfl, hM.fin⟩
      · refine cond_f hf rfl hc30 ?_
        refine wp_skip ?_
        refine then_n ?_
        refine wp_seq ?_
        obtain ⟨w31, hw⟩ : ∃ x, x = w27.drew := ⟨_, rfl⟩
        refine region_pi (.q 0 (.q 1 (.q 2 (.q 3 (.q 4 (.l 5 (.l 6 (.q 7 (.q 8 (.q 9 (.q 10 (.q 11 (.nil))))))))))))) (Ext w31) rfl (by kernel_rfl) ?_
        have hM := hM.drew
        rw [← hw] at hM ⊢
        clear hw
        refine pi_q hf rfl rfl rfl rfl (Ext.refl _) (e_field hf rfl Tryz.underlying49 rfl Tryz.sizeOf9 (o' := 0) rfl) fun a hf => ?_
        refine pi_q hf rfl rfl rfl rfl (Ext.refl _) (e_load1 hf rfl Tryz.isAgg9 (hM.boxCell (k := 1) rfl rfl)) fun a hf => ?_
        refine pi_q hf rfl rfl rfl rfl (Ext.refl _) (e_loadA hf (us := [vI (b6.Size), vS (b6.Premium), vS (b6.Cells)]) rfl ⟨Tryz.isAgg28, Tryz.sizeOf28⟩ rfl (hM.boxSub (k := 0) (us := [vI (b6.Size), vS (b6.Premium), vS (b6.Cells)]) (o := 0) rfl rfl)) fun a hf => ?_
        refine pi_q hf rfl rfl rfl rfl (Ext.refl _) (e_field hf rfl Tryz.underlying49 rfl Tryz.sizeOf41 (o' := 2) rfl) fun a hf => ?_
        refine pi_q hf rfl rfl rfl rfl (Ext.refl _) (e_loadA hf (us := [vI (x1.Play.Row), vI (x1.Play.Col), .bool (x1.Play.Down), vS (x1.Play.Word)]) rfl ⟨Tryz.isAgg41, Tryz.sizeOf41⟩ rfl (hM.boxSub (k := 1) (us := [vI (x1.Play.Row), vI (x1.Play.Col), .bool (x1.Play.Down), vS (x1.Play.Word)]) (o := 2) rfl rfl)) fun a hf => ?_
        refine pi_one ?_
        obtain ⟨y32, hz33, h⟩ := bind_some h
        refine pi_l hf rfl rfl rfl rfl (w_call hf Tryz.call49 rfl (r_impl_placedTiles ⟨_, Sh C _ _, none_, hM.sh_lt, none_not, C.G, hM.g_lt, g_none, hM.tabs⟩ b6 hp7 hp8 hp9 x1.Play hp3 hp4 hp5 _ hz33) ?_)
        rintro _ w35 ⟨rfl, hM2, hv34⟩
        obtain ⟨hM, hx36, hup37⟩ := hM.back hM2
        dsimp only [List.cons_append, List.nil_append] at hM hup37
        clear hM2
        refine ⟨_, rfl, Ext w35, fun _ h => Ext.trans hx36 h, Ext.refl _, fun a hf => ?_⟩
        refine pi_one ?_
        obtain ⟨y38, hz39, h⟩ := bind_some h
        refine pi_l hf rfl rfl rfl rfl (w_call hf Tryz.call48 rfl (r_impl_without ⟨_, Sh C _ _, none_, hM.sh_lt, none_not, C.G, hM.g_lt, g_none, hM.tabs⟩ x1.Rack hp2 y32 hv34 _ hz39) ?_)
        rintro _ w41 ⟨rfl, hM2, hv40⟩
        obtain ⟨hM, hx42, hup43⟩ := hM.back hM2
        dsimp only [List.cons_append, List.nil_append] at hM hup43
        clear hM2
        refine ⟨_, rfl, Ext w41, fun _ h => Ext.trans hx42 h, Ext.refl _, fun a hf => ?_⟩
        refine pi_q hf rfl rfl rfl rfl (Ext.refl _) (e_move hf rfl) fun a hf => ?_
        refine pi_q hf rfl rfl rfl rfl (Ext.refl _) (e_extract hf rfl rfl) fun a hf => ?_
        refine pi_q hf rfl rfl rfl rfl (Ext.refl _) (e_extract hf rfl rfl) fun a hf => ?_
        refine pi_q hf rfl rfl rfl rfl (Ext.refl _) (e_assign hf rfl) fun a hf => ?_
        refine pi_q hf rfl rfl rfl rfl (Ext.refl _) (e_assign hf rfl) fun a hf => ?_
        refine pi_nil ?_
        refine then_n ?_
        refine wp_seq ?_
        refine region_pl ?_
        refine q_ hf rfl rfl rfl (e_move hf rfl) fun a hf => ?_
        refine q_ hf rfl rfl rfl (e_assign hf rfl) fun a hf => ?_
        refine pl_nil ?_
        refine then_n ?_
        refine wp_ret ?_
        obtain rfl := some_inj h
        have hM := hM.outs (own' := []) 0 rfl
        exact leave1 hf rfl rfl ⟨rfl, hM.fin⟩

set_option maxRecDepth 100000 in
set_option maxHeartbeats 4000000 in
theorem r_impl_made (C : Cx) (b1 : Board) (hp2 : R64 b1.Size) (hp3 : b1.Premium.length ≤ maxLen) (hp4 : b1.Cells.length ≤ maxLen) (p5 : Play) (hp6 : R64 p5.Row) (hp7 : R64 p5.Col) (hp8 : p5.Word.length ≤ maxLen) (r : Board) (h : m_impl_made b1 p5 = some r) :
    Calls Tryz.prog 110 #[.agg #[vI (b1.Size), vS (b1.Premium), vS (b1.Cells)], .agg #[vI (p5.Row), vI (p5.Col), .bool (p5.Down), vS (p5.Word)]] C.w0 fun e w => e = .returned (.agg #[vI (r.Size), vS (r.Premium), vS (r.Cells)]) ∧ Mem C w [] [] ∧ R64 r.Size ∧ r.Premium.length ≤ maxLen ∧ r.Cells.length ≤ maxLen := by
  have hM := Mem.begin C [] trivial
  refine enter Tryz.func110 rfl Tryz.ntmps110 rfl fun a hf => ?_
  unfold m_impl_made at h
  refine wp_seq ?_
  refine region_pl ?_
  refine pl_l hf rfl rfl rfl (w_box hf hM (cs := [vI (b1.Size), vS (b1.Premium), vS (b1.Cells)]) rfl rfl fun b9 w10 hx11 hM a hf => ?_)
  refine pl_l hf rfl rfl rfl (w_box hf hM (cs := [vI (p5.Row), vI (p5.Col), .bool (p5.Down), vS (p5.Word)]) rfl rfl fun b13 w14 hx15 hM a hf => ?_)
  refine pl_l hf rfl rfl rfl (w_alloc hM (cs := [vI (0), vS (([] : Str)), vS (([] : Str))]) Tryz.zeroValue28 rfl fun b17 w18 hx19 hM a hf => ?_)
  refine pl_nil ?_
  refine then_n ?_
  refine wp_seq ?_
  refine region_pl ?_
  refine q_ hf rfl rfl rfl (e_field hf rfl Tryz.underlying28 rfl Tryz.sizeOf9 (o' := 2) rfl) fun a hf => ?_
  refine q_ hf rfl rfl rfl (e_load1 hf rfl Tryz.isAgg9 (hM.boxCell (k := 2) rfl rfl)) fun a hf => ?_
  refine pl_l hf rfl rfl rfl (w_bytes hf hM (x := b1.Cells) rfl Tryz.underlying9 Tryz.underlying138 Tryz.underlying5 hp4 fun A21 c22 w23 hx24 hM a hf => ?_)
  refine q_ hf rfl rfl rfl (e_assign hf rfl) fun a hf => ?_
  refine pl_nil ?_
  refine then_n ?_
  obtain ⟨x26, h27, h⟩ := bind_some h
  refine seq_join (fun a w => ∃ (xs25 : Str), xs25 = x26 ∧ Has 38 a [(2, vP b9 (0)), (4, vP b17 (0)), (5, vL A21 (xs25) c22)] ∧ Mem C w [.row byteRep A21 c22 5 xs25 false, .box b17 [vI (0), vS (([] : Str)), vS (([] : Str))] 28, .box b13 [vI (p5.Row), vI (p5.Col), .bool (p5.Down), vS (p5.Word)] 41, .box b9 [vI (b1.Size), vS (b1.Premium), vS (b1.Cells)] 28] []) ?_ ?_
  · refine wp_seq ?_
    refine region_pl ?_
    refine q_ hf rfl rfl rfl (e_field hf rfl Tryz.underlying41 rfl Tryz.sizeOf9 (o' := 3) rfl) fun a hf => ?_
    refine q_ hf rfl rfl rfl (e_load1 hf rfl Tryz.isAgg9 (hM.boxCell (k := 2) rfl rfl)) fun a hf => ?_
    refine pl_l hf rfl rfl rfl (w_range hf hM (x := p5.Word) rfl Tryz.underlying9 fun b28 w29 hx30 hM a hf => ?_)
    refine pl_nil ?_
    refine then_n ?_
    refine wp_block ?_
    obtain ⟨x36, h37, h27⟩ := bind_some h27
    refine wp_loopM h37 (fun s a w => ∃ (pos31 : Nat) (xs32 : Str), (pos31, xs32) = s ∧ Has 38 a [(2, vP b9 (0)), (3, vP b13 (0)), (4, vP b17 (0)), (5, vL A21 (xs32) c22), (13, vP b28 0)] ∧ Mem C w [.obj b28 (.stringIter ⟨List.toArray p5.Word⟩ pos31), .row byteRep A21 c22 5 xs32 false, .box b17 [vI (0), vS (([] : Str)), vS (([] : Str))] 28, .box b13 [vI (p5.Row), vI (p5.Col), .bool (p5.Down), vS (p5.Word)] 41, .box b9 [vI (b1.Size), vS (b1.Premium), vS (b1.Cells)] 28] []) ?_ ?_
    · exact ⟨0, b1.Cells, rfl, hf.keep ⟨rfl, rfl, rfl, rfl, rfl, trivial⟩, hM.pick [] rfl⟩
    · rintro s o38 a w33 ⟨pos31, xs32, rfl, hf, hM⟩ h39 hd40
      replace h39 : m_impl_made_l1 p5 b1 pos31 xs32 = some o38 := h39
      unfold m_impl_made_l1 at h39
      refine wp_seq ?_
      refine region_pl ?_
      rcases cond_some h39 with ⟨hc41, h39⟩ | ⟨hc41, h39⟩
      · refine pl_l hf rfl rfl rfl (w_next hf hM rfl (k := 0) rfl hc41 fun w42 hM a hf => ?_)
        dsimp only [List.set] at hM
        refine q_ hf rfl rfl rfl (e_extract hf rfl rfl) fun a hf => ?_
        refine pl_nil ?_
        refine then_n ?_
        refine wp_seq ?_
        refine cond_t hf rfl rfl ?_
        refine wp_skip ?_
        refine then_n ?_
        refine wp_block ?_
        refine wp_seq ?_
        refine region_pl ?_
        refine q_ hf rfl rfl rfl (e_extract hf rfl rfl) fun a hf => ?_
        refine q_ hf rfl rfl rfl (e_assign hf rfl) fun a hf => ?_
        refine pl_nil ?_
        refine then_n ?_
        refine wp_seq ?_
        refine region_pl ?_
        refine q_ hf rfl rfl rfl (e_loadA hf (us := [vI (p5.Row), vI (p5.Col), .bool (p5.Down), vS (p5.Word)]) rfl ⟨Tryz.isAgg41, Tryz.sizeOf41⟩ rfl (hM.boxSub (k := 3) (us := [vI (p5.Row), vI (p5.Col), .bool (p5.Down), vS (p5.Word)]) (o := 0) rfl rfl)) fun a hf => ?_
        refine q_ hf rfl rfl rfl (e_move hf rfl) fun a hf => ?_
        obtain ⟨y44, hz45, h39⟩ := bind_some h39
        refine pl_l hf rfl rfl rfl (w_call hf Tryz.call101 rfl (r_impl_Play_square ⟨_, Sh C _ _, none_, hM.sh_lt, none_not, C.G, hM.g_lt, g_none, hM.tabs⟩ p5 hp6 hp7 hp8 (pos31 : Int) (R64_pos hc41 hp8) _ hz45) ?_)
        rintro _ w48 ⟨rfl, hM2, hv46, hv47⟩
        obtain ⟨hM, hx49, hup50⟩ := hM.back hM2
        dsimp only [List.cons_append, List.nil_append] at hM hup50
        clear hM2
        refine ⟨_, rfl, fun a hf => ?_⟩
        refine pl_l hf rfl rfl rfl (w_alloc hM (cs := [vI (0), vI (0)]) Tryz.zeroValue124 rfl fun b51 w52 hx53 hM a hf => ?_)
        refine pl_0 hf rfl rfl (w_store hf hM (us := [vI (y44.Row), vI (y44.Col)]) (cs' := [vI (y44.Row), vI (y44.Col)]) rfl rfl (k := 0) rfl rfl Tryz.sizeOf124 rfl rfl rfl fun w55 hM => ?_)
        dsimp only [List.set] at hM
        refine pl_nil ?_
        refine then_n ?_
        obtain ⟨w58, hw⟩ : ∃ x, x = w55.drew := ⟨_, rfl⟩
        refine region_pi (.q 0 (.q 1 (.q 2 (.q 3 (.q 4 (.q 5 (.q 6 (.q 7 (.q 8 (.q 9 (.q 10 (.q 11 (.q 12 (.q 13 (.l 14 (.nil)))))))))))))))) (Ext w58) rfl (by kernel_rfl) ?_
        have hM := hM.drew
        rw [← hw] at hM ⊢
        clear hw
        refine pi_q hf rfl rfl rfl rfl (Ext.refl _) (e_move hf rfl) fun a hf => ?_
        refine pi_q hf rfl rfl rfl rfl (Ext.refl _) (e_field hf rfl Tryz.underlying124 rfl Tryz.sizeOf2 (o' := 0) rfl) fun a hf => ?_
        refine pi_q hf rfl rfl rfl rfl (Ext.refl _) (e_load1 hf rfl Tryz.isAgg2 (hM.boxCell (k := 0) rfl rfl)) fun a hf => ?_
        refine pi_q hf rfl rfl rfl rfl (Ext.refl _) (e_field hf rfl Tryz.underlying28 rfl Tryz.sizeOf2 (o' := 0) rfl) fun a hf => ?_
        refine pi_q hf rfl rfl rfl rfl (Ext.refl _) (e_load1 hf rfl Tryz.isAgg2 (hM.boxCell (k := 5) rfl rfl)) fun a hf => ?_
        obtain ⟨z59, hz60, h39⟩ := bind_some h39
        refine pi_q hf rfl rfl rfl rfl (Ext.refl _) (e_mul hf rfl rfl hz60) fun a hf => ?_
        refine pi_q hf rfl rfl rfl rfl (Ext.refl _) (e_field hf rfl Tryz.underlying124 rfl Tryz.sizeOf2 (o' := 1) rfl) fun a hf => ?_
        refine pi_q hf rfl rfl rfl rfl (Ext.refl _) (e_load1 hf rfl Tryz.isAgg2 (hM.boxCell (k := 0) rfl rfl)) fun a hf => ?_
        obtain ⟨z61, hz62, h39⟩ := bind_some h39
        refine pi_q hf rfl rfl rfl rfl (Ext.refl _) (e_add hf rfl rfl hz62) fun a hf => ?_
        refine pi_q hf rfl rfl rfl rfl (Ext.refl _) (e_field hf rfl Tryz.underlying41 rfl Tryz.sizeOf9 (o' := 3) rfl) fun a hf => ?_
        refine pi_q hf rfl rfl rfl rfl (Ext.refl _) (e_load1 hf rfl Tryz.isAgg9 (hM.boxCell (k := 4) rfl rfl)) fun a hf => ?_
        refine pi_q hf rfl rfl rfl rfl (Ext.refl _) (e_move hf rfl) fun a hf => ?_
        obtain ⟨c63, hz64, h39⟩ := bind_some h39
        refine pi_q hf rfl rfl rfl rfl (Ext.refl _) (e_indexS hf (x := p5.Word) rfl rfl Tryz.underlying9 hz64) fun a hf => ?_
        obtain ⟨e65, hz66, h39⟩ := bind_some h39
        obtain ⟨b71, _, hA72, h67, h68, hr69, hcell70⟩ := hM.rowElemN (k := 2) rfl (n := 1) rfl hz66
        obtain rfl : _ = _ := hr69
        refine pi_q hf rfl rfl rfl rfl (Ext.refl _) (e_indexAddr (A := A21) (b := b71) (o := 0) (xs := xs32) (i := z61) hf hA72 rfl rfl Tryz.underlying138 Tryz.sizeOf5 h67 h68) fun a hf => ?_
        refine pi_one ?_
        obtain ⟨xs74, hz75, h39⟩ := bind_some h39
        refine pi_z0 hf rfl rfl rfl (by kernel_rfl) (w_storeElem hf hM (x := c63) (row := [vB (c63)]) (i := z61) rfl rfl rfl hA72 (k := 2) rfl rfl Tryz.sizeOf5 rfl hz75 fun w73 hM => ?_)
        dsimp only [List.set] at hM
        have hf := hf.alter (d := 5) (v := vL A21 (xs74) c22) rfl (vL_len (setL_len hz75))
        have hf := hf.alter (d := 20) (v := vL A21 (xs74) c22) rfl (vL_len (setL_len hz75))
        refine pi_nil ?_
        refine blk_n ?_
        obtain rfl := some_inj h39
        refine then_n ⟨_, rfl, ?_⟩
        exact ⟨(pos31 + runeW p5.Word pos31), xs74, rfl, hf.keep ⟨rfl, rfl, rfl, rfl, rfl, trivial⟩, (hM.drop (.cons _ (.cons_cons _ (.cons_cons _ (.cons_cons _ (.cons_cons _ (.cons_cons _ .slnil))))))).pick [] rfl⟩
      · refine pl_l hf rfl rfl rfl (w_nextEnd hf hM rfl (k := 0) rfl hc41 fun w77 hx78 hM a hf => ?_)
        refine q_ hf rfl rfl rfl (e_extract hf rfl rfl) fun a hf => ?_
        refine pl_nil ?_
        refine then_n ?_
        refine wp_seq ?_
        refine cond_f hf rfl rfl ?_
        refine wp_exit ?_
        refine then_x ?_
        obtain rfl := some_inj h39
        obtain rfl := hd40 _ rfl
        try dsimp only at h27
        refine then_x ?_
        refine exit_hit ?_
        obtain rfl := some_inj h27
        refine then_n ?_
        exact ⟨xs32, rfl, hf.keep ⟨rfl, rfl, rfl, trivial⟩, (hM.drop (.cons _ (.cons_cons _ (.cons_cons _ (.cons_cons _ (.cons_cons _ .slnil)))))).pick [] rfl⟩
  · rintro a w83 ⟨xs25, rfl, hf, hM⟩
    try dsimp only at h
    refine wp_seq ?_
    refine region_pl ?_
    refine q_ hf rfl rfl rfl (e_move hf rfl) fun a hf => ?_
    have hl84 := row_len (hM.ownAt (k := 0) rfl)
    refine q_ hf rfl rfl rfl (e_bytesStr hf (xs := xs25) rfl Tryz.underlying138 Tryz.underlying5 Tryz.underlying9 (hM.lendRow (k := 0) rfl)) fun a hf => ?_
    refine q_ hf rfl rfl rfl (e_field hf rfl Tryz.underlying28 rfl Tryz.sizeOf9 (o' := 2) rfl) fun a hf => ?_
    refine pl_0 hf rfl rfl (w_store hf hM (us := [vS (xs25)]) (cs' := [vI (b1.Size), vS (b1.Premium), vS (xs25)]) rfl rfl (k := 3) rfl rfl Tryz.sizeOf9 rfl rfl rfl fun w85 hM => ?_)
    dsimp only [List.set] at hM
    refine pl_nil ?_
    refine then_n ?_
    refine wp_seq ?_
    refine region_pl ?_
    refine q_ hf rfl rfl rfl (e_loadA hf (us := [vI (b1.Size), vS (b1.Premium), vS (xs25)]) rfl ⟨Tryz.isAgg28, Tryz.sizeOf28⟩ rfl (hM.boxSub (k := 3) (us := [vI (b1.Size), vS (b1.Premium), vS (xs25)]) (o := 0) rfl rfl)) fun a hf => ?_
    refine pl_0 hf rfl rfl (w_store hf hM (us := [vI (b1.Size), vS (b1.Premium), vS (xs25)]) (cs' := [vI (b1.Size), vS (b1.Premium), vS (xs25)]) rfl rfl (k := 1) rfl rfl Tryz.sizeOf28 rfl rfl rfl fun w88 hM => ?_)
    dsimp only [List.set] at hM
    refine pl_nil ?_
    refine then_n ?_
    refine wp_ret ?_
    obtain rfl := some_inj h
    have hres91 := leaveV1 (P := Tryz.prog) Tryz.results110 (res_agg hf rfl ⟨Tryz.isAgg28, Tryz.sizeOf28⟩ (us := [vI (b1.Size), vS (b1.Premium), vS (xs25)]) rfl (hM.boxSub (k := 1) (o := 0) rfl rfl))
    have hM := hM.outs (own' := []) 0 rfl
    exact bodyPost_ret hres91 hf.defers ⟨rfl, hM.fin, hp2, hp3, hl84⟩

set_option maxRecDepth 100000 in
set_option maxHeartbeats 4000000 in
theorem r_impl_Turn_after (C : Cx) (x1 : Turn) (hp2 : x1.Rack.length ≤ maxLen) (hp3 : R64 x1.Play.Row) (hp4 : R64 x1.Play.Col) (hp5 : x1.Play.Word.length ≤ maxLen) (b6 : Board) (hp7 : R64 b6.Size) (hp8 : b6.Premium.length ≤ maxLen) (hp9 : b6.Cells.length ≤ maxLen) (r : Board) (h : m_impl_Turn_after x1 b6 = some r) :
    Calls Tryz.prog 81 #[.agg #[vS (x1.Rack), .bool (x1.Pass), vI (x1.Play.Row), vI (x1.Play.Col), .bool (x1.Play.Down), vS (x1.Play.Word)], .agg #[vI (b6.Size), vS (b6.Premium), vS (b6.Cells)]] C.w0 fun e w => e = .returned (.agg #[vI (r.Size), vS (r.Premium), vS (r.Cells)]) ∧ Mem C w [] [] ∧ R64 r.Size ∧ r.Premium.length ≤ maxLen ∧ r.Cells.length ≤ maxLen := by
  have hM := Mem.begin C [] trivial
  refine enter Tryz.func81 rfl Tryz.ntmps81 rfl fun a hf => ?_
  unfold m_impl_Turn_after at h
  refine wp_seq ?_
  refine region_pl ?_
  refine pl_l hf rfl rfl rfl (w_box hf hM (cs := [vS (x1.Rack), .bool (x1.Pass), vI (x1.Play.Row), vI (x1.Play.Col), .bool (x1.Play.Down), vS (x1.Play.Word)]) rfl rfl fun b10 w11 hx12 hM a hf => ?_)
  refine pl_l hf rfl rfl rfl (w_box hf hM (cs := [vI (b6.Size), vS (b6.Premium), vS (b6.Cells)]) rfl rfl fun b14 w15 hx16 hM a hf => ?_)
  refine pl_l hf rfl rfl rfl (w_alloc hM (cs := [vI (0), vS (([] : Str)), vS (([] : Str))]) Tryz.zeroValue28 rfl fun b18 w19 hx20 hM a hf => ?_)
  refine pl_nil ?_
  refine then_n ?_
  refine wp_seq ?_
  refine wp_seq ?_
  refine region_pl ?_
  refine q_ hf rfl rfl rfl (e_field hf rfl Tryz.underlying49 rfl Tryz.sizeOf4 (o' := 1) rfl) fun a hf => ?_
  refine q_ hf rfl rfl rfl (e_load1 hf rfl Tryz.isAgg4 (hM.boxCell (k := 2) rfl rfl)) fun a hf => ?_
  refine pl_nil ?_
  refine then_n ?_
  rcases cond_some h with ⟨hc22, h⟩ | ⟨hc22, h⟩
  · refine cond_t hf rfl hc22 ?_
    refine wp_seq ?_
    refine region_pl ?_
    refine q_ hf rfl rfl rfl (e_loadA hf (us := [vI (b6.Size), vS (b6.Premium), vS (b6.Cells)]) rfl ⟨Tryz.isAgg28, Tryz.sizeOf28⟩ rfl (hM.boxSub (k := 1) (us := [vI (b6.Size), vS (b6.Premium), vS (b6.Cells)]) (o := 0) rfl rfl)) fun a hf => ?_
    refine pl_0 hf rfl rfl (w_store hf hM (us := [vI (b6.Size), vS (b6.Premium), vS (b6.Cells)]) (cs' := [vI (b6.Size), vS (b6.Premium), vS (b6.Cells)]) rfl rfl (k := 0) rfl rfl Tryz.sizeOf28 rfl rfl rfl fun w23 hM => ?_)
    dsimp only [List.set] at hM
    refine pl_nil ?_
    refine then_n ?_
    refine wp_ret ?_
    refine then_r ?_
    obtain rfl := some_inj h
    have hres26 := leaveV1 (P := Tryz.prog) Tryz.results81 (res_agg hf rfl ⟨Tryz.isAgg28, Tryz.sizeOf28⟩ (us := [vI (b6.Size), vS (b6.Premium), vS (b6.Cells)]) rfl (hM.boxSub (k := 0) (o := 0) rfl rfl))
    have hM := hM.outs (own' := []) 0 rfl
    exact bodyPost_ret hres26 hf.defers ⟨rfl, hM.fin, hp7, hp8, hp9⟩
  · refine cond_f hf rfl hc22 ?_
    refine wp_skip ?_
    refine then_n ?_
    refine wp_seq ?_
    refine region_pl ?_
    refine q_ hf rfl rfl rfl (e_loadA hf (us := [vI (b6.Size), vS (b6.Premium), vS (b6.Cells)]) rfl ⟨Tryz.isAgg28, Tryz.sizeOf28⟩ rfl (hM.boxSub (k := 1) (us := [vI (b6.Size), vS (b6.Premium), vS (b6.Cells)]) (o := 0) rfl rfl)) fun a hf => ?_
    refine q_ hf rfl rfl rfl (e_field hf rfl Tryz.underlying49 rfl Tryz.sizeOf41 (o' := 2) rfl) fun a hf => ?_
    refine q_ hf rfl rfl rfl (e_loadA hf (us := [vI (x1.Play.Row), vI (x1.Play.Col), .bool (x1.Play.Down), vS (x1.Play.Word)]) rfl ⟨Tryz.isAgg41, Tryz.sizeOf41⟩ rfl (hM.boxSub (k := 2) (us := [vI (x1.Play.Row), vI (x1.Play.Col), .bool (x1.Play.Down), vS (x1.Play.Word)]) (o := 2) rfl rfl)) fun a hf => ?_
    obtain ⟨y27, hz28, h⟩ := bind_some h
    refine pl_l hf rfl rfl rfl (w_call hf Tryz.call110 rfl (r_impl_made ⟨_, Sh C _ _, none_, hM.sh_lt, none_not, C.G, hM.g_lt, g_none, hM.tabs⟩ b6 hp7 hp8 hp9 x1.Play hp3 hp4 hp5 _ hz28) ?_)
    rintro _ w32 ⟨rfl, hM2, hv29, hv30, hv31⟩
    obtain ⟨hM, hx33, hup34⟩ := hM.back hM2
    dsimp only [List.cons_append, List.nil_append] at hM hup34
    clear hM2
    refine ⟨_, rfl, fun a hf => ?_⟩
    refine pl_0 hf rfl rfl (w_store hf hM (us := [vI (y27.Size), vS (y27.Premium), vS (y27.Cells)]) (cs' := [vI (y27.Size), vS (y27.Premium), vS (y27.Cells)]) rfl rfl (k := 0) rfl rfl Tryz.sizeOf28 rfl rfl rfl fun w35 hM => ?_)
    dsimp only [List.set] at hM
    refine pl_nil ?_
    refine then_n ?_
    refine wp_ret ?_
    obtain rfl := some_inj h
    have hres38 := leaveV1 (P := Tryz.prog) Tryz.results81 (res_agg hf rfl ⟨Tryz.isAgg28, Tryz.sizeOf28⟩ (us := [vI (y27.Size), vS (y27.Premium), vS (y27.Cells)]) rfl (hM.boxSub (k := 0) (o := 0) rfl rfl))
    have hM := hM.outs (own' := []) 0 rfl
    exact bodyPost_ret hres38 hf.defers ⟨rfl, hM.fin, hv29, hv30, hv31⟩

set_option maxRecDepth 100000 in
set_option maxHeartbeats 4000000 in
theorem r_impl_replayTurns (C : Cx) (b1 : Board) (hp2 : R64 b1.Size) (hp3 : b1.Premium.length ≤ maxLen) (hp4 : b1.Cells.length ≤ maxLen) (list5 : (List Turn)) (A6 : Option Addr) (c7 : Nat) (hp8 : (sliceRep TurnRep).R C.w0 C.S0 list5 [vL A6 list5 c7]) (r : (Board × Bool)) (h : m_impl_replayTurns b1 list5 = some r) :
    Calls Tryz.prog 38 #[.agg #[vI (b1.Size), vS (b1.Premium), vS (b1.Cells)], vL A6 (list5) c7] C.w0 fun e w => e = .returned (.tuple #[.agg #[vI (r.1.Size), vS (r.1.Premium), vS (r.1.Cells)], .bool (r.2)]) ∧ Mem C w [] [] ∧ R64 r.1.Size ∧ r.1.Premium.length ≤ maxLen ∧ r.1.Cells.length ≤ maxLen := by
  have hM := Mem.begin C [.dat (sliceRep TurnRep) list5 [vL A6 list5 c7]] ⟨hp8, trivial⟩
  refine enter Tryz.func38 rfl Tryz.ntmps38 rfl fun a hf => ?_
  unfold m_impl_replayTurns at h
  refine wp_seq ?_
  refine region_pl ?_
  refine pl_l hf rfl rfl rfl (w_box hf hM (cs := [vI (b1.Size), vS (b1.Premium), vS (b1.Cells)]) rfl rfl fun b9 w10 hx11 hM a hf => ?_)
  refine pl_l hf rfl rfl rfl (w_alloc hM (cs := [vI (0), vS (([] : Str)), vS (([] : Str))]) Tryz.zeroValue28 rfl fun b13 w14 hx15 hM a hf => ?_)
  refine q_ hf rfl rfl rfl (e_assign hf rfl) fun a hf => ?_
  refine pl_nil ?_
  refine then_n ?_
  refine wp_seq ?_
  obtain ⟨x19, h20, h⟩ := bind_some h
  refine seq_join (fun a w => ∃ (t17 : Bool), t17 = x19 ∧ Has 33 a [(1, vL A6 (list5) c7), (2, vP b9 (0)), (4, vP b13 (0)), (15, .bool (t17))] ∧ Mem C w [.box b13 [vI (0), vS (([] : Str)), vS (([] : Str))] 28, .box b9 [vI (b1.Size), vS (b1.Premium), vS (b1.Cells)] 28] [.dat (sliceRep TurnRep) list5 [vL A6 list5 c7]]) ?_ ?_
  · refine region_pl ?_
    refine q_ hf rfl rfl rfl (e_loadA hf (us := [vI (b1.Size), vS (b1.Premium), vS (b1.Cells)]) rfl ⟨Tryz.isAgg28, Tryz.sizeOf28⟩ rfl (hM.boxSub (k := 1) (us := [vI (b1.Size), vS (b1.Premium), vS (b1.Cells)]) (o := 0) rfl rfl)) fun a hf => ?_
    obtain ⟨y21, hz22, h20⟩ := bind_some h20
    refine pl_l hf rfl rfl rfl (w_call hf Tryz.call44 rfl (r_impl_ValidBoard ⟨_, Sh C _ _, none_, hM.sh_lt, none_not, C.G, hM.g_lt, g_none, hM.tabs⟩ b1 hp2 hp3 hp4 _ hz22) ?_)
    rintro _ w23 ⟨rfl, hM2⟩
    obtain ⟨hM, hx24, hup25⟩ := hM.back hM2
    dsimp only [List.cons_append, List.nil_append] at hM hup25
    clear hM2
    refine ⟨_, rfl, fun a hf => ?_⟩
    refine q_ hf rfl rfl rfl (e_not hf rfl) fun a hf => ?_
    refine q_ hf rfl rfl rfl (e_move hf rfl) fun a hf => ?_
    rcases cond_some h20 with ⟨hc26, h20⟩ | ⟨hc26, h20⟩
    · refine pl_gs (wanted_f hf rfl rfl rfl rfl hc26) hf rfl rfl fun a hf => ?_
      refine pl_gs (wanted_f hf rfl rfl rfl rfl hc26) hf rfl rfl fun a hf => ?_
      refine pl_gs (wanted_f hf rfl rfl rfl rfl hc26) hf rfl rfl fun a hf => ?_
      refine q_ hf rfl rfl rfl (e_pick_t hf rfl hc26 rfl) fun a hf => ?_
      refine pl_nil ?_
      obtain rfl := some_inj h20
      refine then_n ?_
      exact ⟨true, rfl, hf.keep ⟨rfl, rfl, rfl, rfl, trivial⟩, hM.pick [0] rfl⟩
    · refine gq (wanted_t hf rfl rfl rfl rfl hc26) hf rfl rfl (e_move hf rfl) fun a hf => ?_
      have hl28 := slice_len (hM.dat (k := 0) rfl)
      refine gq (wanted_t hf rfl rfl rfl rfl hc26) hf rfl rfl (e_lenL hf (x := list5) rfl Tryz.underlying30) fun a hf => ?_
      refine gq (wanted_t hf rfl rfl rfl rfl hc26) hf rfl rfl (e_gt hf (x := (list5.length : Int)) (y := 30) rfl rfl) fun a hf => ?_
      refine q_ hf rfl rfl rfl (e_pick_f hf rfl hc26 rfl) fun a hf => ?_
      refine pl_nil ?_
      obtain rfl := some_inj h20
      refine then_n ?_
      exact ⟨(decide (30 < (list5.length : Int))), rfl, hf.keep ⟨rfl, rfl, rfl, rfl, trivial⟩, hM.pick [0] rfl⟩
  · rintro a w30 ⟨t17, rfl, hf, hM⟩
    try dsimp only at h
    rcases cond_some h with ⟨hc31, h⟩ | ⟨hc31, h⟩
    · refine cond_t hf rfl hc31 ?_
      refine wp_seq ?_
      refine region_pl ?_
      refine q_ hf rfl rfl rfl (e_build hf Tryz.zeroValue28 Tryz.underlying28 (bp_28 _ Tryz.underlying28.symm) rfl (cs := #[vI (0), vS (([] : Str)), vS (([] : Str))]) (by kernel_rfl)) fun a hf => ?_
      refine pl_0 hf rfl rfl (w_store hf hM (us := [vI (0), vS (([] : Str)), vS (([] : Str))]) (cs' := [vI (0), vS (([] : Str)), vS (([] : Str))]) rfl rfl (k := 0) rfl rfl Tryz.sizeOf28 rfl rfl rfl fun w32 hM => ?_)
      dsimp only [List.set] at hM
      refine q_ hf rfl rfl rfl (e_assign hf rfl) fun a hf => ?_
      refine pl_nil ?_
      refine then_n ?_
      refine wp_ret ?_
      refine then_r ?_
      obtain rfl := some_inj h
      have hres35 := leaveV2 (P := Tryz.prog) Tryz.results38 (res_agg hf rfl ⟨Tryz.isAgg28, Tryz.sizeOf28⟩ (us := [vI (0), vS (([] : Str)), vS (([] : Str))]) rfl (hM.boxSub (k := 0) (o := 0) rfl rfl)) (res_tmp hf rfl)
      have hM := hM.outs (own' := []) 0 rfl
      exact bodyPost_ret hres35 hf.defers ⟨rfl, hM.fin, (R64_lit rfl), (lit_len rfl), (lit_len rfl)⟩
    · refine cond_f hf rfl hc31 ?_
      refine wp_skip ?_
      refine then_n ?_
      obtain ⟨x42, h43, h⟩ := bind_some h
      refine seq_join (fun a w => ∃ (n36 : Int) (s38 : Str) (s40 : Str), (.inl (n36, s38, s40)) = x42 ∧ Has 33 a [(2, vP b9 (0)), (4, vP b13 (0))] ∧ Mem C w [.box b13 [vI (0), vS (([] : Str)), vS (([] : Str))] 28, .box b9 [vI (n36), vS (s38), vS (s40)] 28] [.dat (sliceRep TurnRep) list5 [vL A6 list5 c7]] ∧ R64 n36 ∧ s38.length ≤ maxLen ∧ s40.length ≤ maxLen) ?_ ?_
      · refine wp_seq ?_
        refine region_pl ?_
        refine q_ hf rfl rfl rfl (e_move hf rfl) fun a hf => ?_
        have hl44 := slice_len (hM.dat (k := 0) rfl)
        refine q_ hf rfl rfl rfl (e_lenL hf (x := list5) rfl Tryz.underlying30) fun a hf => ?_
        refine q_ hf rfl rfl rfl (e_move hf rfl) fun a hf => ?_
        refine pl_nil ?_
        refine then_n ?_
        refine wp_block ?_
        obtain ⟨x60, h61, h43⟩ := bind_some h43
        refine wp_loopM h61 (fun s a w => ∃ (n45 : Int) (s47 : Str) (s49 : Str) (n51 : Int), (n45, s47, s49, n51) = s ∧ Has 33 a [(2, vP b9 (0)), (4, vP b13 (0)), (17, vL A6 (list5) c7), (18, vI ((list5.length : Int))), (19, vI (n51))] ∧ Mem C w [.box b13 [vI (0), vS (([] : Str)), vS (([] : Str))] 28, .box b9 [vI (n45), vS (s47), vS (s49)] 28] [.dat (sliceRep TurnRep) list5 [vL A6 list5 c7]] ∧ R64 n45 ∧ s47.length ≤ maxLen ∧ s49.length ≤ maxLen ∧ R64 n51) ?_ ?_
        · exact ⟨b1.Size, b1.Premium, b1.Cells, 0, rfl, hf.keep ⟨rfl, rfl, rfl, rfl, rfl, trivial⟩, hM.pick [0] rfl, hp2, hp3, hp4, (R64_lit rfl)⟩
        · rintro s o62 a w53 ⟨n45, s47, s49, n51, rfl, hf, hM, hv46, hv48, hv50, hv52⟩ h63 hd64
          replace h63 : m_impl_replayTurns_l1 list5 n45 s47 s49 n51 = some o62 := h63
          unfold m_impl_replayTurns_l1 at h63
          refine wp_seq ?_
          refine region_pl ?_
          refine q_ hf rfl rfl rfl (e_lt hf (x := n51) (y := (list5.length : Int)) rfl rfl) fun a hf => ?_
          refine pl_nil ?_
          refine then_n ?_
          refine wp_seq ?_
          rcases cond_some h63 with ⟨hc65, h63⟩ | ⟨hc65, h63⟩
          · refine cond_t hf rfl hc65 ?_
            refine wp_skip ?_
            refine then_n ?_
            refine wp_seq ?_
            refine wp_block ?_
            refine wp_seq ?_
            refine region_pl ?_
            obtain ⟨e66, hz67, h63⟩ := bind_some h63
            obtain ⟨b71, o72, _, hA73, h68, h69, hr70, hM⟩ := hM.elem (hM.dat (k := 0) rfl) (n := 6) rfl hz67
            obtain ⟨rfl, hv74, hv75, hv76, hv77⟩ := TurnRep_open hr70
            refine q_ hf rfl rfl rfl (e_indexAddr (A := A6) (b := b71) (o := o72) (xs := list5) (i := n51) hf hA73 rfl rfl Tryz.underlying30 Tryz.sizeOf49 h68 h69) fun a hf => ?_
            refine q_ hf rfl rfl rfl (e_loadA hf (us := [vS (e66.Rack), .bool (e66.Pass), vI (e66.Play.Row), vI (e66.Play.Col), .bool (e66.Play.Down), vS (e66.Play.Word)]) rfl ⟨Tryz.isAgg49, Tryz.sizeOf49⟩ rfl (hM.litSub (k := 0) (d := 0) (us := [vS (e66.Rack), .bool (e66.Pass), vI (e66.Play.Row), vI (e66.Play.Col), .bool (e66.Play.Down), vS (e66.Play.Word)]) rfl rfl rfl)) fun a hf => ?_
            refine pl_l hf rfl rfl rfl (w_alloc hM (cs := [vS (([] : Str)), .bool (false), vI (0), vI (0), .bool (false), vS (([] : Str))]) Tryz.zeroValue49 rfl fun b78 w79 hx80 hM a hf => ?_)
            refine pl_0 hf rfl rfl (w_store hf hM (us := [vS (e66.Rack), .bool (e66.Pass), vI (e66.Play.Row), vI (e66.Play.Col), .bool (e66.Play.Down), vS (e66.Play.Word)]) (cs' := [vS (e66.Rack), .bool (e66.Pass), vI (e66.Play.Row), vI (e66.Play.Col), .bool (e66.Play.Down), vS (e66.Play.Word)]) rfl rfl (k := 0) rfl rfl Tryz.sizeOf49 rfl rfl rfl fun w82 hM => ?_)
            dsimp only [List.set] at hM
            refine pl_nil ?_
            refine then_n ?_
            refine wp_seq ?_
            refine wp_seq ?_
            refine region_pl ?_
            refine q_ hf rfl rfl rfl (e_loadA hf (us := [vS (e66.Rack), .bool (e66.Pass), vI (e66.Play.Row), vI (e66.Play.Col), .bool (e66.Play.Down), vS (e66.Play.Word)]) rfl ⟨Tryz.isAgg49, Tryz.sizeOf49⟩ rfl (hM.boxSub (k := 0) (us := [vS (e66.Rack), .bool (e66.Pass), vI (e66.Play.Row), vI (e66.Play.Col), .bool (e66.Play.Down), vS (e66.Play.Word)]) (o := 0) rfl rfl)) fun a hf => ?_
            refine q_ hf rfl rfl rfl (e_loadA hf (us := [vI (n45), vS (s47), vS (s49)]) rfl ⟨Tryz.isAgg28, Tryz.sizeOf28⟩ rfl (hM.boxSub (k := 2) (us := [vI (n45), vS (s47), vS (s49)]) (o := 0) rfl rfl)) fun a hf => ?_
            obtain ⟨y85, hz86, h63⟩ := bind_some h63
            refine pl_l hf rfl rfl rfl (w_call hf Tryz.call80 rfl (r_impl_Turn_possible ⟨_, Sh C _ _, none_, hM.sh_lt, none_not, C.G, hM.g_lt, g_none, hM.tabs⟩ e66 hv74 hv75 hv76 hv77 (⟨n45, s47, s49⟩ : Board) hv46 hv48 hv50 _ hz86) ?_)
            rintro _ w87 ⟨rfl, hM2⟩
            obtain ⟨hM, hx88, hup89⟩ := hM.back hM2
            dsimp only [List.cons_append, List.nil_append] at hM hup89
            clear hM2
            refine ⟨_, rfl, fun a hf => ?_⟩
            refine q_ hf rfl rfl rfl (e_not hf rfl) fun a hf => ?_
            refine pl_nil ?_
            refine then_n ?_
            rcases cond_some h63 with ⟨hc90, h63⟩ | ⟨hc90, h63⟩
            · refine cond_t hf rfl hc90 ?_
              refine wp_seq ?_
              refine region_pl ?_
              refine q_ hf rfl rfl rfl (e_build hf Tryz.zeroValue28 Tryz.underlying28 (bp_28 _ Tryz.underlying28.symm) rfl (cs := #[vI (0), vS (([] : Str)), vS (([] : Str))]) (by kernel_rfl)) fun a hf => ?_
              refine pl_0 hf rfl rfl (w_store hf hM (us := [vI (0), vS (([] : Str)), vS (([] : Str))]) (cs' := [vI (0), vS (([] : Str)), vS (([] : Str))]) rfl rfl (k := 1) rfl rfl Tryz.sizeOf28 rfl rfl rfl fun w91 hM => ?_)
              dsimp only [List.set] at hM
              refine q_ hf rfl rfl rfl (e_assign hf rfl) fun a hf => ?_
              refine pl_nil ?_
              refine then_n ?_
              refine wp_ret ?_
              refine then_r ?_
              refine blk_r ?_
              refine then_r ?_
              obtain rfl := some_inj h63
              obtain rfl := hd64 _ rfl
              try dsimp only at h43
              refine then_r ?_
              refine blk_r ?_
              obtain rfl := some_inj h43
              try dsimp only at h
              refine then_r ?_
              obtain rfl := some_inj h
              have hres96 := leaveV2 (P := Tryz.prog) Tryz.results38 (res_agg hf rfl ⟨Tryz.isAgg28, Tryz.sizeOf28⟩ (us := [vI (0), vS (([] : Str)), vS (([] : Str))]) rfl (hM.boxSub (k := 1) (o := 0) rfl rfl)) (res_tmp hf rfl)
              have hM := hM.outs (own' := []) 0 rfl
              exact bodyPost_ret hres96 hf.defers ⟨rfl, hM.fin, (R64_lit rfl), (lit_len rfl), (lit_len rfl)⟩
            · refine cond_f hf rfl hc90 ?_
              refine wp_skip ?_
              refine then_n ?_
              refine region_pl ?_
              refine q_ hf rfl rfl rfl (e_loadA hf (us := [vS (e66.Rack), .bool (e66.Pass), vI (e66.Play.Row), vI (e66.Play.Col), .bool (e66.Play.Down), vS (e66.Play.Word)]) rfl ⟨Tryz.isAgg49, Tryz.sizeOf49⟩ rfl (hM.boxSub (k := 0) (us := [vS (e66.Rack), .bool (e66.Pass), vI (e66.Play.Row), vI (e66.Play.Col), .bool (e66.Play.Down), vS (e66.Play.Word)]) (o := 0) rfl rfl)) fun a hf => ?_
              refine q_ hf rfl rfl rfl (e_loadA hf (us := [vI (n45), vS (s47), vS (s49)]) rfl ⟨Tryz.isAgg28, Tryz.sizeOf28⟩ rfl (hM.boxSub (k := 2) (us := [vI (n45), vS (s47), vS (s49)]) (o := 0) rfl rfl)) fun a hf => ?_
              obtain ⟨y97, hz98, h63⟩ := bind_some h63
              refine pl_l hf rfl rfl rfl (w_call hf Tryz.call81 rfl (r_impl_Turn_after ⟨_, Sh C _ _, none_, hM.sh_lt, none_not, C.G, hM.g_lt, g_none, hM.tabs⟩ e66 hv74 hv75 hv76 hv77 (⟨n45, s47, s49⟩ : Board) hv46 hv48 hv50 _ hz98) ?_)
              rintro _ w102 ⟨rfl, hM2, hv99, hv100, hv101⟩
              obtain ⟨hM, hx103, hup104⟩ := hM.back hM2
              dsimp only [List.cons_append, List.nil_append] at hM hup104
              clear hM2
              refine ⟨_, rfl, fun a hf => ?_⟩
              refine pl_0 hf rfl rfl (w_store hf hM (us := [vI (y97.Size), vS (y97.Premium), vS (y97.Cells)]) (cs' := [vI (y97.Size), vS (y97.Premium), vS (y97.Cells)]) rfl rfl (k := 2) rfl rfl Tryz.sizeOf28 rfl rfl rfl fun w105 hM => ?_)
              dsimp only [List.set] at hM
              refine pl_nil ?_
              refine blk_n ?_
              refine then_n ?_
              refine region_pl ?_
              obtain ⟨z108, hz109, h63⟩ := bind_some h63
              refine q_ hf rfl rfl rfl (e_add hf rfl rfl hz109) fun a hf => ?_
              refine q_ hf rfl rfl rfl (e_move hf rfl) fun a hf => ?_
              refine pl_nil ?_
              obtain rfl := some_inj h63
              refine then_n ⟨_, rfl, ?_⟩
              exact ⟨y97.Size, y97.Premium, y97.Cells, z108, rfl, hf.keep ⟨rfl, rfl, rfl, rfl, rfl, trivial⟩, (hM.drop (.cons _ (.cons_cons _ (.cons_cons _ .slnil)))).pick [1] rfl, hv99, hv100, hv101, (chk_R hz109)⟩
          · refine cond_f hf rfl hc65 ?_
            refine wp_exit ?_
            refine then_x ?_
            obtain rfl := some_inj h63
            obtain rfl := hd64 _ rfl
            try dsimp only at h43
            refine then_x ?_
            refine exit_hit ?_
            obtain rfl := some_inj h43
            refine then_n ?_
            exact ⟨n45, s47, s49, rfl, hf.keep ⟨rfl, rfl, trivial⟩, hM.pick [0] rfl, hv46, hv48, hv50⟩
      · rintro a w116 ⟨n36, s38, s40, rfl, hf, hM, hv37, hv39, hv41⟩
        try dsimp only at h
        refine wp_seq ?_
        refine region_pl ?_
        refine q_ hf rfl rfl rfl (e_loadA hf (us := [vI (n36), vS (s38), vS (s40)]) rfl ⟨Tryz.isAgg28, Tryz.sizeOf28⟩ rfl (hM.boxSub (k := 1) (us := [vI (n36), vS (s38), vS (s40)]) (o := 0) rfl rfl)) fun a hf => ?_
        refine pl_0 hf rfl rfl (w_store hf hM (us := [vI (n36), vS (s38), vS (s40)]) (cs' := [vI (n36), vS (s38), vS (s40)]) rfl rfl (k := 0) rfl rfl Tryz.sizeOf28 rfl rfl rfl fun w117 hM => ?_)
        dsimp only [List.set] at hM
        refine q_ hf rfl rfl rfl (e_assign hf rfl) fun a hf => ?_
        refine pl_nil ?_
        refine then_n ?_
        refine wp_ret ?_
        obtain rfl := some_inj h
        have hres120 := leaveV2 (P := Tryz.prog) Tryz.results38 (res_agg hf rfl ⟨Tryz.isAgg28, Tryz.sizeOf28⟩ (us := [vI (n36), vS (s38), vS (s40)]) rfl (hM.boxSub (k := 0) (o := 0) rfl rfl)) (res_tmp hf rfl)
        have hM := hM.outs (own' := []) 0 rfl
        exact bodyPost_ret hres120 hf.defers ⟨rfl, hM.fin, hv37, hv39, hv41⟩

set_option maxRecDepth 100000 in
set_option maxHeartbeats 4000000 in
theorem r_impl_ReplayTurns (C : Cx) (b1 : Board) (hp2 : R64 b1.Size) (hp3 : b1.Premium.length ≤ maxLen) (hp4 : b1.Cells.length ≤ maxLen) (list5 : (List Turn)) (A6 : Option Addr) (c7 : Nat) (hp8 : (sliceRep TurnRep).R C.w0 C.S0 list5 [vL A6 list5 c7]) (r : (Board × Int)) (h : m_impl_ReplayTurns b1 list5 = some r) :
    Calls Tryz.prog 22 #[.agg #[vI (b1.Size), vS (b1.Premium), vS (b1.Cells)], vL A6 (list5) c7] C.w0 fun e w => e = .returned (.tuple #[.agg #[vI (r.1.Size), vS (r.1.Premium), vS (r.1.Cells)], vI (r.2)]) ∧ Mem C w [] [] ∧ R64 r.1.Size ∧ r.1.Premium.length ≤ maxLen ∧ r.1.Cells.length ≤ maxLen ∧ R64 r.2 := by
  have hM := Mem.begin C [.dat (sliceRep TurnRep) list5 [vL A6 list5 c7]] ⟨hp8, trivial⟩
  refine enter Tryz.func22 rfl Tryz.ntmps22 rfl fun a hf => ?_
  unfold m_impl_ReplayTurns at h
  refine wp_seq ?_
  refine region_pl ?_
  refine pl_l hf rfl rfl rfl (w_box hf hM (cs := [vI (b1.Size), vS (b1.Premium), vS (b1.Cells)]) rfl rfl fun b9 w10 hx11 hM a hf => ?_)
  refine pl_l hf rfl rfl rfl (w_alloc hM (cs := [vI (0), vS (([] : Str)), vS (([] : Str))]) Tryz.zeroValue28 rfl fun b13 w14 hx15 hM a hf => ?_)
  refine q_ hf rfl rfl rfl (e_assign hf rfl) fun a hf => ?_
  refine pl_nil ?_
  refine then_n ?_
  refine wp_seq ?_
  refine region_pl ?_
  refine q_ hf rfl rfl rfl (e_loadA hf (us := [vI (b1.Size), vS (b1.Premium), vS (b1.Cells)]) rfl ⟨Tryz.isAgg28, Tryz.sizeOf28⟩ rfl (hM.boxSub (k := 1) (us := [vI (b1.Size), vS (b1.Premium), vS (b1.Cells)]) (o := 0) rfl rfl)) fun a hf => ?_
  refine q_ hf rfl rfl rfl (e_move hf rfl) fun a hf => ?_
  obtain ⟨y17, hz18, h⟩ := bind_some h
  refine pl_l hf rfl rfl rfl (w_call hf Tryz.call38 rfl (r_impl_replayTurns ⟨_, Sh C _ _, none_, hM.sh_lt, none_not, C.G, hM.g_lt, g_none, hM.tabs⟩ b1 hp2 hp3 hp4 list5 _ _ (hM.dat (k := 0) rfl) _ hz18) ?_)
  rintro _ w22 ⟨rfl, hM2, hv19, hv20, hv21⟩
  obtain ⟨hM, hx23, hup24⟩ := hM.back hM2
  dsimp only [List.cons_append, List.nil_append] at hM hup24
  clear hM2
  refine ⟨_, rfl, fun a hf => ?_⟩
  refine q_ hf rfl rfl rfl (e_move hf rfl) fun a hf => ?_
  refine q_ hf rfl rfl rfl (e_extract hf rfl rfl) fun a hf => ?_
  refine q_ hf rfl rfl rfl (e_extract hf rfl rfl) fun a hf => ?_
  refine pl_l hf rfl rfl rfl (w_alloc hM (cs := [vI (0), vS (([] : Str)), vS (([] : Str))]) Tryz.zeroValue28 rfl fun b25 w26 hx27 hM a hf => ?_)
  refine pl_0 hf rfl rfl (w_store hf hM (us := [vI (y17.1.Size), vS (y17.1.Premium), vS (y17.1.Cells)]) (cs' := [vI (y17.1.Size), vS (y17.1.Premium), vS (y17.1.Cells)]) rfl rfl (k := 0) rfl rfl Tryz.sizeOf28 rfl rfl rfl fun w29 hM => ?_)
  dsimp only [List.set] at hM
  refine q_ hf rfl rfl rfl (e_assign hf rfl) fun a hf => ?_
  refine pl_nil ?_
  refine then_n ?_
  refine wp_seq ?_
  refine wp_seq ?_
  refine region_pl ?_
  refine q_ hf rfl rfl rfl (e_move hf rfl) fun a hf => ?_
  refine q_ hf rfl rfl rfl (e_not hf rfl) fun a hf => ?_
  refine pl_nil ?_
  refine then_n ?_
  rcases cond_some h with ⟨hc32, h⟩ | ⟨hc32, h⟩
  · refine cond_t hf rfl hc32 ?_
    refine wp_seq ?_
    refine region_pl ?_
    refine q_ hf rfl rfl rfl (e_build hf Tryz.zeroValue28 Tryz.underlying28 (bp_28 _ Tryz.underlying28.symm) rfl (cs := #[vI (0), vS (([] : Str)), vS (([] : Str))]) (by kernel_rfl)) fun a hf => ?_
    refine pl_0 hf rfl rfl (w_store hf hM (us := [vI (0), vS (([] : Str)), vS (([] : Str))]) (cs' := [vI (0), vS (([] : Str)), vS (([] : Str))]) rfl rfl (k := 1) rfl rfl Tryz.sizeOf28 rfl rfl rfl fun w33 hM => ?_)
    dsimp only [List.set] at hM
    refine q_ hf rfl rfl rfl (e_assign hf rfl) fun a hf => ?_
    refine pl_nil ?_
    refine then_n ?_
    refine wp_ret ?_
    refine then_r ?_
    obtain rfl := some_inj h
    have hres36 := leaveV2 (P := Tryz.prog) Tryz.results22 (res_agg hf rfl ⟨Tryz.isAgg28, Tryz.sizeOf28⟩ (us := [vI (0), vS (([] : Str)), vS (([] : Str))]) rfl (hM.boxSub (k := 1) (o := 0) rfl rfl)) (res_tmp hf rfl)
    have hM := hM.outs (own' := []) 0 rfl
    exact bodyPost_ret hres36 hf.defers ⟨rfl, hM.fin, (R64_lit rfl), (lit_len rfl), (lit_len rfl), (R64_lit rfl)⟩
  · refine cond_f hf rfl hc32 ?_
    refine wp_skip ?_
    refine then_n ?_
    refine wp_seq ?_
    refine region_pl ?_
    refine q_ hf rfl rfl rfl (e_loadA hf (us := [vI (y17.1.Size), vS (y17.1.Premium), vS (y17.1.Cells)]) rfl ⟨Tryz.isAgg28, Tryz.sizeOf28⟩ rfl (hM.boxSub (k := 0) (us := [vI (y17.1.Size), vS (y17.1.Premium), vS (y17.1.Cells)]) (o := 0) rfl rfl)) fun a hf => ?_
    refine pl_0 hf rfl rfl (w_store hf hM (us := [vI (y17.1.Size), vS (y17.1.Premium), vS (y17.1.Cells)]) (cs' := [vI (y17.1.Size), vS (y17.1.Premium), vS (y17.1.Cells)]) rfl rfl (k := 1) rfl rfl Tryz.sizeOf28 rfl rfl rfl fun w37 hM => ?_)
    dsimp only [List.set] at hM
    refine q_ hf rfl rfl rfl (e_assign hf rfl) fun a hf => ?_
    refine pl_nil ?_
    refine then_n ?_
    refine wp_ret ?_
    obtain rfl := some_inj h
    have hres40 := leaveV2 (P := Tryz.prog) Tryz.results22 (res_agg hf rfl ⟨Tryz.isAgg28, Tryz.sizeOf28⟩ (us := [vI (y17.1.Size), vS (y17.1.Premium), vS (y17.1.Cells)]) rfl (hM.boxSub (k := 1) (o := 0) rfl rfl)) (res_tmp hf rfl)
    have hM := hM.outs (own' := []) 0 rfl
    exact bodyPost_ret hres40 hf.defers ⟨rfl, hM.fin, hv19, hv20, hv21, (R64_lit rfl)⟩

set_option maxRecDepth 100000 in
set_option maxHeartbeats 4000000 in
theorem r_laws_eqBoard (C : Cx) (a1 : Board) (hp2 : R64 a1.Size) (hp3 : a1.Premium.length ≤ maxLen) (hp4 : a1.Cells.length ≤ maxLen) (b5 : Board) (hp6 : R64 b5.Size) (hp7 : b5.Premium.length ≤ maxLen) (hp8 : b5.Cells.length ≤ maxLen) (r : Bool) (h : m_laws_eqBoard a1 b5 = some r) :
    Calls Tryz.prog 23 #[.agg #[vI (a1.Size), vS (a1.Premium), vS (a1.Cells)], .agg #[vI (b5.Size), vS (b5.Premium), vS (b5.Cells)]] C.w0 fun e w => e = .returned (.bool (r)) ∧ Mem C w [] [] := by
  have hM := Mem.begin C [] trivial
  refine enter Tryz.func23 rfl Tryz.ntmps23 rfl fun a hf => ?_
  unfold m_laws_eqBoard at h
  refine wp_seq ?_
  refine region_pl ?_
  refine pl_l hf rfl rfl rfl (w_box hf hM (cs := [vI (a1.Size), vS (a1.Premium), vS (a1.Cells)]) rfl rfl fun b9 w10 hx11 hM a hf => ?_)
  refine pl_l hf rfl rfl rfl (w_box hf hM (cs := [vI (b5.Size), vS (b5.Premium), vS (b5.Cells)]) rfl rfl fun b13 w14 hx15 hM a hf => ?_)
  refine q_ hf rfl rfl rfl (e_assign hf rfl) fun a hf => ?_
  refine pl_nil ?_
  refine then_n ?_
  refine wp_seq ?_
  refine wp_seq ?_
  refine region_pl ?_
  refine q_ hf rfl rfl rfl (e_field hf rfl Tryz.underlying28 rfl Tryz.sizeOf2 (o' := 0) rfl) fun a hf => ?_
  refine q_ hf rfl rfl rfl (e_load1 hf rfl Tryz.isAgg2 (hM.boxCell (k := 1) rfl rfl)) fun a hf => ?_
  refine q_ hf rfl rfl rfl (e_field hf rfl Tryz.underlying28 rfl Tryz.sizeOf2 (o' := 0) rfl) fun a hf => ?_
  refine q_ hf rfl rfl rfl (e_load1 hf rfl Tryz.isAgg2 (hM.boxCell (k := 0) rfl rfl)) fun a hf => ?_
  refine q_ hf rfl rfl rfl (e_ne hf (x := a1.Size) (y := b5.Size) rfl rfl) fun a hf => ?_
  refine pl_nil ?_
  refine then_n ?_
  rcases cond_some h with ⟨hc17, h⟩ | ⟨hc17, h⟩
  · refine cond_t hf rfl hc17 ?_
    refine wp_seq ?_
    refine region_pl ?_
    refine q_ hf rfl rfl rfl (e_assign hf rfl) fun a hf => ?_
    refine pl_nil ?_
    refine then_n ?_
    refine wp_ret ?_
    refine then_r ?_
    obtain rfl := some_inj h
    have hM := hM.outs (own' := []) 0 rfl
    exact leave1 hf rfl rfl ⟨rfl, hM.fin⟩
  · refine cond_f hf rfl hc17 ?_
    refine wp_skip ?_
    refine then_n ?_
    refine wp_seq ?_
    refine wp_seq ?_
    refine region_pl ?_
    refine q_ hf rfl rfl rfl (e_field hf rfl Tryz.underlying28 rfl Tryz.sizeOf9 (o' := 1) rfl) fun a hf => ?_
    refine q_ hf rfl rfl rfl (e_load1 hf rfl Tryz.isAgg9 (hM.boxCell (k := 1) rfl rfl)) fun a hf => ?_
    refine q_ hf rfl rfl rfl (e_field hf rfl Tryz.underlying28 rfl Tryz.sizeOf9 (o' := 1) rfl) fun a hf => ?_
    refine q_ hf rfl rfl rfl (e_load1 hf rfl Tryz.isAgg9 (hM.boxCell (k := 0) rfl rfl)) fun a hf => ?_
    refine q_ hf rfl rfl rfl (e_neS hf (x := a1.Premium) (y := b5.Premium) rfl rfl) fun a hf => ?_
    refine pl_nil ?_
    refine then_n ?_
    rcases cond_some h with ⟨hc18, h⟩ | ⟨hc18, h⟩
    · refine cond_t hf rfl hc18 ?_
      refine wp_seq ?_
      refine region_pl ?_
      refine q_ hf rfl rfl rfl (e_assign hf rfl) fun a hf => ?_
      refine pl_nil ?_
      refine then_n ?_
      refine wp_ret ?_
      refine then_r ?_
      obtain rfl := some_inj h
      have hM := hM.outs (own' := []) 0 rfl
      exact leave1 hf rfl rfl ⟨rfl, hM.fin⟩
    · refine cond_f hf rfl hc18 ?_
      refine wp_skip ?_
      refine then_n ?_
      refine wp_seq ?_
      refine wp_seq ?_
      refine region_pl ?_
      refine q_ hf rfl rfl rfl (e_field hf rfl Tryz.underlying28 rfl Tryz.sizeOf9 (o' := 2) rfl) fun a hf => ?_
      refine q_ hf rfl rfl rfl (e_load1 hf rfl Tryz.isAgg9 (hM.boxCell (k := 1) rfl rfl)) fun a hf => ?_
      refine q_ hf rfl rfl rfl (e_field hf rfl Tryz.underlying28 rfl Tryz.sizeOf9 (o' := 2) rfl) fun a hf => ?_
      refine q_ hf rfl rfl rfl (e_load1 hf rfl Tryz.isAgg9 (hM.boxCell (k := 0) rfl rfl)) fun a hf => ?_
      refine q_ hf rfl rfl rfl (e_neS hf (x := a1.Cells) (y := b5.Cells) rfl rfl) fun a hf => ?_
      refine pl_nil ?_
      refine then_n ?_
      rcases cond_some h with ⟨hc19, h⟩ | ⟨hc19, h⟩
      · refine cond_t hf rfl hc19 ?_
        refine wp_seq ?_
        refine region_pl ?_
        refine q_ hf rfl rfl rfl (e_assign hf rfl) fun a hf => ?_
        refine pl_nil ?_
        refine then_n ?_
        refine wp_ret ?_
        refine then_r ?_
        obtain rfl := some_inj h
        have hM := hM.outs (own' := []) 0 rfl
        exact leave1 hf rfl rfl ⟨rfl, hM.fin⟩
      · refine cond_f hf rfl hc19 ?_
        refine wp_skip ?_
        refine then_n ?_
        refine wp_seq ?_
        refine region_pl ?_
        refine q_ hf rfl rfl rfl (e_assign hf rfl) fun a hf => ?_
        refine pl_nil ?_
        refine then_n ?_
        refine wp_ret ?_
        obtain rfl := some_inj h
        have hM := hM.outs (own' := []) 0 rfl
        exact leave1 hf rfl rfl ⟨rfl, hM.fin⟩

set_option maxRecDepth 100000 in
set_option maxHeartbeats 4000000 in
theorem r_laws_eqPlay (C : Cx) (a1 : Play) (hp2 : R64 a1.Row) (hp3 : R64 a1.Col) (hp4 : a1.Word.length ≤ maxLen) (b5 : Play) (hp6 : R64 b5.Row) (hp7 : R64 b5.Col) (hp8 : b5.Word.length ≤ maxLen) (r : Bool) (h : m_laws_eqPlay a1 b5 = some r) :
    Calls Tryz.prog 57 #[.agg #[vI (a1.Row), vI (a1.Col), .bool (a1.Down), vS (a1.Word)], .agg #[vI (b5.Row), vI (b5.Col), .bool (b5.Down), vS (b5.Word)]] C.w0 fun e w => e = .returned (.bool (r)) ∧ Mem C w [] [] := by
  have hM := Mem.begin C [] trivial
  refine enter Tryz.func57 rfl Tryz.ntmps57 rfl fun a hf => ?_
  unfold m_laws_eqPlay at h
  refine wp_seq ?_
  refine region_pl ?_
  refine pl_l hf rfl rfl rfl (w_box hf hM (cs := [vI (a1.Row), vI (a1.Col), .bool (a1.Down), vS (a1.Word)]) rfl rfl fun b9 w10 hx11 hM a hf => ?_)
  refine pl_l hf rfl rfl rfl (w_box hf hM (cs := [vI (b5.Row), vI (b5.Col), .bool (b5.Down), vS (b5.Word)]) rfl rfl fun b13 w14 hx15 hM a hf => ?_)
  refine q_ hf rfl rfl rfl (e_assign hf rfl) fun a hf => ?_
  refine pl_nil ?_
  refine then_n ?_
  refine wp_seq ?_
  refine wp_seq ?_
  refine region_pl ?_
  refine q_ hf rfl rfl rfl (e_field hf rfl Tryz.underlying41 rfl Tryz.sizeOf2 (o' := 0) rfl) fun a hf => ?_
  refine q_ hf rfl rfl rfl (e_load1 hf rfl Tryz.isAgg2 (hM.boxCell (k := 1) rfl rfl)) fun a hf => ?_
  refine q_ hf rfl rfl rfl (e_field hf rfl Tryz.underlying41 rfl Tryz.sizeOf2 (o' := 0) rfl) fun a hf => ?_
  refine q_ hf rfl rfl rfl (e_load1 hf rfl Tryz.isAgg2 (hM.boxCell (k := 0) rfl rfl)) fun a hf => ?_
  refine q_ hf rfl rfl rfl (e_ne hf (x := a1.Row) (y := b5.Row) rfl rfl) fun a hf => ?_
  refine pl_nil ?_
  refine then_n ?_
  rcases cond_some h with ⟨hc17, h⟩ | ⟨hc17, h⟩
  · refine cond_t hf rfl hc17 ?_
    refine wp_seq ?_
    refine region_pl ?_
    refine q_ hf rfl rfl rfl (e_assign hf rfl) fun a hf => ?_
    refine pl_nil ?_
    refine then_n ?_
    refine wp_ret ?_
    refine then_r ?_
    obtain rfl := some_inj h
    have hM := hM.outs (own' := []) 0 rfl
    exact leave1 hf rfl rfl ⟨rfl, hM.fin⟩
  · refine cond_f hf rfl hc17 ?_
    refine wp_skip ?_
    refine then_n ?_
    refine wp_seq ?_
    refine wp_seq ?_
    refine region_pl ?_
    refine q_ hf rfl rfl rfl (e_field hf rfl Tryz.underlying41 rfl Tryz.sizeOf2 (o' := 1) rfl) fun a hf => ?_
    refine q_ hf rfl rfl rfl (e_load1 hf rfl Tryz.isAgg2 (hM.boxCell (k := 1) rfl rfl)) fun a hf => ?_
    refine q_ hf rfl rfl rfl (e_field hf rfl Tryz.underlying41 rfl Tryz.sizeOf2 (o' := 1) rfl) fun a hf => ?_
    refine q_ hf rfl rfl rfl (e_load1 hf rfl Tryz.isAgg2 (hM.boxCell (k := 0) rfl rfl)) fun a hf => ?_
    refine q_ hf rfl rfl rfl (e_ne hf (x := a1.Col) (y := b5.Col) rfl rfl) fun a hf => ?_
    refine pl_nil ?_
    refine then_n ?_
    rcases cond_some h with ⟨hc18, h⟩ | ⟨hc18, h⟩
    · refine cond_t hf rfl hc18 ?_
      refine wp_seq ?_
      refine region_pl ?_
      refine q_ hf rfl rfl rfl (e_assign hf rfl) fun a hf => ?_
      refine pl_nil ?_
      refine then_n ?_
      refine wp_ret ?_
      refine then_r ?_
      obtain rfl := some_inj h
      have hM := hM.outs (own' := []) 0 rfl
      exact leave1 hf rfl rfl ⟨rfl, hM.fin⟩
    · refine cond_f hf rfl hc18 ?_
      refine wp_skip ?_
      refine then_n ?_
      refine wp_seq ?_
      refine wp_seq ?_
      refine region_pl ?_
      refine q_ hf rfl rfl rfl (e_field hf rfl Tryz.underlying41 rfl Tryz.sizeOf4 (o' := 2) rfl) fun a hf => ?_
      refine q_ hf rfl rfl rfl (e_load1 hf rfl Tryz.isAgg4 (hM.boxCell (k := 1) rfl rfl)) fun a hf => ?_
      refine q_ hf rfl rfl rfl (e_field hf rfl Tryz.underlying41 rfl Tryz.sizeOf4 (o' := 2) rfl) fun a hf => ?_
      refine q_ hf rfl rfl rfl (e_load1 hf rfl Tryz.isAgg4 (hM.boxCell (k := 0) rfl rfl)) fun a hf => ?_
      refine q_ hf rfl rfl rfl (e_neT hf rfl rfl Tryz.underlying4) fun a hf => ?_
      refine pl_nil ?_
      refine then_n ?_
      rcases cond_some h with ⟨hc19, h⟩ | ⟨hc19, h⟩
      · refine cond_t hf rfl hc19 ?_
        refine wp_seq ?_
        refine region_pl ?_
        refine q_ hf rfl rfl rfl (e_assign hf rfl) fun a hf => ?_
        refine pl_nil ?_
        refine then_n ?_
        refine wp_ret ?_
        refine then_r ?_
        obtain rfl := some_inj h
        have hM := hM.outs (own' := []) 0 rfl
        exact leave1 hf rfl rfl ⟨rfl, hM.fin⟩
      · refine cond_f hf rfl hc19 ?_
        refine wp_skip ?_
        refine then_n ?_
        refine wp_seq ?_
        refine wp_seq ?_
        refine region_pl ?_
        refine q_ hf rfl rfl rfl (e_field hf rfl Tryz.underlying41 rfl Tryz.sizeOf9 (o' := 3) rfl) fun a hf => ?_
        refine q_ hf rfl rfl rfl (e_load1 hf rfl Tryz.isAgg9 (hM.boxCell (k := 1) rfl rfl)) fun a hf => ?_
        refine q_ hf rfl rfl rfl (e_field hf rfl Tryz.underlying41 rfl Tryz.sizeOf9 (o' := 3) rfl) fun a hf => ?_
        refine q_ hf rfl rfl rfl (e_load1 hf rfl Tryz.isAgg9 (hM.boxCell (k := 0) rfl rfl)) fun a hf => ?_
        refine q_ hf rfl rfl rfl (e_neS hf (x := a1.Word) (y := b5.Word) rfl rfl) fun a hf => ?_
        refine pl_nil ?_
        refine then_n ?_
        rcases cond_some h with ⟨hc20, h⟩ | ⟨hc20, h⟩
        · refine cond_t hf rfl hc20 ?_
          refine wp_seq ?_
          refine region_pl ?_
          refine q_ hf rfl rfl rfl (e_assign hf rfl) fun a hf => ?_
          refine pl_nil ?_
          refine then_n ?_
          refine wp_ret ?_
          refine then_r ?_
          obtain rfl := some_inj h
          have hM := hM.outs (own' := []) 0 rfl
          exact leave1 hf rfl rfl ⟨rfl, hM.fin⟩
        · refine cond_f hf rfl hc20 ?_
          refine wp_skip ?_
          refine then_n ?_
          refine wp_seq ?_
          refine region_pl ?_
          refine q_ hf rfl rfl rfl (e_assign hf rfl) fun a hf => ?_
          refine pl_nil ?_
          refine then_n ?_
          refine wp_ret ?_
          obtain rfl := some_inj h
          have hM := hM.outs (own' := []) 0 rfl
          exact leave1 hf rfl rfl ⟨rfl, hM.fin⟩

set_option maxRecDepth 100000 in
set_option maxHeartbeats 4000000 in
theorem r_laws_eqTurn (C : Cx) (a1 : Turn) (hp2 : a1.Rack.length ≤ maxLen) (hp3 : R64 a1.Play.Row) (hp4 : R64 a1.Play.Col) (hp5 : a1.Play.Word.length ≤ maxLen) (b6 : Turn) (hp7 : b6.Rack.length ≤ maxLen) (hp8 : R64 b6.Play.Row) (hp9 : R64 b6.Play.Col) (hp10 : b6.Play.Word.length ≤ maxLen) (r : Bool) (h : m_laws_eqTurn a1 b6 = some r) :
    Calls Tryz.prog 26 #[.agg #[vS (a1.Rack), .bool (a1.Pass), vI (a1.Play.Row), vI (a1.Play.Col), .bool (a1.Play.Down), vS (a1.Play.Word)], .agg #[vS (b6.Rack), .bool (b6.Pass), vI (b6.Play.Row), vI (b6.Play.Col), .bool (b6.Play.Down), vS (b6.Play.Word)]] C.w0 fun e w => e = .returned (.bool (r)) ∧ Mem C w [] [] := by
  have hM := Mem.begin C [] trivial
  refine enter Tryz.func26 rfl Tryz.ntmps26 rfl fun a hf => ?_
  unfold m_laws_eqTurn at h
  refine wp_seq ?_
  refine region_pl ?_
  refine pl_l hf rfl rfl rfl (w_box hf hM (cs := [vS (a1.Rack), .bool (a1.Pass), vI (a1.Play.Row), vI (a1.Play.Col), .bool (a1.Play.Down), vS (a1.Play.Word)]) rfl rfl fun b11 w12 hx13 hM a hf => ?_)
  refine pl_l hf rfl rfl rfl (w_box hf hM (cs := [vS (b6.Rack), .bool (b6.Pass), vI (b6.Play.Row), vI (b6.Play.Col), .bool (b6.Play.Down), vS (b6.Play.Word)]) rfl rfl fun b15 w16 hx17 hM a hf => ?_)
  refine q_ hf rfl rfl rfl (e_assign hf rfl) fun a hf => ?_
  refine pl_nil ?_
  refine then_n ?_
  refine wp_seq ?_
  refine wp_seq ?_
  refine region_pl ?_
  refine q_ hf rfl rfl rfl (e_field hf rfl Tryz.underlying49 rfl Tryz.sizeOf9 (o' := 0) rfl) fun a hf => ?_
  refine q_ hf rfl rfl rfl (e_load1 hf rfl Tryz.isAgg9 (hM.boxCell (k := 1) rfl rfl)) fun a hf => ?_
  refine q_ hf rfl rfl rfl (e_field hf rfl Tryz.underlying49 rfl Tryz.sizeOf9 (o' := 0) rfl) fun a hf => ?_
  refine q_ hf rfl rfl rfl (e_load1 hf rfl Tryz.isAgg9 (hM.boxCell (k := 0) rfl rfl)) fun a hf => ?_
  refine q_ hf rfl rfl rfl (e_neS hf (x := a1.Rack) (y := b6.Rack) rfl rfl) fun a hf => ?_
  refine pl_nil ?_
  refine then_n ?_
  rcases cond_some h with ⟨hc19, h⟩ | ⟨hc19, h⟩
  · refine cond_t hf rfl hc19 ?_
    refine wp_seq ?_
    refine region_pl ?_
    refine q_ hf rfl rfl rfl (e_assign hf rfl) fun a hf => ?_
    refine pl_nil ?_
    refine then_n ?_
    refine wp_ret ?_
    refine then_r ?_
    obtain rfl := some_inj h
    have hM := hM.outs (own' := []) 0 rfl
    exact leave1 hf rfl rfl ⟨rfl, hM.fin⟩
  · refine cond_f hf rfl hc19 ?_
    refine wp_skip ?_
    refine then_n ?_
    refine wp_seq ?_
    refine wp_seq ?_
    refine region_pl ?_
    refine q_ hf rfl rfl rfl (e_field hf rfl Tryz.underlying49 rfl Tryz.sizeOf4 (o' := 1) rfl) fun a hf => ?_
    refine q_ hf rfl rfl rfl (e_load1 hf rfl Tryz.isAgg4 (hM.boxCell (k := 1) rfl rfl)) fun a hf => ?_
    refine q_ hf rfl rfl rfl (e_field hf rfl Tryz.underlying49 rfl Tryz.sizeOf4 (o' := 1) rfl) fun a hf => ?_
    refine q_ hf rfl rfl rfl (e_load1 hf rfl Tryz.isAgg4 (hM.boxCell (k := 0) rfl rfl)) fun a hf => ?_
    refine q_ hf rfl rfl rfl (e_neT hf rfl rfl Tryz.underlying4) fun a hf => ?_
    refine pl_nil ?_
    refine then_n ?_
    rcases cond_some h with ⟨hc20, h⟩ | ⟨hc20, h⟩
    · refine cond_t hf rfl hc20 ?_
      refine wp_seq ?_
      refine region_pl ?_
      refine q_ hf rfl rfl rfl (e_assign hf rfl) fun a hf => ?_
      refine pl_nil ?_
      refine then_n ?_
      refine wp_ret ?_
      refine then_r ?_
      obtain rfl := some_inj h
      have hM := hM.outs (own' := []) 0 rfl
      exact leave1 hf rfl rfl ⟨rfl, hM.fin⟩
    · refine cond_f hf rfl hc20 ?_
      refine wp_skip ?_
      refine then_n ?_
      refine wp_seq ?_
      refine wp_seq ?_
      refine region_pl ?_
      refine q_ hf rfl rfl rfl (e_field hf rfl Tryz.underlying49 rfl Tryz.sizeOf41 (o' := 2) rfl) fun a hf => ?_
      refine q_ hf rfl rfl rfl (e_loadA hf (us := [vI (a1.Play.Row), vI (a1.Play.Col), .bool (a1.Play.Down), vS (a1.Play.Word)]) rfl ⟨Tryz.isAgg41, Tryz.sizeOf41⟩ rfl (hM.boxSub (k := 1) (us := [vI (a1.Play.Row), vI (a1.Play.Col), .bool (a1.Play.Down), vS (a1.Play.Word)]) (o := 2) rfl rfl)) fun a hf => ?_
      refine q_ hf rfl rfl rfl (e_field hf rfl Tryz.underlying49 rfl Tryz.sizeOf41 (o' := 2) rfl) fun a hf => ?_
      refine q_ hf rfl rfl rfl (e_loadA hf (us := [vI (b6.Play.Row), vI (b6.Play.Col), .bool (b6.Play.Down), vS (b6.Play.Word)]) rfl ⟨Tryz.isAgg41, Tryz.sizeOf41⟩ rfl (hM.boxSub (k := 0) (us := [vI (b6.Play.Row), vI (b6.Play.Col), .bool (b6.Play.Down), vS (b6.Play.Word)]) (o := 2) rfl rfl)) fun a hf => ?_
      obtain ⟨y21, hz22, h⟩ := bind_some h
      refine pl_l hf rfl rfl rfl (w_call hf Tryz.call57 rfl (r_laws_eqPlay ⟨_, Sh C _ _, none_, hM.sh_lt, none_not, C.G, hM.g_lt, g_none, hM.tabs⟩ a1.Play hp3 hp4 hp5 b6.Play hp8 hp9 hp10 _ hz22) ?_)
      rintro _ w23 ⟨rfl, hM2⟩
      obtain ⟨hM, hx24, hup25⟩ := hM.back hM2
      dsimp only [List.cons_append, List.nil_append] at hM hup25
      clear hM2
      refine ⟨_, rfl, fun a hf => ?_⟩
      refine q_ hf rfl rfl rfl (e_not hf rfl) fun a hf => ?_
      refine pl_nil ?_
      refine then_n ?_
      rcases cond_some h with ⟨hc26, h⟩ | ⟨hc26, h⟩
      · refine cond_t hf rfl hc26 ?_
        refine wp_seq ?_
        refine region_pl ?_
        refine q_ hf rfl rfl rfl (e_assign hf rfl) fun a hf => ?_
        refine pl_nil ?_
        refine then_n ?_
        refine wp_ret ?_
        refine then_r ?_
        obtain rfl := some_inj h
        have hM := hM.outs (own' := []) 0 rfl
        exact leave1 hf rfl rfl ⟨rfl, hM.fin⟩
      · refine cond_f hf rfl hc26 ?_
        refine wp_skip ?_
        refine then_n ?_
        refine wp_seq ?_
        refine region_pl ?_
        refine q_ hf rfl rfl rfl (e_assign hf rfl) fun a hf => ?_
        refine pl_nil ?_
        refine then_n ?_
        refine wp_ret ?_
        obtain rfl := some_inj h
        have hM := hM.outs (own' := []) 0 rfl
        exact leave1 hf rfl rfl ⟨rfl, hM.fin⟩

set_option maxRecDepth 100000 in
set_option maxHeartbeats 4000000 in
theorem r_laws_eqTurnS (C : Cx) (a1 : (List Turn)) (A2 : Option Addr) (c3 : Nat) (hp4 : (sliceRep TurnRep).R C.w0 C.S0 a1 [vL A2 a1 c3]) (b5 : (List Turn)) (A6 : Option Addr) (c7 : Nat) (hp8 : (sliceRep TurnRep).R C.w0 C.S0 b5 [vL A6 b5 c7]) (r : Bool) (h : m_laws_eqTurnS a1 b5 = some r) :
    Calls Tryz.prog 15 #[vL A2 (a1) c3, vL A6 (b5) c7] C.w0 fun e w => e = .returned (.bool (r)) ∧ Mem C w [] [] := by
  have hM := Mem.begin C [.dat (sliceRep TurnRep) b5 [vL A6 b5 c7], .dat (sliceRep TurnRep) a1 [vL A2 a1 c3]] ⟨hp8, hp4, trivial⟩
  refine enter Tryz.func15 rfl Tryz.ntmps15 rfl fun a hf => ?_
  unfold m_laws_eqTurnS at h
  refine wp_seq ?_
  refine region_pl ?_
  refine q_ hf rfl rfl rfl (e_assign hf rfl) fun a hf => ?_
  refine pl_nil ?_
  refine then_n ?_
  refine wp_seq ?_
  refine wp_seq ?_
  refine region_pl ?_
  refine q_ hf rfl rfl rfl (e_move hf rfl) fun a hf => ?_
  have hl9 := slice_len (hM.dat (k := 1) rfl)
  refine q_ hf rfl rfl rfl (e_lenL hf (x := a1) rfl Tryz.underlying30) fun a hf => ?_
  refine q_ hf rfl rfl rfl (e_move hf rfl) fun a hf => ?_
  have hl10 := slice_len (hM.dat (k := 0) rfl)
  refine q_ hf rfl rfl rfl (e_lenL hf (x := b5) rfl Tryz.underlying30) fun a hf => ?_
  refine q_ hf rfl rfl rfl (e_ne hf (x := (a1.length : Int)) (y := (b5.length : Int)) rfl rfl) fun a hf => ?_
  refine pl_nil ?_
  refine then_n ?_
  rcases cond_some h with ⟨hc11, h⟩ | ⟨hc11, h⟩
  · refine cond_t hf rfl hc11 ?_
    refine wp_seq ?_
    refine region_pl ?_
    refine q_ hf rfl rfl rfl (e_assign hf rfl) fun a hf => ?_
    refine pl_nil ?_
    refine then_n ?_
    refine wp_ret ?_
    refine then_r ?_
    obtain rfl := some_inj h
    exact leave1 hf rfl rfl ⟨rfl, hM.fin⟩
  · refine cond_f hf rfl hc11 ?_
    refine wp_skip ?_
    refine then_n ?_
    obtain ⟨x12, h13, h⟩ := bind_some h
    refine seq_join (fun a w => (.inl ()) = x12 ∧ Has 27 a [] ∧ Mem C w [] [.dat (sliceRep TurnRep) b5 [vL A6 b5 c7], .dat (sliceRep TurnRep) a1 [vL A2 a1 c3]]) ?_ ?_
    · refine wp_seq ?_
      refine region_pl ?_
      refine q_ hf rfl rfl rfl (e_assign hf rfl) fun a hf => ?_
      refine pl_nil ?_
      refine then_n ?_
      refine wp_block ?_
      obtain ⟨x17, h18, h13⟩ := bind_some h13
      refine wp_loopM h18 (fun s a w => ∃ (n14 : Int), n14 = s ∧ Has 27 a [(0, vL A2 (a1) c3), (1, vL A6 (b5) c7), (5, vI (n14))] ∧ Mem C w [] [.dat (sliceRep TurnRep) b5 [vL A6 b5 c7], .dat (sliceRep TurnRep) a1 [vL A2 a1 c3]] ∧ R64 n14) ?_ ?_
      · exact ⟨0, rfl, hf.keep ⟨rfl, rfl, rfl, trivial⟩, hM.pick [0, 1] rfl, (R64_lit rfl)⟩
      · rintro s o19 a w16 ⟨n14, rfl, hf, hM, hv15⟩ h20 hd21
        replace h20 : m_laws_eqTurnS_l1 a1 b5 n14 = some o19 := h20
        unfold m_laws_eqTurnS_l1 at h20
        refine wp_seq ?_
        refine wp_seq ?_
        refine region_pl ?_
        refine q_ hf rfl rfl rfl (e_move hf rfl) fun a hf => ?_
        refine q_ hf rfl rfl rfl (e_move hf rfl) fun a hf => ?_
        have hl22 := slice_len (hM.dat (k := 1) rfl)
        refine q_ hf rfl rfl rfl (e_lenL hf (x := a1) rfl Tryz.underlying30) fun a hf => ?_
        refine q_ hf rfl rfl rfl (e_lt hf (x := n14) (y := (a1.length : Int)) rfl rfl) fun a hf => ?_
        refine pl_nil ?_
        refine then_n ?_
        rcases cond_some h20 with ⟨hc23, h20⟩ | ⟨hc23, h20⟩
        · refine cond_t hf rfl hc23 ?_
          refine wp_skip ?_
          refine then_n ?_
          refine wp_seq ?_
          refine wp_block ?_
          refine wp_seq ?_
          obtain ⟨w24, hw⟩ : ∃ x, x = w16.drew := ⟨_, rfl⟩
          refine region_pi (.q 0 (.q 1 (.q 2 (.q 3 (.q 4 (.q 5 (.q 6 (.q 7 (.l 8 (.q 9 (.nil))))))))))) (Ext w24) rfl (by kernel_rfl) ?_
          have hM := hM.drew
          rw [← hw] at hM ⊢
          clear hw
          refine pi_q hf rfl rfl rfl rfl (Ext.refl _) (e_move hf rfl) fun a hf => ?_
          refine pi_q hf rfl rfl rfl rfl (Ext.refl _) (e_move hf rfl) fun a hf => ?_
          obtain ⟨e25, hz26, h20⟩ := bind_some h20
          obtain ⟨b30, o31, _, hA32, h27, h28, hr29, hM⟩ := hM.elem (hM.dat (k := 1) rfl) (n := 6) rfl hz26
          obtain ⟨rfl, hv33, hv34, hv35, hv36⟩ := TurnRep_open hr29
          refine pi_q hf rfl rfl rfl rfl (Ext.refl _) (e_indexAddr (A := A2) (b := b30) (o := o31) (xs := a1) (i := n14) hf hA32 rfl rfl Tryz.underlying30 Tryz.sizeOf49 h27 h28) fun a hf => ?_
          refine pi_q hf rfl rfl rfl rfl (Ext.refl _) (e_loadA hf (us := [vS (e25.Rack), .bool (e25.Pass), vI (e25.Play.Row), vI (e25.Play.Col), .bool (e25.Play.Down), vS (e25.Play.Word)]) rfl ⟨Tryz.isAgg49, Tryz.sizeOf49⟩ rfl (hM.litSub (k := 0) (d := 0) (us := [vS (e25.Rack), .bool (e25.Pass), vI (e25.Play.Row), vI (e25.Play.Col), .bool (e25.Play.Down), vS (e25.Play.Word)]) rfl rfl rfl)) fun a hf => ?_
          refine pi_q hf rfl rfl rfl rfl (Ext.refl _) (e_move hf rfl) fun a hf => ?_
          refine pi_q hf rfl rfl rfl rfl (Ext.refl _) (e_move hf rfl) fun a hf => ?_
          obtain ⟨e37, hz38, h20⟩ := bind_some h20
          obtain ⟨b42, o43, _, hA44, h39, h40, hr41, hM⟩ := hM.elem (hM.dat (k := 1) rfl) (n := 6) rfl hz38
          obtain ⟨rfl, hv45, hv46, hv47, hv48⟩ := TurnRep_open hr41
          refine pi_q hf rfl rfl rfl rfl (Ext.refl _) (e_indexAddr (A := A6) (b := b42) (o := o43) (xs := b5) (i := n14) hf hA44 rfl rfl Tryz.underlying30 Tryz.sizeOf49 h39 h40) fun a hf => ?_
          refine pi_q hf rfl rfl rfl rfl (Ext.refl _) (e_loadA hf (us := [vS (e37.Rack), .bool (e37.Pass), vI (e37.Play.Row), vI (e37.Play.Col), .bool (e37.Play.Down), vS (e37.Play.Word)]) rfl ⟨Tryz.isAgg49, Tryz.sizeOf49⟩ rfl (hM.litSub (k := 0) (d := 0) (us := [vS (e37.Rack), .bool (e37.Pass), vI (e37.Play.Row), vI (e37.Play.Col), .bool (e37.Play.Down), vS (e37.Play.Word)]) rfl rfl rfl)) fun a hf => ?_
          refine pi_one ?_
          obtain ⟨y49, hz50, h20⟩ := bind_some h20
          refine pi_l hf rfl rfl rfl rfl (w_call hf Tryz.call26 rfl (r_laws_eqTurn ⟨_, Sh C _ _, none_, hM.sh_lt, none_not, C.G, hM.g_lt, g_none, hM.tabs⟩ e25 hv33 hv34 hv35 hv36 e37 hv45 hv46 hv47 hv48 _ hz50) ?_)
          rintro _ w51 ⟨rfl, hM2⟩
          obtain ⟨hM, hx52, hup53⟩ := hM.back hM2
          dsimp only [List.cons_append, List.nil_append] at hM hup53
          clear hM2
          refine ⟨_, rfl, Ext w51, fun _ h => Ext.trans hx52 h, Ext.refl _, fun a hf => ?_⟩
          refine pi_q hf rfl rfl rfl rfl (Ext.refl _) (e_not hf rfl) fun a hf => ?_
          refine pi_nil ?_
          refine then_n ?_
          rcases cond_some h20 with ⟨hc54, h20⟩ | ⟨hc54, h20⟩
          · refine cond_t hf rfl hc54 ?_
            refine wp_seq ?_
            refine region_pl ?_
            refine q_ hf rfl rfl rfl (e_assign hf rfl) fun a hf => ?_
            refine pl_nil ?_
            refine then_n ?_
            refine wp_ret ?_
            refine blk_r ?_
            refine then_r ?_
            obtain rfl := some_inj h20
            obtain rfl := hd21 _ rfl
            try dsimp only at h13
            refine then_r ?_
            refine blk_r ?_
            obtain rfl := some_inj h13
            try dsimp only at h
            refine then_r ?_
            obtain rfl := some_inj h
            exact leave1 hf rfl rfl ⟨rfl, hM.fin⟩
          · refine cond_f hf rfl hc54 ?_
            refine wp_skip ?_
            refine blk_n ?_
            refine then_n ?_
            refine region_pl ?_
            refine q_ hf rfl rfl rfl (e_move hf rfl) fun a hf => ?_
            obtain ⟨z55, hz56, h20⟩ := bind_some h20
            refine q_ hf rfl rfl rfl (e_add hf rfl rfl hz56) fun a hf => ?_
            refine q_ hf rfl rfl rfl (e_assign hf rfl) fun a hf => ?_
            refine pl_nil ?_
            obtain rfl := some_inj h20
            refine then_n ⟨_, rfl, ?_⟩
            exact ⟨z55, rfl, hf.keep ⟨rfl, rfl, rfl, trivial⟩, hM.pick [2, 3] rfl, (chk_R hz56)⟩
        · refine cond_f hf rfl hc23 ?_
          refine wp_exit ?_
          refine then_x ?_
          obtain rfl := some_inj h20
          obtain rfl := hd21 _ rfl
          try dsimp only at h13
          refine then_x ?_
          refine exit_hit ?_
          obtain rfl := some_inj h13
          refine then_n ?_
          exact ⟨rfl, hf.keep trivial, hM.pick [0, 1] rfl⟩
    · rintro a w63 ⟨rfl, hf, hM⟩
      try dsimp only at h
      refine wp_seq ?_
      refine region_pl ?_
      refine q_ hf rfl rfl rfl (e_assign hf rfl) fun a hf => ?_
      refine pl_nil ?_
      refine then_n ?_
      refine wp_ret ?_
      obtain rfl := some_inj h
      exact leave1 hf rfl rfl ⟨rfl, hM.fin⟩

set_option maxRecDepth 100000 in
set_option maxHeartbeats 4000000 in
theorem r_laws_FnExactReplayTurns (C : Cx) (aB1 : Board) (hp2 : R64 aB1.Size) (hp3 : aB1.Premium.length ≤ maxLen) (hp4 : aB1.Cells.length ≤ maxLen) (aList5 : (List Turn)) (A6 : Option Addr) (c7 : Nat) (hp8 : (sliceRep TurnRep).R C.w0 C.S0 aList5 [vL A6 aList5 c7]) (r : Bool) (h : m_laws_FnExactReplayTurns aB1 aList5 = some r) :
    Calls Tryz.prog 5 #[.agg #[vI (aB1.Size), vS (aB1.Premium), vS (aB1.Cells)], vL A6 (aList5) c7] C.w0 fun e w => e = .returned (.bool (r)) ∧ Mem C w [] [] := by
  have hM := Mem.begin C [.dat (sliceRep TurnRep) aList5 [vL A6 aList5 c7]] ⟨hp8, trivial⟩
  refine enter Tryz.func5 rfl Tryz.ntmps5 rfl fun a hf => ?_
  unfold m_laws_FnExactReplayTurns at h
  refine wp_seq ?_
  refine region_pl ?_
  refine pl_l hf rfl rfl rfl (w_box hf hM (cs := [vI (aB1.Size), vS (aB1.Premium), vS (aB1.Cells)]) rfl rfl fun b9 w10 hx11 hM a hf => ?_)
  refine q_ hf rfl rfl rfl (e_assign hf rfl) fun a hf => ?_
  refine pl_nil ?_
  refine then_n ?_
  refine wp_seq ?_
  refine region_pl ?_
  refine q_ hf rfl rfl rfl (e_assign hf rfl) fun a hf => ?_
  refine pl_nil ?_
  refine then_n ?_
  refine wp_seq ?_
  refine region_pl ?_
  refine q_ hf rfl rfl rfl (e_loadA hf (us := [vI (aB1.Size), vS (aB1.Premium), vS (aB1.Cells)]) rfl ⟨Tryz.isAgg23, Tryz.sizeOf23⟩ rfl (hM.boxSub (k := 0) (us := [vI (aB1.Size), vS (aB1.Premium), vS (aB1.Cells)]) (o := 0) rfl rfl)) fun a hf => ?_
  refine q_ hf rfl rfl rfl (e_move hf rfl) fun a hf => ?_
  obtain ⟨y13, hz14, h⟩ := bind_some h
  refine pl_l hf rfl rfl rfl (w_call hf Tryz.call9 rfl (r_laws_szBoard ⟨_, Sh C _ _, none_, hM.sh_lt, none_not, C.G, hM.g_lt, g_none, hM.tabs⟩ aB1 hp2 hp3 hp4 1048576 (R64_lit rfl) _ hz14) ?_)
  rintro _ w16 ⟨rfl, hM2, hv15⟩
  obtain ⟨hM, hx17, hup18⟩ := hM.back hM2
  dsimp only [List.cons_append, List.nil_append] at hM hup18
  clear hM2
  refine ⟨_, rfl, fun a hf => ?_⟩
  refine q_ hf rfl rfl rfl (e_assign hf rfl) fun a hf => ?_
  refine pl_nil ?_
  refine then_n ?_
  refine wp_seq ?_
  refine wp_seq ?_
  refine region_pl ?_
  refine q_ hf rfl rfl rfl (e_move hf rfl) fun a hf => ?_
  refine q_ hf rfl rfl rfl (e_lt hf (x := y13) (y := 0) rfl rfl) fun a hf => ?_
  refine pl_nil ?_
  refine then_n ?_
  rcases cond_some h with ⟨hc19, h⟩ | ⟨hc19, h⟩
  · refine cond_t hf rfl hc19 ?_
    refine wp_seq ?_
    refine region_pl ?_
    refine q_ hf rfl rfl rfl (e_assign hf rfl) fun a hf => ?_
    refine pl_nil ?_
    refine then_n ?_
    refine wp_ret ?_
    refine then_r ?_
    obtain rfl := some_inj h
    have hM := hM.outs (own' := []) 0 rfl
    exact leave1 hf rfl rfl ⟨rfl, hM.fin⟩
  · refine cond_f hf rfl hc19 ?_
    refine wp_skip ?_
    refine then_n ?_
    refine wp_seq ?_
    refine region_pl ?_
    refine q_ hf rfl rfl rfl (e_move hf rfl) fun a hf => ?_
    refine q_ hf rfl rfl rfl (e_move hf rfl) fun a hf => ?_
    obtain ⟨y20, hz21, h⟩ := bind_some h
    refine pl_l hf rfl rfl rfl (w_call hf Tryz.call10 rfl (r_laws_szTurnS ⟨_, Sh C _ _, none_, hM.sh_lt, none_not, C.G, hM.g_lt, g_none, hM.tabs⟩ aList5 _ _ (hM.dat (k := 0) rfl) y13 hv15 _ hz21) ?_)
    rintro _ w23 ⟨rfl, hM2, hv22⟩
    obtain ⟨hM, hx24, hup25⟩ := hM.back hM2
    dsimp only [List.cons_append, List.nil_append] at hM hup25
    clear hM2
    refine ⟨_, rfl, fun a hf => ?_⟩
    refine q_ hf rfl rfl rfl (e_assign hf rfl) fun a hf => ?_
    refine pl_nil ?_
    refine then_n ?_
    refine wp_seq ?_
    refine wp_seq ?_
    refine region_pl ?_
    refine q_ hf rfl rfl rfl (e_move hf rfl) fun a hf => ?_
    refine q_ hf rfl rfl rfl (e_lt hf (x := y20) (y := 0) rfl rfl) fun a hf => ?_
    refine pl_nil ?_
    refine then_n ?_
    rcases cond_some h with ⟨hc26, h⟩ | ⟨hc26, h⟩
    · refine cond_t hf rfl hc26 ?_
      refine wp_seq ?_
      refine region_pl ?_
      refine q_ hf rfl rfl rfl (e_assign hf rfl) fun a hf => ?_
      refine pl_nil ?_
      refine then_n ?_
      refine wp_ret ?_
      refine then_r ?_
      obtain rfl := some_inj h
      have hM := hM.outs (own' := []) 0 rfl
      exact leave1 hf rfl rfl ⟨rfl, hM.fin⟩
    · refine cond_f hf rfl hc26 ?_
      refine wp_skip ?_
      refine then_n ?_
      refine wp_seq ?_
      refine region_pl ?_
      refine q_ hf rfl rfl rfl (e_loadA hf (us := [vI (aB1.Size), vS (aB1.Premium), vS (aB1.Cells)]) rfl ⟨Tryz.isAgg23, Tryz.sizeOf23⟩ rfl (hM.boxSub (k := 0) (us := [vI (aB1.Size), vS (aB1.Premium), vS (aB1.Cells)]) (o := 0) rfl rfl)) fun a hf => ?_
      obtain ⟨y27, hz28, h⟩ := bind_some h
      refine pl_l hf rfl rfl rfl (w_call hf Tryz.call12 rfl (r_laws_toBoard ⟨_, Sh C _ _, none_, hM.sh_lt, none_not, C.G, hM.g_lt, g_none, hM.tabs⟩ aB1 hp2 hp3 hp4 _ hz28) ?_)
      rintro _ w32 ⟨rfl, hM2, hv29, hv30, hv31⟩
      obtain ⟨hM, hx33, hup34⟩ := hM.back hM2
      dsimp only [List.cons_append, List.nil_append] at hM hup34
      clear hM2
      refine ⟨_, rfl, fun a hf => ?_⟩
      refine q_ hf rfl rfl rfl (e_move hf rfl) fun a hf => ?_
      obtain ⟨y35, hz36, h⟩ := bind_some h
      refine pl_l hf rfl rfl rfl (w_call hf Tryz.call13 rfl (r_laws_toTurnS ⟨_, Sh C _ _, none_, hM.sh_lt, none_not, C.G, hM.g_lt, g_none, hM.tabs⟩ aList5 _ _ (hM.dat (k := 0) rfl) _ hz36) ?_)
      rintro _ w39 ⟨A37, c38, rfl, hM2⟩
      obtain ⟨hM, hx40, hup41⟩ := hM.back hM2
      dsimp only [List.cons_append, List.nil_append] at hM hup41
      clear hM2
      refine ⟨_, rfl, fun a hf => ?_⟩
      obtain ⟨y42, hz43, h⟩ := bind_some h
      refine pl_l hf rfl rfl rfl (w_call hf Tryz.call21 rfl (r_spec_ReplayTurns ⟨_, All C _ _, none_, hM.all_lt, none_not, C.G, hM.g_lt, g_none, hM.tabs⟩ y27 hv29 hv30 hv31 y35 _ _ (hM.lendRow (k := 0) rfl) _ hz43) ?_)
      rintro _ w48 ⟨rfl, hM2, hv44, hv45, hv46, hv47⟩
      obtain ⟨hM, hx49⟩ := hM.backA hM2
      clear hM2
      refine ⟨_, rfl, fun a hf => ?_⟩
      refine q_ hf rfl rfl rfl (e_move hf rfl) fun a hf => ?_
      refine q_ hf rfl rfl rfl (e_extract hf rfl rfl) fun a hf => ?_
      refine q_ hf rfl rfl rfl (e_extract hf rfl rfl) fun a hf => ?_
      refine pl_l hf rfl rfl rfl (w_alloc hM (cs := [vI (0), vS (([] : Str)), vS (([] : Str))]) Tryz.zeroValue28 rfl fun b51 w52 hx53 hM a hf => ?_)
      refine pl_0 hf rfl rfl (w_store hf hM (us := [vI (y42.1.Size), vS (y42.1.Premium), vS (y42.1.Cells)]) (cs' := [vI (y42.1.Size), vS (y42.1.Premium), vS (y42.1.Cells)]) rfl rfl (k := 0) rfl rfl Tryz.sizeOf28 rfl rfl rfl fun w55 hM => ?_)
      dsimp only [List.set] at hM
      refine q_ hf rfl rfl rfl (e_assign hf rfl) fun a hf => ?_
      refine pl_nil ?_
      refine then_n ?_
      refine wp_seq ?_
      refine region_pl ?_
      refine q_ hf rfl rfl rfl (e_move hf rfl) fun a hf => ?_
      obtain ⟨y58, hz59, h⟩ := bind_some h
      refine pl_l hf rfl rfl rfl (w_call hf Tryz.call13 rfl (r_laws_toTurnS ⟨_, Sh C _ _, none_, hM.sh_lt, none_not, C.G, hM.g_lt, g_none, hM.tabs⟩ aList5 _ _ (hM.dat (k := 0) rfl) _ hz59) ?_)
      rintro _ w62 ⟨A60, c61, rfl, hM2⟩
      obtain ⟨hM, hx63, hup64⟩ := hM.back hM2
      dsimp only [List.cons_append, List.nil_append] at hM hup64
      clear hM2
      refine ⟨_, rfl, fun a hf => ?_⟩
      refine q_ hf rfl rfl rfl (e_assign hf rfl) fun a hf => ?_
      refine pl_nil ?_
      refine then_n ?_
      refine wp_seq ?_
      refine region_pl ?_
      refine q_ hf rfl rfl rfl (e_loadA hf (us := [vI (aB1.Size), vS (aB1.Premium), vS (aB1.Cells)]) rfl ⟨Tryz.isAgg23, Tryz.sizeOf23⟩ rfl (hM.boxSub (k := 3) (us := [vI (aB1.Size), vS (aB1.Premium), vS (aB1.Cells)]) (o := 0) rfl rfl)) fun a hf => ?_
      obtain ⟨y65, hz66, h⟩ := bind_some h
      refine pl_l hf rfl rfl rfl (w_call hf Tryz.call12 rfl (r_laws_toBoard ⟨_, Sh C _ _, none_, hM.sh_lt, none_not, C.G, hM.g_lt, g_none, hM.tabs⟩ aB1 hp2 hp3 hp4 _ hz66) ?_)
      rintro _ w70 ⟨rfl, hM2, hv67, hv68, hv69⟩
      obtain ⟨hM, hx71, hup72⟩ := hM.back hM2
      dsimp only [List.cons_append, List.nil_append] at hM hup72
      clear hM2
      refine ⟨_, rfl, fun a hf => ?_⟩
      refine q_ hf rfl rfl rfl (e_move hf rfl) fun a hf => ?_
      obtain ⟨y73, hz74, h⟩ := bind_some h
      refine pl_l hf rfl rfl rfl (w_call hf Tryz.call22 rfl (r_impl_ReplayTurns ⟨_, All C _ _, none_, hM.all_lt, none_not, C.G, hM.g_lt, g_none, hM.tabs⟩ y65 hv67 hv68 hv69 y58 _ _ (hM.lendRow (k := 0) rfl) _ hz74) ?_)
      rintro _ w79 ⟨rfl, hM2, hv75, hv76, hv77, hv78⟩
      obtain ⟨hM, hx80⟩ := hM.backA hM2
      clear hM2
      refine ⟨_, rfl, fun a hf => ?_⟩
      refine q_ hf rfl rfl rfl (e_move hf rfl) fun a hf => ?_
      refine q_ hf rfl rfl rfl (e_extract hf rfl rfl) fun a hf => ?_
      refine q_ hf rfl rfl rfl (e_extract hf rfl rfl) fun a hf => ?_
      refine pl_l hf rfl rfl rfl (w_alloc hM (cs := [vI (0), vS (([] : Str)), vS (([] : Str))]) Tryz.zeroValue28 rfl fun b82 w83 hx84 hM a hf => ?_)
      refine pl_0 hf rfl rfl (w_store hf hM (us := [vI (y73.1.Size), vS (y73.1.Premium), vS (y73.1.Cells)]) (cs' := [vI (y73.1.Size), vS (y73.1.Premium), vS (y73.1.Cells)]) rfl rfl (k := 0) rfl rfl Tryz.sizeOf28 rfl rfl rfl fun w86 hM => ?_)
      dsimp only [List.set] at hM
      refine q_ hf rfl rfl rfl (e_assign hf rfl) fun a hf => ?_
      refine pl_nil ?_
      refine then_n ?_
      refine wp_seq ?_
      obtain ⟨x91, h92, h⟩ := bind_some h
      refine seq_join (fun a w => ∃ (t89 : Bool), t89 = x91 ∧ Has 52 a [(1, vL A6 (aList5) c7), (8, vL A60 (y58) c61), (46, .bool (t89))] ∧ Mem C w [.box b82 [vI (y73.1.Size), vS (y73.1.Premium), vS (y73.1.Cells)] 28, .row TurnRep A60 c61 49 y58 true, .box b51 [vI (y42.1.Size), vS (y42.1.Premium), vS (y42.1.Cells)] 28, .row TurnRep A37 c38 49 y35 true, .box b9 [vI (aB1.Size), vS (aB1.Premium), vS (aB1.Cells)] 23] [.dat (sliceRep TurnRep) aList5 [vL A6 aList5 c7]]) ?_ ?_
      · refine region_pl ?_
        refine q_ hf rfl rfl rfl (e_loadA hf (us := [vI (y73.1.Size), vS (y73.1.Premium), vS (y73.1.Cells)]) rfl ⟨Tryz.isAgg28, Tryz.sizeOf28⟩ rfl (hM.boxSub (k := 0) (us := [vI (y73.1.Size), vS (y73.1.Premium), vS (y73.1.Cells)]) (o := 0) rfl rfl)) fun a hf => ?_
        refine q_ hf rfl rfl rfl (e_loadA hf (us := [vI (y42.1.Size), vS (y42.1.Premium), vS (y42.1.Cells)]) rfl ⟨Tryz.isAgg28, Tryz.sizeOf28⟩ rfl (hM.boxSub (k := 2) (us := [vI (y42.1.Size), vS (y42.1.Premium), vS (y42.1.Cells)]) (o := 0) rfl rfl)) fun a hf => ?_
        obtain ⟨y93, hz94, h92⟩ := bind_some h92
        refine pl_l hf rfl rfl rfl (w_call hf Tryz.call23 rfl (r_laws_eqBoard ⟨_, Sh C _ _, none_, hM.sh_lt, none_not, C.G, hM.g_lt, g_none, hM.tabs⟩ y73.1 hv75 hv76 hv77 y42.1 hv44 hv45 hv46 _ hz94) ?_)
        rintro _ w95 ⟨rfl, hM2⟩
        obtain ⟨hM, hx96, hup97⟩ := hM.back hM2
        dsimp only [List.cons_append, List.nil_append] at hM hup97
        clear hM2
        refine ⟨_, rfl, fun a hf => ?_⟩
        refine q_ hf rfl rfl rfl (e_not hf rfl) fun a hf => ?_
        refine q_ hf rfl rfl rfl (e_move hf rfl) fun a hf => ?_
        rcases cond_some h92 with ⟨hc98, h92⟩ | ⟨hc98, h92⟩
        · refine pl_gs (wanted_f hf rfl rfl rfl rfl hc98) hf rfl rfl fun a hf => ?_
          refine pl_gs (wanted_f hf rfl rfl rfl rfl hc98) hf rfl rfl fun a hf => ?_
          refine pl_gs (wanted_f hf rfl rfl rfl rfl hc98) hf rfl rfl fun a hf => ?_
          refine q_ hf rfl rfl rfl (e_pick_t hf rfl hc98 rfl) fun a hf => ?_
          refine pl_nil ?_
          obtain rfl := some_inj h92
          refine then_n ?_
          exact ⟨true, rfl, hf.keep ⟨rfl, rfl, rfl, trivial⟩, hM.pick [0] rfl⟩
        · refine gq (wanted_t hf rfl rfl rfl rfl hc98) hf rfl rfl (e_move hf rfl) fun a hf => ?_
          refine gq (wanted_t hf rfl rfl rfl rfl hc98) hf rfl rfl (e_move hf rfl) fun a hf => ?_
          refine gq (wanted_t hf rfl rfl rfl rfl hc98) hf rfl rfl (e_ne hf (x := y73.2) (y := y42.2) rfl rfl) fun a hf => ?_
          refine q_ hf rfl rfl rfl (e_pick_f hf rfl hc98 rfl) fun a hf => ?_
          refine pl_nil ?_
          obtain rfl := some_inj h92
          refine then_n ?_
          exact ⟨(y73.2 != y42.2), rfl, hf.keep ⟨rfl, rfl, rfl, trivial⟩, hM.pick [0] rfl⟩
      · rintro a w101 ⟨t89, rfl, hf, hM⟩
        try dsimp only at h
        rcases cond_some h with ⟨hc102, h⟩ | ⟨hc102, h⟩
        · refine cond_t hf rfl hc102 ?_
          refine wp_seq ?_
          refine region_pl ?_
          refine q_ hf rfl rfl rfl (e_assign hf rfl) fun a hf => ?_
          refine pl_nil ?_
          refine then_n ?_
          refine wp_ret ?_
          refine then_r ?_
          obtain rfl := some_inj h
          have hM := hM.outs (own' := []) 0 rfl
          exact leave1 hf rfl rfl ⟨rfl, hM.fin⟩
        · refine cond_f hf rfl hc102 ?_
          refine wp_skip ?_
          refine then_n ?_
          refine wp_seq ?_
          refine wp_seq ?_
          refine region_pl ?_
          refine q_ hf rfl rfl rfl (e_move hf rfl) fun a hf => ?_
          refine q_ hf rfl rfl rfl (e_move hf rfl) fun a hf => ?_
          obtain ⟨y103, hz104, h⟩ := bind_some h
          refine pl_l hf rfl rfl rfl (w_call hf Tryz.call13 rfl (r_laws_toTurnS ⟨_, Sh C _ _, none_, hM.sh_lt, none_not, C.G, hM.g_lt, g_none, hM.tabs⟩ aList5 _ _ (hM.dat (k := 0) rfl) _ hz104) ?_)
          rintro _ w107 ⟨A105, c106, rfl, hM2⟩
          obtain ⟨hM, hx108, hup109⟩ := hM.back hM2
          dsimp only [List.cons_append, List.nil_append] at hM hup109
          clear hM2
          refine ⟨_, rfl, fun a hf => ?_⟩
          obtain ⟨y110, hz111, h⟩ := bind_some h
          refine pl_l hf rfl rfl rfl (w_call hf Tryz.call15 rfl (r_laws_eqTurnS ⟨_, All C _ _, none_, hM.all_lt, none_not, C.G, hM.g_lt, g_none, hM.tabs⟩ y58 _ _ (hM.lendRow (k := 2) rfl) y103 _ _ (hM.lendRow (k := 0) rfl) _ hz111) ?_)
          rintro _ w112 ⟨rfl, hM2⟩
          obtain ⟨hM, hx113⟩ := hM.backA hM2
          clear hM2
          refine ⟨_, rfl, fun a hf => ?_⟩
          refine q_ hf rfl rfl rfl (e_not hf rfl) fun a hf => ?_
          refine pl_nil ?_
          refine then_n ?_
          rcases cond_some h with ⟨hc115, h⟩ | ⟨hc115, h⟩
          · refine cond_t hf rfl hc115 ?_
            refine wp_seq ?_
            refine region_pl ?_
            refine q_ hf rfl rfl rfl (e_assign hf rfl) fun a hf => ?_
            refine pl_nil ?_
            refine then_n ?_
            refine wp_ret ?_
            refine then_r ?_
            obtain rfl := some_inj h
            have hM := hM.outs (own' := []) 0 rfl
            exact leave1 hf rfl rfl ⟨rfl, hM.fin⟩
          · refine cond_f hf rfl hc115 ?_
            refine wp_skip ?_
            refine then_n ?_
            refine wp_seq ?_
            refine region_pl ?_
            refine q_ hf rfl rfl rfl (e_assign hf rfl) fun a hf => ?_
            refine pl_nil ?_
            refine then_n ?_
            refine wp_ret ?_
            obtain rfl := some_inj h
            have hM := hM.outs (own' := []) 0 rfl
            exact leave1 hf rfl rfl ⟨rfl, hM.fin⟩

end Go.Proofs.YtbekokenomhgeaaGreatDoor
