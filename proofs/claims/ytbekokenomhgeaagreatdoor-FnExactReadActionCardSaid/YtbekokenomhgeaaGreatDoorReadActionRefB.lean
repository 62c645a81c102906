/- The functions that this law reaches do what their models say. Printed by gen.py. -/
import Derived.Test.YtbekokenomhgeaaGreatDoorMod
import Derived.Test.YtbekokenomhgeaaGreatDoorLib
import Derived.Test.YtbekokenomhgeaaGreatDoorReadActionRef
namespace Go.Proofs.YtbekokenomhgeaaGreatDoor
open Go Go.RowKit
set_option linter.unusedSimpArgs false
set_option linter.unusedVariables false

set_option maxRecDepth 100000 in
set_option maxHeartbeats 4000000 in
theorem r_impl_ValidAction (C : Cx) (a1 : Action) (hp2 : R64 a1.Kind) (hp3 : R64 a1.Play.Row) (hp4 : R64 a1.Play.Col) (hp5 : a1.Play.Word.length ≤ maxLen) (hp6 : a1.Tiles.length ≤ maxLen) (hp7 : R64 a1.Seconds) (r : Bool) (h : m_impl_ValidAction a1 = some r) :
    Calls Tryz.prog 66 #[.agg #[vI (a1.Kind), vI (a1.Play.Row), vI (a1.Play.Col), .bool (a1.Play.Down), vS (a1.Play.Word), vS (a1.Tiles), vI (a1.Seconds)]] C.w0 fun e w => e = .returned (.bool (r)) ∧ Mem C w [] [] := by
 have hM := Mem.begin C [] trivial
 refine enter Tryz.func66 rfl Tryz.ntmps66 rfl fun a hf => ?_
 unfold m_impl_ValidAction at h
 refine wp_seq ?_
 refine region_pl ?_
 refine pl_l hf rfl rfl rfl (w_box hf hM (cs := [vI (a1.Kind), vI (a1.Play.Row), vI (a1.Play.Col), .bool (a1.Play.Down), vS (a1.Play.Word), vS (a1.Tiles), vI (a1.Seconds)]) rfl rfl fun b8 w9 hx10 hM a hf => ?_)
 refine q_ hf rfl rfl rfl (e_assign hf rfl) fun a hf => ?_
 refine pl_nil ?_
 refine then_n ?_
 iterate 2 refine wp_seq ?_
 refine region_pl ?_
 refine q_ hf rfl rfl rfl (e_field hf rfl Tryz.underlying55 rfl Tryz.sizeOf2 (o' := 6) rfl) fun a hf => ?_
 refine q_ hf rfl rfl rfl (e_load1 hf rfl Tryz.isAgg2 (hM.boxCell (k := 0) rfl rfl)) fun a hf => ?_
 obtain ⟨y12, hz13, h⟩ := bind_some h
 refine pl_l hf rfl rfl rfl (w_call hf Tryz.call124 rfl (r_impl_within ⟨_, Sh C _ _, none_, hM.sh_lt, none_not, C.G, hM.g_lt, g_none, hM.tabs⟩ a1.Seconds hp7 0 (R64_lit rfl) 36000 (R64_lit rfl) _ hz13) ?_)
 rintro _ w14 ⟨rfl, hM2⟩
 obtain ⟨hM, hx15, hup16⟩ := hM.back hM2
 dsimp only [List.cons_append, List.nil_append] at hM hup16
 clear hM2
 refine ⟨_, rfl, fun a hf => ?_⟩
 refine q_ hf rfl rfl rfl (e_not hf rfl) fun a hf => ?_
 refine pl_nil ?_
 refine then_n ?_
 rcases cond_some h with ⟨hc17, h⟩ | ⟨hc17, h⟩
 ·refine cond_t hf rfl hc17 ?_
  refine wp_seq ?_
  refine region_pl ?_
  refine q_ hf rfl rfl rfl (e_assign hf rfl) fun a hf => ?_
  refine pl_nil ?_
  refine then_n ?_
  refine wp_ret ?_
  refine then_r ?_
  obtain rfl := some_inj h
  have hM := hM.outs (own' := []) 0 rfl
  exact leave1 hf rfl rfl ⟨rfl, hM.fin⟩
 refine cond_f hf rfl hc17 ?_
 refine wp_skip ?_
 refine then_n ?_
 iterate 2 refine wp_seq ?_
 refine region_pl ?_
 refine q_ hf rfl rfl rfl (e_field hf rfl Tryz.underlying55 rfl Tryz.sizeOf2 (o' := 0) rfl) fun a hf => ?_
 refine q_ hf rfl rfl rfl (e_load1 hf rfl Tryz.isAgg2 (hM.boxCell (k := 0) rfl rfl)) fun a hf => ?_
 refine pl_nil ?_
 refine then_n ?_
 refine wp_block ?_
 refine wp_seq ?_
 refine region_pl ?_
 refine q_ hf rfl rfl rfl (e_eq hf (x := a1.Kind) (y := 1) rfl rfl) fun a hf => ?_
 refine q_ hf rfl rfl rfl (e_assign hf rfl) fun a hf => ?_
 refine pl_nil ?_
 refine then_n ?_
 rcases cond_some h with ⟨hc18, h⟩ | ⟨hc18, h⟩
 ·refine cond_t hf rfl hc18 ?_
  obtain ⟨x21, h22, h⟩ := bind_some h
  refine seq_join (fun a w => ∃ (t19 : Bool), t19 = x21 ∧ Has 48 a [(2, .bool (t19))] ∧ Mem C w [.box b8 [vI (a1.Kind), vI (a1.Play.Row), vI (a1.Play.Col), .bool (a1.Play.Down), vS (a1.Play.Word), vS (a1.Tiles), vI (a1.Seconds)] 55] []) ?_ ?_
  ·refine region_pl ?_
   refine q_ hf rfl rfl rfl (e_field hf rfl Tryz.underlying55 rfl Tryz.sizeOf41 (o' := 1) rfl) fun a hf => ?_
   refine q_ hf rfl rfl rfl (e_loadA hf (us := [vI (a1.Play.Row), vI (a1.Play.Col), .bool (a1.Play.Down), vS (a1.Play.Word)]) rfl ⟨Tryz.isAgg41, Tryz.sizeOf41⟩ rfl (hM.boxSub (k := 0) (us := [vI (a1.Play.Row), vI (a1.Play.Col), .bool (a1.Play.Down), vS (a1.Play.Word)]) (o := 1) rfl rfl)) fun a hf => ?_
   obtain ⟨y23, hz24, h22⟩ := bind_some h22
   refine pl_l hf rfl rfl rfl (w_call hf Tryz.call116 rfl (r_impl_PlayText ⟨_, Sh C _ _, none_, hM.sh_lt, none_not, C.G, hM.g_lt, g_none, hM.tabs⟩ a1.Play hp3 hp4 hp5 _ hz24) ?_)
   rintro _ w26 ⟨rfl, hM2, hv25⟩
   obtain ⟨hM, hx27, hup28⟩ := hM.back hM2
   dsimp only [List.cons_append, List.nil_append] at hM hup28
   clear hM2
   refine ⟨_, rfl, fun a hf => ?_⟩
   refine q_ hf rfl rfl rfl (e_neS hf (x := y23) (y := ([] : Str)) rfl rfl) fun a hf => ?_
   refine q_ hf rfl rfl rfl (e_move hf rfl) fun a hf => ?_
   rcases cond_some h22 with ⟨hc29, h22⟩ | ⟨hc29, h22⟩
   ·refine gq (wanted_t hf rfl rfl rfl rfl hc29) hf rfl rfl (e_field hf rfl Tryz.underlying55 rfl Tryz.sizeOf9 (o' := 5) rfl) fun a hf => ?_
    refine gq (wanted_t hf rfl rfl rfl rfl hc29) hf rfl rfl (e_load1 hf rfl Tryz.isAgg9 (hM.boxCell (k := 0) rfl rfl)) fun a hf => ?_
    refine gq (wanted_t hf rfl rfl rfl rfl hc29) hf rfl rfl (e_eqS hf (x := a1.Tiles) (y := ([] : Str)) rfl rfl) fun a hf => ?_
    refine q_ hf rfl rfl rfl (e_pick_t hf rfl hc29 rfl) fun a hf => ?_
    refine q_ hf rfl rfl rfl (e_assign hf rfl) fun a hf => ?_
    refine pl_nil ?_
    obtain rfl := some_inj h22
    refine then_n ?_
    exact ⟨(a1.Tiles == ([] : Str)), rfl, hf.keep ⟨rfl, trivial⟩, hM.pick [] rfl⟩
   iterate 3 refine pl_gs (wanted_f hf rfl rfl rfl rfl hc29) hf rfl rfl fun a hf => ?_
   refine q_ hf rfl rfl rfl (e_pick_f hf rfl hc29 rfl) fun a hf => ?_
   refine q_ hf rfl rfl rfl (e_assign hf rfl) fun a hf => ?_
   refine pl_nil ?_
   obtain rfl := some_inj h22
   refine then_n ?_
   exact ⟨false, rfl, hf.keep ⟨rfl, trivial⟩, hM.pick [] rfl⟩
  rintro a w32 ⟨t19, rfl, hf, hM⟩
  try dsimp only at h
  refine wp_ret ?_
  refine blk_r ?_
  refine then_r ?_
  obtain rfl := some_inj h
  have hM := hM.outs (own' := []) 0 rfl
  exact leave1 hf rfl rfl ⟨rfl, hM.fin⟩
 refine cond_f hf rfl hc18 ?_
 refine wp_seq ?_
 refine region_pl ?_
 refine q_ hf rfl rfl rfl (e_eq hf (x := a1.Kind) (y := 2) rfl rfl) fun a hf => ?_
 refine q_ hf rfl rfl rfl (e_assign hf rfl) fun a hf => ?_
 refine pl_nil ?_
 refine then_n ?_
 rcases cond_some h with ⟨hc33, h⟩ | ⟨hc33, h⟩
 ·refine cond_t hf rfl hc33 ?_
  obtain ⟨x36, h37, h⟩ := bind_some h
  refine seq_join (fun a w => ∃ (t34 : Bool), t34 = x36 ∧ Has 48 a [(2, .bool (t34))] ∧ Mem C w [.box b8 [vI (a1.Kind), vI (a1.Play.Row), vI (a1.Play.Col), .bool (a1.Play.Down), vS (a1.Play.Word), vS (a1.Tiles), vI (a1.Seconds)] 55] []) ?_ ?_
  ·refine region_pl ?_
   refine q_ hf rfl rfl rfl (e_field hf rfl Tryz.underlying55 rfl Tryz.sizeOf41 (o' := 1) rfl) fun a hf => ?_
   refine q_ hf rfl rfl rfl (e_loadA hf (us := [vI (a1.Play.Row), vI (a1.Play.Col), .bool (a1.Play.Down), vS (a1.Play.Word)]) rfl ⟨Tryz.isAgg41, Tryz.sizeOf41⟩ rfl (hM.boxSub (k := 0) (us := [vI (a1.Play.Row), vI (a1.Play.Col), .bool (a1.Play.Down), vS (a1.Play.Word)]) (o := 1) rfl rfl)) fun a hf => ?_
   refine q_ hf rfl rfl rfl (e_build hf Tryz.zeroValue41 Tryz.underlying41 (bp_41 _ Tryz.underlying41.symm) rfl (cs := #[vI (0), vI (0), .bool (false), vS (([] : Str))]) (by kernel_rfl)) fun a hf => ?_
   refine q_ hf rfl rfl rfl (Play_eql hf (x := a1.Play) (y := (⟨0, 0, false, ([] : Str)⟩ : Play)) rfl rfl) fun a hf => ?_
   refine q_ hf rfl rfl rfl (e_move hf rfl) fun a hf => ?_
   rcases cond_some h37 with ⟨hc38, h37⟩ | ⟨hc38, h37⟩
   ·refine gq (wanted_t hf rfl rfl rfl rfl hc38) hf rfl rfl (e_field hf rfl Tryz.underlying55 rfl Tryz.sizeOf9 (o' := 5) rfl) fun a hf => ?_
    refine gq (wanted_t hf rfl rfl rfl rfl hc38) hf rfl rfl (e_load1 hf rfl Tryz.isAgg9 (hM.boxCell (k := 0) rfl rfl)) fun a hf => ?_
    refine gq (wanted_t hf rfl rfl rfl rfl hc38) hf rfl rfl (e_neS hf (x := a1.Tiles) (y := ([] : Str)) rfl rfl) fun a hf => ?_
    refine q_ hf rfl rfl rfl (e_pick_t hf rfl hc38 rfl) fun a hf => ?_
    refine q_ hf rfl rfl rfl (e_move hf rfl) fun a hf => ?_
    rcases cond_some h37 with ⟨hc39, h37⟩ | ⟨hc39, h37⟩
    ·refine gq (wanted_t hf rfl rfl rfl rfl hc39) hf rfl rfl (e_field hf rfl Tryz.underlying55 rfl Tryz.sizeOf9 (o' := 5) rfl) fun a hf => ?_
     refine gq (wanted_t hf rfl rfl rfl rfl hc39) hf rfl rfl (e_load1 hf rfl Tryz.isAgg9 (hM.boxCell (k := 0) rfl rfl)) fun a hf => ?_
     obtain ⟨y40, hz41, h37⟩ := bind_some h37
     refine pl_gl (wanted_t hf rfl rfl rfl rfl hc39) hf rfl rfl (w_call hf Tryz.call45 rfl (r_impl_ValidRack ⟨_, Sh C _ _, none_, hM.sh_lt, none_not, C.G, hM.g_lt, g_none, hM.tabs⟩ a1.Tiles hp6 _ hz41) ?_)
     rintro _ w42 ⟨rfl, hM2⟩
     obtain ⟨hM, hx43, hup44⟩ := hM.back hM2
     dsimp only [List.cons_append, List.nil_append] at hM hup44
     clear hM2
     refine ⟨_, rfl, fun a hf => ?_⟩
     refine q_ hf rfl rfl rfl (e_pick_t hf rfl hc39 rfl) fun a hf => ?_
     refine q_ hf rfl rfl rfl (e_assign hf rfl) fun a hf => ?_
     refine pl_nil ?_
     obtain rfl := some_inj h37
     refine then_n ?_
     exact ⟨y40, rfl, hf.keep ⟨rfl, trivial⟩, hM.pick [] rfl⟩
    iterate 3 refine pl_gs (wanted_f hf rfl rfl rfl rfl hc39) hf rfl rfl fun a hf => ?_
    refine q_ hf rfl rfl rfl (e_pick_f hf rfl hc39 rfl) fun a hf => ?_
    refine q_ hf rfl rfl rfl (e_assign hf rfl) fun a hf => ?_
    refine pl_nil ?_
    obtain rfl := some_inj h37
    refine then_n ?_
    exact ⟨false, rfl, hf.keep ⟨rfl, trivial⟩, hM.pick [] rfl⟩
   iterate 3 refine pl_gs (wanted_f hf rfl rfl rfl rfl hc38) hf rfl rfl fun a hf => ?_
   refine q_ hf rfl rfl rfl (e_pick_f hf rfl hc38 rfl) fun a hf => ?_
   refine q_ hf rfl rfl rfl (e_move hf rfl) fun a hf => ?_
   iterate 3 refine pl_gs (wanted_f hf rfl rfl rfl rfl rfl) hf rfl rfl fun a hf => ?_
   refine q_ hf rfl rfl rfl (e_pick_f hf rfl rfl rfl) fun a hf => ?_
   refine q_ hf rfl rfl rfl (e_assign hf rfl) fun a hf => ?_
   refine pl_nil ?_
   obtain rfl := some_inj h37
   refine then_n ?_
   exact ⟨false, rfl, hf.keep ⟨rfl, trivial⟩, hM.pick [] rfl⟩
  rintro a w48 ⟨t34, rfl, hf, hM⟩
  try dsimp only at h
  refine wp_ret ?_
  refine blk_r ?_
  refine then_r ?_
  obtain rfl := some_inj h
  have hM := hM.outs (own' := []) 0 rfl
  exact leave1 hf rfl rfl ⟨rfl, hM.fin⟩
 refine cond_f hf rfl hc33 ?_
 obtain ⟨x51, h52, h⟩ := bind_some h
 refine seq_join (fun a w => ∃ (t49 : Bool), t49 = x51 ∧ Has 48 a [(1, vP b8 (0)), (36, .bool (t49))] ∧ Mem C w [.box b8 [vI (a1.Kind), vI (a1.Play.Row), vI (a1.Play.Col), .bool (a1.Play.Down), vS (a1.Play.Word), vS (a1.Tiles), vI (a1.Seconds)] 55] []) ?_ ?_
 ·refine wp_seq ?_
  refine region_pl ?_
  refine q_ hf rfl rfl rfl (e_eq hf (x := a1.Kind) (y := 3) rfl rfl) fun a hf => ?_
  refine q_ hf rfl rfl rfl (e_assign hf rfl) fun a hf => ?_
  refine pl_nil ?_
  refine then_n ?_
  rcases cond_some h52 with ⟨hc53, h52⟩ | ⟨hc53, h52⟩
  ·refine cond_t hf rfl hc53 ?_
   refine wp_skip ?_
   obtain rfl := some_inj h52
   refine then_n ?_
   exact ⟨(a1.Kind == 3), rfl, hf.keep ⟨rfl, rfl, trivial⟩, hM.pick [] rfl⟩
  refine cond_f hf rfl hc53 ?_
  refine region_pl ?_
  refine q_ hf rfl rfl rfl (e_eq hf (x := a1.Kind) (y := 4) rfl rfl) fun a hf => ?_
  refine q_ hf rfl rfl rfl (e_assign hf rfl) fun a hf => ?_
  refine pl_nil ?_
  obtain rfl := some_inj h52
  refine then_n ?_
  exact ⟨(a1.Kind == 4), rfl, hf.keep ⟨rfl, rfl, trivial⟩, hM.pick [] rfl⟩
 rintro a w56 ⟨t49, rfl, hf, hM⟩
 try dsimp only at h
 rcases cond_some h with ⟨hc57, h⟩ | ⟨hc57, h⟩
 ·refine cond_t hf rfl hc57 ?_
  obtain ⟨x60, h61, h⟩ := bind_some h
  refine seq_join (fun a w => ∃ (t58 : Bool), t58 = x60 ∧ Has 48 a [(2, .bool (t58))] ∧ Mem C w [.box b8 [vI (a1.Kind), vI (a1.Play.Row), vI (a1.Play.Col), .bool (a1.Play.Down), vS (a1.Play.Word), vS (a1.Tiles), vI (a1.Seconds)] 55] []) ?_ ?_
  ·refine region_pl ?_
   refine q_ hf rfl rfl rfl (e_field hf rfl Tryz.underlying55 rfl Tryz.sizeOf41 (o' := 1) rfl) fun a hf => ?_
   refine q_ hf rfl rfl rfl (e_loadA hf (us := [vI (a1.Play.Row), vI (a1.Play.Col), .bool (a1.Play.Down), vS (a1.Play.Word)]) rfl ⟨Tryz.isAgg41, Tryz.sizeOf41⟩ rfl (hM.boxSub (k := 0) (us := [vI (a1.Play.Row), vI (a1.Play.Col), .bool (a1.Play.Down), vS (a1.Play.Word)]) (o := 1) rfl rfl)) fun a hf => ?_
   refine q_ hf rfl rfl rfl (e_build hf Tryz.zeroValue41 Tryz.underlying41 (bp_41 _ Tryz.underlying41.symm) rfl (cs := #[vI (0), vI (0), .bool (false), vS (([] : Str))]) (by kernel_rfl)) fun a hf => ?_
   refine q_ hf rfl rfl rfl (Play_eql hf (x := a1.Play) (y := (⟨0, 0, false, ([] : Str)⟩ : Play)) rfl rfl) fun a hf => ?_
   refine q_ hf rfl rfl rfl (e_move hf rfl) fun a hf => ?_
   rcases cond_some h61 with ⟨hc62, h61⟩ | ⟨hc62, h61⟩
   ·refine gq (wanted_t hf rfl rfl rfl rfl hc62) hf rfl rfl (e_field hf rfl Tryz.underlying55 rfl Tryz.sizeOf9 (o' := 5) rfl) fun a hf => ?_
    refine gq (wanted_t hf rfl rfl rfl rfl hc62) hf rfl rfl (e_load1 hf rfl Tryz.isAgg9 (hM.boxCell (k := 0) rfl rfl)) fun a hf => ?_
    refine gq (wanted_t hf rfl rfl rfl rfl hc62) hf rfl rfl (e_eqS hf (x := a1.Tiles) (y := ([] : Str)) rfl rfl) fun a hf => ?_
    refine q_ hf rfl rfl rfl (e_pick_t hf rfl hc62 rfl) fun a hf => ?_
    refine q_ hf rfl rfl rfl (e_assign hf rfl) fun a hf => ?_
    refine pl_nil ?_
    obtain rfl := some_inj h61
    refine then_n ?_
    exact ⟨(a1.Tiles == ([] : Str)), rfl, hf.keep ⟨rfl, trivial⟩, hM.pick [] rfl⟩
   iterate 3 refine pl_gs (wanted_f hf rfl rfl rfl rfl hc62) hf rfl rfl fun a hf => ?_
   refine q_ hf rfl rfl rfl (e_pick_f hf rfl hc62 rfl) fun a hf => ?_
   refine q_ hf rfl rfl rfl (e_assign hf rfl) fun a hf => ?_
   refine pl_nil ?_
   obtain rfl := some_inj h61
   refine then_n ?_
   exact ⟨false, rfl, hf.keep ⟨rfl, trivial⟩, hM.pick [] rfl⟩
  rintro a w65 ⟨t58, rfl, hf, hM⟩
  try dsimp only at h
  refine wp_ret ?_
  refine blk_r ?_
  refine then_r ?_
  obtain rfl := some_inj h
  have hM := hM.outs (own' := []) 0 rfl
  exact leave1 hf rfl rfl ⟨rfl, hM.fin⟩
 refine cond_f hf rfl hc57 ?_
 refine wp_skip ?_
 refine blk_n ?_
 refine then_n ?_
 refine wp_seq ?_
 refine region_pl ?_
 refine q_ hf rfl rfl rfl (e_assign hf rfl) fun a hf => ?_
 refine pl_nil ?_
 refine then_n ?_
 refine wp_ret ?_
 obtain rfl := some_inj h
 have hM := hM.outs (own' := []) 0 rfl
 exact leave1 hf rfl rfl ⟨rfl, hM.fin⟩

set_option maxRecDepth 100000 in
set_option maxHeartbeats 4000000 in
theorem r_impl_ActionText (C : Cx) (a1 : Action) (hp2 : R64 a1.Kind) (hp3 : R64 a1.Play.Row) (hp4 : R64 a1.Play.Col) (hp5 : a1.Play.Word.length ≤ maxLen) (hp6 : a1.Tiles.length ≤ maxLen) (hp7 : R64 a1.Seconds) (r : Str) (h : m_impl_ActionText a1 = some r) :
    Calls Tryz.prog 67 #[.agg #[vI (a1.Kind), vI (a1.Play.Row), vI (a1.Play.Col), .bool (a1.Play.Down), vS (a1.Play.Word), vS (a1.Tiles), vI (a1.Seconds)]] C.w0 fun e w => e = .returned (vS (r)) ∧ Mem C w [] [] ∧ r.length ≤ maxLen := by
 have hM := Mem.begin C [] trivial
 refine enter Tryz.func67 rfl Tryz.ntmps67 rfl fun a hf => ?_
 unfold m_impl_ActionText at h
 refine wp_seq ?_
 refine region_pl ?_
 refine pl_l hf rfl rfl rfl (w_box hf hM (cs := [vI (a1.Kind), vI (a1.Play.Row), vI (a1.Play.Col), .bool (a1.Play.Down), vS (a1.Play.Word), vS (a1.Tiles), vI (a1.Seconds)]) rfl rfl fun b8 w9 hx10 hM a hf => ?_)
 refine q_ hf rfl rfl rfl (e_assign hf rfl) fun a hf => ?_
 refine pl_nil ?_
 refine then_n ?_
 iterate 2 refine wp_seq ?_
 refine region_pl ?_
 refine q_ hf rfl rfl rfl (e_loadA hf (us := [vI (a1.Kind), vI (a1.Play.Row), vI (a1.Play.Col), .bool (a1.Play.Down), vS (a1.Play.Word), vS (a1.Tiles), vI (a1.Seconds)]) rfl ⟨Tryz.isAgg55, Tryz.sizeOf55⟩ rfl (hM.boxSub (k := 0) (us := [vI (a1.Kind), vI (a1.Play.Row), vI (a1.Play.Col), .bool (a1.Play.Down), vS (a1.Play.Word), vS (a1.Tiles), vI (a1.Seconds)]) (o := 0) rfl rfl)) fun a hf => ?_
 obtain ⟨y12, hz13, h⟩ := bind_some h
 refine pl_l hf rfl rfl rfl (w_call hf Tryz.call66 rfl (r_impl_ValidAction ⟨_, Sh C _ _, none_, hM.sh_lt, none_not, C.G, hM.g_lt, g_none, hM.tabs⟩ a1 hp2 hp3 hp4 hp5 hp6 hp7 _ hz13) ?_)
 rintro _ w14 ⟨rfl, hM2⟩
 obtain ⟨hM, hx15, hup16⟩ := hM.back hM2
 dsimp only [List.cons_append, List.nil_append] at hM hup16
 clear hM2
 refine ⟨_, rfl, fun a hf => ?_⟩
 refine q_ hf rfl rfl rfl (e_not hf rfl) fun a hf => ?_
 refine pl_nil ?_
 refine then_n ?_
 rcases cond_some h with ⟨hc17, h⟩ | ⟨hc17, h⟩
 ·refine cond_t hf rfl hc17 ?_
  refine wp_seq ?_
  refine region_pl ?_
  refine q_ hf rfl rfl rfl (e_assign hf rfl) fun a hf => ?_
  refine pl_nil ?_
  refine then_n ?_
  refine wp_ret ?_
  refine then_r ?_
  obtain rfl := some_inj h
  have hM := hM.outs (own' := []) 0 rfl
  exact leave1 hf rfl rfl ⟨rfl, hM.fin, (lit_len rfl)⟩
 refine cond_f hf rfl hc17 ?_
 refine wp_skip ?_
 refine then_n ?_
 refine wp_seq ?_
 refine region_pl ?_
 refine q_ hf rfl rfl rfl (e_field hf rfl Tryz.underlying55 rfl Tryz.sizeOf2 (o' := 6) rfl) fun a hf => ?_
 refine q_ hf rfl rfl rfl (e_load1 hf rfl Tryz.isAgg2 (hM.boxCell (k := 0) rfl rfl)) fun a hf => ?_
 obtain ⟨y18, hz19, h⟩ := bind_some h
 refine pl_l hf rfl rfl rfl (w_call hf Tryz.call125 rfl (r_impl_Decimal ⟨_, Sh C _ _, none_, hM.sh_lt, none_not, C.G, hM.g_lt, g_none, hM.tabs⟩ a1.Seconds hp7 _ hz19) ?_)
 rintro _ w21 ⟨rfl, hM2, hv20⟩
 obtain ⟨hM, hx22, hup23⟩ := hM.back hM2
 dsimp only [List.cons_append, List.nil_append] at hM hup23
 clear hM2
 refine ⟨_, rfl, fun a hf => ?_⟩
 refine q_ hf rfl rfl rfl (e_assign hf rfl) fun a hf => ?_
 refine pl_nil ?_
 refine then_n ?_
 iterate 2 refine wp_seq ?_
 refine region_pl ?_
 refine q_ hf rfl rfl rfl (e_field hf rfl Tryz.underlying55 rfl Tryz.sizeOf2 (o' := 0) rfl) fun a hf => ?_
 refine q_ hf rfl rfl rfl (e_load1 hf rfl Tryz.isAgg2 (hM.boxCell (k := 0) rfl rfl)) fun a hf => ?_
 refine pl_nil ?_
 refine then_n ?_
 refine wp_block ?_
 refine wp_seq ?_
 refine region_pl ?_
 refine q_ hf rfl rfl rfl (e_eq hf (x := a1.Kind) (y := 1) rfl rfl) fun a hf => ?_
 refine q_ hf rfl rfl rfl (e_assign hf rfl) fun a hf => ?_
 refine pl_nil ?_
 refine then_n ?_
 rcases cond_some h with ⟨hc24, h⟩ | ⟨hc24, h⟩
 ·refine cond_t hf rfl hc24 ?_
  refine wp_seq ?_
  refine region_pl ?_
  refine q_ hf rfl rfl rfl (e_field hf rfl Tryz.underlying55 rfl Tryz.sizeOf41 (o' := 1) rfl) fun a hf => ?_
  refine q_ hf rfl rfl rfl (e_loadA hf (us := [vI (a1.Play.Row), vI (a1.Play.Col), .bool (a1.Play.Down), vS (a1.Play.Word)]) rfl ⟨Tryz.isAgg41, Tryz.sizeOf41⟩ rfl (hM.boxSub (k := 0) (us := [vI (a1.Play.Row), vI (a1.Play.Col), .bool (a1.Play.Down), vS (a1.Play.Word)]) (o := 1) rfl rfl)) fun a hf => ?_
  obtain ⟨y25, hz26, h⟩ := bind_some h
  refine pl_l hf rfl rfl rfl (w_call hf Tryz.call116 rfl (r_impl_PlayText ⟨_, Sh C _ _, none_, hM.sh_lt, none_not, C.G, hM.g_lt, g_none, hM.tabs⟩ a1.Play hp3 hp4 hp5 _ hz26) ?_)
  rintro _ w28 ⟨rfl, hM2, hv27⟩
  obtain ⟨hM, hx29, hup30⟩ := hM.back hM2
  dsimp only [List.cons_append, List.nil_append] at hM hup30
  clear hM2
  refine ⟨_, rfl, fun a hf => ?_⟩
  refine q_ hf rfl rfl rfl (e_move hf rfl) fun a hf => ?_
  refine pl_l hf rfl rfl rfl (w_slice hf hM (K := strRep) (xs := ([([112, 108, 97, 121] : Str), y25, y18] : (List Str))) (os := [.const (.string ⟨#[112, 108, 97, 121]⟩), .tmp 16, .tmp 17]) Tryz.underlying91 ei_9 rfl rfl rfl rfl rfl ⟨⟨[vS (([112, 108, 97, 121] : Str))], rfl, ⟨rfl, (lit_len rfl)⟩⟩, ⟨[vS (y25)], rfl, ⟨rfl, hv27⟩⟩, ⟨[vS (y18)], rfl, ⟨rfl, hv20⟩⟩, trivial⟩ rfl fun b31 w32 hx33 hM a hf => ?_)
  obtain ⟨y34, hz35, h⟩ := bind_some h
  refine pl_l hf rfl rfl rfl (w_call hf Tryz.call62 rfl (r_impl_joined ⟨_, All C _ _, none_, hM.all_lt, none_not, C.G, hM.g_lt, g_none, hM.tabs⟩ ([([112, 108, 97, 121] : Str), y25, y18] : (List Str)) _ _ (hM.lendRow (k := 0) rfl) _ hz35) ?_)
  rintro _ w37 ⟨rfl, hM2, hv36⟩
  obtain ⟨hM, hx38⟩ := hM.backA hM2
  clear hM2
  refine ⟨_, rfl, fun a hf => ?_⟩
  refine q_ hf rfl rfl rfl (e_assign hf rfl) fun a hf => ?_
  refine pl_nil ?_
  refine then_n ?_
  refine wp_ret ?_
  refine blk_r ?_
  refine then_r ?_
  obtain rfl := some_inj h
  have hM := hM.outs (own' := []) 0 rfl
  exact leave1 hf rfl rfl ⟨rfl, hM.fin, hv36⟩
 refine cond_f hf rfl hc24 ?_
 refine wp_seq ?_
 refine region_pl ?_
 refine q_ hf rfl rfl rfl (e_eq hf (x := a1.Kind) (y := 2) rfl rfl) fun a hf => ?_
 refine q_ hf rfl rfl rfl (e_assign hf rfl) fun a hf => ?_
 refine pl_nil ?_
 refine then_n ?_
 rcases cond_some h with ⟨hc40, h⟩ | ⟨hc40, h⟩
 ·refine cond_t hf rfl hc40 ?_
  refine wp_seq ?_
  refine region_pl ?_
  refine q_ hf rfl rfl rfl (e_field hf rfl Tryz.underlying55 rfl Tryz.sizeOf9 (o' := 5) rfl) fun a hf => ?_
  refine q_ hf rfl rfl rfl (e_load1 hf rfl Tryz.isAgg9 (hM.boxCell (k := 0) rfl rfl)) fun a hf => ?_
  refine q_ hf rfl rfl rfl (e_move hf rfl) fun a hf => ?_
  refine pl_l hf rfl rfl rfl (w_slice hf hM (K := strRep) (xs := ([([101, 120, 99, 104, 97, 110, 103, 101] : Str), a1.Tiles, y18] : (List Str))) (os := [.const (.string ⟨#[101, 120, 99, 104, 97, 110, 103, 101]⟩), .tmp 23, .tmp 24]) Tryz.underlying91 ei_9 rfl rfl rfl rfl rfl ⟨⟨[vS (([101, 120, 99, 104, 97, 110, 103, 101] : Str))], rfl, ⟨rfl, (lit_len rfl)⟩⟩, ⟨[vS (a1.Tiles)], rfl, ⟨rfl, hp6⟩⟩, ⟨[vS (y18)], rfl, ⟨rfl, hv20⟩⟩, trivial⟩ rfl fun b41 w42 hx43 hM a hf => ?_)
  obtain ⟨y44, hz45, h⟩ := bind_some h
  refine pl_l hf rfl rfl rfl (w_call hf Tryz.call62 rfl (r_impl_joined ⟨_, All C _ _, none_, hM.all_lt, none_not, C.G, hM.g_lt, g_none, hM.tabs⟩ ([([101, 120, 99, 104, 97, 110, 103, 101] : Str), a1.Tiles, y18] : (List Str)) _ _ (hM.lendRow (k := 0) rfl) _ hz45) ?_)
  rintro _ w47 ⟨rfl, hM2, hv46⟩
  obtain ⟨hM, hx48⟩ := hM.backA hM2
  clear hM2
  refine ⟨_, rfl, fun a hf => ?_⟩
  refine q_ hf rfl rfl rfl (e_assign hf rfl) fun a hf => ?_
  refine pl_nil ?_
  refine then_n ?_
  refine wp_ret ?_
  refine blk_r ?_
  refine then_r ?_
  obtain rfl := some_inj h
  have hM := hM.outs (own' := []) 0 rfl
  exact leave1 hf rfl rfl ⟨rfl, hM.fin, hv46⟩
 refine cond_f hf rfl hc40 ?_
 refine wp_seq ?_
 refine region_pl ?_
 refine q_ hf rfl rfl rfl (e_eq hf (x := a1.Kind) (y := 3) rfl rfl) fun a hf => ?_
 refine q_ hf rfl rfl rfl (e_assign hf rfl) fun a hf => ?_
 refine pl_nil ?_
 refine then_n ?_
 rcases cond_some h with ⟨hc50, h⟩ | ⟨hc50, h⟩
 ·refine cond_t hf rfl hc50 ?_
  refine wp_seq ?_
  refine region_pl ?_
  refine q_ hf rfl rfl rfl (e_move hf rfl) fun a hf => ?_
  refine pl_l hf rfl rfl rfl (w_slice hf hM (K := strRep) (xs := ([([112, 97, 115, 115] : Str), y18] : (List Str))) (os := [.const (.string ⟨#[112, 97, 115, 115]⟩), .tmp 29]) Tryz.underlying91 ei_9 rfl rfl rfl rfl rfl ⟨⟨[vS (([112, 97, 115, 115] : Str))], rfl, ⟨rfl, (lit_len rfl)⟩⟩, ⟨[vS (y18)], rfl, ⟨rfl, hv20⟩⟩, trivial⟩ rfl fun b51 w52 hx53 hM a hf => ?_)
  obtain ⟨y54, hz55, h⟩ := bind_some h
  refine pl_l hf rfl rfl rfl (w_call hf Tryz.call62 rfl (r_impl_joined ⟨_, All C _ _, none_, hM.all_lt, none_not, C.G, hM.g_lt, g_none, hM.tabs⟩ ([([112, 97, 115, 115] : Str), y18] : (List Str)) _ _ (hM.lendRow (k := 0) rfl) _ hz55) ?_)
  rintro _ w57 ⟨rfl, hM2, hv56⟩
  obtain ⟨hM, hx58⟩ := hM.backA hM2
  clear hM2
  refine ⟨_, rfl, fun a hf => ?_⟩
  refine q_ hf rfl rfl rfl (e_assign hf rfl) fun a hf => ?_
  refine pl_nil ?_
  refine then_n ?_
  refine wp_ret ?_
  refine blk_r ?_
  refine then_r ?_
  obtain rfl := some_inj h
  have hM := hM.outs (own' := []) 0 rfl
  exact leave1 hf rfl rfl ⟨rfl, hM.fin, hv56⟩
 refine cond_f hf rfl hc50 ?_
 refine wp_skip ?_
 refine blk_n ?_
 refine then_n ?_
 refine wp_seq ?_
 refine region_pl ?_
 refine q_ hf rfl rfl rfl (e_move hf rfl) fun a hf => ?_
 refine pl_l hf rfl rfl rfl (w_slice hf hM (K := strRep) (xs := ([([99, 104, 97, 108, 108, 101, 110, 103, 101] : Str), y18] : (List Str))) (os := [.const (.string ⟨#[99, 104, 97, 108, 108, 101, 110, 103, 101]⟩), .tmp 32]) Tryz.underlying91 ei_9 rfl rfl rfl rfl rfl ⟨⟨[vS (([99, 104, 97, 108, 108, 101, 110, 103, 101] : Str))], rfl, ⟨rfl, (lit_len rfl)⟩⟩, ⟨[vS (y18)], rfl, ⟨rfl, hv20⟩⟩, trivial⟩ rfl fun b60 w61 hx62 hM a hf => ?_)
 obtain ⟨y63, hz64, h⟩ := bind_some h
 refine pl_l hf rfl rfl rfl (w_call hf Tryz.call62 rfl (r_impl_joined ⟨_, All C _ _, none_, hM.all_lt, none_not, C.G, hM.g_lt, g_none, hM.tabs⟩ ([([99, 104, 97, 108, 108, 101, 110, 103, 101] : Str), y18] : (List Str)) _ _ (hM.lendRow (k := 0) rfl) _ hz64) ?_)
 rintro _ w66 ⟨rfl, hM2, hv65⟩
 obtain ⟨hM, hx67⟩ := hM.backA hM2
 clear hM2
 refine ⟨_, rfl, fun a hf => ?_⟩
 refine q_ hf rfl rfl rfl (e_assign hf rfl) fun a hf => ?_
 refine pl_nil ?_
 refine then_n ?_
 refine wp_ret ?_
 obtain rfl := some_inj h
 have hM := hM.outs (own' := []) 0 rfl
 exact leave1 hf rfl rfl ⟨rfl, hM.fin, hv65⟩

def actV (b a : Nat) : Nat → Value
  | 0 => .func (.func 61) #[] #[vP b 0, vP a 0]
  | 1 => .func (.func 63) #[] #[vP b 0, vP a 0]
  | 2 => .func (.func 64) #[] #[vP b 0]
  | 3 => .func (.func 65) #[] #[vP b 0]
  | _ => .nilFunc

set_option maxRecDepth 100000 in
set_option maxHeartbeats 4000000 in
theorem r_impl_ReadAction (C : Cx) (s1 : Str) (hp2 : s1.length ≤ maxLen) (r : (Action × Bool)) (h : m_impl_ReadAction s1 = some r) :
    Calls Tryz.prog 28 #[vS (s1)] C.w0 fun e w => e = .returned (.tuple #[.agg #[vI (r.1.Kind), vI (r.1.Play.Row), vI (r.1.Play.Col), .bool (r.1.Play.Down), vS (r.1.Play.Word), vS (r.1.Tiles), vI (r.1.Seconds)], .bool (r.2)]) ∧ Mem C w [] [] ∧ R64 r.1.Kind ∧ R64 r.1.Play.Row ∧ R64 r.1.Play.Col ∧ r.1.Play.Word.length ≤ maxLen ∧ r.1.Tiles.length ≤ maxLen ∧ R64 r.1.Seconds := by
 have hM := Mem.begin C [] trivial
 refine enter Tryz.func28 rfl Tryz.ntmps28 rfl fun a hf => ?_
 unfold m_impl_ReadAction at h
 refine wp_seq ?_
 refine region_pl ?_
 refine pl_l hf rfl rfl rfl (w_alloc hM (cs := [vI (0), vI (0), vI (0), .bool (false), vS (([] : Str)), vS (([] : Str)), vI (0)]) Tryz.zeroValue55 rfl fun b3 w4 hx5 hM a hf => ?_)
 refine q_ hf rfl rfl rfl (e_assign hf rfl) fun a hf => ?_
 refine pl_nil ?_
 refine then_n ?_
 refine wp_seq ?_
 refine region_pl ?_
 refine q_ hf rfl rfl rfl (e_move hf rfl) fun a hf => ?_
 obtain ⟨y7, hz8, h⟩ := bind_some h
 refine pl_l hf rfl rfl rfl (w_call hf Tryz.call59 rfl (r_strings_Split ⟨_, Sh C _ _, none_, hM.sh_lt, none_not, C.G, hM.g_lt, g_none, hM.tabs⟩ s1 hp2 ([32] : Str) (lit_len rfl) _ hz8) ?_)
 rintro _ w12 ⟨A9, c10, rfl, hM2, hv11⟩
 obtain ⟨hM, hx13, hup14⟩ := hM.back hM2
 dsimp only [List.cons_append, List.nil_append] at hM hup14
 clear hM2
 have hM := hM.add (y := .dat (sliceRep strRep) y7 [vL A9 y7 c10]) (hup14 hv11)
 refine ⟨_, rfl, fun a hf => ?_⟩
 refine pl_l hf rfl rfl rfl (w_alloc hM (cs := [vL none (([] : (List Str))) 0]) Tryz.zeroValue91 rfl fun b15 w16 hx17 hM a hf => ?_)
 refine pl_0 hf rfl rfl (w_store hf hM (us := [vL A9 (y7) c10]) (cs' := [vL A9 (y7) c10]) rfl rfl (k := 0) rfl rfl Tryz.sizeOf91 rfl rfl rfl fun w19 hM => ?_)
 dsimp only [List.set] at hM
 refine pl_nil ?_
 refine then_n ?_
 refine wp_seq ?_
 refine region_pl ?_
 refine q_ hf rfl rfl rfl (e_build hf Tryz.zeroValue55 Tryz.underlying55 (bp_55 _ Tryz.underlying55.symm) rfl (cs := #[vI (0), vI (0), vI (0), .bool (false), vS (([] : Str)), vS (([] : Str)), vI (0)]) (by kernel_rfl)) fun a hf => ?_
 refine pl_l hf rfl rfl rfl (w_alloc hM (cs := [vI (0), vI (0), vI (0), .bool (false), vS (([] : Str)), vS (([] : Str)), vI (0)]) Tryz.zeroValue55 rfl fun b22 w23 hx24 hM a hf => ?_)
 refine pl_0 hf rfl rfl (w_store hf hM (us := [vI (0), vI (0), vI (0), .bool (false), vS (([] : Str)), vS (([] : Str)), vI (0)]) (cs' := [vI (0), vI (0), vI (0), .bool (false), vS (([] : Str)), vS (([] : Str)), vI (0)]) rfl rfl (k := 0) rfl rfl Tryz.sizeOf55 rfl rfl rfl fun w26 hM => ?_)
 dsimp only [List.set] at hM
 refine pl_nil ?_
 refine then_n ?_
 refine wp_seq ?_
 refine region_pl ?_
 iterate 2 refine q_ hf rfl rfl rfl (e_load1 hf rfl Tryz.isAgg91 (hM.boxCell (k := 1) rfl rfl)) fun a hf => ?_
 have hl29 := slice_len (hM.dat (k := 0) rfl)
 refine q_ hf rfl rfl rfl (e_lenL hf (x := y7) rfl Tryz.underlying91) fun a hf => ?_
 obtain ⟨z30, hz31, h⟩ := bind_some h
 refine q_ hf rfl rfl rfl (e_sub hf rfl rfl hz31) fun a hf => ?_
 obtain ⟨e32, hz33, h⟩ := bind_some h
 obtain ⟨b37, o38, _, hA39, h34, h35, hr36, hM⟩ := hM.elem (hM.dat (k := 0) rfl) (n := 1) rfl hz33
 obtain ⟨rfl, hv40⟩ := hr36
 refine q_ hf rfl rfl rfl (e_indexAddr (A := A9) (b := b37) (o := o38) (xs := y7) (i := z30) hf hA39 rfl rfl Tryz.underlying91 Tryz.sizeOf9 h34 h35) fun a hf => ?_
 refine q_ hf rfl rfl rfl (e_load1 hf rfl Tryz.isAgg9 (hM.litCell (k := 0) (j := 0) rfl rfl rfl)) fun a hf => ?_
 obtain ⟨y41, hz42, h⟩ := bind_some h
 refine pl_l hf rfl rfl rfl (w_call hf Tryz.call60 rfl (r_impl_ReadDecimal ⟨_, Sh C _ _, none_, hM.sh_lt, none_not, C.G, hM.g_lt, g_none, hM.tabs⟩ e32 hv40 _ hz42) ?_)
 rintro _ w44 ⟨rfl, hM2, hv43⟩
 obtain ⟨hM, hx45, hup46⟩ := hM.back hM2
 dsimp only [List.cons_append, List.nil_append] at hM hup46
 clear hM2
 refine ⟨_, rfl, fun a hf => ?_⟩
 refine q_ hf rfl rfl rfl (e_move hf rfl) fun a hf => ?_
 iterate 2 refine q_ hf rfl rfl rfl (e_extract hf rfl rfl) fun a hf => ?_
 refine q_ hf rfl rfl rfl (e_field hf rfl Tryz.underlying55 rfl Tryz.sizeOf2 (o' := 6) rfl) fun a hf => ?_
 refine pl_0 hf rfl rfl (w_store hf hM (us := [vI (y41.1)]) (cs' := [vI (0), vI (0), vI (0), .bool (false), vS (([] : Str)), vS (([] : Str)), vI (y41.1)]) rfl rfl (k := 0) rfl rfl Tryz.sizeOf2 rfl rfl rfl fun w47 hM => ?_)
 dsimp only [List.set] at hM
 refine pl_nil ?_
 refine then_n ?_
 refine wp_seq ?_
 refine region_pl ?_
 refine pl_l hf rfl rfl rfl (w_makeMap (α := Str) fS (actV b22 b15) hM fun bM wM hxM hM a hf => ?_)
 refine q_ hf rfl rfl rfl (w_makeFunc hf rfl) fun a hf => ?_
 refine pl_0 hf rfl rfl (w_mapInsert (fk := fS) (fv := (actV b22 b15)) hf hM (keyS Tryz.underlying9) Tryz.underlying96 (k := ([112, 108, 97, 121] : Str)) (v := 0) rfl rfl rfl (n := 0) rfl fun wM0 hM => ?_)
 dsimp only [List.set] at hM
 rw [show putM ([] : List (Str × Nat)) ([112, 108, 97, 121] : Str) 0 = ([(([112, 108, 97, 121] : Str), 0)] : List (Str × Nat)) from rfl] at hM
 refine q_ hf rfl rfl rfl (w_makeFunc hf rfl) fun a hf => ?_
 refine pl_0 hf rfl rfl (w_mapInsert (fk := fS) (fv := (actV b22 b15)) hf hM (keyS Tryz.underlying9) Tryz.underlying96 (k := ([101, 120, 99, 104, 97, 110, 103, 101] : Str)) (v := 1) rfl rfl rfl (n := 0) rfl fun wM1 hM => ?_)
 dsimp only [List.set] at hM
 rw [show putM ([(([112, 108, 97, 121] : Str), 0)] : List (Str × Nat)) ([101, 120, 99, 104, 97, 110, 103, 101] : Str) 1 = ([(([112, 108, 97, 121] : Str), 0), (([101, 120, 99, 104, 97, 110, 103, 101] : Str), 1)] : List (Str × Nat)) from rfl] at hM
 refine q_ hf rfl rfl rfl (w_makeFunc hf rfl) fun a hf => ?_
 refine pl_0 hf rfl rfl (w_mapInsert (fk := fS) (fv := (actV b22 b15)) hf hM (keyS Tryz.underlying9) Tryz.underlying96 (k := ([112, 97, 115, 115] : Str)) (v := 2) rfl rfl rfl (n := 0) rfl fun wM2 hM => ?_)
 dsimp only [List.set] at hM
 rw [show putM ([(([112, 108, 97, 121] : Str), 0), (([101, 120, 99, 104, 97, 110, 103, 101] : Str), 1)] : List (Str × Nat)) ([112, 97, 115, 115] : Str) 2 = ([(([112, 108, 97, 121] : Str), 0), (([101, 120, 99, 104, 97, 110, 103, 101] : Str), 1), (([112, 97, 115, 115] : Str), 2)] : List (Str × Nat)) from rfl] at hM
 refine q_ hf rfl rfl rfl (w_makeFunc hf rfl) fun a hf => ?_
 refine pl_0 hf rfl rfl (w_mapInsert (fk := fS) (fv := (actV b22 b15)) hf hM (keyS Tryz.underlying9) Tryz.underlying96 (k := ([99, 104, 97, 108, 108, 101, 110, 103, 101] : Str)) (v := 3) rfl rfl rfl (n := 0) rfl fun wM3 hM => ?_)
 dsimp only [List.set] at hM
 rw [show putM ([(([112, 108, 97, 121] : Str), 0), (([101, 120, 99, 104, 97, 110, 103, 101] : Str), 1), (([112, 97, 115, 115] : Str), 2)] : List (Str × Nat)) ([99, 104, 97, 108, 108, 101, 110, 103, 101] : Str) 3 = ([(([112, 108, 97, 121] : Str), 0), (([101, 120, 99, 104, 97, 110, 103, 101] : Str), 1), (([112, 97, 115, 115] : Str), 2), (([99, 104, 97, 108, 108, 101, 110, 103, 101] : Str), 3)] : List (Str × Nat)) from rfl] at hM
 refine q_ hf rfl rfl rfl (e_move hf rfl) fun a hf => ?_
 refine q_ hf rfl rfl rfl (e_assign hf rfl) fun a hf => ?_
 refine pl_nil ?_
 refine then_n ?_
 obtain ⟨x64, h65, h⟩ := bind_some h
 refine seq_join (fun a w => ∃ (n50 : Int) (n52 : Int) (n54 : Int) (t56 : Bool) (s58 : Str) (s60 : Str) (n62 : Int), (n50, n52, n54, t56, s58, s60, n62) = x64 ∧ Has 51 a [(0, vS (s1)), (2, vP b3 (0)), (5, vP b22 (0))] ∧ Mem C w [.box b22 [vI (n50), vI (n52), vI (n54), .bool (t56), vS (s58), vS (s60), vI (n62)] 55, .box b3 [vI (0), vI (0), vI (0), .bool (false), vS (([] : Str)), vS (([] : Str)), vI (0)] 55] [.lit b37 (o38 + (z30 : Int).toNat * 1) [vS (e32)], .dat (sliceRep strRep) y7 [vL A9 y7 c10]] ∧ R64 n50 ∧ R64 n52 ∧ R64 n54 ∧ s58.length ≤ maxLen ∧ s60.length ≤ maxLen ∧ R64 n62) ?_ ?_
 ·refine wp_seq ?_
  refine region_pl ?_
  refine q_ hf rfl rfl rfl (e_move hf rfl) fun a hf => ?_
  refine q_ hf rfl rfl rfl (e_load1 hf rfl Tryz.isAgg91 (hM.boxCell (k := 2) rfl rfl)) fun a hf => ?_
  obtain ⟨e66, hz67, h65⟩ := bind_some h65
  obtain ⟨b71, o72, _, hA73, h68, h69, hr70, hM⟩ := hM.elem (hM.dat (k := 1) rfl) (n := 1) rfl hz67
  obtain ⟨rfl, hv74⟩ := hr70
  refine q_ hf rfl rfl rfl (e_indexAddr (A := A9) (b := b71) (o := o72) (xs := y7) (i := 0) hf hA73 rfl rfl Tryz.underlying91 Tryz.sizeOf9 h68 h69) fun a hf => ?_
  refine q_ hf rfl rfl rfl (e_load1 hf rfl Tryz.isAgg9 (hM.litCell (k := 0) (j := 0) rfl rfl rfl)) fun a hf => ?_
  refine q_ hf rfl rfl rfl (e_lookupOk (fk := fS) (fv := (actV b22 b15)) hf (keyS Tryz.underlying9) Tryz.underlying96 (k := e66) (z := 4) rfl rfl Tryz.zeroValue1 (hM.ownAt (k := 0) rfl)) fun a hf => ?_
  refine q_ hf rfl rfl rfl (e_move hf rfl) fun a hf => ?_
  iterate 2 refine q_ hf rfl rfl rfl (e_extract hf rfl rfl) fun a hf => ?_
  iterate 2 refine q_ hf rfl rfl rfl (e_assign hf rfl) fun a hf => ?_
  have hM := hM.drop (.cons _ (List.Sublist.refl _))
  refine pl_nil ?_
  refine then_n ?_
  refine wp_seq ?_
  refine region_pl ?_
  refine q_ hf rfl rfl rfl (e_move hf rfl) fun a hf => ?_
  refine pl_nil ?_
  refine then_n ?_
  rcases cond_some h65 with ⟨hc75, h65⟩ | ⟨hc75, h65⟩
  ·have hq : getM ([(([112, 108, 97, 121] : Str), 0), (([101, 120, 99, 104, 97, 110, 103, 101] : Str), 1), (([112, 97, 115, 115] : Str), 2), (([99, 104, 97, 108, 108, 101, 110, 103, 101] : Str), 3)] : List (Str × Nat)) e66 = some 0 := (getM_hit (eq_of_beq hc75))
   rw [hq] at hf
   refine cond_t hf rfl rfl ?_
   refine region_pl ?_
   refine q_ hf rfl rfl rfl (e_move hf rfl) fun a hf => ?_
   have hM := hM.freezeBox (k := 1) rfl rfl
   dsimp only [List.eraseIdx] at hM
   have hM : Mem C _ ([.box b22 [vI (0), vI (0), vI (0), .bool (false), vS (([] : Str)), vS (([] : Str)), vI (y41.1)] 55] ++ [.box b3 [vI (0), vI (0), vI (0), .bool (false), vS (([] : Str)), vS (([] : Str)), vI (0)] 55]) _ := hM
   obtain ⟨y76, hz77, h65⟩ := bind_some h65
   refine pl_l hf rfl rfl rfl (w_callV hf (fk := 61) (fc := [vP b22 (0), vP b15 (0)]) rfl Tryz.call61 rfl (r_impl_ReadAction_1 ⟨_, Sh C _ _, ownB _, hM.sh_lt, sub_dis, C.G, hM.g_lt, hM.g_own, hM.tabs⟩ (⟨0, ⟨0, 0, false, ([] : Str)⟩, ([] : Str), y41.1⟩ : Action) _ (R64_lit rfl) (R64_lit rfl) (R64_lit rfl) (lit_len rfl) (lit_len rfl) hv43 y7 _ _ (hM.litPtr (k := 0) (d := 0) (us := [vL A9 (y7) c10]) rfl rfl rfl (hM.dat (k := 3) rfl)) hM.sub sub_dis _ hz77) ?_)
   rintro _ w84 ⟨rfl, hM2, hv78, hv79, hv80, hv81, hv82, hv83⟩
   obtain ⟨hM, hup86⟩ := hM.backG hM2
   dsimp only [List.cons_append, List.nil_append] at hM hup86
   clear hM2
   refine ⟨_, rfl, fun a hf => ?_⟩
   refine pl_nil ?_
   obtain rfl := some_inj h65
   refine then_n ?_
   exact ⟨y76.Kind, y76.Play.Row, y76.Play.Col, y76.Play.Down, y76.Play.Word, y76.Tiles, y76.Seconds, rfl, hf.keep ⟨rfl, rfl, rfl, trivial⟩, hM.pick [2, 3] rfl, hv78, hv79, hv80, hv81, hv82, hv83⟩
  skip
  rcases cond_some h65 with ⟨hc88, h65⟩ | ⟨hc88, h65⟩
  ·have hq : getM ([(([112, 108, 97, 121] : Str), 0), (([101, 120, 99, 104, 97, 110, 103, 101] : Str), 1), (([112, 97, 115, 115] : Str), 2), (([99, 104, 97, 108, 108, 101, 110, 103, 101] : Str), 3)] : List (Str × Nat)) e66 = some 1 := ((getM_miss (ne_of_beq_false hc75)).trans (getM_hit (eq_of_beq hc88)))
   rw [hq] at hf
   refine cond_t hf rfl rfl ?_
   refine region_pl ?_
   refine q_ hf rfl rfl rfl (e_move hf rfl) fun a hf => ?_
   have hM := hM.freezeBox (k := 1) rfl rfl
   dsimp only [List.eraseIdx] at hM
   have hM : Mem C _ ([.box b22 [vI (0), vI (0), vI (0), .bool (false), vS (([] : Str)), vS (([] : Str)), vI (y41.1)] 55] ++ [.box b3 [vI (0), vI (0), vI (0), .bool (false), vS (([] : Str)), vS (([] : Str)), vI (0)] 55]) _ := hM
   obtain ⟨y89, hz90, h65⟩ := bind_some h65
   refine pl_l hf rfl rfl rfl (w_callV hf (fk := 63) (fc := [vP b22 (0), vP b15 (0)]) rfl Tryz.call63 rfl (r_impl_ReadAction_2 ⟨_, Sh C _ _, ownB _, hM.sh_lt, sub_dis, C.G, hM.g_lt, hM.g_own, hM.tabs⟩ (⟨0, ⟨0, 0, false, ([] : Str)⟩, ([] : Str), y41.1⟩ : Action) _ (R64_lit rfl) (R64_lit rfl) (R64_lit rfl) (lit_len rfl) (lit_len rfl) hv43 y7 _ _ (hM.litPtr (k := 0) (d := 0) (us := [vL A9 (y7) c10]) rfl rfl rfl (hM.dat (k := 3) rfl)) hM.sub sub_dis _ hz90) ?_)
   rintro _ w97 ⟨rfl, hM2, hv91, hv92, hv93, hv94, hv95, hv96⟩
   obtain ⟨hM, hup99⟩ := hM.backG hM2
   dsimp only [List.cons_append, List.nil_append] at hM hup99
   clear hM2
   refine ⟨_, rfl, fun a hf => ?_⟩
   refine pl_nil ?_
   obtain rfl := some_inj h65
   refine then_n ?_
   exact ⟨y89.Kind, y89.Play.Row, y89.Play.Col, y89.Play.Down, y89.Play.Word, y89.Tiles, y89.Seconds, rfl, hf.keep ⟨rfl, rfl, rfl, trivial⟩, hM.pick [2, 3] rfl, hv91, hv92, hv93, hv94, hv95, hv96⟩
  skip
  rcases cond_some h65 with ⟨hc101, h65⟩ | ⟨hc101, h65⟩
  ·have hq : getM ([(([112, 108, 97, 121] : Str), 0), (([101, 120, 99, 104, 97, 110, 103, 101] : Str), 1), (([112, 97, 115, 115] : Str), 2), (([99, 104, 97, 108, 108, 101, 110, 103, 101] : Str), 3)] : List (Str × Nat)) e66 = some 2 := ((getM_miss (ne_of_beq_false hc75)).trans ((getM_miss (ne_of_beq_false hc88)).trans (getM_hit (eq_of_beq hc101))))
   rw [hq] at hf
   refine cond_t hf rfl rfl ?_
   refine region_pl ?_
   refine q_ hf rfl rfl rfl (e_move hf rfl) fun a hf => ?_
   have hM : Mem C _ ([.box b22 [vI (0), vI (0), vI (0), .bool (false), vS (([] : Str)), vS (([] : Str)), vI (y41.1)] 55] ++ [.box b15 [vL A9 (y7) c10] 91, .box b3 [vI (0), vI (0), vI (0), .bool (false), vS (([] : Str)), vS (([] : Str)), vI (0)] 55]) _ := hM
   obtain ⟨y102, hz103, h65⟩ := bind_some h65
   refine pl_l hf rfl rfl rfl (w_callV hf (fk := 64) (fc := [vP b22 (0)]) rfl Tryz.call64 rfl (r_impl_ReadAction_3 ⟨_, Sh C _ _, ownB _, hM.sh_lt, sub_dis, C.G, hM.g_lt, hM.g_own, hM.tabs⟩ (⟨0, ⟨0, 0, false, ([] : Str)⟩, ([] : Str), y41.1⟩ : Action) _ (R64_lit rfl) (R64_lit rfl) (R64_lit rfl) (lit_len rfl) (lit_len rfl) hv43 hM.sub sub_dis _ hz103) ?_)
   rintro _ w110 ⟨rfl, hM2, hv104, hv105, hv106, hv107, hv108, hv109⟩
   obtain ⟨hM, hup112⟩ := hM.backG hM2
   dsimp only [List.cons_append, List.nil_append] at hM hup112
   clear hM2
   refine ⟨_, rfl, fun a hf => ?_⟩
   refine pl_nil ?_
   obtain rfl := some_inj h65
   refine then_n ?_
   exact ⟨y102.Kind, y102.Play.Row, y102.Play.Col, y102.Play.Down, y102.Play.Word, y102.Tiles, y102.Seconds, rfl, hf.keep ⟨rfl, rfl, rfl, trivial⟩, (hM.drop (.cons_cons _ (.cons _ (.cons_cons _ .slnil)))).pick [1, 2] rfl, hv104, hv105, hv106, hv107, hv108, hv109⟩
  skip
  rcases cond_some h65 with ⟨hc114, h65⟩ | ⟨hc114, h65⟩
  ·have hq : getM ([(([112, 108, 97, 121] : Str), 0), (([101, 120, 99, 104, 97, 110, 103, 101] : Str), 1), (([112, 97, 115, 115] : Str), 2), (([99, 104, 97, 108, 108, 101, 110, 103, 101] : Str), 3)] : List (Str × Nat)) e66 = some 3 := ((getM_miss (ne_of_beq_false hc75)).trans ((getM_miss (ne_of_beq_false hc88)).trans ((getM_miss (ne_of_beq_false hc101)).trans (getM_hit (eq_of_beq hc114)))))
   rw [hq] at hf
   refine cond_t hf rfl rfl ?_
   refine region_pl ?_
   refine q_ hf rfl rfl rfl (e_move hf rfl) fun a hf => ?_
   have hM : Mem C _ ([.box b22 [vI (0), vI (0), vI (0), .bool (false), vS (([] : Str)), vS (([] : Str)), vI (y41.1)] 55] ++ [.box b15 [vL A9 (y7) c10] 91, .box b3 [vI (0), vI (0), vI (0), .bool (false), vS (([] : Str)), vS (([] : Str)), vI (0)] 55]) _ := hM
   obtain ⟨y115, hz116, h65⟩ := bind_some h65
   refine pl_l hf rfl rfl rfl (w_callV hf (fk := 65) (fc := [vP b22 (0)]) rfl Tryz.call65 rfl (r_impl_ReadAction_4 ⟨_, Sh C _ _, ownB _, hM.sh_lt, sub_dis, C.G, hM.g_lt, hM.g_own, hM.tabs⟩ (⟨0, ⟨0, 0, false, ([] : Str)⟩, ([] : Str), y41.1⟩ : Action) _ (R64_lit rfl) (R64_lit rfl) (R64_lit rfl) (lit_len rfl) (lit_len rfl) hv43 hM.sub sub_dis _ hz116) ?_)
   rintro _ w123 ⟨rfl, hM2, hv117, hv118, hv119, hv120, hv121, hv122⟩
   obtain ⟨hM, hup125⟩ := hM.backG hM2
   dsimp only [List.cons_append, List.nil_append] at hM hup125
   clear hM2
   refine ⟨_, rfl, fun a hf => ?_⟩
   refine pl_nil ?_
   obtain rfl := some_inj h65
   refine then_n ?_
   exact ⟨y115.Kind, y115.Play.Row, y115.Play.Col, y115.Play.Down, y115.Play.Word, y115.Tiles, y115.Seconds, rfl, hf.keep ⟨rfl, rfl, rfl, trivial⟩, (hM.drop (.cons_cons _ (.cons _ (.cons_cons _ .slnil)))).pick [1, 2] rfl, hv117, hv118, hv119, hv120, hv121, hv122⟩
  have hq : getM ([(([112, 108, 97, 121] : Str), 0), (([101, 120, 99, 104, 97, 110, 103, 101] : Str), 1), (([112, 97, 115, 115] : Str), 2), (([99, 104, 97, 108, 108, 101, 110, 103, 101] : Str), 3)] : List (Str × Nat)) e66 = none := ((getM_miss (ne_of_beq_false hc75)).trans ((getM_miss (ne_of_beq_false hc88)).trans ((getM_miss (ne_of_beq_false hc101)).trans ((getM_miss (ne_of_beq_false hc114)).trans rfl))))
  rw [hq] at hf
  refine cond_f hf rfl rfl ?_
  refine wp_skip ?_
  obtain rfl := some_inj h65
  refine then_n ?_
  exact ⟨0, 0, 0, false, ([] : Str), ([] : Str), y41.1, rfl, hf.keep ⟨rfl, rfl, rfl, trivial⟩, (hM.drop (.cons_cons _ (.cons _ (.cons_cons _ .slnil)))).pick [1, 2] rfl, (R64_lit rfl), (R64_lit rfl), (R64_lit rfl), (lit_len rfl), (lit_len rfl), hv43⟩
 rintro a w128 ⟨n50, n52, n54, t56, s58, s60, n62, rfl, hf, hM, hv51, hv53, hv55, hv59, hv61, hv63⟩
 try dsimp only at h
 refine wp_seq ?_
 obtain ⟨x131, h132, h⟩ := bind_some h
 refine seq_join (fun a w => ∃ (t129 : Bool), t129 = x131 ∧ Has 51 a [(2, vP b3 (0)), (5, vP b22 (0)), (48, .bool (t129))] ∧ Mem C w [.box b22 [vI (n50), vI (n52), vI (n54), .bool (t56), vS (s58), vS (s60), vI (n62)] 55, .box b3 [vI (0), vI (0), vI (0), .bool (false), vS (([] : Str)), vS (([] : Str)), vI (0)] 55] [.lit b37 (o38 + (z30 : Int).toNat * 1) [vS (e32)], .dat (sliceRep strRep) y7 [vL A9 y7 c10]]) ?_ ?_
 ·refine region_pl ?_
  refine q_ hf rfl rfl rfl (e_loadA hf (us := [vI (n50), vI (n52), vI (n54), .bool (t56), vS (s58), vS (s60), vI (n62)]) rfl ⟨Tryz.isAgg55, Tryz.sizeOf55⟩ rfl (hM.boxSub (k := 0) (us := [vI (n50), vI (n52), vI (n54), .bool (t56), vS (s58), vS (s60), vI (n62)]) (o := 0) rfl rfl)) fun a hf => ?_
  obtain ⟨y133, hz134, h132⟩ := bind_some h132
  refine pl_l hf rfl rfl rfl (w_call hf Tryz.call66 rfl (r_impl_ValidAction ⟨_, Sh C _ _, none_, hM.sh_lt, none_not, C.G, hM.g_lt, g_none, hM.tabs⟩ (⟨n50, ⟨n52, n54, t56, s58⟩, s60, n62⟩ : Action) hv51 hv53 hv55 hv59 hv61 hv63 _ hz134) ?_)
  rintro _ w135 ⟨rfl, hM2⟩
  obtain ⟨hM, hx136, hup137⟩ := hM.back hM2
  dsimp only [List.cons_append, List.nil_append] at hM hup137
  clear hM2
  refine ⟨_, rfl, fun a hf => ?_⟩
  refine q_ hf rfl rfl rfl (e_not hf rfl) fun a hf => ?_
  refine q_ hf rfl rfl rfl (e_move hf rfl) fun a hf => ?_
  rcases cond_some h132 with ⟨hc138, h132⟩ | ⟨hc138, h132⟩
  ·iterate 4 refine pl_gs (wanted_f hf rfl rfl rfl rfl hc138) hf rfl rfl fun a hf => ?_
   refine q_ hf rfl rfl rfl (e_pick_t hf rfl hc138 rfl) fun a hf => ?_
   refine pl_nil ?_
   obtain rfl := some_inj h132
   refine then_n ?_
   exact ⟨true, rfl, hf.keep ⟨rfl, rfl, rfl, trivial⟩, hM.pick [0, 1] rfl⟩
  refine gq (wanted_t hf rfl rfl rfl rfl hc138) hf rfl rfl (e_loadA hf (us := [vI (n50), vI (n52), vI (n54), .bool (t56), vS (s58), vS (s60), vI (n62)]) rfl ⟨Tryz.isAgg55, Tryz.sizeOf55⟩ rfl (hM.boxSub (k := 0) (us := [vI (n50), vI (n52), vI (n54), .bool (t56), vS (s58), vS (s60), vI (n62)]) (o := 0) rfl rfl)) fun a hf => ?_
  obtain ⟨y140, hz141, h132⟩ := bind_some h132
  refine pl_gl (wanted_t hf rfl rfl rfl rfl hc138) hf rfl rfl (w_call hf Tryz.call67 rfl (r_impl_ActionText ⟨_, Sh C _ _, none_, hM.sh_lt, none_not, C.G, hM.g_lt, g_none, hM.tabs⟩ (⟨n50, ⟨n52, n54, t56, s58⟩, s60, n62⟩ : Action) hv51 hv53 hv55 hv59 hv61 hv63 _ hz141) ?_)
  rintro _ w143 ⟨rfl, hM2, hv142⟩
  obtain ⟨hM, hx144, hup145⟩ := hM.back hM2
  dsimp only [List.cons_append, List.nil_append] at hM hup145
  clear hM2
  refine ⟨_, rfl, fun a hf => ?_⟩
  refine gq (wanted_t hf rfl rfl rfl rfl hc138) hf rfl rfl (e_move hf rfl) fun a hf => ?_
  refine gq (wanted_t hf rfl rfl rfl rfl hc138) hf rfl rfl (e_neS hf (x := y140) (y := s1) rfl rfl) fun a hf => ?_
  refine q_ hf rfl rfl rfl (e_pick_f hf rfl hc138 rfl) fun a hf => ?_
  refine pl_nil ?_
  obtain rfl := some_inj h132
  refine then_n ?_
  exact ⟨(y140 != s1), rfl, hf.keep ⟨rfl, rfl, rfl, trivial⟩, hM.pick [0, 1] rfl⟩
 rintro a w147 ⟨t129, rfl, hf, hM⟩
 try dsimp only at h
 rcases cond_some h with ⟨hc148, h⟩ | ⟨hc148, h⟩
 ·refine cond_t hf rfl hc148 ?_
  refine wp_seq ?_
  refine region_pl ?_
  refine q_ hf rfl rfl rfl (e_build hf Tryz.zeroValue55 Tryz.underlying55 (bp_55 _ Tryz.underlying55.symm) rfl (cs := #[vI (0), vI (0), vI (0), .bool (false), vS (([] : Str)), vS (([] : Str)), vI (0)]) (by kernel_rfl)) fun a hf => ?_
  refine pl_0 hf rfl rfl (w_store hf hM (us := [vI (0), vI (0), vI (0), .bool (false), vS (([] : Str)), vS (([] : Str)), vI (0)]) (cs' := [vI (0), vI (0), vI (0), .bool (false), vS (([] : Str)), vS (([] : Str)), vI (0)]) rfl rfl (k := 1) rfl rfl Tryz.sizeOf55 rfl rfl rfl fun w149 hM => ?_)
  dsimp only [List.set] at hM
  refine q_ hf rfl rfl rfl (e_assign hf rfl) fun a hf => ?_
  refine pl_nil ?_
  refine then_n ?_
  refine wp_ret ?_
  refine then_r ?_
  obtain rfl := some_inj h
  have hres152 := leaveV2 (P := Tryz.prog) (w := w149) Tryz.results28 (res_agg hf rfl ⟨Tryz.isAgg55, Tryz.sizeOf55⟩ (us := [vI (0), vI (0), vI (0), .bool (false), vS (([] : Str)), vS (([] : Str)), vI (0)]) rfl (hM.boxSub (k := 1) (o := 0) rfl rfl)) (res_tmp hf rfl)
  have hM := hM.outs (own' := []) 0 rfl
  exact bodyPost_ret hres152 hf.defers ⟨rfl, hM.fin, (R64_lit rfl), (R64_lit rfl), (R64_lit rfl), (lit_len rfl), (lit_len rfl), (R64_lit rfl)⟩
 refine cond_f hf rfl hc148 ?_
 refine wp_skip ?_
 refine then_n ?_
 refine wp_seq ?_
 refine region_pl ?_
 refine q_ hf rfl rfl rfl (e_loadA hf (us := [vI (n50), vI (n52), vI (n54), .bool (t56), vS (s58), vS (s60), vI (n62)]) rfl ⟨Tryz.isAgg55, Tryz.sizeOf55⟩ rfl (hM.boxSub (k := 0) (us := [vI (n50), vI (n52), vI (n54), .bool (t56), vS (s58), vS (s60), vI (n62)]) (o := 0) rfl rfl)) fun a hf => ?_
 refine pl_0 hf rfl rfl (w_store hf hM (us := [vI (n50), vI (n52), vI (n54), .bool (t56), vS (s58), vS (s60), vI (n62)]) (cs' := [vI (n50), vI (n52), vI (n54), .bool (t56), vS (s58), vS (s60), vI (n62)]) rfl rfl (k := 1) rfl rfl Tryz.sizeOf55 rfl rfl rfl fun w153 hM => ?_)
 dsimp only [List.set] at hM
 refine q_ hf rfl rfl rfl (e_assign hf rfl) fun a hf => ?_
 refine pl_nil ?_
 refine then_n ?_
 refine wp_ret ?_
 obtain rfl := some_inj h
 have hres156 := leaveV2 (P := Tryz.prog) (w := w153) Tryz.results28 (res_agg hf rfl ⟨Tryz.isAgg55, Tryz.sizeOf55⟩ (us := [vI (n50), vI (n52), vI (n54), .bool (t56), vS (s58), vS (s60), vI (n62)]) rfl (hM.boxSub (k := 1) (o := 0) rfl rfl)) (res_tmp hf rfl)
 have hM := hM.outs (own' := []) 0 rfl
 exact bodyPost_ret hres156 hf.defers ⟨rfl, hM.fin, hv51, hv53, hv55, hv59, hv61, hv63⟩

set_option maxRecDepth 100000 in
set_option maxHeartbeats 4000000 in
theorem r_laws_eqPlay (C : Cx) (a1 : Play) (hp2 : R64 a1.Row) (hp3 : R64 a1.Col) (hp4 : a1.Word.length ≤ maxLen) (b5 : Play) (hp6 : R64 b5.Row) (hp7 : R64 b5.Col) (hp8 : b5.Word.length ≤ maxLen) (r : Bool) (h : m_laws_eqPlay a1 b5 = some r) :
    Calls Tryz.prog 57 #[.agg #[vI (a1.Row), vI (a1.Col), .bool (a1.Down), vS (a1.Word)], .agg #[vI (b5.Row), vI (b5.Col), .bool (b5.Down), vS (b5.Word)]] C.w0 fun e w => e = .returned (.bool (r)) ∧ Mem C w [] [] := by
 have hM := Mem.begin C [] trivial
 refine enter Tryz.func57 rfl Tryz.ntmps57 rfl fun a hf => ?_
 unfold m_laws_eqPlay at h
 refine wp_seq ?_
 refine region_pl ?_
 refine pl_l hf rfl rfl rfl (w_box hf hM (cs := [vI (a1.Row), vI (a1.Col), .bool (a1.Down), vS (a1.Word)]) rfl rfl fun b9 w10 hx11 hM a hf => ?_)
 refine pl_l hf rfl rfl rfl (w_box hf hM (cs := [vI (b5.Row), vI (b5.Col), .bool (b5.Down), vS (b5.Word)]) rfl rfl fun b13 w14 hx15 hM a hf => ?_)
 refine q_ hf rfl rfl rfl (e_assign hf rfl) fun a hf => ?_
 refine pl_nil ?_
 refine then_n ?_
 iterate 2 refine wp_seq ?_
 refine region_pl ?_
 refine q_ hf rfl rfl rfl (e_field hf rfl Tryz.underlying41 rfl Tryz.sizeOf2 (o' := 0) rfl) fun a hf => ?_
 refine q_ hf rfl rfl rfl (e_load1 hf rfl Tryz.isAgg2 (hM.boxCell (k := 1) rfl rfl)) fun a hf => ?_
 refine q_ hf rfl rfl rfl (e_field hf rfl Tryz.underlying41 rfl Tryz.sizeOf2 (o' := 0) rfl) fun a hf => ?_
 refine q_ hf rfl rfl rfl (e_load1 hf rfl Tryz.isAgg2 (hM.boxCell (k := 0) rfl rfl)) fun a hf => ?_
 refine q_ hf rfl rfl rfl (e_ne hf (x := a1.Row) (y := b5.Row) rfl rfl) fun a hf => ?_
 refine pl_nil ?_
 refine then_n ?_
 rcases cond_some h with ⟨hc17, h⟩ | ⟨hc17, h⟩
 ·refine cond_t hf rfl hc17 ?_
  refine wp_seq ?_
  refine region_pl ?_
  refine q_ hf rfl rfl rfl (e_assign hf rfl) fun a hf => ?_
  refine pl_nil ?_
  refine then_n ?_
  refine wp_ret ?_
  refine then_r ?_
  obtain rfl := some_inj h
  have hM := hM.outs (own' := []) 0 rfl
  exact leave1 hf rfl rfl ⟨rfl, hM.fin⟩
 refine cond_f hf rfl hc17 ?_
 refine wp_skip ?_
 refine then_n ?_
 iterate 2 refine wp_seq ?_
 refine region_pl ?_
 refine q_ hf rfl rfl rfl (e_field hf rfl Tryz.underlying41 rfl Tryz.sizeOf2 (o' := 1) rfl) fun a hf => ?_
 refine q_ hf rfl rfl rfl (e_load1 hf rfl Tryz.isAgg2 (hM.boxCell (k := 1) rfl rfl)) fun a hf => ?_
 refine q_ hf rfl rfl rfl (e_field hf rfl Tryz.underlying41 rfl Tryz.sizeOf2 (o' := 1) rfl) fun a hf => ?_
 refine q_ hf rfl rfl rfl (e_load1 hf rfl Tryz.isAgg2 (hM.boxCell (k := 0) rfl rfl)) fun a hf => ?_
 refine q_ hf rfl rfl rfl (e_ne hf (x := a1.Col) (y := b5.Col) rfl rfl) fun a hf => ?_
 refine pl_nil ?_
 refine then_n ?_
 rcases cond_some h with ⟨hc18, h⟩ | ⟨hc18, h⟩
 ·refine cond_t hf rfl hc18 ?_
  refine wp_seq ?_
  refine region_pl ?_
  refine q_ hf rfl rfl rfl (e_assign hf rfl) fun a hf => ?_
  refine pl_nil ?_
  refine then_n ?_
  refine wp_ret ?_
  refine then_r ?_
  obtain rfl := some_inj h
  have hM := hM.outs (own' := []) 0 rfl
  exact leave1 hf rfl rfl ⟨rfl, hM.fin⟩
 refine cond_f hf rfl hc18 ?_
 refine wp_skip ?_
 refine then_n ?_
 iterate 2 refine wp_seq ?_
 refine region_pl ?_
 refine q_ hf rfl rfl rfl (e_field hf rfl Tryz.underlying41 rfl Tryz.sizeOf4 (o' := 2) rfl) fun a hf => ?_
 refine q_ hf rfl rfl rfl (e_load1 hf rfl Tryz.isAgg4 (hM.boxCell (k := 1) rfl rfl)) fun a hf => ?_
 refine q_ hf rfl rfl rfl (e_field hf rfl Tryz.underlying41 rfl Tryz.sizeOf4 (o' := 2) rfl) fun a hf => ?_
 refine q_ hf rfl rfl rfl (e_load1 hf rfl Tryz.isAgg4 (hM.boxCell (k := 0) rfl rfl)) fun a hf => ?_
 refine q_ hf rfl rfl rfl (e_neT hf rfl rfl Tryz.underlying4) fun a hf => ?_
 refine pl_nil ?_
 refine then_n ?_
 rcases cond_some h with ⟨hc19, h⟩ | ⟨hc19, h⟩
 ·refine cond_t hf rfl hc19 ?_
  refine wp_seq ?_
  refine region_pl ?_
  refine q_ hf rfl rfl rfl (e_assign hf rfl) fun a hf => ?_
  refine pl_nil ?_
  refine then_n ?_
  refine wp_ret ?_
  refine then_r ?_
  obtain rfl := some_inj h
  have hM := hM.outs (own' := []) 0 rfl
  exact leave1 hf rfl rfl ⟨rfl, hM.fin⟩
 refine cond_f hf rfl hc19 ?_
 refine wp_skip ?_
 refine then_n ?_
 iterate 2 refine wp_seq ?_
 refine region_pl ?_
 refine q_ hf rfl rfl rfl (e_field hf rfl Tryz.underlying41 rfl Tryz.sizeOf9 (o' := 3) rfl) fun a hf => ?_
 refine q_ hf rfl rfl rfl (e_load1 hf rfl Tryz.isAgg9 (hM.boxCell (k := 1) rfl rfl)) fun a hf => ?_
 refine q_ hf rfl rfl rfl (e_field hf rfl Tryz.underlying41 rfl Tryz.sizeOf9 (o' := 3) rfl) fun a hf => ?_
 refine q_ hf rfl rfl rfl (e_load1 hf rfl Tryz.isAgg9 (hM.boxCell (k := 0) rfl rfl)) fun a hf => ?_
 refine q_ hf rfl rfl rfl (e_neS hf (x := a1.Word) (y := b5.Word) rfl rfl) fun a hf => ?_
 refine pl_nil ?_
 refine then_n ?_
 rcases cond_some h with ⟨hc20, h⟩ | ⟨hc20, h⟩
 ·refine cond_t hf rfl hc20 ?_
  refine wp_seq ?_
  refine region_pl ?_
  refine q_ hf rfl rfl rfl (e_assign hf rfl) fun a hf => ?_
  refine pl_nil ?_
  refine then_n ?_
  refine wp_ret ?_
  refine then_r ?_
  obtain rfl := some_inj h
  have hM := hM.outs (own' := []) 0 rfl
  exact leave1 hf rfl rfl ⟨rfl, hM.fin⟩
 refine cond_f hf rfl hc20 ?_
 refine wp_skip ?_
 refine then_n ?_
 refine wp_seq ?_
 refine region_pl ?_
 refine q_ hf rfl rfl rfl (e_assign hf rfl) fun a hf => ?_
 refine pl_nil ?_
 refine then_n ?_
 refine wp_ret ?_
 obtain rfl := some_inj h
 have hM := hM.outs (own' := []) 0 rfl
 exact leave1 hf rfl rfl ⟨rfl, hM.fin⟩

set_option maxRecDepth 100000 in
set_option maxHeartbeats 4000000 in
theorem r_laws_eqAction (C : Cx) (a1 : Action) (hp2 : R64 a1.Kind) (hp3 : R64 a1.Play.Row) (hp4 : R64 a1.Play.Col) (hp5 : a1.Play.Word.length ≤ maxLen) (hp6 : a1.Tiles.length ≤ maxLen) (hp7 : R64 a1.Seconds) (b8 : Action) (hp9 : R64 b8.Kind) (hp10 : R64 b8.Play.Row) (hp11 : R64 b8.Play.Col) (hp12 : b8.Play.Word.length ≤ maxLen) (hp13 : b8.Tiles.length ≤ maxLen) (hp14 : R64 b8.Seconds) (r : Bool) (h : m_laws_eqAction a1 b8 = some r) :
    Calls Tryz.prog 29 #[.agg #[vI (a1.Kind), vI (a1.Play.Row), vI (a1.Play.Col), .bool (a1.Play.Down), vS (a1.Play.Word), vS (a1.Tiles), vI (a1.Seconds)], .agg #[vI (b8.Kind), vI (b8.Play.Row), vI (b8.Play.Col), .bool (b8.Play.Down), vS (b8.Play.Word), vS (b8.Tiles), vI (b8.Seconds)]] C.w0 fun e w => e = .returned (.bool (r)) ∧ Mem C w [] [] := by
 have hM := Mem.begin C [] trivial
 refine enter Tryz.func29 rfl Tryz.ntmps29 rfl fun a hf => ?_
 unfold m_laws_eqAction at h
 refine wp_seq ?_
 refine region_pl ?_
 refine pl_l hf rfl rfl rfl (w_box hf hM (cs := [vI (a1.Kind), vI (a1.Play.Row), vI (a1.Play.Col), .bool (a1.Play.Down), vS (a1.Play.Word), vS (a1.Tiles), vI (a1.Seconds)]) rfl rfl fun b15 w16 hx17 hM a hf => ?_)
 refine pl_l hf rfl rfl rfl (w_box hf hM (cs := [vI (b8.Kind), vI (b8.Play.Row), vI (b8.Play.Col), .bool (b8.Play.Down), vS (b8.Play.Word), vS (b8.Tiles), vI (b8.Seconds)]) rfl rfl fun b19 w20 hx21 hM a hf => ?_)
 refine q_ hf rfl rfl rfl (e_assign hf rfl) fun a hf => ?_
 refine pl_nil ?_
 refine then_n ?_
 iterate 2 refine wp_seq ?_
 refine region_pl ?_
 refine q_ hf rfl rfl rfl (e_field hf rfl Tryz.underlying55 rfl Tryz.sizeOf2 (o' := 0) rfl) fun a hf => ?_
 refine q_ hf rfl rfl rfl (e_load1 hf rfl Tryz.isAgg2 (hM.boxCell (k := 1) rfl rfl)) fun a hf => ?_
 refine q_ hf rfl rfl rfl (e_field hf rfl Tryz.underlying55 rfl Tryz.sizeOf2 (o' := 0) rfl) fun a hf => ?_
 refine q_ hf rfl rfl rfl (e_load1 hf rfl Tryz.isAgg2 (hM.boxCell (k := 0) rfl rfl)) fun a hf => ?_
 refine q_ hf rfl rfl rfl (e_ne hf (x := a1.Kind) (y := b8.Kind) rfl rfl) fun a hf => ?_
 refine pl_nil ?_
 refine then_n ?_
 rcases cond_some h with ⟨hc23, h⟩ | ⟨hc23, h⟩
 ·refine cond_t hf rfl hc23 ?_
  refine wp_seq ?_
  refine region_pl ?_
  refine q_ hf rfl rfl rfl (e_assign hf rfl) fun a hf => ?_
  refine pl_nil ?_
  refine then_n ?_
  refine wp_ret ?_
  refine then_r ?_
  obtain rfl := some_inj h
  have hM := hM.outs (own' := []) 0 rfl
  exact leave1 hf rfl rfl ⟨rfl, hM.fin⟩
 refine cond_f hf rfl hc23 ?_
 refine wp_skip ?_
 refine then_n ?_
 iterate 2 refine wp_seq ?_
 refine region_pl ?_
 refine q_ hf rfl rfl rfl (e_field hf rfl Tryz.underlying55 rfl Tryz.sizeOf41 (o' := 1) rfl) fun a hf => ?_
 refine q_ hf rfl rfl rfl (e_loadA hf (us := [vI (a1.Play.Row), vI (a1.Play.Col), .bool (a1.Play.Down), vS (a1.Play.Word)]) rfl ⟨Tryz.isAgg41, Tryz.sizeOf41⟩ rfl (hM.boxSub (k := 1) (us := [vI (a1.Play.Row), vI (a1.Play.Col), .bool (a1.Play.Down), vS (a1.Play.Word)]) (o := 1) rfl rfl)) fun a hf => ?_
 refine q_ hf rfl rfl rfl (e_field hf rfl Tryz.underlying55 rfl Tryz.sizeOf41 (o' := 1) rfl) fun a hf => ?_
 refine q_ hf rfl rfl rfl (e_loadA hf (us := [vI (b8.Play.Row), vI (b8.Play.Col), .bool (b8.Play.Down), vS (b8.Play.Word)]) rfl ⟨Tryz.isAgg41, Tryz.sizeOf41⟩ rfl (hM.boxSub (k := 0) (us := [vI (b8.Play.Row), vI (b8.Play.Col), .bool (b8.Play.Down), vS (b8.Play.Word)]) (o := 1) rfl rfl)) fun a hf => ?_
 obtain ⟨y24, hz25, h⟩ := bind_some h
 refine pl_l hf rfl rfl rfl (w_call hf Tryz.call57 rfl (r_laws_eqPlay ⟨_, Sh C _ _, none_, hM.sh_lt, none_not, C.G, hM.g_lt, g_none, hM.tabs⟩ a1.Play hp3 hp4 hp5 b8.Play hp10 hp11 hp12 _ hz25) ?_)
 rintro _ w26 ⟨rfl, hM2⟩
 obtain ⟨hM, hx27, hup28⟩ := hM.back hM2
 dsimp only [List.cons_append, List.nil_append] at hM hup28
 clear hM2
 refine ⟨_, rfl, fun a hf => ?_⟩
 refine q_ hf rfl rfl rfl (e_not hf rfl) fun a hf => ?_
 refine pl_nil ?_
 refine then_n ?_
 rcases cond_some h with ⟨hc29, h⟩ | ⟨hc29, h⟩
 ·refine cond_t hf rfl hc29 ?_
  refine wp_seq ?_
  refine region_pl ?_
  refine q_ hf rfl rfl rfl (e_assign hf rfl) fun a hf => ?_
  refine pl_nil ?_
  refine then_n ?_
  refine wp_ret ?_
  refine then_r ?_
  obtain rfl := some_inj h
  have hM := hM.outs (own' := []) 0 rfl
  exact leave1 hf rfl rfl ⟨rfl, hM.fin⟩
 refine cond_f hf rfl hc29 ?_
 refine wp_skip ?_
 refine then_n ?_
 iterate 2 refine wp_seq ?_
 refine region_pl ?_
 refine q_ hf rfl rfl rfl (e_field hf rfl Tryz.underlying55 rfl Tryz.sizeOf9 (o' := 5) rfl) fun a hf => ?_
 refine q_ hf rfl rfl rfl (e_load1 hf rfl Tryz.isAgg9 (hM.boxCell (k := 1) rfl rfl)) fun a hf => ?_
 refine q_ hf rfl rfl rfl (e_field hf rfl Tryz.underlying55 rfl Tryz.sizeOf9 (o' := 5) rfl) fun a hf => ?_
 refine q_ hf rfl rfl rfl (e_load1 hf rfl Tryz.isAgg9 (hM.boxCell (k := 0) rfl rfl)) fun a hf => ?_
 refine q_ hf rfl rfl rfl (e_neS hf (x := a1.Tiles) (y := b8.Tiles) rfl rfl) fun a hf => ?_
 refine pl_nil ?_
 refine then_n ?_
 rcases cond_some h with ⟨hc30, h⟩ | ⟨hc30, h⟩
 ·refine cond_t hf rfl hc30 ?_
  refine wp_seq ?_
  refine region_pl ?_
  refine q_ hf rfl rfl rfl (e_assign hf rfl) fun a hf => ?_
  refine pl_nil ?_
  refine then_n ?_
  refine wp_ret ?_
  refine then_r ?_
  obtain rfl := some_inj h
  have hM := hM.outs (own' := []) 0 rfl
  exact leave1 hf rfl rfl ⟨rfl, hM.fin⟩
 refine cond_f hf rfl hc30 ?_
 refine wp_skip ?_
 refine then_n ?_
 iterate 2 refine wp_seq ?_
 refine region_pl ?_
 refine q_ hf rfl rfl rfl (e_field hf rfl Tryz.underlying55 rfl Tryz.sizeOf2 (o' := 6) rfl) fun a hf => ?_
 refine q_ hf rfl rfl rfl (e_load1 hf rfl Tryz.isAgg2 (hM.boxCell (k := 1) rfl rfl)) fun a hf => ?_
 refine q_ hf rfl rfl rfl (e_field hf rfl Tryz.underlying55 rfl Tryz.sizeOf2 (o' := 6) rfl) fun a hf => ?_
 refine q_ hf rfl rfl rfl (e_load1 hf rfl Tryz.isAgg2 (hM.boxCell (k := 0) rfl rfl)) fun a hf => ?_
 refine q_ hf rfl rfl rfl (e_ne hf (x := a1.Seconds) (y := b8.Seconds) rfl rfl) fun a hf => ?_
 refine pl_nil ?_
 refine then_n ?_
 rcases cond_some h with ⟨hc31, h⟩ | ⟨hc31, h⟩
 ·refine cond_t hf rfl hc31 ?_
  refine wp_seq ?_
  refine region_pl ?_
  refine q_ hf rfl rfl rfl (e_assign hf rfl) fun a hf => ?_
  refine pl_nil ?_
  refine then_n ?_
  refine wp_ret ?_
  refine then_r ?_
  obtain rfl := some_inj h
  have hM := hM.outs (own' := []) 0 rfl
  exact leave1 hf rfl rfl ⟨rfl, hM.fin⟩
 refine cond_f hf rfl hc31 ?_
 refine wp_skip ?_
 refine then_n ?_
 refine wp_seq ?_
 refine region_pl ?_
 refine q_ hf rfl rfl rfl (e_assign hf rfl) fun a hf => ?_
 refine pl_nil ?_
 refine then_n ?_
 refine wp_ret ?_
 obtain rfl := some_inj h
 have hM := hM.outs (own' := []) 0 rfl
 exact leave1 hf rfl rfl ⟨rfl, hM.fin⟩

set_option maxRecDepth 100000 in
set_option maxHeartbeats 4000000 in
theorem r_laws_FnExactReadAction (C : Cx) (aS1 : Str) (hp2 : aS1.length ≤ maxLen) (r : Bool) (h : m_laws_FnExactReadAction aS1 = some r) :
    Calls Tryz.prog 7 #[vS (aS1)] C.w0 fun e w => e = .returned (.bool (r)) ∧ Mem C w [] [] := by
 have hM := Mem.begin C [] trivial
 refine enter Tryz.func7 rfl Tryz.ntmps7 rfl fun a hf => ?_
 unfold m_laws_FnExactReadAction at h
 refine wp_seq ?_
 refine region_pl ?_
 refine q_ hf rfl rfl rfl (e_assign hf rfl) fun a hf => ?_
 refine pl_nil ?_
 refine then_n ?_
 iterate 2 refine wp_seq ?_
 refine region_pl ?_
 refine q_ hf rfl rfl rfl (e_move hf rfl) fun a hf => ?_
 refine q_ hf rfl rfl rfl (e_lenS hf (x := aS1) rfl Tryz.underlying9) fun a hf => ?_
 refine q_ hf rfl rfl rfl (e_gt hf (x := (aS1.length : Int)) (y := 1048576) rfl rfl) fun a hf => ?_
 refine pl_nil ?_
 refine then_n ?_
 rcases cond_some h with ⟨hc3, h⟩ | ⟨hc3, h⟩
 ·refine cond_t hf rfl hc3 ?_
  refine wp_seq ?_
  refine region_pl ?_
  refine q_ hf rfl rfl rfl (e_assign hf rfl) fun a hf => ?_
  refine pl_nil ?_
  refine then_n ?_
  refine wp_ret ?_
  refine then_r ?_
  obtain rfl := some_inj h
  exact leave1 hf rfl rfl ⟨rfl, hM.fin⟩
 refine cond_f hf rfl hc3 ?_
 refine wp_skip ?_
 refine then_n ?_
 refine wp_seq ?_
 refine region_pl ?_
 refine q_ hf rfl rfl rfl (e_move hf rfl) fun a hf => ?_
 obtain ⟨y4, hz5, h⟩ := bind_some h
 refine pl_l hf rfl rfl rfl (w_call hf Tryz.call27 rfl (r_spec_ReadAction ⟨_, Sh C _ _, none_, hM.sh_lt, none_not, C.G, hM.g_lt, g_none, hM.tabs⟩ aS1 hp2 _ hz5) ?_)
 rintro _ w12 ⟨rfl, hM2, hv6, hv7, hv8, hv9, hv10, hv11⟩
 obtain ⟨hM, hx13, hup14⟩ := hM.back hM2
 dsimp only [List.cons_append, List.nil_append] at hM hup14
 clear hM2
 refine ⟨_, rfl, fun a hf => ?_⟩
 refine q_ hf rfl rfl rfl (e_move hf rfl) fun a hf => ?_
 iterate 2 refine q_ hf rfl rfl rfl (e_extract hf rfl rfl) fun a hf => ?_
 refine pl_l hf rfl rfl rfl (w_alloc hM (cs := [vI (0), vI (0), vI (0), .bool (false), vS (([] : Str)), vS (([] : Str)), vI (0)]) Tryz.zeroValue55 rfl fun b15 w16 hx17 hM a hf => ?_)
 refine pl_0 hf rfl rfl (w_store hf hM (us := [vI (y4.1.Kind), vI (y4.1.Play.Row), vI (y4.1.Play.Col), .bool (y4.1.Play.Down), vS (y4.1.Play.Word), vS (y4.1.Tiles), vI (y4.1.Seconds)]) (cs' := [vI (y4.1.Kind), vI (y4.1.Play.Row), vI (y4.1.Play.Col), .bool (y4.1.Play.Down), vS (y4.1.Play.Word), vS (y4.1.Tiles), vI (y4.1.Seconds)]) rfl rfl (k := 0) rfl rfl Tryz.sizeOf55 rfl rfl rfl fun w19 hM => ?_)
 dsimp only [List.set] at hM
 refine q_ hf rfl rfl rfl (e_assign hf rfl) fun a hf => ?_
 refine pl_nil ?_
 refine then_n ?_
 refine wp_seq ?_
 refine region_pl ?_
 refine q_ hf rfl rfl rfl (e_move hf rfl) fun a hf => ?_
 obtain ⟨y22, hz23, h⟩ := bind_some h
 refine pl_l hf rfl rfl rfl (w_call hf Tryz.call28 rfl (r_impl_ReadAction ⟨_, Sh C _ _, none_, hM.sh_lt, none_not, C.G, hM.g_lt, g_none, hM.tabs⟩ aS1 hp2 _ hz23) ?_)
 rintro _ w30 ⟨rfl, hM2, hv24, hv25, hv26, hv27, hv28, hv29⟩
 obtain ⟨hM, hx31, hup32⟩ := hM.back hM2
 dsimp only [List.cons_append, List.nil_append] at hM hup32
 clear hM2
 refine ⟨_, rfl, fun a hf => ?_⟩
 refine q_ hf rfl rfl rfl (e_move hf rfl) fun a hf => ?_
 iterate 2 refine q_ hf rfl rfl rfl (e_extract hf rfl rfl) fun a hf => ?_
 refine pl_l hf rfl rfl rfl (w_alloc hM (cs := [vI (0), vI (0), vI (0), .bool (false), vS (([] : Str)), vS (([] : Str)), vI (0)]) Tryz.zeroValue55 rfl fun b33 w34 hx35 hM a hf => ?_)
 refine pl_0 hf rfl rfl (w_store hf hM (us := [vI (y22.1.Kind), vI (y22.1.Play.Row), vI (y22.1.Play.Col), .bool (y22.1.Play.Down), vS (y22.1.Play.Word), vS (y22.1.Tiles), vI (y22.1.Seconds)]) (cs' := [vI (y22.1.Kind), vI (y22.1.Play.Row), vI (y22.1.Play.Col), .bool (y22.1.Play.Down), vS (y22.1.Play.Word), vS (y22.1.Tiles), vI (y22.1.Seconds)]) rfl rfl (k := 0) rfl rfl Tryz.sizeOf55 rfl rfl rfl fun w37 hM => ?_)
 dsimp only [List.set] at hM
 refine q_ hf rfl rfl rfl (e_assign hf rfl) fun a hf => ?_
 refine pl_nil ?_
 refine then_n ?_
 refine wp_seq ?_
 obtain ⟨x42, h43, h⟩ := bind_some h
 refine seq_join (fun a w => ∃ (t40 : Bool), t40 = x42 ∧ Has 29 a [(28, .bool (t40))] ∧ Mem C w [.box b33 [vI (y22.1.Kind), vI (y22.1.Play.Row), vI (y22.1.Play.Col), .bool (y22.1.Play.Down), vS (y22.1.Play.Word), vS (y22.1.Tiles), vI (y22.1.Seconds)] 55, .box b15 [vI (y4.1.Kind), vI (y4.1.Play.Row), vI (y4.1.Play.Col), .bool (y4.1.Play.Down), vS (y4.1.Play.Word), vS (y4.1.Tiles), vI (y4.1.Seconds)] 55] []) ?_ ?_
 ·refine region_pl ?_
  refine q_ hf rfl rfl rfl (e_loadA hf (us := [vI (y22.1.Kind), vI (y22.1.Play.Row), vI (y22.1.Play.Col), .bool (y22.1.Play.Down), vS (y22.1.Play.Word), vS (y22.1.Tiles), vI (y22.1.Seconds)]) rfl ⟨Tryz.isAgg55, Tryz.sizeOf55⟩ rfl (hM.boxSub (k := 0) (us := [vI (y22.1.Kind), vI (y22.1.Play.Row), vI (y22.1.Play.Col), .bool (y22.1.Play.Down), vS (y22.1.Play.Word), vS (y22.1.Tiles), vI (y22.1.Seconds)]) (o := 0) rfl rfl)) fun a hf => ?_
  refine q_ hf rfl rfl rfl (e_loadA hf (us := [vI (y4.1.Kind), vI (y4.1.Play.Row), vI (y4.1.Play.Col), .bool (y4.1.Play.Down), vS (y4.1.Play.Word), vS (y4.1.Tiles), vI (y4.1.Seconds)]) rfl ⟨Tryz.isAgg55, Tryz.sizeOf55⟩ rfl (hM.boxSub (k := 1) (us := [vI (y4.1.Kind), vI (y4.1.Play.Row), vI (y4.1.Play.Col), .bool (y4.1.Play.Down), vS (y4.1.Play.Word), vS (y4.1.Tiles), vI (y4.1.Seconds)]) (o := 0) rfl rfl)) fun a hf => ?_
  obtain ⟨y44, hz45, h43⟩ := bind_some h43
  refine pl_l hf rfl rfl rfl (w_call hf Tryz.call29 rfl (r_laws_eqAction ⟨_, Sh C _ _, none_, hM.sh_lt, none_not, C.G, hM.g_lt, g_none, hM.tabs⟩ y22.1 hv24 hv25 hv26 hv27 hv28 hv29 y4.1 hv6 hv7 hv8 hv9 hv10 hv11 _ hz45) ?_)
  rintro _ w46 ⟨rfl, hM2⟩
  obtain ⟨hM, hx47, hup48⟩ := hM.back hM2
  dsimp only [List.cons_append, List.nil_append] at hM hup48
  clear hM2
  refine ⟨_, rfl, fun a hf => ?_⟩
  refine q_ hf rfl rfl rfl (e_not hf rfl) fun a hf => ?_
  refine q_ hf rfl rfl rfl (e_move hf rfl) fun a hf => ?_
  rcases cond_some h43 with ⟨hc49, h43⟩ | ⟨hc49, h43⟩
  ·iterate 3 refine pl_gs (wanted_f hf rfl rfl rfl rfl hc49) hf rfl rfl fun a hf => ?_
   refine q_ hf rfl rfl rfl (e_pick_t hf rfl hc49 rfl) fun a hf => ?_
   refine pl_nil ?_
   obtain rfl := some_inj h43
   refine then_n ?_
   exact ⟨true, rfl, hf.keep ⟨rfl, trivial⟩, hM.pick [] rfl⟩
  iterate 2 refine gq (wanted_t hf rfl rfl rfl rfl hc49) hf rfl rfl (e_move hf rfl) fun a hf => ?_
  refine gq (wanted_t hf rfl rfl rfl rfl hc49) hf rfl rfl (e_neT hf rfl rfl Tryz.underlying4) fun a hf => ?_
  refine q_ hf rfl rfl rfl (e_pick_f hf rfl hc49 rfl) fun a hf => ?_
  refine pl_nil ?_
  obtain rfl := some_inj h43
  refine then_n ?_
  exact ⟨(y22.2 != y4.2), rfl, hf.keep ⟨rfl, trivial⟩, hM.pick [] rfl⟩
 rintro a w52 ⟨t40, rfl, hf, hM⟩
 try dsimp only at h
 rcases cond_some h with ⟨hc53, h⟩ | ⟨hc53, h⟩
 ·refine cond_t hf rfl hc53 ?_
  refine wp_seq ?_
  refine region_pl ?_
  refine q_ hf rfl rfl rfl (e_assign hf rfl) fun a hf => ?_
  refine pl_nil ?_
  refine then_n ?_
  refine wp_ret ?_
  refine then_r ?_
  obtain rfl := some_inj h
  have hM := hM.outs (own' := []) 0 rfl
  exact leave1 hf rfl rfl ⟨rfl, hM.fin⟩
 refine cond_f hf rfl hc53 ?_
 refine wp_skip ?_
 refine then_n ?_
 refine wp_seq ?_
 refine region_pl ?_
 refine q_ hf rfl rfl rfl (e_assign hf rfl) fun a hf => ?_
 refine pl_nil ?_
 refine then_n ?_
 refine wp_ret ?_
 obtain rfl := some_inj h
 have hM := hM.outs (own' := []) 0 rfl
 exact leave1 hf rfl rfl ⟨rfl, hM.fin⟩

end Go.Proofs.YtbekokenomhgeaaGreatDoor
