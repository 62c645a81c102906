/- The functions that this law reaches do what their models say. Printed by gen.py. -/
import Derived.Test.YtbekokenomhgeaaGreatDoorMod
import Derived.Test.YtbekokenomhgeaaGreatDoorLib
import Derived.Test.YtbekokenomhgeaaGreatDoorReadTurnRef
namespace Go.Proofs.YtbekokenomhgeaaGreatDoor
open Go Go.RowKit
set_option linter.unusedSimpArgs false
set_option linter.unusedVariables false

set_option maxRecDepth 100000 in
set_option maxHeartbeats 4000000 in
theorem r_impl_ReadTurn (C : Cx) (s1 : Str) (hp2 : s1.length ≤ maxLen) (r : (Turn × Bool)) (h : m_impl_ReadTurn s1 = some r) :
    Calls Tryz.prog 25 #[vS (s1)] C.w0 fun e w => e = .returned (.tuple #[.agg #[vS (r.1.Rack), .bool (r.1.Pass), vI (r.1.Play.Row), vI (r.1.Play.Col), .bool (r.1.Play.Down), vS (r.1.Play.Word)], .bool (r.2)]) ∧ Mem C w [] [] ∧ r.1.Rack.length ≤ maxLen ∧ R64 r.1.Play.Row ∧ R64 r.1.Play.Col ∧ r.1.Play.Word.length ≤ maxLen := by
 have hM := Mem.begin C [] trivial
 refine enter Tryz.func25 rfl Tryz.ntmps25 rfl fun a hf => ?_
 unfold m_impl_ReadTurn at h
 refine wp_seq ?_
 refine region_pl ?_
 refine pl_l hf rfl rfl rfl (w_alloc hM (cs := [vS (([] : Str)), .bool (false), vI (0), vI (0), .bool (false), vS (([] : Str))]) Tryz.zeroValue49 rfl fun b3 w4 hx5 hM a hf => ?_)
 refine q_ hf rfl rfl rfl (e_assign hf rfl) fun a hf => ?_
 refine pl_nil ?_
 refine then_n ?_
 refine wp_seq ?_
 refine region_pl ?_
 refine q_ hf rfl rfl rfl (e_move hf rfl) fun a hf => ?_
 obtain ⟨y7, hz8, h⟩ := bind_some h
 refine pl_l hf rfl rfl rfl (w_call hf Tryz.call53 rfl (r_strings_Cut ⟨_, Sh C _ _, none_, hM.sh_lt, none_not, C.G, hM.g_lt, g_none, hM.tabs⟩ s1 hp2 ([32] : Str) (lit_len rfl) _ hz8) ?_)
 rintro _ w11 ⟨rfl, hM2, hv9, hv10⟩
 obtain ⟨hM, hx12, hup13⟩ := hM.back hM2
 dsimp only [List.cons_append, List.nil_append] at hM hup13
 clear hM2
 refine ⟨_, rfl, fun a hf => ?_⟩
 refine q_ hf rfl rfl rfl (e_move hf rfl) fun a hf => ?_
 iterate 3 refine q_ hf rfl rfl rfl (e_extract hf rfl rfl) fun a hf => ?_
 iterate 3 refine q_ hf rfl rfl rfl (e_assign hf rfl) fun a hf => ?_
 refine pl_nil ?_
 refine then_n ?_
 refine wp_seq ?_
 refine region_pl ?_
 refine q_ hf rfl rfl rfl (e_move hf rfl) fun a hf => ?_
 obtain ⟨y14, hz15, h⟩ := bind_some h
 refine pl_l hf rfl rfl rfl (w_call hf Tryz.call54 rfl (r_impl_undashed ⟨_, Sh C _ _, none_, hM.sh_lt, none_not, C.G, hM.g_lt, g_none, hM.tabs⟩ y7.1 hv9 _ hz15) ?_)
 rintro _ w17 ⟨rfl, hM2, hv16⟩
 obtain ⟨hM, hx18, hup19⟩ := hM.back hM2
 dsimp only [List.cons_append, List.nil_append] at hM hup19
 clear hM2
 refine ⟨_, rfl, fun a hf => ?_⟩
 refine q_ hf rfl rfl rfl (e_move hf rfl) fun a hf => ?_
 refine q_ hf rfl rfl rfl (e_eqS hf (x := y7.2.1) (y := ([112, 97, 115, 115] : Str)) rfl rfl) fun a hf => ?_
 refine q_ hf rfl rfl rfl (e_build hf Tryz.zeroValue49 Tryz.underlying49 (bp_49 _ Tryz.underlying49.symm) rfl (cs := #[vS (y14), .bool (y7.2.1 == ([112, 97, 115, 115] : Str)), vI (0), vI (0), .bool (false), vS (([] : Str))]) (by kernel_rfl)) fun a hf => ?_
 refine pl_l hf rfl rfl rfl (w_alloc hM (cs := [vS (([] : Str)), .bool (false), vI (0), vI (0), .bool (false), vS (([] : Str))]) Tryz.zeroValue49 rfl fun b20 w21 hx22 hM a hf => ?_)
 refine pl_0 hf rfl rfl (w_store hf hM (us := [vS (y14), .bool (y7.2.1 == ([112, 97, 115, 115] : Str)), vI (0), vI (0), .bool (false), vS (([] : Str))]) (cs' := [vS (y14), .bool (y7.2.1 == ([112, 97, 115, 115] : Str)), vI (0), vI (0), .bool (false), vS (([] : Str))]) rfl rfl (k := 0) rfl rfl Tryz.sizeOf49 rfl rfl rfl fun w24 hM => ?_)
 dsimp only [List.set] at hM
 refine pl_nil ?_
 refine then_n ?_
 obtain ⟨x35, h36, h⟩ := bind_some h
 refine seq_join (fun a w => ∃ (n27 : Int) (n29 : Int) (t31 : Bool) (s33 : Str), (n27, n29, t31, s33) = x35 ∧ Has 38 a [(0, vS (s1)), (2, vP b3 (0)), (7, vP b20 (0))] ∧ Mem C w [.box b20 [vS (y14), .bool (y7.2.1 == ([112, 97, 115, 115] : Str)), vI (n27), vI (n29), .bool (t31), vS (s33)] 49, .box b3 [vS (([] : Str)), .bool (false), vI (0), vI (0), .bool (false), vS (([] : Str))] 49] [] ∧ R64 n27 ∧ R64 n29 ∧ s33.length ≤ maxLen) ?_ ?_
 ·refine wp_seq ?_
  refine region_pl ?_
  refine q_ hf rfl rfl rfl (e_field hf rfl Tryz.underlying49 rfl Tryz.sizeOf4 (o' := 1) rfl) fun a hf => ?_
  refine q_ hf rfl rfl rfl (e_load1 hf rfl Tryz.isAgg4 (hM.boxCell (k := 0) rfl rfl)) fun a hf => ?_
  refine q_ hf rfl rfl rfl (e_not hf rfl) fun a hf => ?_
  refine pl_nil ?_
  refine then_n ?_
  rcases cond_some h36 with ⟨hc37, h36⟩ | ⟨hc37, h36⟩
  ·refine cond_t hf rfl hc37 ?_
   refine region_pl ?_
   refine q_ hf rfl rfl rfl (e_move hf rfl) fun a hf => ?_
   obtain ⟨y38, hz39, h36⟩ := bind_some h36
   refine pl_l hf rfl rfl rfl (w_call hf Tryz.call55 rfl (r_impl_ReadPlay ⟨_, Sh C _ _, none_, hM.sh_lt, none_not, C.G, hM.g_lt, g_none, hM.tabs⟩ y7.2.1 hv10 _ hz39) ?_)
   rintro _ w43 ⟨rfl, hM2, hv40, hv41, hv42⟩
   obtain ⟨hM, hx44, hup45⟩ := hM.back hM2
   dsimp only [List.cons_append, List.nil_append] at hM hup45
   clear hM2
   refine ⟨_, rfl, fun a hf => ?_⟩
   refine q_ hf rfl rfl rfl (e_move hf rfl) fun a hf => ?_
   iterate 2 refine q_ hf rfl rfl rfl (e_extract hf rfl rfl) fun a hf => ?_
   refine q_ hf rfl rfl rfl (e_field hf rfl Tryz.underlying49 rfl Tryz.sizeOf41 (o' := 2) rfl) fun a hf => ?_
   refine pl_0 hf rfl rfl (w_store hf hM (us := [vI (y38.1.Row), vI (y38.1.Col), .bool (y38.1.Down), vS (y38.1.Word)]) (cs' := [vS (y14), .bool (y7.2.1 == ([112, 97, 115, 115] : Str)), vI (y38.1.Row), vI (y38.1.Col), .bool (y38.1.Down), vS (y38.1.Word)]) rfl rfl (k := 0) rfl rfl Tryz.sizeOf41 rfl rfl rfl fun w46 hM => ?_)
   dsimp only [List.set] at hM
   refine pl_nil ?_
   obtain rfl := some_inj h36
   refine then_n ?_
   exact ⟨y38.1.Row, y38.1.Col, y38.1.Down, y38.1.Word, rfl, hf.keep ⟨rfl, rfl, rfl, trivial⟩, hM.pick [] rfl, hv40, hv41, hv42⟩
  refine cond_f hf rfl hc37 ?_
  refine wp_skip ?_
  obtain rfl := some_inj h36
  refine then_n ?_
  exact ⟨0, 0, false, ([] : Str), rfl, hf.keep ⟨rfl, rfl, rfl, trivial⟩, hM.pick [] rfl, (R64_lit rfl), (R64_lit rfl), (lit_len rfl)⟩
 rintro a w51 ⟨n27, n29, t31, s33, rfl, hf, hM, hv28, hv30, hv34⟩
 try dsimp only at h
 refine wp_seq ?_
 obtain ⟨x54, h55, h⟩ := bind_some h
 refine seq_join (fun a w => ∃ (t52 : Bool), t52 = x54 ∧ Has 38 a [(2, vP b3 (0)), (7, vP b20 (0)), (35, .bool (t52))] ∧ Mem C w [.box b20 [vS (y14), .bool (y7.2.1 == ([112, 97, 115, 115] : Str)), vI (n27), vI (n29), .bool (t31), vS (s33)] 49, .box b3 [vS (([] : Str)), .bool (false), vI (0), vI (0), .bool (false), vS (([] : Str))] 49] []) ?_ ?_
 ·refine region_pl ?_
  refine q_ hf rfl rfl rfl (e_move hf rfl) fun a hf => ?_
  refine q_ hf rfl rfl rfl (e_eqS hf (x := s1) (y := ([] : Str)) rfl rfl) fun a hf => ?_
  refine q_ hf rfl rfl rfl (e_move hf rfl) fun a hf => ?_
  rcases cond_some h55 with ⟨hc56, h55⟩ | ⟨hc56, h55⟩
  ·iterate 4 refine pl_gs (wanted_f hf rfl rfl rfl rfl hc56) hf rfl rfl fun a hf => ?_
   refine q_ hf rfl rfl rfl (e_pick_t hf rfl hc56 rfl) fun a hf => ?_
   refine pl_nil ?_
   obtain rfl := some_inj h55
   refine then_n ?_
   exact ⟨true, rfl, hf.keep ⟨rfl, rfl, rfl, trivial⟩, hM.pick [] rfl⟩
  refine gq (wanted_t hf rfl rfl rfl rfl hc56) hf rfl rfl (e_loadA hf (us := [vS (y14), .bool (y7.2.1 == ([112, 97, 115, 115] : Str)), vI (n27), vI (n29), .bool (t31), vS (s33)]) rfl ⟨Tryz.isAgg49, Tryz.sizeOf49⟩ rfl (hM.boxSub (k := 0) (us := [vS (y14), .bool (y7.2.1 == ([112, 97, 115, 115] : Str)), vI (n27), vI (n29), .bool (t31), vS (s33)]) (o := 0) rfl rfl)) fun a hf => ?_
  obtain ⟨y58, hz59, h55⟩ := bind_some h55
  refine pl_gl (wanted_t hf rfl rfl rfl rfl hc56) hf rfl rfl (w_call hf Tryz.call56 rfl (r_impl_TurnText ⟨_, Sh C _ _, none_, hM.sh_lt, none_not, C.G, hM.g_lt, g_none, hM.tabs⟩ (⟨y14, y7.2.1 == ([112, 97, 115, 115] : Str), ⟨n27, n29, t31, s33⟩⟩ : Turn) hv16 hv28 hv30 hv34 _ hz59) ?_)
  rintro _ w61 ⟨rfl, hM2, hv60⟩
  obtain ⟨hM, hx62, hup63⟩ := hM.back hM2
  dsimp only [List.cons_append, List.nil_append] at hM hup63
  clear hM2
  refine ⟨_, rfl, fun a hf => ?_⟩
  refine gq (wanted_t hf rfl rfl rfl rfl hc56) hf rfl rfl (e_move hf rfl) fun a hf => ?_
  refine gq (wanted_t hf rfl rfl rfl rfl hc56) hf rfl rfl (e_neS hf (x := y58) (y := s1) rfl rfl) fun a hf => ?_
  refine q_ hf rfl rfl rfl (e_pick_f hf rfl hc56 rfl) fun a hf => ?_
  refine pl_nil ?_
  obtain rfl := some_inj h55
  refine then_n ?_
  exact ⟨(y58 != s1), rfl, hf.keep ⟨rfl, rfl, rfl, trivial⟩, hM.pick [] rfl⟩
 rintro a w65 ⟨t52, rfl, hf, hM⟩
 try dsimp only at h
 rcases cond_some h with ⟨hc66, h⟩ | ⟨hc66, h⟩
 ·refine cond_t hf rfl hc66 ?_
  refine wp_seq ?_
  refine region_pl ?_
  refine q_ hf rfl rfl rfl (e_build hf Tryz.zeroValue49 Tryz.underlying49 (bp_49 _ Tryz.underlying49.symm) rfl (cs := #[vS (([] : Str)), .bool (false), vI (0), vI (0), .bool (false), vS (([] : Str))]) (by kernel_rfl)) fun a hf => ?_
  refine pl_0 hf rfl rfl (w_store hf hM (us := [vS (([] : Str)), .bool (false), vI (0), vI (0), .bool (false), vS (([] : Str))]) (cs' := [vS (([] : Str)), .bool (false), vI (0), vI (0), .bool (false), vS (([] : Str))]) rfl rfl (k := 1) rfl rfl Tryz.sizeOf49 rfl rfl rfl fun w67 hM => ?_)
  dsimp only [List.set] at hM
  refine q_ hf rfl rfl rfl (e_assign hf rfl) fun a hf => ?_
  refine pl_nil ?_
  refine then_n ?_
  refine wp_ret ?_
  refine then_r ?_
  obtain rfl := some_inj h
  have hres70 := leaveV2 (P := Tryz.prog) (w := w67) Tryz.results25 (res_agg hf rfl ⟨Tryz.isAgg49, Tryz.sizeOf49⟩ (us := [vS (([] : Str)), .bool (false), vI (0), vI (0), .bool (false), vS (([] : Str))]) rfl (hM.boxSub (k := 1) (o := 0) rfl rfl)) (res_tmp hf rfl)
  have hM := hM.outs (own' := []) 0 rfl
  exact bodyPost_ret hres70 hf.defers ⟨rfl, hM.fin, (lit_len rfl), (R64_lit rfl), (R64_lit rfl), (lit_len rfl)⟩
 refine cond_f hf rfl hc66 ?_
 refine wp_skip ?_
 refine then_n ?_
 refine wp_seq ?_
 refine region_pl ?_
 refine q_ hf rfl rfl rfl (e_loadA hf (us := [vS (y14), .bool (y7.2.1 == ([112, 97, 115, 115] : Str)), vI (n27), vI (n29), .bool (t31), vS (s33)]) rfl ⟨Tryz.isAgg49, Tryz.sizeOf49⟩ rfl (hM.boxSub (k := 0) (us := [vS (y14), .bool (y7.2.1 == ([112, 97, 115, 115] : Str)), vI (n27), vI (n29), .bool (t31), vS (s33)]) (o := 0) rfl rfl)) fun a hf => ?_
 refine pl_0 hf rfl rfl (w_store hf hM (us := [vS (y14), .bool (y7.2.1 == ([112, 97, 115, 115] : Str)), vI (n27), vI (n29), .bool (t31), vS (s33)]) (cs' := [vS (y14), .bool (y7.2.1 == ([112, 97, 115, 115] : Str)), vI (n27), vI (n29), .bool (t31), vS (s33)]) rfl rfl (k := 1) rfl rfl Tryz.sizeOf49 rfl rfl rfl fun w71 hM => ?_)
 dsimp only [List.set] at hM
 refine q_ hf rfl rfl rfl (e_assign hf rfl) fun a hf => ?_
 refine pl_nil ?_
 refine then_n ?_
 refine wp_ret ?_
 obtain rfl := some_inj h
 have hres74 := leaveV2 (P := Tryz.prog) (w := w71) Tryz.results25 (res_agg hf rfl ⟨Tryz.isAgg49, Tryz.sizeOf49⟩ (us := [vS (y14), .bool (y7.2.1 == ([112, 97, 115, 115] : Str)), vI (n27), vI (n29), .bool (t31), vS (s33)]) rfl (hM.boxSub (k := 1) (o := 0) rfl rfl)) (res_tmp hf rfl)
 have hM := hM.outs (own' := []) 0 rfl
 exact bodyPost_ret hres74 hf.defers ⟨rfl, hM.fin, hv16, hv28, hv30, hv34⟩

set_option maxRecDepth 100000 in
set_option maxHeartbeats 4000000 in
theorem r_laws_eqPlay (C : Cx) (a1 : Play) (hp2 : R64 a1.Row) (hp3 : R64 a1.Col) (hp4 : a1.Word.length ≤ maxLen) (b5 : Play) (hp6 : R64 b5.Row) (hp7 : R64 b5.Col) (hp8 : b5.Word.length ≤ maxLen) (r : Bool) (h : m_laws_eqPlay a1 b5 = some r) :
    Calls Tryz.prog 57 #[.agg #[vI (a1.Row), vI (a1.Col), .bool (a1.Down), vS (a1.Word)], .agg #[vI (b5.Row), vI (b5.Col), .bool (b5.Down), vS (b5.Word)]] C.w0 fun e w => e = .returned (.bool (r)) ∧ Mem C w [] [] := by
 have hM := Mem.begin C [] trivial
 refine enter Tryz.func57 rfl Tryz.ntmps57 rfl fun a hf => ?_
 unfold m_laws_eqPlay at h
 refine wp_seq ?_
 refine region_pl ?_
 refine pl_l hf rfl rfl rfl (w_box hf hM (cs := [vI (a1.Row), vI (a1.Col), .bool (a1.Down), vS (a1.Word)]) rfl rfl fun b9 w10 hx11 hM a hf => ?_)
 refine pl_l hf rfl rfl rfl (w_box hf hM (cs := [vI (b5.Row), vI (b5.Col), .bool (b5.Down), vS (b5.Word)]) rfl rfl fun b13 w14 hx15 hM a hf => ?_)
 refine q_ hf rfl rfl rfl (e_assign hf rfl) fun a hf => ?_
 refine pl_nil ?_
 refine then_n ?_
 iterate 2 refine wp_seq ?_
 refine region_pl ?_
 refine q_ hf rfl rfl rfl (e_field hf rfl Tryz.underlying41 rfl Tryz.sizeOf2 (o' := 0) rfl) fun a hf => ?_
 refine q_ hf rfl rfl rfl (e_load1 hf rfl Tryz.isAgg2 (hM.boxCell (k := 1) rfl rfl)) fun a hf => ?_
 refine q_ hf rfl rfl rfl (e_field hf rfl Tryz.underlying41 rfl Tryz.sizeOf2 (o' := 0) rfl) fun a hf => ?_
 refine q_ hf rfl rfl rfl (e_load1 hf rfl Tryz.isAgg2 (hM.boxCell (k := 0) rfl rfl)) fun a hf => ?_
 refine q_ hf rfl rfl rfl (e_ne hf (x := a1.Row) (y := b5.Row) rfl rfl) fun a hf => ?_
 refine pl_nil ?_
 refine then_n ?_
 rcases cond_some h with ⟨hc17, h⟩ | ⟨hc17, h⟩
 ·refine cond_t hf rfl hc17 ?_
  refine wp_seq ?_
  refine region_pl ?_
  refine q_ hf rfl rfl rfl (e_assign hf rfl) fun a hf => ?_
  refine pl_nil ?_
  refine then_n ?_
  refine wp_ret ?_
  refine then_r ?_
  obtain rfl := some_inj h
  have hM := hM.outs (own' := []) 0 rfl
  exact leave1 hf rfl rfl ⟨rfl, hM.fin⟩
 refine cond_f hf rfl hc17 ?_
 refine wp_skip ?_
 refine then_n ?_
 iterate 2 refine wp_seq ?_
 refine region_pl ?_
 refine q_ hf rfl rfl rfl (e_field hf rfl Tryz.underlying41 rfl Tryz.sizeOf2 (o' := 1) rfl) fun a hf => ?_
 refine q_ hf rfl rfl rfl (e_load1 hf rfl Tryz.isAgg2 (hM.boxCell (k := 1) rfl rfl)) fun a hf => ?_
 refine q_ hf rfl rfl rfl (e_field hf rfl Tryz.underlying41 rfl Tryz.sizeOf2 (o' := 1) rfl) fun a hf => ?_
 refine q_ hf rfl rfl rfl (e_load1 hf rfl Tryz.isAgg2 (hM.boxCell (k := 0) rfl rfl)) fun a hf => ?_
 refine q_ hf rfl rfl rfl (e_ne hf (x := a1.Col) (y := b5.Col) rfl rfl) fun a hf => ?_
 refine pl_nil ?_
 refine then_n ?_
 rcases cond_some h with ⟨hc18, h⟩ | ⟨hc18, h⟩
 ·refine cond_t hf rfl hc18 ?_
  refine wp_seq ?_
  refine region_pl ?_
  refine q_ hf rfl rfl rfl (e_assign hf rfl) fun a hf => ?_
  refine pl_nil ?_
  refine then_n ?_
  refine wp_ret ?_
  refine then_r ?_
  obtain rfl := some_inj h
  have hM := hM.outs (own' := []) 0 rfl
  exact leave1 hf rfl rfl ⟨rfl, hM.fin⟩
 refine cond_f hf rfl hc18 ?_
 refine wp_skip ?_
 refine then_n ?_
 iterate 2 refine wp_seq ?_
 refine region_pl ?_
 refine q_ hf rfl rfl rfl (e_field hf rfl Tryz.underlying41 rfl Tryz.sizeOf4 (o' := 2) rfl) fun a hf => ?_
 refine q_ hf rfl rfl rfl (e_load1 hf rfl Tryz.isAgg4 (hM.boxCell (k := 1) rfl rfl)) fun a hf => ?_
 refine q_ hf rfl rfl rfl (e_field hf rfl Tryz.underlying41 rfl Tryz.sizeOf4 (o' := 2) rfl) fun a hf => ?_
 refine q_ hf rfl rfl rfl (e_load1 hf rfl Tryz.isAgg4 (hM.boxCell (k := 0) rfl rfl)) fun a hf => ?_
 refine q_ hf rfl rfl rfl (e_neT hf rfl rfl Tryz.underlying4) fun a hf => ?_
 refine pl_nil ?_
 refine then_n ?_
 rcases cond_some h with ⟨hc19, h⟩ | ⟨hc19, h⟩
 ·refine cond_t hf rfl hc19 ?_
  refine wp_seq ?_
  refine region_pl ?_
  refine q_ hf rfl rfl rfl (e_assign hf rfl) fun a hf => ?_
  refine pl_nil ?_
  refine then_n ?_
  refine wp_ret ?_
  refine then_r ?_
  obtain rfl := some_inj h
  have hM := hM.outs (own' := []) 0 rfl
  exact leave1 hf rfl rfl ⟨rfl, hM.fin⟩
 refine cond_f hf rfl hc19 ?_
 refine wp_skip ?_
 refine then_n ?_
 iterate 2 refine wp_seq ?_
 refine region_pl ?_
 refine q_ hf rfl rfl rfl (e_field hf rfl Tryz.underlying41 rfl Tryz.sizeOf9 (o' := 3) rfl) fun a hf => ?_
 refine q_ hf rfl rfl rfl (e_load1 hf rfl Tryz.isAgg9 (hM.boxCell (k := 1) rfl rfl)) fun a hf => ?_
 refine q_ hf rfl rfl rfl (e_field hf rfl Tryz.underlying41 rfl Tryz.sizeOf9 (o' := 3) rfl) fun a hf => ?_
 refine q_ hf rfl rfl rfl (e_load1 hf rfl Tryz.isAgg9 (hM.boxCell (k := 0) rfl rfl)) fun a hf => ?_
 refine q_ hf rfl rfl rfl (e_neS hf (x := a1.Word) (y := b5.Word) rfl rfl) fun a hf => ?_
 refine pl_nil ?_
 refine then_n ?_
 rcases cond_some h with ⟨hc20, h⟩ | ⟨hc20, h⟩
 ·refine cond_t hf rfl hc20 ?_
  refine wp_seq ?_
  refine region_pl ?_
  refine q_ hf rfl rfl rfl (e_assign hf rfl) fun a hf => ?_
  refine pl_nil ?_
  refine then_n ?_
  refine wp_ret ?_
  refine then_r ?_
  obtain rfl := some_inj h
  have hM := hM.outs (own' := []) 0 rfl
  exact leave1 hf rfl rfl ⟨rfl, hM.fin⟩
 refine cond_f hf rfl hc20 ?_
 refine wp_skip ?_
 refine then_n ?_
 refine wp_seq ?_
 refine region_pl ?_
 refine q_ hf rfl rfl rfl (e_assign hf rfl) fun a hf => ?_
 refine pl_nil ?_
 refine then_n ?_
 refine wp_ret ?_
 obtain rfl := some_inj h
 have hM := hM.outs (own' := []) 0 rfl
 exact leave1 hf rfl rfl ⟨rfl, hM.fin⟩

set_option maxRecDepth 100000 in
set_option maxHeartbeats 4000000 in
theorem r_laws_eqTurn (C : Cx) (a1 : Turn) (hp2 : a1.Rack.length ≤ maxLen) (hp3 : R64 a1.Play.Row) (hp4 : R64 a1.Play.Col) (hp5 : a1.Play.Word.length ≤ maxLen) (b6 : Turn) (hp7 : b6.Rack.length ≤ maxLen) (hp8 : R64 b6.Play.Row) (hp9 : R64 b6.Play.Col) (hp10 : b6.Play.Word.length ≤ maxLen) (r : Bool) (h : m_laws_eqTurn a1 b6 = some r) :
    Calls Tryz.prog 26 #[.agg #[vS (a1.Rack), .bool (a1.Pass), vI (a1.Play.Row), vI (a1.Play.Col), .bool (a1.Play.Down), vS (a1.Play.Word)], .agg #[vS (b6.Rack), .bool (b6.Pass), vI (b6.Play.Row), vI (b6.Play.Col), .bool (b6.Play.Down), vS (b6.Play.Word)]] C.w0 fun e w => e = .returned (.bool (r)) ∧ Mem C w [] [] := by
 have hM := Mem.begin C [] trivial
 refine enter Tryz.func26 rfl Tryz.ntmps26 rfl fun a hf => ?_
 unfold m_laws_eqTurn at h
 refine wp_seq ?_
 refine region_pl ?_
 refine pl_l hf rfl rfl rfl (w_box hf hM (cs := [vS (a1.Rack), .bool (a1.Pass), vI (a1.Play.Row), vI (a1.Play.Col), .bool (a1.Play.Down), vS (a1.Play.Word)]) rfl rfl fun b11 w12 hx13 hM a hf => ?_)
 refine pl_l hf rfl rfl rfl (w_box hf hM (cs := [vS (b6.Rack), .bool (b6.Pass), vI (b6.Play.Row), vI (b6.Play.Col), .bool (b6.Play.Down), vS (b6.Play.Word)]) rfl rfl fun b15 w16 hx17 hM a hf => ?_)
 refine q_ hf rfl rfl rfl (e_assign hf rfl) fun a hf => ?_
 refine pl_nil ?_
 refine then_n ?_
 iterate 2 refine wp_seq ?_
 refine region_pl ?_
 refine q_ hf rfl rfl rfl (e_field hf rfl Tryz.underlying49 rfl Tryz.sizeOf9 (o' := 0) rfl) fun a hf => ?_
 refine q_ hf rfl rfl rfl (e_load1 hf rfl Tryz.isAgg9 (hM.boxCell (k := 1) rfl rfl)) fun a hf => ?_
 refine q_ hf rfl rfl rfl (e_field hf rfl Tryz.underlying49 rfl Tryz.sizeOf9 (o' := 0) rfl) fun a hf => ?_
 refine q_ hf rfl rfl rfl (e_load1 hf rfl Tryz.isAgg9 (hM.boxCell (k := 0) rfl rfl)) fun a hf => ?_
 refine q_ hf rfl rfl rfl (e_neS hf (x := a1.Rack) (y := b6.Rack) rfl rfl) fun a hf => ?_
 refine pl_nil ?_
 refine then_n ?_
 rcases cond_some h with ⟨hc19, h⟩ | ⟨hc19, h⟩
 ·refine cond_t hf rfl hc19 ?_
  refine wp_seq ?_
  refine region_pl ?_
  refine q_ hf rfl rfl rfl (e_assign hf rfl) fun a hf => ?_
  refine pl_nil ?_
  refine then_n ?_
  refine wp_ret ?_
  refine then_r ?_
  obtain rfl := some_inj h
  have hM := hM.outs (own' := []) 0 rfl
  exact leave1 hf rfl rfl ⟨rfl, hM.fin⟩
 refine cond_f hf rfl hc19 ?_
 refine wp_skip ?_
 refine then_n ?_
 iterate 2 refine wp_seq ?_
 refine region_pl ?_
 refine q_ hf rfl rfl rfl (e_field hf rfl Tryz.underlying49 rfl Tryz.sizeOf4 (o' := 1) rfl) fun a hf => ?_
 refine q_ hf rfl rfl rfl (e_load1 hf rfl Tryz.isAgg4 (hM.boxCell (k := 1) rfl rfl)) fun a hf => ?_
 refine q_ hf rfl rfl rfl (e_field hf rfl Tryz.underlying49 rfl Tryz.sizeOf4 (o' := 1) rfl) fun a hf => ?_
 refine q_ hf rfl rfl rfl (e_load1 hf rfl Tryz.isAgg4 (hM.boxCell (k := 0) rfl rfl)) fun a hf => ?_
 refine q_ hf rfl rfl rfl (e_neT hf rfl rfl Tryz.underlying4) fun a hf => ?_
 refine pl_nil ?_
 refine then_n ?_
 rcases cond_some h with ⟨hc20, h⟩ | ⟨hc20, h⟩
 ·refine cond_t hf rfl hc20 ?_
  refine wp_seq ?_
  refine region_pl ?_
  refine q_ hf rfl rfl rfl (e_assign hf rfl) fun a hf => ?_
  refine pl_nil ?_
  refine then_n ?_
  refine wp_ret ?_
  refine then_r ?_
  obtain rfl := some_inj h
  have hM := hM.outs (own' := []) 0 rfl
  exact leave1 hf rfl rfl ⟨rfl, hM.fin⟩
 refine cond_f hf rfl hc20 ?_
 refine wp_skip ?_
 refine then_n ?_
 iterate 2 refine wp_seq ?_
 refine region_pl ?_
 refine q_ hf rfl rfl rfl (e_field hf rfl Tryz.underlying49 rfl Tryz.sizeOf41 (o' := 2) rfl) fun a hf => ?_
 refine q_ hf rfl rfl rfl (e_loadA hf (us := [vI (a1.Play.Row), vI (a1.Play.Col), .bool (a1.Play.Down), vS (a1.Play.Word)]) rfl ⟨Tryz.isAgg41, Tryz.sizeOf41⟩ rfl (hM.boxSub (k := 1) (us := [vI (a1.Play.Row), vI (a1.Play.Col), .bool (a1.Play.Down), vS (a1.Play.Word)]) (o := 2) rfl rfl)) fun a hf => ?_
 refine q_ hf rfl rfl rfl (e_field hf rfl Tryz.underlying49 rfl Tryz.sizeOf41 (o' := 2) rfl) fun a hf => ?_
 refine q_ hf rfl rfl rfl (e_loadA hf (us := [vI (b6.Play.Row), vI (b6.Play.Col), .bool (b6.Play.Down), vS (b6.Play.Word)]) rfl ⟨Tryz.isAgg41, Tryz.sizeOf41⟩ rfl (hM.boxSub (k := 0) (us := [vI (b6.Play.Row), vI (b6.Play.Col), .bool (b6.Play.Down), vS (b6.Play.Word)]) (o := 2) rfl rfl)) fun a hf => ?_
 obtain ⟨y21, hz22, h⟩ := bind_some h
 refine pl_l hf rfl rfl rfl (w_call hf Tryz.call57 rfl (r_laws_eqPlay ⟨_, Sh C _ _, none_, hM.sh_lt, none_not, C.G, hM.g_lt, g_none, hM.tabs⟩ a1.Play hp3 hp4 hp5 b6.Play hp8 hp9 hp10 _ hz22) ?_)
 rintro _ w23 ⟨rfl, hM2⟩
 obtain ⟨hM, hx24, hup25⟩ := hM.back hM2
 dsimp only [List.cons_append, List.nil_append] at hM hup25
 clear hM2
 refine ⟨_, rfl, fun a hf => ?_⟩
 refine q_ hf rfl rfl rfl (e_not hf rfl) fun a hf => ?_
 refine pl_nil ?_
 refine then_n ?_
 rcases cond_some h with ⟨hc26, h⟩ | ⟨hc26, h⟩
 ·refine cond_t hf rfl hc26 ?_
  refine wp_seq ?_
  refine region_pl ?_
  refine q_ hf rfl rfl rfl (e_assign hf rfl) fun a hf => ?_
  refine pl_nil ?_
  refine then_n ?_
  refine wp_ret ?_
  refine then_r ?_
  obtain rfl := some_inj h
  have hM := hM.outs (own' := []) 0 rfl
  exact leave1 hf rfl rfl ⟨rfl, hM.fin⟩
 refine cond_f hf rfl hc26 ?_
 refine wp_skip ?_
 refine then_n ?_
 refine wp_seq ?_
 refine region_pl ?_
 refine q_ hf rfl rfl rfl (e_assign hf rfl) fun a hf => ?_
 refine pl_nil ?_
 refine then_n ?_
 refine wp_ret ?_
 obtain rfl := some_inj h
 have hM := hM.outs (own' := []) 0 rfl
 exact leave1 hf rfl rfl ⟨rfl, hM.fin⟩

set_option maxRecDepth 100000 in
set_option maxHeartbeats 4000000 in
theorem r_laws_FnExactReadTurn (C : Cx) (aS1 : Str) (hp2 : aS1.length ≤ maxLen) (r : Bool) (h : m_laws_FnExactReadTurn aS1 = some r) :
    Calls Tryz.prog 6 #[vS (aS1)] C.w0 fun e w => e = .returned (.bool (r)) ∧ Mem C w [] [] := by
 have hM := Mem.begin C [] trivial
 refine enter Tryz.func6 rfl Tryz.ntmps6 rfl fun a hf => ?_
 unfold m_laws_FnExactReadTurn at h
 refine wp_seq ?_
 refine region_pl ?_
 refine q_ hf rfl rfl rfl (e_assign hf rfl) fun a hf => ?_
 refine pl_nil ?_
 refine then_n ?_
 iterate 2 refine wp_seq ?_
 refine region_pl ?_
 refine q_ hf rfl rfl rfl (e_move hf rfl) fun a hf => ?_
 refine q_ hf rfl rfl rfl (e_lenS hf (x := aS1) rfl Tryz.underlying9) fun a hf => ?_
 refine q_ hf rfl rfl rfl (e_gt hf (x := (aS1.length : Int)) (y := 1048576) rfl rfl) fun a hf => ?_
 refine pl_nil ?_
 refine then_n ?_
 rcases cond_some h with ⟨hc3, h⟩ | ⟨hc3, h⟩
 ·refine cond_t hf rfl hc3 ?_
  refine wp_seq ?_
  refine region_pl ?_
  refine q_ hf rfl rfl rfl (e_assign hf rfl) fun a hf => ?_
  refine pl_nil ?_
  refine then_n ?_
  refine wp_ret ?_
  refine then_r ?_
  obtain rfl := some_inj h
  exact leave1 hf rfl rfl ⟨rfl, hM.fin⟩
 refine cond_f hf rfl hc3 ?_
 refine wp_skip ?_
 refine then_n ?_
 refine wp_seq ?_
 refine region_pl ?_
 refine q_ hf rfl rfl rfl (e_move hf rfl) fun a hf => ?_
 obtain ⟨y4, hz5, h⟩ := bind_some h
 refine pl_l hf rfl rfl rfl (w_call hf Tryz.call24 rfl (r_spec_ReadTurn ⟨_, Sh C _ _, none_, hM.sh_lt, none_not, C.G, hM.g_lt, g_none, hM.tabs⟩ aS1 hp2 _ hz5) ?_)
 rintro _ w10 ⟨rfl, hM2, hv6, hv7, hv8, hv9⟩
 obtain ⟨hM, hx11, hup12⟩ := hM.back hM2
 dsimp only [List.cons_append, List.nil_append] at hM hup12
 clear hM2
 refine ⟨_, rfl, fun a hf => ?_⟩
 refine q_ hf rfl rfl rfl (e_move hf rfl) fun a hf => ?_
 iterate 2 refine q_ hf rfl rfl rfl (e_extract hf rfl rfl) fun a hf => ?_
 refine pl_l hf rfl rfl rfl (w_alloc hM (cs := [vS (([] : Str)), .bool (false), vI (0), vI (0), .bool (false), vS (([] : Str))]) Tryz.zeroValue49 rfl fun b13 w14 hx15 hM a hf => ?_)
 refine pl_0 hf rfl rfl (w_store hf hM (us := [vS (y4.1.Rack), .bool (y4.1.Pass), vI (y4.1.Play.Row), vI (y4.1.Play.Col), .bool (y4.1.Play.Down), vS (y4.1.Play.Word)]) (cs' := [vS (y4.1.Rack), .bool (y4.1.Pass), vI (y4.1.Play.Row), vI (y4.1.Play.Col), .bool (y4.1.Play.Down), vS (y4.1.Play.Word)]) rfl rfl (k := 0) rfl rfl Tryz.sizeOf49 rfl rfl rfl fun w17 hM => ?_)
 dsimp only [List.set] at hM
 refine q_ hf rfl rfl rfl (e_assign hf rfl) fun a hf => ?_
 refine pl_nil ?_
 refine then_n ?_
 refine wp_seq ?_
 refine region_pl ?_
 refine q_ hf rfl rfl rfl (e_move hf rfl) fun a hf => ?_
 obtain ⟨y20, hz21, h⟩ := bind_some h
 refine pl_l hf rfl rfl rfl (w_call hf Tryz.call25 rfl (r_impl_ReadTurn ⟨_, Sh C _ _, none_, hM.sh_lt, none_not, C.G, hM.g_lt, g_none, hM.tabs⟩ aS1 hp2 _ hz21) ?_)
 rintro _ w26 ⟨rfl, hM2, hv22, hv23, hv24, hv25⟩
 obtain ⟨hM, hx27, hup28⟩ := hM.back hM2
 dsimp only [List.cons_append, List.nil_append] at hM hup28
 clear hM2
 refine ⟨_, rfl, fun a hf => ?_⟩
 refine q_ hf rfl rfl rfl (e_move hf rfl) fun a hf => ?_
 iterate 2 refine q_ hf rfl rfl rfl (e_extract hf rfl rfl) fun a hf => ?_
 refine pl_l hf rfl rfl rfl (w_alloc hM (cs := [vS (([] : Str)), .bool (false), vI (0), vI (0), .bool (false), vS (([] : Str))]) Tryz.zeroValue49 rfl fun b29 w30 hx31 hM a hf => ?_)
 refine pl_0 hf rfl rfl (w_store hf hM (us := [vS (y20.1.Rack), .bool (y20.1.Pass), vI (y20.1.Play.Row), vI (y20.1.Play.Col), .bool (y20.1.Play.Down), vS (y20.1.Play.Word)]) (cs' := [vS (y20.1.Rack), .bool (y20.1.Pass), vI (y20.1.Play.Row), vI (y20.1.Play.Col), .bool (y20.1.Play.Down), vS (y20.1.Play.Word)]) rfl rfl (k := 0) rfl rfl Tryz.sizeOf49 rfl rfl rfl fun w33 hM => ?_)
 dsimp only [List.set] at hM
 refine q_ hf rfl rfl rfl (e_assign hf rfl) fun a hf => ?_
 refine pl_nil ?_
 refine then_n ?_
 refine wp_seq ?_
 obtain ⟨x38, h39, h⟩ := bind_some h
 refine seq_join (fun a w => ∃ (t36 : Bool), t36 = x38 ∧ Has 29 a [(28, .bool (t36))] ∧ Mem C w [.box b29 [vS (y20.1.Rack), .bool (y20.1.Pass), vI (y20.1.Play.Row), vI (y20.1.Play.Col), .bool (y20.1.Play.Down), vS (y20.1.Play.Word)] 49, .box b13 [vS (y4.1.Rack), .bool (y4.1.Pass), vI (y4.1.Play.Row), vI (y4.1.Play.Col), .bool (y4.1.Play.Down), vS (y4.1.Play.Word)] 49] []) ?_ ?_
 ·refine region_pl ?_
  refine q_ hf rfl rfl rfl (e_loadA hf (us := [vS (y20.1.Rack), .bool (y20.1.Pass), vI (y20.1.Play.Row), vI (y20.1.Play.Col), .bool (y20.1.Play.Down), vS (y20.1.Play.Word)]) rfl ⟨Tryz.isAgg49, Tryz.sizeOf49⟩ rfl (hM.boxSub (k := 0) (us := [vS (y20.1.Rack), .bool (y20.1.Pass), vI (y20.1.Play.Row), vI (y20.1.Play.Col), .bool (y20.1.Play.Down), vS (y20.1.Play.Word)]) (o := 0) rfl rfl)) fun a hf => ?_
  refine q_ hf rfl rfl rfl (e_loadA hf (us := [vS (y4.1.Rack), .bool (y4.1.Pass), vI (y4.1.Play.Row), vI (y4.1.Play.Col), .bool (y4.1.Play.Down), vS (y4.1.Play.Word)]) rfl ⟨Tryz.isAgg49, Tryz.sizeOf49⟩ rfl (hM.boxSub (k := 1) (us := [vS (y4.1.Rack), .bool (y4.1.Pass), vI (y4.1.Play.Row), vI (y4.1.Play.Col), .bool (y4.1.Play.Down), vS (y4.1.Play.Word)]) (o := 0) rfl rfl)) fun a hf => ?_
  obtain ⟨y40, hz41, h39⟩ := bind_some h39
  refine pl_l hf rfl rfl rfl (w_call hf Tryz.call26 rfl (r_laws_eqTurn ⟨_, Sh C _ _, none_, hM.sh_lt, none_not, C.G, hM.g_lt, g_none, hM.tabs⟩ y20.1 hv22 hv23 hv24 hv25 y4.1 hv6 hv7 hv8 hv9 _ hz41) ?_)
  rintro _ w42 ⟨rfl, hM2⟩
  obtain ⟨hM, hx43, hup44⟩ := hM.back hM2
  dsimp only [List.cons_append, List.nil_append] at hM hup44
  clear hM2
  refine ⟨_, rfl, fun a hf => ?_⟩
  refine q_ hf rfl rfl rfl (e_not hf rfl) fun a hf => ?_
  refine q_ hf rfl rfl rfl (e_move hf rfl) fun a hf => ?_
  rcases cond_some h39 with ⟨hc45, h39⟩ | ⟨hc45, h39⟩
  ·iterate 3 refine pl_gs (wanted_f hf rfl rfl rfl rfl hc45) hf rfl rfl fun a hf => ?_
   refine q_ hf rfl rfl rfl (e_pick_t hf rfl hc45 rfl) fun a hf => ?_
   refine pl_nil ?_
   obtain rfl := some_inj h39
   refine then_n ?_
   exact ⟨true, rfl, hf.keep ⟨rfl, trivial⟩, hM.pick [] rfl⟩
  iterate 2 refine gq (wanted_t hf rfl rfl rfl rfl hc45) hf rfl rfl (e_move hf rfl) fun a hf => ?_
  refine gq (wanted_t hf rfl rfl rfl rfl hc45) hf rfl rfl (e_neT hf rfl rfl Tryz.underlying4) fun a hf => ?_
  refine q_ hf rfl rfl rfl (e_pick_f hf rfl hc45 rfl) fun a hf => ?_
  refine pl_nil ?_
  obtain rfl := some_inj h39
  refine then_n ?_
  exact ⟨(y20.2 != y4.2), rfl, hf.keep ⟨rfl, trivial⟩, hM.pick [] rfl⟩
 rintro a w48 ⟨t36, rfl, hf, hM⟩
 try dsimp only at h
 rcases cond_some h with ⟨hc49, h⟩ | ⟨hc49, h⟩
 ·refine cond_t hf rfl hc49 ?_
  refine wp_seq ?_
  refine region_pl ?_
  refine q_ hf rfl rfl rfl (e_assign hf rfl) fun a hf => ?_
  refine pl_nil ?_
  refine then_n ?_
  refine wp_ret ?_
  refine then_r ?_
  obtain rfl := some_inj h
  have hM := hM.outs (own' := []) 0 rfl
  exact leave1 hf rfl rfl ⟨rfl, hM.fin⟩
 refine cond_f hf rfl hc49 ?_
 refine wp_skip ?_
 refine then_n ?_
 refine wp_seq ?_
 refine region_pl ?_
 refine q_ hf rfl rfl rfl (e_assign hf rfl) fun a hf => ?_
 refine pl_nil ?_
 refine then_n ?_
 refine wp_ret ?_
 obtain rfl := some_inj h
 have hM := hM.outs (own' := []) 0 rfl
 exact leave1 hf rfl rfl ⟨rfl, hM.fin⟩

end Go.Proofs.YtbekokenomhgeaaGreatDoor
