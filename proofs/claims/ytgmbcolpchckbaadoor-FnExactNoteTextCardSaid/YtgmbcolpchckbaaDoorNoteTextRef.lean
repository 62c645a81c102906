/- The functions that this law reaches do what their models say. Printed by gen.py. -/
import Derived.Test.YtgmbcolpchckbaaDoorMod
import Derived.Test.YtgmbcolpchckbaaDoorLib
namespace Go.Proofs.YtgmbcolpchckbaaDoor
open Go Go.RowKit
set_option linter.unusedSimpArgs false
set_option linter.unusedVariables false

theorem ei_5 : ElemInfo Tryd.prog 5 1 := elemInfo (by kernel_rfl)

theorem ei_9 : ElemInfo Tryd.prog 9 1 := elemInfo (by kernel_rfl)

set_option maxRecDepth 100000 in
set_option maxHeartbeats 4000000 in
theorem r_laws_szPlay (C : Cx) (a1 : Play) (hp2 : R64 a1.Row) (hp3 : R64 a1.Col) (hp4 : a1.Word.length ≤ maxLen) (left5 : Int) (hp6 : R64 left5) (r : Int) (h : m_laws_szPlay a1 left5 = some r) :
    Calls Tryd.prog 36 #[.agg #[vI (a1.Row), vI (a1.Col), .bool (a1.Down), vS (a1.Word)], vI (left5)] C.w0 fun e w => e = .returned (vI (r)) ∧ Mem C w [] [] ∧ R64 r := by
  have hM := Mem.begin C [] trivial
  refine enter Tryd.func36 rfl Tryd.ntmps36 rfl fun a hf => ?_
  unfold m_laws_szPlay at h
  refine wp_seq ?_
  refine region_pl ?_
  refine pl_l hf rfl rfl rfl (w_box hf hM (cs := [vI (a1.Row), vI (a1.Col), .bool (a1.Down), vS (a1.Word)]) rfl rfl fun b7 w8 hx9 hM a hf => ?_)
  refine q_ hf rfl rfl rfl (e_assign hf rfl) fun a hf => ?_
  refine pl_nil ?_
  refine then_n ?_
  refine wp_seq ?_
  refine region_pl ?_
  refine q_ hf rfl rfl rfl (e_move hf rfl) fun a hf => ?_
  refine q_ hf rfl rfl rfl (e_field hf rfl Tryd.underlying36 rfl Tryd.sizeOf9 (o' := 3) rfl) fun a hf => ?_
  refine q_ hf rfl rfl rfl (e_load1 hf rfl Tryd.isAgg9 (hM.boxCell (k := 0) rfl rfl)) fun a hf => ?_
  refine q_ hf rfl rfl rfl (e_lenS hf (x := a1.Word) rfl Tryd.underlying9) fun a hf => ?_
  obtain ⟨z11, hz12, h⟩ := bind_some h
  refine q_ hf rfl rfl rfl (e_sub hf rfl rfl hz12) fun a hf => ?_
  refine q_ hf rfl rfl rfl (e_assign hf rfl) fun a hf => ?_
  refine pl_nil ?_
  refine then_n ?_
  refine wp_seq ?_
  refine wp_seq ?_
  refine region_pl ?_
  refine q_ hf rfl rfl rfl (e_move hf rfl) fun a hf => ?_
  refine q_ hf rfl rfl rfl (e_lt hf (x := z11) (y := 0) rfl rfl) fun a hf => ?_
  refine pl_nil ?_
  refine then_n ?_
  rcases cond_some h with ⟨hc13, h⟩ | ⟨hc13, h⟩
  · refine cond_t hf rfl hc13 ?_
    refine wp_seq ?_
    refine region_pl ?_
    refine q_ hf rfl rfl rfl (e_assign hf rfl) fun a hf => ?_
    refine pl_nil ?_
    refine then_n ?_
    refine wp_ret ?_
    refine then_r ?_
    obtain rfl := some_inj h
    have hM := hM.outs (own' := []) 0 rfl
    exact leave1 hf rfl rfl ⟨rfl, hM.fin, (R64_lit rfl)⟩
  · refine cond_f hf rfl hc13 ?_
    refine wp_skip ?_
    refine then_n ?_
    refine wp_seq ?_
    refine region_pl ?_
    refine q_ hf rfl rfl rfl (e_move hf rfl) fun a hf => ?_
    refine q_ hf rfl rfl rfl (e_assign hf rfl) fun a hf => ?_
    refine pl_nil ?_
    refine then_n ?_
    refine wp_ret ?_
    obtain rfl := some_inj h
    have hM := hM.outs (own' := []) 0 rfl
    exact leave1 hf rfl rfl ⟨rfl, hM.fin, (chk_R hz12)⟩

set_option maxRecDepth 100000 in
set_option maxHeartbeats 4000000 in
theorem r_laws_szMove (C : Cx) (a1 : Move) (hp2 : R64 a1.Play.Row) (hp3 : R64 a1.Play.Col) (hp4 : a1.Play.Word.length ≤ maxLen) (hp5 : R64 a1.Score) (left6 : Int) (hp7 : R64 left6) (r : Int) (h : m_laws_szMove a1 left6 = some r) :
    Calls Tryd.prog 26 #[.agg #[vI (a1.Play.Row), vI (a1.Play.Col), .bool (a1.Play.Down), vS (a1.Play.Word), vI (a1.Score)], vI (left6)] C.w0 fun e w => e = .returned (vI (r)) ∧ Mem C w [] [] ∧ R64 r := by
  have hM := Mem.begin C [] trivial
  refine enter Tryd.func26 rfl Tryd.ntmps26 rfl fun a hf => ?_
  unfold m_laws_szMove at h
  refine wp_seq ?_
  refine region_pl ?_
  refine pl_l hf rfl rfl rfl (w_box hf hM (cs := [vI (a1.Play.Row), vI (a1.Play.Col), .bool (a1.Play.Down), vS (a1.Play.Word), vI (a1.Score)]) rfl rfl fun b8 w9 hx10 hM a hf => ?_)
  refine q_ hf rfl rfl rfl (e_assign hf rfl) fun a hf => ?_
  refine pl_nil ?_
  refine then_n ?_
  refine wp_seq ?_
  refine region_pl ?_
  refine q_ hf rfl rfl rfl (e_field hf rfl Tryd.underlying38 rfl Tryd.sizeOf36 (o' := 0) rfl) fun a hf => ?_
  refine q_ hf rfl rfl rfl (e_loadA hf (us := [vI (a1.Play.Row), vI (a1.Play.Col), .bool (a1.Play.Down), vS (a1.Play.Word)]) rfl ⟨Tryd.isAgg36, Tryd.sizeOf36⟩ rfl (hM.boxSub (k := 0) (us := [vI (a1.Play.Row), vI (a1.Play.Col), .bool (a1.Play.Down), vS (a1.Play.Word)]) (o := 0) rfl rfl)) fun a hf => ?_
  refine q_ hf rfl rfl rfl (e_move hf rfl) fun a hf => ?_
  obtain ⟨y12, hz13, h⟩ := bind_some h
  refine pl_l hf rfl rfl rfl (w_call hf Tryd.call36 rfl (r_laws_szPlay ⟨_, Sh C _ _, none_, hM.sh_lt, none_not, C.G, hM.g_lt, g_none, hM.tabs⟩ a1.Play hp2 hp3 hp4 left6 hp7 _ hz13) ?_)
  rintro _ w15 ⟨rfl, hM2, hv14⟩
  obtain ⟨hM, hx16, hup17⟩ := hM.back hM2
  dsimp only [List.cons_append, List.nil_append] at hM hup17
  clear hM2
  refine ⟨_, rfl, fun a hf => ?_⟩
  refine q_ hf rfl rfl rfl (e_assign hf rfl) fun a hf => ?_
  refine pl_nil ?_
  refine then_n ?_
  refine wp_seq ?_
  refine wp_seq ?_
  refine region_pl ?_
  refine q_ hf rfl rfl rfl (e_move hf rfl) fun a hf => ?_
  refine q_ hf rfl rfl rfl (e_lt hf (x := y12) (y := 0) rfl rfl) fun a hf => ?_
  refine pl_nil ?_
  refine then_n ?_
  rcases cond_some h with ⟨hc18, h⟩ | ⟨hc18, h⟩
  · refine cond_t hf rfl hc18 ?_
    refine wp_seq ?_
    refine region_pl ?_
    refine q_ hf rfl rfl rfl (e_assign hf rfl) fun a hf => ?_
    refine pl_nil ?_
    refine then_n ?_
    refine wp_ret ?_
    refine then_r ?_
    obtain rfl := some_inj h
    have hM := hM.outs (own' := []) 0 rfl
    exact leave1 hf rfl rfl ⟨rfl, hM.fin, (R64_lit rfl)⟩
  · refine cond_f hf rfl hc18 ?_
    refine wp_skip ?_
    refine then_n ?_
    refine wp_seq ?_
    refine region_pl ?_
    refine q_ hf rfl rfl rfl (e_move hf rfl) fun a hf => ?_
    refine q_ hf rfl rfl rfl (e_assign hf rfl) fun a hf => ?_
    refine pl_nil ?_
    refine then_n ?_
    refine wp_ret ?_
    obtain rfl := some_inj h
    have hM := hM.outs (own' := []) 0 rfl
    exact leave1 hf rfl rfl ⟨rfl, hM.fin, hv14⟩

set_option maxRecDepth 100000 in
set_option maxHeartbeats 4000000 in
theorem r_laws_szNote (C : Cx) (a1 : Note) (hp2 : R64 a1.Score) (hp3 : R64 a1.Best.Play.Row) (hp4 : R64 a1.Best.Play.Col) (hp5 : a1.Best.Play.Word.length ≤ maxLen) (hp6 : R64 a1.Best.Score) (hp7 : R64 a1.Loss) (hp8 : R64 a1.Rank) (left9 : Int) (hp10 : R64 left9) (r : Int) (h : m_laws_szNote a1 left9 = some r) :
    Calls Tryd.prog 18 #[.agg #[vI (a1.Score), vI (a1.Best.Play.Row), vI (a1.Best.Play.Col), .bool (a1.Best.Play.Down), vS (a1.Best.Play.Word), vI (a1.Best.Score), vI (a1.Loss), vI (a1.Rank)], vI (left9)] C.w0 fun e w => e = .returned (vI (r)) ∧ Mem C w [] [] ∧ R64 r := by
  have hM := Mem.begin C [] trivial
  refine enter Tryd.func18 rfl Tryd.ntmps18 rfl fun a hf => ?_
  unfold m_laws_szNote at h
  refine wp_seq ?_
  refine region_pl ?_
  refine pl_l hf rfl rfl rfl (w_box hf hM (cs := [vI (a1.Score), vI (a1.Best.Play.Row), vI (a1.Best.Play.Col), .bool (a1.Best.Play.Down), vS (a1.Best.Play.Word), vI (a1.Best.Score), vI (a1.Loss), vI (a1.Rank)]) rfl rfl fun b11 w12 hx13 hM a hf => ?_)
  refine q_ hf rfl rfl rfl (e_assign hf rfl) fun a hf => ?_
  refine pl_nil ?_
  refine then_n ?_
  refine wp_seq ?_
  refine region_pl ?_
  refine q_ hf rfl rfl rfl (e_field hf rfl Tryd.underlying51 rfl Tryd.sizeOf38 (o' := 1) rfl) fun a hf => ?_
  refine q_ hf rfl rfl rfl (e_loadA hf (us := [vI (a1.Best.Play.Row), vI (a1.Best.Play.Col), .bool (a1.Best.Play.Down), vS (a1.Best.Play.Word), vI (a1.Best.Score)]) rfl ⟨Tryd.isAgg38, Tryd.sizeOf38⟩ rfl (hM.boxSub (k := 0) (us := [vI (a1.Best.Play.Row), vI (a1.Best.Play.Col), .bool (a1.Best.Play.Down), vS (a1.Best.Play.Word), vI (a1.Best.Score)]) (o := 1) rfl rfl)) fun a hf => ?_
  refine q_ hf rfl rfl rfl (e_move hf rfl) fun a hf => ?_
  obtain ⟨y15, hz16, h⟩ := bind_some h
  refine pl_l hf rfl rfl rfl (w_call hf Tryd.call26 rfl (r_laws_szMove ⟨_, Sh C _ _, none_, hM.sh_lt, none_not, C.G, hM.g_lt, g_none, hM.tabs⟩ a1.Best hp3 hp4 hp5 hp6 left9 hp10 _ hz16) ?_)
  rintro _ w18 ⟨rfl, hM2, hv17⟩
  obtain ⟨hM, hx19, hup20⟩ := hM.back hM2
  dsimp only [List.cons_append, List.nil_append] at hM hup20
  clear hM2
  refine ⟨_, rfl, fun a hf => ?_⟩
  refine q_ hf rfl rfl rfl (e_assign hf rfl) fun a hf => ?_
  refine pl_nil ?_
  refine then_n ?_
  refine wp_seq ?_
  refine wp_seq ?_
  refine region_pl ?_
  refine q_ hf rfl rfl rfl (e_move hf rfl) fun a hf => ?_
  refine q_ hf rfl rfl rfl (e_lt hf (x := y15) (y := 0) rfl rfl) fun a hf => ?_
  refine pl_nil ?_
  refine then_n ?_
  rcases cond_some h with ⟨hc21, h⟩ | ⟨hc21, h⟩
  · refine cond_t hf rfl hc21 ?_
    refine wp_seq ?_
    refine region_pl ?_
    refine q_ hf rfl rfl rfl (e_assign hf rfl) fun a hf => ?_
    refine pl_nil ?_
    refine then_n ?_
    refine wp_ret ?_
    refine then_r ?_
    obtain rfl := some_inj h
    have hM := hM.outs (own' := []) 0 rfl
    exact leave1 hf rfl rfl ⟨rfl, hM.fin, (R64_lit rfl)⟩
  · refine cond_f hf rfl hc21 ?_
    refine wp_skip ?_
    refine then_n ?_
    refine wp_seq ?_
    refine region_pl ?_
    refine q_ hf rfl rfl rfl (e_move hf rfl) fun a hf => ?_
    refine q_ hf rfl rfl rfl (e_assign hf rfl) fun a hf => ?_
    refine pl_nil ?_
    refine then_n ?_
    refine wp_ret ?_
    obtain rfl := some_inj h
    have hM := hM.outs (own' := []) 0 rfl
    exact leave1 hf rfl rfl ⟨rfl, hM.fin, hv17⟩

set_option maxRecDepth 100000 in
set_option maxHeartbeats 4000000 in
theorem r_laws_toPlay (C : Cx) (a1 : Play) (hp2 : R64 a1.Row) (hp3 : R64 a1.Col) (hp4 : a1.Word.length ≤ maxLen) (r : Play) (h : m_laws_toPlay a1 = some r) :
    Calls Tryd.prog 39 #[.agg #[vI (a1.Row), vI (a1.Col), .bool (a1.Down), vS (a1.Word)]] C.w0 fun e w => e = .returned (.agg #[vI (r.Row), vI (r.Col), .bool (r.Down), vS (r.Word)]) ∧ Mem C w [] [] ∧ R64 r.Row ∧ R64 r.Col ∧ r.Word.length ≤ maxLen := by
  have hM := Mem.begin C [] trivial
  refine enter Tryd.func39 rfl Tryd.ntmps39 rfl fun a hf => ?_
  unfold m_laws_toPlay at h
  refine wp_seq ?_
  refine region_pl ?_
  refine pl_l hf rfl rfl rfl (w_box hf hM (cs := [vI (a1.Row), vI (a1.Col), .bool (a1.Down), vS (a1.Word)]) rfl rfl fun b5 w6 hx7 hM a hf => ?_)
  refine pl_l hf rfl rfl rfl (w_alloc hM (cs := [vI (0), vI (0), .bool (false), vS (([] : Str))]) Tryd.zeroValue43 rfl fun b9 w10 hx11 hM a hf => ?_)
  refine pl_nil ?_
  refine then_n ?_
  refine wp_seq ?_
  refine region_pl ?_
  refine pl_l hf rfl rfl rfl (w_alloc hM (cs := [vI (0), vI (0), .bool (false), vS (([] : Str))]) Tryd.zeroValue43 rfl fun b13 w14 hx15 hM a hf => ?_)
  refine pl_nil ?_
  refine then_n ?_
  refine wp_seq ?_
  refine region_pl ?_
  refine q_ hf rfl rfl rfl (e_field hf rfl Tryd.underlying36 rfl Tryd.sizeOf2 (o' := 0) rfl) fun a hf => ?_
  refine q_ hf rfl rfl rfl (e_load1 hf rfl Tryd.isAgg2 (hM.boxCell (k := 2) rfl rfl)) fun a hf => ?_
  refine q_ hf rfl rfl rfl (e_field hf rfl Tryd.underlying43 rfl Tryd.sizeOf2 (o' := 0) rfl) fun a hf => ?_
  refine pl_0 hf rfl rfl (w_store hf hM (us := [vI (a1.Row)]) (cs' := [vI (a1.Row), vI (0), .bool (false), vS (([] : Str))]) rfl rfl (k := 0) rfl rfl Tryd.sizeOf2 rfl rfl rfl fun w17 hM => ?_)
  dsimp only [List.set] at hM
  refine pl_nil ?_
  refine then_n ?_
  refine wp_seq ?_
  refine region_pl ?_
  refine q_ hf rfl rfl rfl (e_field hf rfl Tryd.underlying36 rfl Tryd.sizeOf2 (o' := 1) rfl) fun a hf => ?_
  refine q_ hf rfl rfl rfl (e_load1 hf rfl Tryd.isAgg2 (hM.boxCell (k := 2) rfl rfl)) fun a hf => ?_
  refine q_ hf rfl rfl rfl (e_field hf rfl Tryd.underlying43 rfl Tryd.sizeOf2 (o' := 1) rfl) fun a hf => ?_
  refine pl_0 hf rfl rfl (w_store hf hM (us := [vI (a1.Col)]) (cs' := [vI (a1.Row), vI (a1.Col), .bool (false), vS (([] : Str))]) rfl rfl (k := 0) rfl rfl Tryd.sizeOf2 rfl rfl rfl fun w20 hM => ?_)
  dsimp only [List.set] at hM
  refine pl_nil ?_
  refine then_n ?_
  refine wp_seq ?_
  refine region_pl ?_
  refine q_ hf rfl rfl rfl (e_field hf rfl Tryd.underlying36 rfl Tryd.sizeOf4 (o' := 2) rfl) fun a hf => ?_
  refine q_ hf rfl rfl rfl (e_load1 hf rfl Tryd.isAgg4 (hM.boxCell (k := 2) rfl rfl)) fun a hf => ?_
  refine q_ hf rfl rfl rfl (e_field hf rfl Tryd.underlying43 rfl Tryd.sizeOf4 (o' := 2) rfl) fun a hf => ?_
  refine pl_0 hf rfl rfl (w_store hf hM (us := [.bool (a1.Down)]) (cs' := [vI (a1.Row), vI (a1.Col), .bool (a1.Down), vS (([] : Str))]) rfl rfl (k := 0) rfl rfl Tryd.sizeOf4 rfl rfl rfl fun w23 hM => ?_)
  dsimp only [List.set] at hM
  refine pl_nil ?_
  refine then_n ?_
  refine wp_seq ?_
  refine region_pl ?_
  refine q_ hf rfl rfl rfl (e_field hf rfl Tryd.underlying36 rfl Tryd.sizeOf9 (o' := 3) rfl) fun a hf => ?_
  refine q_ hf rfl rfl rfl (e_load1 hf rfl Tryd.isAgg9 (hM.boxCell (k := 2) rfl rfl)) fun a hf => ?_
  refine q_ hf rfl rfl rfl (e_field hf rfl Tryd.underlying43 rfl Tryd.sizeOf9 (o' := 3) rfl) fun a hf => ?_
  refine pl_0 hf rfl rfl (w_store hf hM (us := [vS (a1.Word)]) (cs' := [vI (a1.Row), vI (a1.Col), .bool (a1.Down), vS (a1.Word)]) rfl rfl (k := 0) rfl rfl Tryd.sizeOf9 rfl rfl rfl fun w26 hM => ?_)
  dsimp only [List.set] at hM
  refine pl_nil ?_
  refine then_n ?_
  refine wp_seq ?_
  refine region_pl ?_
  refine q_ hf rfl rfl rfl (e_loadA hf (us := [vI (a1.Row), vI (a1.Col), .bool (a1.Down), vS (a1.Word)]) rfl ⟨Tryd.isAgg43, Tryd.sizeOf43⟩ rfl (hM.boxSub (k := 0) (us := [vI (a1.Row), vI (a1.Col), .bool (a1.Down), vS (a1.Word)]) (o := 0) rfl rfl)) fun a hf => ?_
  refine pl_0 hf rfl rfl (w_store hf hM (us := [vI (a1.Row), vI (a1.Col), .bool (a1.Down), vS (a1.Word)]) (cs' := [vI (a1.Row), vI (a1.Col), .bool (a1.Down), vS (a1.Word)]) rfl rfl (k := 1) rfl rfl Tryd.sizeOf43 rfl rfl rfl fun w29 hM => ?_)
  dsimp only [List.set] at hM
  refine pl_nil ?_
  refine then_n ?_
  refine wp_ret ?_
  obtain rfl := some_inj h
  have hres32 := leaveV1 (P := Tryd.prog) Tryd.results39 (res_agg hf rfl ⟨Tryd.isAgg43, Tryd.sizeOf43⟩ (us := [vI (a1.Row), vI (a1.Col), .bool (a1.Down), vS (a1.Word)]) rfl (hM.boxSub (k := 1) (o := 0) rfl rfl))
  have hM := hM.outs (own' := []) 0 rfl
  exact bodyPost_ret hres32 hf.defers ⟨rfl, hM.fin, hp2, hp3, hp4⟩

set_option maxRecDepth 100000 in
set_option maxHeartbeats 4000000 in
theorem r_laws_toMove (C : Cx) (a1 : Move) (hp2 : R64 a1.Play.Row) (hp3 : R64 a1.Play.Col) (hp4 : a1.Play.Word.length ≤ maxLen) (hp5 : R64 a1.Score) (r : Move) (h : m_laws_toMove a1 = some r) :
    Calls Tryd.prog 28 #[.agg #[vI (a1.Play.Row), vI (a1.Play.Col), .bool (a1.Play.Down), vS (a1.Play.Word), vI (a1.Score)]] C.w0 fun e w => e = .returned (.agg #[vI (r.Play.Row), vI (r.Play.Col), .bool (r.Play.Down), vS (r.Play.Word), vI (r.Score)]) ∧ Mem C w [] [] ∧ R64 r.Play.Row ∧ R64 r.Play.Col ∧ r.Play.Word.length ≤ maxLen ∧ R64 r.Score := by
  have hM := Mem.begin C [] trivial
  refine enter Tryd.func28 rfl Tryd.ntmps28 rfl fun a hf => ?_
  unfold m_laws_toMove at h
  refine wp_seq ?_
  refine region_pl ?_
  refine pl_l hf rfl rfl rfl (w_box hf hM (cs := [vI (a1.Play.Row), vI (a1.Play.Col), .bool (a1.Play.Down), vS (a1.Play.Word), vI (a1.Score)]) rfl rfl fun b6 w7 hx8 hM a hf => ?_)
  refine pl_l hf rfl rfl rfl (w_alloc hM (cs := [vI (0), vI (0), .bool (false), vS (([] : Str)), vI (0)]) Tryd.zeroValue45 rfl fun b10 w11 hx12 hM a hf => ?_)
  refine pl_nil ?_
  refine then_n ?_
  refine wp_seq ?_
  refine region_pl ?_
  refine pl_l hf rfl rfl rfl (w_alloc hM (cs := [vI (0), vI (0), .bool (false), vS (([] : Str)), vI (0)]) Tryd.zeroValue45 rfl fun b14 w15 hx16 hM a hf => ?_)
  refine pl_nil ?_
  refine then_n ?_
  refine wp_seq ?_
  refine region_pl ?_
  refine q_ hf rfl rfl rfl (e_field hf rfl Tryd.underlying38 rfl Tryd.sizeOf36 (o' := 0) rfl) fun a hf => ?_
  refine q_ hf rfl rfl rfl (e_loadA hf (us := [vI (a1.Play.Row), vI (a1.Play.Col), .bool (a1.Play.Down), vS (a1.Play.Word)]) rfl ⟨Tryd.isAgg36, Tryd.sizeOf36⟩ rfl (hM.boxSub (k := 2) (us := [vI (a1.Play.Row), vI (a1.Play.Col), .bool (a1.Play.Down), vS (a1.Play.Word)]) (o := 0) rfl rfl)) fun a hf => ?_
  obtain ⟨y18, hz19, h⟩ := bind_some h
  refine pl_l hf rfl rfl rfl (w_call hf Tryd.call39 rfl (r_laws_toPlay ⟨_, Sh C _ _, none_, hM.sh_lt, none_not, C.G, hM.g_lt, g_none, hM.tabs⟩ a1.Play hp2 hp3 hp4 _ hz19) ?_)
  rintro _ w23 ⟨rfl, hM2, hv20, hv21, hv22⟩
  obtain ⟨hM, hx24, hup25⟩ := hM.back hM2
  dsimp only [List.cons_append, List.nil_append] at hM hup25
  clear hM2
  refine ⟨_, rfl, fun a hf => ?_⟩
  refine q_ hf rfl rfl rfl (e_field hf rfl Tryd.underlying45 rfl Tryd.sizeOf43 (o' := 0) rfl) fun a hf => ?_
  refine pl_0 hf rfl rfl (w_store hf hM (us := [vI (y18.Row), vI (y18.Col), .bool (y18.Down), vS (y18.Word)]) (cs' := [vI (y18.Row), vI (y18.Col), .bool (y18.Down), vS (y18.Word), vI (0)]) rfl rfl (k := 0) rfl rfl Tryd.sizeOf43 rfl rfl rfl fun w26 hM => ?_)
  dsimp only [List.set] at hM
  refine pl_nil ?_
  refine then_n ?_
  refine wp_seq ?_
  refine region_pl ?_
  refine q_ hf rfl rfl rfl (e_field hf rfl Tryd.underlying38 rfl Tryd.sizeOf2 (o' := 4) rfl) fun a hf => ?_
  refine q_ hf rfl rfl rfl (e_load1 hf rfl Tryd.isAgg2 (hM.boxCell (k := 2) rfl rfl)) fun a hf => ?_
  refine q_ hf rfl rfl rfl (e_field hf rfl Tryd.underlying45 rfl Tryd.sizeOf2 (o' := 4) rfl) fun a hf => ?_
  refine pl_0 hf rfl rfl (w_store hf hM (us := [vI (a1.Score)]) (cs' := [vI (y18.Row), vI (y18.Col), .bool (y18.Down), vS (y18.Word), vI (a1.Score)]) rfl rfl (k := 0) rfl rfl Tryd.sizeOf2 rfl rfl rfl fun w29 hM => ?_)
  dsimp only [List.set] at hM
  refine pl_nil ?_
  refine then_n ?_
  refine wp_seq ?_
  refine region_pl ?_
  refine q_ hf rfl rfl rfl (e_loadA hf (us := [vI (y18.Row), vI (y18.Col), .bool (y18.Down), vS (y18.Word), vI (a1.Score)]) rfl ⟨Tryd.isAgg45, Tryd.sizeOf45⟩ rfl (hM.boxSub (k := 0) (us := [vI (y18.Row), vI (y18.Col), .bool (y18.Down), vS (y18.Word), vI (a1.Score)]) (o := 0) rfl rfl)) fun a hf => ?_
  refine pl_0 hf rfl rfl (w_store hf hM (us := [vI (y18.Row), vI (y18.Col), .bool (y18.Down), vS (y18.Word), vI (a1.Score)]) (cs' := [vI (y18.Row), vI (y18.Col), .bool (y18.Down), vS (y18.Word), vI (a1.Score)]) rfl rfl (k := 1) rfl rfl Tryd.sizeOf45 rfl rfl rfl fun w32 hM => ?_)
  dsimp only [List.set] at hM
  refine pl_nil ?_
  refine then_n ?_
  refine wp_ret ?_
  obtain rfl := some_inj h
  have hres35 := leaveV1 (P := Tryd.prog) Tryd.results28 (res_agg hf rfl ⟨Tryd.isAgg45, Tryd.sizeOf45⟩ (us := [vI (y18.Row), vI (y18.Col), .bool (y18.Down), vS (y18.Word), vI (a1.Score)]) rfl (hM.boxSub (k := 1) (o := 0) rfl rfl))
  have hM := hM.outs (own' := []) 0 rfl
  exact bodyPost_ret hres35 hf.defers ⟨rfl, hM.fin, hv20, hv21, hv22, hp5⟩

set_option maxRecDepth 100000 in
set_option maxHeartbeats 4000000 in
theorem r_laws_toNote (C : Cx) (a1 : Note) (hp2 : R64 a1.Score) (hp3 : R64 a1.Best.Play.Row) (hp4 : R64 a1.Best.Play.Col) (hp5 : a1.Best.Play.Word.length ≤ maxLen) (hp6 : R64 a1.Best.Score) (hp7 : R64 a1.Loss) (hp8 : R64 a1.Rank) (r : Note) (h : m_laws_toNote a1 = some r) :
    Calls Tryd.prog 20 #[.agg #[vI (a1.Score), vI (a1.Best.Play.Row), vI (a1.Best.Play.Col), .bool (a1.Best.Play.Down), vS (a1.Best.Play.Word), vI (a1.Best.Score), vI (a1.Loss), vI (a1.Rank)]] C.w0 fun e w => e = .returned (.agg #[vI (r.Score), vI (r.Best.Play.Row), vI (r.Best.Play.Col), .bool (r.Best.Play.Down), vS (r.Best.Play.Word), vI (r.Best.Score), vI (r.Loss), vI (r.Rank)]) ∧ Mem C w [] [] ∧ R64 r.Score ∧ R64 r.Best.Play.Row ∧ R64 r.Best.Play.Col ∧ r.Best.Play.Word.length ≤ maxLen ∧ R64 r.Best.Score ∧ R64 r.Loss ∧ R64 r.Rank := by
  have hM := Mem.begin C [] trivial
  refine enter Tryd.func20 rfl Tryd.ntmps20 rfl fun a hf => ?_
  unfold m_laws_toNote at h
  refine wp_seq ?_
  refine region_pl ?_
  refine pl_l hf rfl rfl rfl (w_box hf hM (cs := [vI (a1.Score), vI (a1.Best.Play.Row), vI (a1.Best.Play.Col), .bool (a1.Best.Play.Down), vS (a1.Best.Play.Word), vI (a1.Best.Score), vI (a1.Loss), vI (a1.Rank)]) rfl rfl fun b9 w10 hx11 hM a hf => ?_)
  refine pl_l hf rfl rfl rfl (w_alloc hM (cs := [vI (0), vI (0), vI (0), .bool (false), vS (([] : Str)), vI (0), vI (0), vI (0)]) Tryd.zeroValue55 rfl fun b13 w14 hx15 hM a hf => ?_)
  refine pl_nil ?_
  refine then_n ?_
  refine wp_seq ?_
  refine region_pl ?_
  refine pl_l hf rfl rfl rfl (w_alloc hM (cs := [vI (0), vI (0), vI (0), .bool (false), vS (([] : Str)), vI (0), vI (0), vI (0)]) Tryd.zeroValue55 rfl fun b17 w18 hx19 hM a hf => ?_)
  refine pl_nil ?_
  refine then_n ?_
  refine wp_seq ?_
  refine region_pl ?_
  refine q_ hf rfl rfl rfl (e_field hf rfl Tryd.underlying51 rfl Tryd.sizeOf2 (o' := 0) rfl) fun a hf => ?_
  refine q_ hf rfl rfl rfl (e_load1 hf rfl Tryd.isAgg2 (hM.boxCell (k := 2) rfl rfl)) fun a hf => ?_
  refine q_ hf rfl rfl rfl (e_field hf rfl Tryd.underlying55 rfl Tryd.sizeOf2 (o' := 0) rfl) fun a hf => ?_
  refine pl_0 hf rfl rfl (w_store hf hM (us := [vI (a1.Score)]) (cs' := [vI (a1.Score), vI (0), vI (0), .bool (false), vS (([] : Str)), vI (0), vI (0), vI (0)]) rfl rfl (k := 0) rfl rfl Tryd.sizeOf2 rfl rfl rfl fun w21 hM => ?_)
  dsimp only [List.set] at hM
  refine pl_nil ?_
  refine then_n ?_
  refine wp_seq ?_
  refine region_pl ?_
  refine q_ hf rfl rfl rfl (e_field hf rfl Tryd.underlying51 rfl Tryd.sizeOf38 (o' := 1) rfl) fun a hf => ?_
  refine q_ hf rfl rfl rfl (e_loadA hf (us := [vI (a1.Best.Play.Row), vI (a1.Best.Play.Col), .bool (a1.Best.Play.Down), vS (a1.Best.Play.Word), vI (a1.Best.Score)]) rfl ⟨Tryd.isAgg38, Tryd.sizeOf38⟩ rfl (hM.boxSub (k := 2) (us := [vI (a1.Best.Play.Row), vI (a1.Best.Play.Col), .bool (a1.Best.Play.Down), vS (a1.Best.Play.Word), vI (a1.Best.Score)]) (o := 1) rfl rfl)) fun a hf => ?_
  obtain ⟨y24, hz25, h⟩ := bind_some h
  refine pl_l hf rfl rfl rfl (w_call hf Tryd.call28 rfl (r_laws_toMove ⟨_, Sh C _ _, none_, hM.sh_lt, none_not, C.G, hM.g_lt, g_none, hM.tabs⟩ a1.Best hp3 hp4 hp5 hp6 _ hz25) ?_)
  rintro _ w30 ⟨rfl, hM2, hv26, hv27, hv28, hv29⟩
  obtain ⟨hM, hx31, hup32⟩ := hM.back hM2
  dsimp only [List.cons_append, List.nil_append] at hM hup32
  clear hM2
  refine ⟨_, rfl, fun a hf => ?_⟩
  refine q_ hf rfl rfl rfl (e_field hf rfl Tryd.underlying55 rfl Tryd.sizeOf45 (o' := 1) rfl) fun a hf => ?_
  refine pl_0 hf rfl rfl (w_store hf hM (us := [vI (y24.Play.Row), vI (y24.Play.Col), .bool (y24.Play.Down), vS (y24.Play.Word), vI (y24.Score)]) (cs' := [vI (a1.Score), vI (y24.Play.Row), vI (y24.Play.Col), .bool (y24.Play.Down), vS (y24.Play.Word), vI (y24.Score), vI (0), vI (0)]) rfl rfl (k := 0) rfl rfl Tryd.sizeOf45 rfl rfl rfl fun w33 hM => ?_)
  dsimp only [List.set] at hM
  refine pl_nil ?_
  refine then_n ?_
  refine wp_seq ?_
  refine region_pl ?_
  refine q_ hf rfl rfl rfl (e_field hf rfl Tryd.underlying51 rfl Tryd.sizeOf2 (o' := 6) rfl) fun a hf => ?_
  refine q_ hf rfl rfl rfl (e_load1 hf rfl Tryd.isAgg2 (hM.boxCell (k := 2) rfl rfl)) fun a hf => ?_
  refine q_ hf rfl rfl rfl (e_field hf rfl Tryd.underlying55 rfl Tryd.sizeOf2 (o' := 6) rfl) fun a hf => ?_
  refine pl_0 hf rfl rfl (w_store hf hM (us := [vI (a1.Loss)]) (cs' := [vI (a1.Score), vI (y24.Play.Row), vI (y24.Play.Col), .bool (y24.Play.Down), vS (y24.Play.Word), vI (y24.Score), vI (a1.Loss), vI (0)]) rfl rfl (k := 0) rfl rfl Tryd.sizeOf2 rfl rfl rfl fun w36 hM => ?_)
  dsimp only [List.set] at hM
  refine pl_nil ?_
  refine then_n ?_
  refine wp_seq ?_
  refine region_pl ?_
  refine q_ hf rfl rfl rfl (e_field hf rfl Tryd.underlying51 rfl Tryd.sizeOf2 (o' := 7) rfl) fun a hf => ?_
  refine q_ hf rfl rfl rfl (e_load1 hf rfl Tryd.isAgg2 (hM.boxCell (k := 2) rfl rfl)) fun a hf => ?_
  refine q_ hf rfl rfl rfl (e_field hf rfl Tryd.underlying55 rfl Tryd.sizeOf2 (o' := 7) rfl) fun a hf => ?_
  refine pl_0 hf rfl rfl (w_store hf hM (us := [vI (a1.Rank)]) (cs' := [vI (a1.Score), vI (y24.Play.Row), vI (y24.Play.Col), .bool (y24.Play.Down), vS (y24.Play.Word), vI (y24.Score), vI (a1.Loss), vI (a1.Rank)]) rfl rfl (k := 0) rfl rfl Tryd.sizeOf2 rfl rfl rfl fun w39 hM => ?_)
  dsimp only [List.set] at hM
  refine pl_nil ?_
  refine then_n ?_
  refine wp_seq ?_
  refine region_pl ?_
  refine q_ hf rfl rfl rfl (e_loadA hf (us := [vI (a1.Score), vI (y24.Play.Row), vI (y24.Play.Col), .bool (y24.Play.Down), vS (y24.Play.Word), vI (y24.Score), vI (a1.Loss), vI (a1.Rank)]) rfl ⟨Tryd.isAgg55, Tryd.sizeOf55⟩ rfl (hM.boxSub (k := 0) (us := [vI (a1.Score), vI (y24.Play.Row), vI (y24.Play.Col), .bool (y24.Play.Down), vS (y24.Play.Word), vI (y24.Score), vI (a1.Loss), vI (a1.Rank)]) (o := 0) rfl rfl)) fun a hf => ?_
  refine pl_0 hf rfl rfl (w_store hf hM (us := [vI (a1.Score), vI (y24.Play.Row), vI (y24.Play.Col), .bool (y24.Play.Down), vS (y24.Play.Word), vI (y24.Score), vI (a1.Loss), vI (a1.Rank)]) (cs' := [vI (a1.Score), vI (y24.Play.Row), vI (y24.Play.Col), .bool (y24.Play.Down), vS (y24.Play.Word), vI (y24.Score), vI (a1.Loss), vI (a1.Rank)]) rfl rfl (k := 1) rfl rfl Tryd.sizeOf55 rfl rfl rfl fun w42 hM => ?_)
  dsimp only [List.set] at hM
  refine pl_nil ?_
  refine then_n ?_
  refine wp_ret ?_
  obtain rfl := some_inj h
  have hres45 := leaveV1 (P := Tryd.prog) Tryd.results20 (res_agg hf rfl ⟨Tryd.isAgg55, Tryd.sizeOf55⟩ (us := [vI (a1.Score), vI (y24.Play.Row), vI (y24.Play.Col), .bool (y24.Play.Down), vS (y24.Play.Word), vI (y24.Score), vI (a1.Loss), vI (a1.Rank)]) rfl (hM.boxSub (k := 1) (o := 0) rfl rfl))
  have hM := hM.outs (own' := []) 0 rfl
  exact bodyPost_ret hres45 hf.defers ⟨rfl, hM.fin, hp2, hv26, hv27, hv28, hv29, hp7, hp8⟩

set_option maxRecDepth 100000 in
set_option maxHeartbeats 4000000 in
theorem r_spec_l00In (C : Cx) (n1 : Int) (hp2 : R64 n1) (low3 : Int) (hp4 : R64 low3) (high5 : Int) (hp6 : R64 high5) (r : Bool) (h : m_spec_l00In n1 low3 high5 = some r) :
    Calls Tryd.prog 34 #[vI (n1), vI (low3), vI (high5)] C.w0 fun e w => e = .returned (.bool (r)) ∧ Mem C w [] [] := by
  have hM := Mem.begin C [] trivial
  refine enter Tryd.func34 rfl Tryd.ntmps34 rfl fun a hf => ?_
  unfold m_spec_l00In at h
  refine wp_seq ?_
  refine region_pl ?_
  refine q_ hf rfl rfl rfl (e_assign hf rfl) fun a hf => ?_
  refine pl_nil ?_
  refine then_n ?_
  obtain ⟨x9, h10, h⟩ := bind_some h
  refine seq_join (fun a w => ∃ (t7 : Bool), t7 = x9 ∧ Has 15 a [(6, .bool (t7))] ∧ Mem C w [] []) ?_ ?_
  · refine region_pl ?_
    refine q_ hf rfl rfl rfl (e_move hf rfl) fun a hf => ?_
    refine q_ hf rfl rfl rfl (e_move hf rfl) fun a hf => ?_
    refine q_ hf rfl rfl rfl (e_ge hf (x := n1) (y := low3) rfl rfl) fun a hf => ?_
    refine q_ hf rfl rfl rfl (e_move hf rfl) fun a hf => ?_
    rcases cond_some h10 with ⟨hc11, h10⟩ | ⟨hc11, h10⟩
    · refine gq (wanted_t hf rfl rfl rfl rfl hc11) hf rfl rfl (e_move hf rfl) fun a hf => ?_
      refine gq (wanted_t hf rfl rfl rfl rfl hc11) hf rfl rfl (e_move hf rfl) fun a hf => ?_
      refine gq (wanted_t hf rfl rfl rfl rfl hc11) hf rfl rfl (e_le hf (x := n1) (y := high5) rfl rfl) fun a hf => ?_
      refine q_ hf rfl rfl rfl (e_pick_t hf rfl hc11 rfl) fun a hf => ?_
      refine q_ hf rfl rfl rfl (e_assign hf rfl) fun a hf => ?_
      refine pl_nil ?_
      obtain rfl := some_inj h10
      refine then_n ?_
      exact ⟨(decide (n1 ≤ high5)), rfl, hf.keep ⟨rfl, trivial⟩, hM.pick [] rfl⟩
    · refine pl_gs (wanted_f hf rfl rfl rfl rfl hc11) hf rfl rfl fun a hf => ?_
      refine pl_gs (wanted_f hf rfl rfl rfl rfl hc11) hf rfl rfl fun a hf => ?_
      refine pl_gs (wanted_f hf rfl rfl rfl rfl hc11) hf rfl rfl fun a hf => ?_
      refine q_ hf rfl rfl rfl (e_pick_f hf rfl hc11 rfl) fun a hf => ?_
      refine q_ hf rfl rfl rfl (e_assign hf rfl) fun a hf => ?_
      refine pl_nil ?_
      obtain rfl := some_inj h10
      refine then_n ?_
      exact ⟨false, rfl, hf.keep ⟨rfl, trivial⟩, hM.pick [] rfl⟩
  · rintro a w14 ⟨t7, rfl, hf, hM⟩
    try dsimp only at h
    refine wp_ret ?_
    obtain rfl := some_inj h
    exact leave1 hf rfl rfl ⟨rfl, hM.fin⟩

set_option maxRecDepth 100000 in
set_option maxHeartbeats 4000000 in
theorem r_spec_l01Small (C : Cx) (c1 : UInt8) (r : Bool) (h : m_spec_l01Small c1 = some r) :
    Calls Tryd.prog 62 #[vB (c1)] C.w0 fun e w => e = .returned (.bool (r)) ∧ Mem C w [] [] := by
  have hM := Mem.begin C [] trivial
  refine enter Tryd.func62 rfl Tryd.ntmps62 rfl fun a hf => ?_
  unfold m_spec_l01Small at h
  refine wp_seq ?_
  refine region_pl ?_
  refine q_ hf rfl rfl rfl (e_assign hf rfl) fun a hf => ?_
  refine pl_nil ?_
  refine then_n ?_
  obtain ⟨x4, h5, h⟩ := bind_some h
  refine seq_join (fun a w => ∃ (t2 : Bool), t2 = x4 ∧ Has 9 a [(2, .bool (t2))] ∧ Mem C w [] []) ?_ ?_
  · refine region_pl ?_
    refine q_ hf rfl rfl rfl (e_move hf rfl) fun a hf => ?_
    refine q_ hf rfl rfl rfl (e_geB hf (x := c1) (y := 97) rfl rfl) fun a hf => ?_
    refine q_ hf rfl rfl rfl (e_move hf rfl) fun a hf => ?_
    rcases cond_some h5 with ⟨hc6, h5⟩ | ⟨hc6, h5⟩
    · refine gq (wanted_t hf rfl rfl rfl rfl hc6) hf rfl rfl (e_move hf rfl) fun a hf => ?_
      refine gq (wanted_t hf rfl rfl rfl rfl hc6) hf rfl rfl (e_leB hf (x := c1) (y := 122) rfl rfl) fun a hf => ?_
      refine q_ hf rfl rfl rfl (e_pick_t hf rfl hc6 rfl) fun a hf => ?_
      refine q_ hf rfl rfl rfl (e_assign hf rfl) fun a hf => ?_
      refine pl_nil ?_
      obtain rfl := some_inj h5
      refine then_n ?_
      exact ⟨(decide (c1 ≤ 122)), rfl, hf.keep ⟨rfl, trivial⟩, hM.pick [] rfl⟩
    · refine pl_gs (wanted_f hf rfl rfl rfl rfl hc6) hf rfl rfl fun a hf => ?_
      refine pl_gs (wanted_f hf rfl rfl rfl rfl hc6) hf rfl rfl fun a hf => ?_
      refine q_ hf rfl rfl rfl (e_pick_f hf rfl hc6 rfl) fun a hf => ?_
      refine q_ hf rfl rfl rfl (e_assign hf rfl) fun a hf => ?_
      refine pl_nil ?_
      obtain rfl := some_inj h5
      refine then_n ?_
      exact ⟨false, rfl, hf.keep ⟨rfl, trivial⟩, hM.pick [] rfl⟩
  · rintro a w9 ⟨t2, rfl, hf, hM⟩
    try dsimp only at h
    refine wp_ret ?_
    obtain rfl := some_inj h
    exact leave1 hf rfl rfl ⟨rfl, hM.fin⟩

set_option maxRecDepth 100000 in
set_option maxHeartbeats 4000000 in
theorem r_spec_l03Capital (C : Cx) (c1 : UInt8) (r : Bool) (h : m_spec_l03Capital c1 = some r) :
    Calls Tryd.prog 63 #[vB (c1)] C.w0 fun e w => e = .returned (.bool (r)) ∧ Mem C w [] [] := by
  have hM := Mem.begin C [] trivial
  refine enter Tryd.func63 rfl Tryd.ntmps63 rfl fun a hf => ?_
  unfold m_spec_l03Capital at h
  refine wp_seq ?_
  refine region_pl ?_
  refine q_ hf rfl rfl rfl (e_assign hf rfl) fun a hf => ?_
  refine pl_nil ?_
  refine then_n ?_
  obtain ⟨x4, h5, h⟩ := bind_some h
  refine seq_join (fun a w => ∃ (t2 : Bool), t2 = x4 ∧ Has 9 a [(2, .bool (t2))] ∧ Mem C w [] []) ?_ ?_
  · refine region_pl ?_
    refine q_ hf rfl rfl rfl (e_move hf rfl) fun a hf => ?_
    refine q_ hf rfl rfl rfl (e_geB hf (x := c1) (y := 65) rfl rfl) fun a hf => ?_
    refine q_ hf rfl rfl rfl (e_move hf rfl) fun a hf => ?_
    rcases cond_some h5 with ⟨hc6, h5⟩ | ⟨hc6, h5⟩
    · refine gq (wanted_t hf rfl rfl rfl rfl hc6) hf rfl rfl (e_move hf rfl) fun a hf => ?_
      refine gq (wanted_t hf rfl rfl rfl rfl hc6) hf rfl rfl (e_leB hf (x := c1) (y := 90) rfl rfl) fun a hf => ?_
      refine q_ hf rfl rfl rfl (e_pick_t hf rfl hc6 rfl) fun a hf => ?_
      refine q_ hf rfl rfl rfl (e_assign hf rfl) fun a hf => ?_
      refine pl_nil ?_
      obtain rfl := some_inj h5
      refine then_n ?_
      exact ⟨(decide (c1 ≤ 90)), rfl, hf.keep ⟨rfl, trivial⟩, hM.pick [] rfl⟩
    · refine pl_gs (wanted_f hf rfl rfl rfl rfl hc6) hf rfl rfl fun a hf => ?_
      refine pl_gs (wanted_f hf rfl rfl rfl rfl hc6) hf rfl rfl fun a hf => ?_
      refine q_ hf rfl rfl rfl (e_pick_f hf rfl hc6 rfl) fun a hf => ?_
      refine q_ hf rfl rfl rfl (e_assign hf rfl) fun a hf => ?_
      refine pl_nil ?_
      obtain rfl := some_inj h5
      refine then_n ?_
      exact ⟨false, rfl, hf.keep ⟨rfl, trivial⟩, hM.pick [] rfl⟩
  · rintro a w9 ⟨t2, rfl, hf, hM⟩
    try dsimp only at h
    refine wp_ret ?_
    obtain rfl := some_inj h
    exact leave1 hf rfl rfl ⟨rfl, hM.fin⟩

set_option maxRecDepth 100000 in
set_option maxHeartbeats 4000000 in
theorem r_spec_l03Placed (C : Cx) (word1 : Str) (hp2 : word1.length ≤ maxLen) (r : Bool) (h : m_spec_l03Placed word1 = some r) :
    Calls Tryd.prog 53 #[vS (word1)] C.w0 fun e w => e = .returned (.bool (r)) ∧ Mem C w [] [] := by
  have hM := Mem.begin C [] trivial
  refine enter Tryd.func53 rfl Tryd.ntmps53 rfl fun a hf => ?_
  unfold m_spec_l03Placed at h
  refine wp_seq ?_
  refine region_pl ?_
  refine q_ hf rfl rfl rfl (e_assign hf rfl) fun a hf => ?_
  refine pl_nil ?_
  refine then_n ?_
  obtain ⟨x3, h4, h⟩ := bind_some h
  refine seq_join (fun a w => (.inl ()) = x3 ∧ Has 25 a [(0, vS (word1))] ∧ Mem C w [] []) ?_ ?_
  · refine wp_seq ?_
    refine region_pl ?_
    refine q_ hf rfl rfl rfl (e_assign hf rfl) fun a hf => ?_
    refine pl_nil ?_
    refine then_n ?_
    refine wp_block ?_
    obtain ⟨x8, h9, h4⟩ := bind_some h4
    refine wp_loopM h9 (fun s a w => ∃ (n5 : Int), n5 = s ∧ Has 25 a [(0, vS (word1)), (3, vI (n5))] ∧ Mem C w [] [] ∧ R64 n5) ?_ ?_
    · exact ⟨0, rfl, hf.keep ⟨rfl, rfl, trivial⟩, hM.pick [] rfl, (R64_lit rfl)⟩
    · rintro s o10 a w7 ⟨n5, rfl, hf, hM, hv6⟩ h11 hd12
      replace h11 : m_spec_l03Placed_l1 word1 n5 = some o10 := h11
      unfold m_spec_l03Placed_l1 at h11
      refine wp_seq ?_
      refine wp_seq ?_
      refine region_pl ?_
      refine q_ hf rfl rfl rfl (e_move hf rfl) fun a hf => ?_
      refine q_ hf rfl rfl rfl (e_move hf rfl) fun a hf => ?_
      refine q_ hf rfl rfl rfl (e_lenS hf (x := word1) rfl Tryd.underlying9) fun a hf => ?_
      refine q_ hf rfl rfl rfl (e_lt hf (x := n5) (y := (word1.length : Int)) rfl rfl) fun a hf => ?_
      refine pl_nil ?_
      refine then_n ?_
      rcases cond_some h11 with ⟨hc13, h11⟩ | ⟨hc13, h11⟩
      · refine cond_t hf rfl hc13 ?_
        refine wp_skip ?_
        refine then_n ?_
        refine wp_seq ?_
        refine wp_block ?_
        obtain ⟨x16, h17, h11⟩ := bind_some h11
        refine seq_join (fun a w => ∃ (t14 : Bool), t14 = x16 ∧ Has 25 a [(0, vS (word1)), (3, vI (n5)), (21, .bool (t14))] ∧ Mem C w [] []) ?_ ?_
        · refine region_pl ?_
          refine q_ hf rfl rfl rfl (e_move hf rfl) fun a hf => ?_
          refine q_ hf rfl rfl rfl (e_move hf rfl) fun a hf => ?_
          obtain ⟨c18, hz19, h17⟩ := bind_some h17
          refine q_ hf rfl rfl rfl (e_indexS hf (x := word1) rfl rfl Tryd.underlying9 hz19) fun a hf => ?_
          obtain ⟨y20, hz21, h17⟩ := bind_some h17
          refine pl_l hf rfl rfl rfl (w_call hf Tryd.call62 rfl (r_spec_l01Small ⟨_, Sh C _ _, none_, hM.sh_lt, none_not, C.G, hM.g_lt, g_none, hM.tabs⟩ c18 _ hz21) ?_)
          rintro _ w22 ⟨rfl, hM2⟩
          obtain ⟨hM, hx23, hup24⟩ := hM.back hM2
          dsimp only [List.cons_append, List.nil_append] at hM hup24
          clear hM2
          refine ⟨_, rfl, fun a hf => ?_⟩
          refine q_ hf rfl rfl rfl (e_not hf rfl) fun a hf => ?_
          refine q_ hf rfl rfl rfl (e_move hf rfl) fun a hf => ?_
          rcases cond_some h17 with ⟨hc25, h17⟩ | ⟨hc25, h17⟩
          · refine gq (wanted_t hf rfl rfl rfl rfl hc25) hf rfl rfl (e_move hf rfl) fun a hf => ?_
            refine gq (wanted_t hf rfl rfl rfl rfl hc25) hf rfl rfl (e_move hf rfl) fun a hf => ?_
            obtain ⟨c26, hz27, h17⟩ := bind_some h17
            refine gq (wanted_t hf rfl rfl rfl rfl hc25) hf rfl rfl (e_indexS hf (x := word1) rfl rfl Tryd.underlying9 hz27) fun a hf => ?_
            obtain ⟨y28, hz29, h17⟩ := bind_some h17
            refine pl_gl (wanted_t hf rfl rfl rfl rfl hc25) hf rfl rfl (w_call hf Tryd.call63 rfl (r_spec_l03Capital ⟨_, Sh C _ _, none_, hM.sh_lt, none_not, C.G, hM.g_lt, g_none, hM.tabs⟩ c26 _ hz29) ?_)
            rintro _ w30 ⟨rfl, hM2⟩
            obtain ⟨hM, hx31, hup32⟩ := hM.back hM2
            dsimp only [List.cons_append, List.nil_append] at hM hup32
            clear hM2
            refine ⟨_, rfl, fun a hf => ?_⟩
            refine gq (wanted_t hf rfl rfl rfl rfl hc25) hf rfl rfl (e_not hf rfl) fun a hf => ?_
            refine q_ hf rfl rfl rfl (e_pick_t hf rfl hc25 rfl) fun a hf => ?_
            refine pl_nil ?_
            obtain rfl := some_inj h17
            refine then_n ?_
            exact ⟨(!y28), rfl, hf.keep ⟨rfl, rfl, rfl, trivial⟩, hM.pick [] rfl⟩
          · refine pl_gs (wanted_f hf rfl rfl rfl rfl hc25) hf rfl rfl fun a hf => ?_
            refine pl_gs (wanted_f hf rfl rfl rfl rfl hc25) hf rfl rfl fun a hf => ?_
            refine pl_gs (wanted_f hf rfl rfl rfl rfl hc25) hf rfl rfl fun a hf => ?_
            refine pl_gs (wanted_f hf rfl rfl rfl rfl hc25) hf rfl rfl fun a hf => ?_
            refine pl_gs (wanted_f hf rfl rfl rfl rfl hc25) hf rfl rfl fun a hf => ?_
            refine q_ hf rfl rfl rfl (e_pick_f hf rfl hc25 rfl) fun a hf => ?_
            refine pl_nil ?_
            obtain rfl := some_inj h17
            refine then_n ?_
            exact ⟨false, rfl, hf.keep ⟨rfl, rfl, rfl, trivial⟩, hM.pick [] rfl⟩
        · rintro a w35 ⟨t14, rfl, hf, hM⟩
          try dsimp only at h11
          rcases cond_some h11 with ⟨hc36, h11⟩ | ⟨hc36, h11⟩
          · refine cond_t hf rfl hc36 ?_
            refine wp_seq ?_
            refine region_pl ?_
            refine q_ hf rfl rfl rfl (e_assign hf rfl) fun a hf => ?_
            refine pl_nil ?_
            refine then_n ?_
            refine wp_ret ?_
            refine blk_r ?_
            refine then_r ?_
            obtain rfl := some_inj h11
            obtain rfl := hd12 _ rfl
            try dsimp only at h4
            refine then_r ?_
            refine blk_r ?_
            obtain rfl := some_inj h4
            try dsimp only at h
            refine then_r ?_
            obtain rfl := some_inj h
            exact leave1 hf rfl rfl ⟨rfl, hM.fin⟩
          · refine cond_f hf rfl hc36 ?_
            refine wp_skip ?_
            refine blk_n ?_
            refine then_n ?_
            refine region_pl ?_
            refine q_ hf rfl rfl rfl (e_move hf rfl) fun a hf => ?_
            obtain ⟨z37, hz38, h11⟩ := bind_some h11
            refine q_ hf rfl rfl rfl (e_add hf rfl rfl hz38) fun a hf => ?_
            refine q_ hf rfl rfl rfl (e_assign hf rfl) fun a hf => ?_
            refine pl_nil ?_
            obtain rfl := some_inj h11
            refine then_n ⟨_, rfl, ?_⟩
            exact ⟨z37, rfl, hf.keep ⟨rfl, rfl, trivial⟩, hM.pick [] rfl, (chk_R hz38)⟩
      · refine cond_f hf rfl hc13 ?_
        refine wp_exit ?_
        refine then_x ?_
        obtain rfl := some_inj h11
        obtain rfl := hd12 _ rfl
        try dsimp only at h4
        refine then_x ?_
        refine exit_hit ?_
        obtain rfl := some_inj h4
        refine then_n ?_
        exact ⟨rfl, hf.keep ⟨rfl, trivial⟩, hM.pick [] rfl⟩
  · rintro a w45 ⟨rfl, hf, hM⟩
    try dsimp only at h
    refine wp_seq ?_
    refine region_pl ?_
    refine q_ hf rfl rfl rfl (e_move hf rfl) fun a hf => ?_
    refine q_ hf rfl rfl rfl (e_lenS hf (x := word1) rfl Tryd.underlying9) fun a hf => ?_
    obtain ⟨y46, hz47, h⟩ := bind_some h
    refine pl_l hf rfl rfl rfl (w_call hf Tryd.call34 rfl (r_spec_l00In ⟨_, Sh C _ _, none_, hM.sh_lt, none_not, C.G, hM.g_lt, g_none, hM.tabs⟩ (word1.length : Int) (R64_len hp2) 1 (R64_lit rfl) 12 (R64_lit rfl) _ hz47) ?_)
    rintro _ w48 ⟨rfl, hM2⟩
    obtain ⟨hM, hx49, hup50⟩ := hM.back hM2
    dsimp only [List.cons_append, List.nil_append] at hM hup50
    clear hM2
    refine ⟨_, rfl, fun a hf => ?_⟩
    refine q_ hf rfl rfl rfl (e_assign hf rfl) fun a hf => ?_
    refine pl_nil ?_
    refine then_n ?_
    refine wp_ret ?_
    obtain rfl := some_inj h
    exact leave1 hf rfl rfl ⟨rfl, hM.fin⟩

set_option maxRecDepth 100000 in
set_option maxHeartbeats 4000000 in
theorem r_spec_l12Word (C : Cx) (word1 : Str) (hp2 : word1.length ≤ maxLen) (r : Bool) (h : m_spec_l12Word word1 = some r) :
    Calls Tryd.prog 43 #[vS (word1)] C.w0 fun e w => e = .returned (.bool (r)) ∧ Mem C w [] [] := by
  have hM := Mem.begin C [] trivial
  refine enter Tryd.func43 rfl Tryd.ntmps43 rfl fun a hf => ?_
  unfold m_spec_l12Word at h
  refine wp_seq ?_
  refine region_pl ?_
  refine q_ hf rfl rfl rfl (e_assign hf rfl) fun a hf => ?_
  refine pl_nil ?_
  refine then_n ?_
  obtain ⟨x5, h6, h⟩ := bind_some h
  refine seq_join (fun a w => ∃ (t3 : Bool), t3 = x5 ∧ Has 10 a [(2, .bool (t3))] ∧ Mem C w [] []) ?_ ?_
  · refine region_pl ?_
    refine q_ hf rfl rfl rfl (e_move hf rfl) fun a hf => ?_
    refine q_ hf rfl rfl rfl (e_lenS hf (x := word1) rfl Tryd.underlying9) fun a hf => ?_
    refine q_ hf rfl rfl rfl (e_gt hf (x := (word1.length : Int)) (y := 1) rfl rfl) fun a hf => ?_
    refine q_ hf rfl rfl rfl (e_move hf rfl) fun a hf => ?_
    rcases cond_some h6 with ⟨hc7, h6⟩ | ⟨hc7, h6⟩
    · refine gq (wanted_t hf rfl rfl rfl rfl hc7) hf rfl rfl (e_move hf rfl) fun a hf => ?_
      obtain ⟨y8, hz9, h6⟩ := bind_some h6
      refine pl_gl (wanted_t hf rfl rfl rfl rfl hc7) hf rfl rfl (w_call hf Tryd.call53 rfl (r_spec_l03Placed ⟨_, Sh C _ _, none_, hM.sh_lt, none_not, C.G, hM.g_lt, g_none, hM.tabs⟩ word1 hp2 _ hz9) ?_)
      rintro _ w10 ⟨rfl, hM2⟩
      obtain ⟨hM, hx11, hup12⟩ := hM.back hM2
      dsimp only [List.cons_append, List.nil_append] at hM hup12
      clear hM2
      refine ⟨_, rfl, fun a hf => ?_⟩
      refine q_ hf rfl rfl rfl (e_pick_t hf rfl hc7 rfl) fun a hf => ?_
      refine q_ hf rfl rfl rfl (e_assign hf rfl) fun a hf => ?_
      refine pl_nil ?_
      obtain rfl := some_inj h6
      refine then_n ?_
      exact ⟨y8, rfl, hf.keep ⟨rfl, trivial⟩, hM.pick [] rfl⟩
    · refine pl_gs (wanted_f hf rfl rfl rfl rfl hc7) hf rfl rfl fun a hf => ?_
      refine pl_gs (wanted_f hf rfl rfl rfl rfl hc7) hf rfl rfl fun a hf => ?_
      refine q_ hf rfl rfl rfl (e_pick_f hf rfl hc7 rfl) fun a hf => ?_
      refine q_ hf rfl rfl rfl (e_assign hf rfl) fun a hf => ?_
      refine pl_nil ?_
      obtain rfl := some_inj h6
      refine then_n ?_
      exact ⟨false, rfl, hf.keep ⟨rfl, trivial⟩, hM.pick [] rfl⟩
  · rintro a w15 ⟨t3, rfl, hf, hM⟩
    try dsimp only at h
    refine wp_ret ?_
    obtain rfl := some_inj h
    exact leave1 hf rfl rfl ⟨rfl, hM.fin⟩

set_option maxRecDepth 100000 in
set_option maxHeartbeats 4000000 in
theorem r_spec_l12Plain (C : Cx) (p1 : Play) (hp2 : R64 p1.Row) (hp3 : R64 p1.Col) (hp4 : p1.Word.length ≤ maxLen) (r : Bool) (h : m_spec_l12Plain p1 = some r) :
    Calls Tryd.prog 37 #[.agg #[vI (p1.Row), vI (p1.Col), .bool (p1.Down), vS (p1.Word)]] C.w0 fun e w => e = .returned (.bool (r)) ∧ Mem C w [] [] := by
  have hM := Mem.begin C [] trivial
  refine enter Tryd.func37 rfl Tryd.ntmps37 rfl fun a hf => ?_
  unfold m_spec_l12Plain at h
  refine wp_seq ?_
  refine region_pl ?_
  refine pl_l hf rfl rfl rfl (w_box hf hM (cs := [vI (p1.Row), vI (p1.Col), .bool (p1.Down), vS (p1.Word)]) rfl rfl fun b5 w6 hx7 hM a hf => ?_)
  refine q_ hf rfl rfl rfl (e_assign hf rfl) fun a hf => ?_
  refine pl_nil ?_
  refine then_n ?_
  obtain ⟨x11, h12, h⟩ := bind_some h
  refine seq_join (fun a w => ∃ (t9 : Bool), t9 = x11 ∧ Has 16 a [(2, .bool (t9))] ∧ Mem C w [.box b5 [vI (p1.Row), vI (p1.Col), .bool (p1.Down), vS (p1.Word)] 43] []) ?_ ?_
  · refine region_pl ?_
    refine q_ hf rfl rfl rfl (e_field hf rfl Tryd.underlying43 rfl Tryd.sizeOf2 (o' := 0) rfl) fun a hf => ?_
    refine q_ hf rfl rfl rfl (e_load1 hf rfl Tryd.isAgg2 (hM.boxCell (k := 0) rfl rfl)) fun a hf => ?_
    obtain ⟨y13, hz14, h12⟩ := bind_some h12
    refine pl_l hf rfl rfl rfl (w_call hf Tryd.call34 rfl (r_spec_l00In ⟨_, Sh C _ _, none_, hM.sh_lt, none_not, C.G, hM.g_lt, g_none, hM.tabs⟩ p1.Row hp2 0 (R64_lit rfl) 14 (R64_lit rfl) _ hz14) ?_)
    rintro _ w15 ⟨rfl, hM2⟩
    obtain ⟨hM, hx16, hup17⟩ := hM.back hM2
    dsimp only [List.cons_append, List.nil_append] at hM hup17
    clear hM2
    refine ⟨_, rfl, fun a hf => ?_⟩
    refine q_ hf rfl rfl rfl (e_move hf rfl) fun a hf => ?_
    rcases cond_some h12 with ⟨hc18, h12⟩ | ⟨hc18, h12⟩
    · refine gq (wanted_t hf rfl rfl rfl rfl hc18) hf rfl rfl (e_field hf rfl Tryd.underlying43 rfl Tryd.sizeOf2 (o' := 1) rfl) fun a hf => ?_
      refine gq (wanted_t hf rfl rfl rfl rfl hc18) hf rfl rfl (e_load1 hf rfl Tryd.isAgg2 (hM.boxCell (k := 0) rfl rfl)) fun a hf => ?_
      obtain ⟨y19, hz20, h12⟩ := bind_some h12
      refine pl_gl (wanted_t hf rfl rfl rfl rfl hc18) hf rfl rfl (w_call hf Tryd.call34 rfl (r_spec_l00In ⟨_, Sh C _ _, none_, hM.sh_lt, none_not, C.G, hM.g_lt, g_none, hM.tabs⟩ p1.Col hp3 0 (R64_lit rfl) 14 (R64_lit rfl) _ hz20) ?_)
      rintro _ w21 ⟨rfl, hM2⟩
      obtain ⟨hM, hx22, hup23⟩ := hM.back hM2
      dsimp only [List.cons_append, List.nil_append] at hM hup23
      clear hM2
      refine ⟨_, rfl, fun a hf => ?_⟩
      refine q_ hf rfl rfl rfl (e_pick_t hf rfl hc18 rfl) fun a hf => ?_
      refine q_ hf rfl rfl rfl (e_move hf rfl) fun a hf => ?_
      rcases cond_some h12 with ⟨hc24, h12⟩ | ⟨hc24, h12⟩
      · refine gq (wanted_t hf rfl rfl rfl rfl hc24) hf rfl rfl (e_field hf rfl Tryd.underlying43 rfl Tryd.sizeOf9 (o' := 3) rfl) fun a hf => ?_
        refine gq (wanted_t hf rfl rfl rfl rfl hc24) hf rfl rfl (e_load1 hf rfl Tryd.isAgg9 (hM.boxCell (k := 0) rfl rfl)) fun a hf => ?_
        obtain ⟨y25, hz26, h12⟩ := bind_some h12
        refine pl_gl (wanted_t hf rfl rfl rfl rfl hc24) hf rfl rfl (w_call hf Tryd.call43 rfl (r_spec_l12Word ⟨_, Sh C _ _, none_, hM.sh_lt, none_not, C.G, hM.g_lt, g_none, hM.tabs⟩ p1.Word hp4 _ hz26) ?_)
        rintro _ w27 ⟨rfl, hM2⟩
        obtain ⟨hM, hx28, hup29⟩ := hM.back hM2
        dsimp only [List.cons_append, List.nil_append] at hM hup29
        clear hM2
        refine ⟨_, rfl, fun a hf => ?_⟩
        refine q_ hf rfl rfl rfl (e_pick_t hf rfl hc24 rfl) fun a hf => ?_
        refine q_ hf rfl rfl rfl (e_assign hf rfl) fun a hf => ?_
        refine pl_nil ?_
        obtain rfl := some_inj h12
        refine then_n ?_
        exact ⟨y25, rfl, hf.keep ⟨rfl, trivial⟩, hM.pick [] rfl⟩
      · refine pl_gs (wanted_f hf rfl rfl rfl rfl hc24) hf rfl rfl fun a hf => ?_
        refine pl_gs (wanted_f hf rfl rfl rfl rfl hc24) hf rfl rfl fun a hf => ?_
        refine pl_gs (wanted_f hf rfl rfl rfl rfl hc24) hf rfl rfl fun a hf => ?_
        refine q_ hf rfl rfl rfl (e_pick_f hf rfl hc24 rfl) fun a hf => ?_
        refine q_ hf rfl rfl rfl (e_assign hf rfl) fun a hf => ?_
        refine pl_nil ?_
        obtain rfl := some_inj h12
        refine then_n ?_
        exact ⟨false, rfl, hf.keep ⟨rfl, trivial⟩, hM.pick [] rfl⟩
    · refine pl_gs (wanted_f hf rfl rfl rfl rfl hc18) hf rfl rfl fun a hf => ?_
      refine pl_gs (wanted_f hf rfl rfl rfl rfl hc18) hf rfl rfl fun a hf => ?_
      refine pl_gs (wanted_f hf rfl rfl rfl rfl hc18) hf rfl rfl fun a hf => ?_
      refine q_ hf rfl rfl rfl (e_pick_f hf rfl hc18 rfl) fun a hf => ?_
      refine q_ hf rfl rfl rfl (e_move hf rfl) fun a hf => ?_
      refine pl_gs (wanted_f hf rfl rfl rfl rfl rfl) hf rfl rfl fun a hf => ?_
      refine pl_gs (wanted_f hf rfl rfl rfl rfl rfl) hf rfl rfl fun a hf => ?_
      refine pl_gs (wanted_f hf rfl rfl rfl rfl rfl) hf rfl rfl fun a hf => ?_
      refine q_ hf rfl rfl rfl (e_pick_f hf rfl rfl rfl) fun a hf => ?_
      refine q_ hf rfl rfl rfl (e_assign hf rfl) fun a hf => ?_
      refine pl_nil ?_
      obtain rfl := some_inj h12
      refine then_n ?_
      exact ⟨false, rfl, hf.keep ⟨rfl, trivial⟩, hM.pick [] rfl⟩
  · rintro a w33 ⟨t9, rfl, hf, hM⟩
    try dsimp only at h
    refine wp_ret ?_
    obtain rfl := some_inj h
    have hM := hM.outs (own' := []) 0 rfl
    exact leave1 hf rfl rfl ⟨rfl, hM.fin⟩

set_option maxRecDepth 100000 in
set_option maxHeartbeats 4000000 in
theorem r_spec_l01Dec (C : Cx) (n1 : Int) (hp2 : R64 n1) (r : Str) (h : m_spec_l01Dec n1 = some r) :
    Calls Tryd.prog 22 #[vI (n1)] C.w0 fun e w => e = .returned (vS (r)) ∧ Mem C w [] [] ∧ r.length ≤ maxLen := by
  have hM := Mem.begin C [] trivial
  refine enter Tryd.func22 rfl Tryd.ntmps22 rfl fun a hf => ?_
  unfold m_spec_l01Dec at h
  refine wp_seq ?_
  refine region_pl ?_
  refine q_ hf rfl rfl rfl (e_assign hf rfl) fun a hf => ?_
  refine pl_nil ?_
  refine then_n ?_
  refine wp_seq ?_
  refine region_pl ?_
  refine pl_l hf rfl rfl rfl (w_slice0 (K := byteRep) hM Tryd.underlying67 ei_5 fun b3 w4 hx5 hM a hf => ?_)
  refine q_ hf rfl rfl rfl (e_assign hf rfl) fun a hf => ?_
  refine pl_nil ?_
  refine then_n ?_
  obtain ⟨x9, h10, h⟩ := bind_some h
  refine seq_join (fun a w => ∃ (xs6 : Str) (A7 : Option Addr) (c8 : Nat), xs6 = x9 ∧ Has 34 a [(0, vI (n1)), (3, vL A7 (xs6) c8)] ∧ Mem C w [.row byteRep A7 c8 5 xs6 true] []) ?_ ?_
  · refine wp_seq ?_
    refine region_pl ?_
    refine q_ hf rfl rfl rfl (e_move hf rfl) fun a hf => ?_
    refine q_ hf rfl rfl rfl (e_assign hf rfl) fun a hf => ?_
    refine pl_nil ?_
    refine then_n ?_
    refine wp_block ?_
    obtain ⟨x20, h21, h10⟩ := bind_some h10
    refine wp_loopM h21 (fun s a w => ∃ (xs11 : Str) (d14 : Int) (A12 : Option Addr) (c13 : Nat), (xs11, d14) = s ∧ Has 34 a [(0, vI (n1)), (3, vL A12 (xs11) c13), (4, vI (d14))] ∧ Mem C w [.row byteRep A12 c13 5 xs11 true] [] ∧ R64 d14) ?_ ?_
    · exact ⟨([] : Str), n1, (some ⟨b3, 0, none⟩), 0, rfl, hf.keep ⟨rfl, rfl, rfl, trivial⟩, hM.pick [] rfl, hp2⟩
    · rintro s o22 a w16 ⟨xs11, d14, A12, c13, rfl, hf, hM, hv15⟩ h23 hd24
      replace h23 : m_spec_l01Dec_l1 xs11 d14 = some o22 := h23
      unfold m_spec_l01Dec_l1 at h23
      refine wp_seq ?_
      refine wp_seq ?_
      refine region_pl ?_
      refine q_ hf rfl rfl rfl (e_move hf rfl) fun a hf => ?_
      refine q_ hf rfl rfl rfl (e_ne hf (x := d14) (y := 0) rfl rfl) fun a hf => ?_
      refine pl_nil ?_
      refine then_n ?_
      rcases cond_some h23 with ⟨hc25, h23⟩ | ⟨hc25, h23⟩
      · refine cond_t hf rfl hc25 ?_
        refine wp_skip ?_
        refine then_n ?_
        refine wp_seq ?_
        refine wp_block ?_
        refine wp_seq ?_
        refine region_pl ?_
        refine q_ hf rfl rfl rfl (e_move hf rfl) fun a hf => ?_
        obtain ⟨z26, hz27, h23⟩ := bind_some h23
        refine q_ hf rfl rfl rfl (e_rem hf rfl rfl hz27) fun a hf => ?_
        refine q_ hf rfl rfl rfl (e_assign hf rfl) fun a hf => ?_
        refine pl_nil ?_
        refine then_n ?_
        obtain ⟨x30, h31, h23⟩ := bind_some h23
        refine seq_join (fun a w => ∃ (n28 : Int), n28 = x30 ∧ Has 34 a [(0, vI (n1)), (3, vL A12 (xs11) c13), (4, vI (d14)), (5, vI (n28))] ∧ Mem C w [.row byteRep A12 c13 5 xs11 true] [] ∧ R64 n28) ?_ ?_
        · refine wp_seq ?_
          refine region_pl ?_
          refine q_ hf rfl rfl rfl (e_move hf rfl) fun a hf => ?_
          refine q_ hf rfl rfl rfl (e_lt hf (x := z26) (y := 0) rfl rfl) fun a hf => ?_
          refine pl_nil ?_
          refine then_n ?_
          rcases cond_some h31 with ⟨hc32, h31⟩ | ⟨hc32, h31⟩
          · refine cond_t hf rfl hc32 ?_
            refine region_pl ?_
            refine q_ hf rfl rfl rfl (e_move hf rfl) fun a hf => ?_
            obtain ⟨z33, hz34, h31⟩ := bind_some h31
            refine q_ hf rfl rfl rfl (e_neg hf rfl hz34) fun a hf => ?_
            refine q_ hf rfl rfl rfl (e_assign hf rfl) fun a hf => ?_
            refine pl_nil ?_
            obtain rfl := some_inj h31
            refine then_n ?_
            exact ⟨z33, rfl, hf.keep ⟨rfl, rfl, rfl, rfl, trivial⟩, hM.pick [] rfl, (chk_R hz34)⟩
          · refine cond_f hf rfl hc32 ?_
            refine wp_skip ?_
            obtain rfl := some_inj h31
            refine then_n ?_
            exact ⟨z26, rfl, hf.keep ⟨rfl, rfl, rfl, rfl, trivial⟩, hM.pick [] rfl, (remI_R hz27 hv15)⟩
        · rintro a w37 ⟨n28, rfl, hf, hM, hv29⟩
          try dsimp only at h23
          refine region_pl ?_
          refine q_ hf rfl rfl rfl (e_move hf rfl) fun a hf => ?_
          obtain ⟨z38, hz39, h23⟩ := bind_some h23
          refine q_ hf rfl rfl rfl (e_add hf rfl rfl hz39) fun a hf => ?_
          refine q_ hf rfl rfl rfl (e_convIB hf rfl Tryd.underlying2 Tryd.underlying5) fun a hf => ?_
          refine pl_l hf rfl rfl rfl (w_slice hf hM (K := byteRep) (xs := ([UInt8.ofNat (z38 % 256).toNat] : Str)) (os := [.tmp 20]) Tryd.underlying67 ei_5 rfl rfl rfl rfl rfl ⟨⟨[vB (UInt8.ofNat (z38 % 256).toNat)], rfl, rfl⟩, trivial⟩ rfl fun b40 w41 hx42 hM a hf => ?_)
          refine q_ hf rfl rfl rfl (e_move hf rfl) fun a hf => ?_
          have hM := hM.freezeRow (k := 1) rfl rfl
          dsimp only [List.eraseIdx] at hM
          obtain ⟨xs43, hz44, h23⟩ := bind_some h23
          refine pl_l hf rfl rfl rfl (w_appendD hf hM Tryd.underlying67 ei_5 rfl rfl rfl (k := 0) rfl (hM.dat (k := 0) rfl) hz44 fun A45 c46 w47 hM a hf => ?_)
          dsimp only [List.set] at hM
          refine q_ hf rfl rfl rfl (e_assign hf rfl) fun a hf => ?_
          refine pl_nil ?_
          refine blk_n ?_
          refine then_n ?_
          refine region_pl ?_
          refine q_ hf rfl rfl rfl (e_move hf rfl) fun a hf => ?_
          obtain ⟨z50, hz51, h23⟩ := bind_some h23
          refine q_ hf rfl rfl rfl (e_quo hf rfl rfl hz51) fun a hf => ?_
          refine q_ hf rfl rfl rfl (e_assign hf rfl) fun a hf => ?_
          refine pl_nil ?_
          obtain rfl := some_inj h23
          refine then_n ⟨_, rfl, ?_⟩
          exact ⟨xs43, z50, A45, c46, rfl, hf.keep ⟨rfl, rfl, rfl, trivial⟩, hM.pick [] rfl, (quoI_R hz51)⟩
      · refine cond_f hf rfl hc25 ?_
        refine wp_exit ?_
        refine then_x ?_
        obtain rfl := some_inj h23
        obtain rfl := hd24 _ rfl
        try dsimp only at h10
        refine then_x ?_
        refine exit_hit ?_
        obtain rfl := some_inj h10
        refine then_n ?_
        exact ⟨xs11, A12, c13, rfl, hf.keep ⟨rfl, rfl, trivial⟩, hM.pick [] rfl⟩
  · rintro a w57 ⟨xs6, A7, c8, rfl, hf, hM⟩
    try dsimp only at h
    refine wp_seq ?_
    refine wp_seq ?_
    refine region_pl ?_
    refine q_ hf rfl rfl rfl (e_move hf rfl) fun a hf => ?_
    have hl58 := row_len (hM.ownAt (k := 0) rfl)
    refine q_ hf rfl rfl rfl (e_lenL hf (x := xs6) rfl Tryd.underlying67) fun a hf => ?_
    refine q_ hf rfl rfl rfl (e_eq hf (x := (xs6.length : Int)) (y := 0) rfl rfl) fun a hf => ?_
    refine pl_nil ?_
    refine then_n ?_
    rcases cond_some h with ⟨hc59, h⟩ | ⟨hc59, h⟩
    · refine cond_t hf rfl hc59 ?_
      refine wp_seq ?_
      refine region_pl ?_
      refine q_ hf rfl rfl rfl (e_assign hf rfl) fun a hf => ?_
      refine pl_nil ?_
      refine then_n ?_
      refine wp_ret ?_
      refine then_r ?_
      obtain rfl := some_inj h
      have hM := hM.outs (own' := []) 0 rfl
      exact leave1 hf rfl rfl ⟨rfl, hM.fin, (lit_len rfl)⟩
    · refine cond_f hf rfl hc59 ?_
      refine wp_skip ?_
      refine then_n ?_
      refine wp_seq ?_
      refine wp_seq ?_
      refine region_pl ?_
      refine q_ hf rfl rfl rfl (e_move hf rfl) fun a hf => ?_
      refine q_ hf rfl rfl rfl (e_lt hf (x := n1) (y := 0) rfl rfl) fun a hf => ?_
      refine pl_nil ?_
      refine then_n ?_
      rcases cond_some h with ⟨hc60, h⟩ | ⟨hc60, h⟩
      · refine cond_t hf rfl hc60 ?_
        refine wp_seq ?_
        refine region_pl ?_
        refine q_ hf rfl rfl rfl (e_move hf rfl) fun a hf => ?_
        have hl61 := row_len (hM.ownAt (k := 0) rfl)
        refine q_ hf rfl rfl rfl (e_bytesStr hf (xs := xs6) rfl Tryd.underlying67 Tryd.underlying5 Tryd.underlying9 (hM.lendRow (k := 0) rfl)) fun a hf => ?_
        obtain ⟨s62, hz63, h⟩ := bind_some h
        refine q_ hf rfl rfl rfl (e_cat hf (x := ([45] : Str)) (y := xs6) rfl rfl hz63) fun a hf => ?_
        refine q_ hf rfl rfl rfl (e_assign hf rfl) fun a hf => ?_
        refine pl_nil ?_
        refine then_n ?_
        refine wp_ret ?_
        refine then_r ?_
        obtain rfl := some_inj h
        have hM := hM.outs (own' := []) 0 rfl
        exact leave1 hf rfl rfl ⟨rfl, hM.fin, (cat_len hz63)⟩
      · refine cond_f hf rfl hc60 ?_
        refine wp_skip ?_
        refine then_n ?_
        refine wp_seq ?_
        refine region_pl ?_
        refine q_ hf rfl rfl rfl (e_move hf rfl) fun a hf => ?_
        have hl64 := row_len (hM.ownAt (k := 0) rfl)
        refine q_ hf rfl rfl rfl (e_bytesStr hf (xs := xs6) rfl Tryd.underlying67 Tryd.underlying5 Tryd.underlying9 (hM.lendRow (k := 0) rfl)) fun a hf => ?_
        refine q_ hf rfl rfl rfl (e_assign hf rfl) fun a hf => ?_
        refine pl_nil ?_
        refine then_n ?_
        refine wp_ret ?_
        obtain rfl := some_inj h
        have hM := hM.outs (own' := []) 0 rfl
        exact leave1 hf rfl rfl ⟨rfl, hM.fin, hl64⟩

set_option maxRecDepth 100000 in
set_option maxHeartbeats 4000000 in
theorem r_spec_l12Text (C : Cx) (p1 : Play) (hp2 : R64 p1.Row) (hp3 : R64 p1.Col) (hp4 : p1.Word.length ≤ maxLen) (r : Str) (h : m_spec_l12Text p1 = some r) :
    Calls Tryd.prog 44 #[.agg #[vI (p1.Row), vI (p1.Col), .bool (p1.Down), vS (p1.Word)]] C.w0 fun e w => e = .returned (vS (r)) ∧ Mem C w [] [] ∧ r.length ≤ maxLen := by
  have hM := Mem.begin C [] trivial
  refine enter Tryd.func44 rfl Tryd.ntmps44 rfl fun a hf => ?_
  unfold m_spec_l12Text at h
  refine wp_seq ?_
  refine region_pl ?_
  refine pl_l hf rfl rfl rfl (w_box hf hM (cs := [vI (p1.Row), vI (p1.Col), .bool (p1.Down), vS (p1.Word)]) rfl rfl fun b5 w6 hx7 hM a hf => ?_)
  refine q_ hf rfl rfl rfl (e_assign hf rfl) fun a hf => ?_
  refine pl_nil ?_
  refine then_n ?_
  refine wp_seq ?_
  refine region_pl ?_
  refine q_ hf rfl rfl rfl (e_field hf rfl Tryd.underlying43 rfl Tryd.sizeOf2 (o' := 0) rfl) fun a hf => ?_
  refine q_ hf rfl rfl rfl (e_load1 hf rfl Tryd.isAgg2 (hM.boxCell (k := 0) rfl rfl)) fun a hf => ?_
  obtain ⟨z9, hz10, h⟩ := bind_some h
  refine q_ hf rfl rfl rfl (e_add hf rfl rfl hz10) fun a hf => ?_
  obtain ⟨y11, hz12, h⟩ := bind_some h
  refine pl_l hf rfl rfl rfl (w_call hf Tryd.call22 rfl (r_spec_l01Dec ⟨_, Sh C _ _, none_, hM.sh_lt, none_not, C.G, hM.g_lt, g_none, hM.tabs⟩ z9 (chk_R hz10) _ hz12) ?_)
  rintro _ w14 ⟨rfl, hM2, hv13⟩
  obtain ⟨hM, hx15, hup16⟩ := hM.back hM2
  dsimp only [List.cons_append, List.nil_append] at hM hup16
  clear hM2
  refine ⟨_, rfl, fun a hf => ?_⟩
  refine q_ hf rfl rfl rfl (e_assign hf rfl) fun a hf => ?_
  refine pl_nil ?_
  refine then_n ?_
  refine wp_seq ?_
  refine region_pl ?_
  refine q_ hf rfl rfl rfl (e_field hf rfl Tryd.underlying43 rfl Tryd.sizeOf2 (o' := 1) rfl) fun a hf => ?_
  refine q_ hf rfl rfl rfl (e_load1 hf rfl Tryd.isAgg2 (hM.boxCell (k := 0) rfl rfl)) fun a hf => ?_
  obtain ⟨z17, hz18, h⟩ := bind_some h
  refine q_ hf rfl rfl rfl (e_add hf rfl rfl hz18) fun a hf => ?_
  refine q_ hf rfl rfl rfl (e_convIB hf rfl Tryd.underlying2 Tryd.underlying5) fun a hf => ?_
  refine pl_l hf rfl rfl rfl (w_slice hf hM (K := byteRep) (xs := ([UInt8.ofNat (z17 % 256).toNat] : Str)) (os := [.tmp 12]) Tryd.underlying67 ei_5 rfl rfl rfl rfl rfl ⟨⟨[vB (UInt8.ofNat (z17 % 256).toNat)], rfl, rfl⟩, trivial⟩ rfl fun b19 w20 hx21 hM a hf => ?_)
  have hl22 := row_len (hM.ownAt (k := 0) rfl)
  refine q_ hf rfl rfl rfl (e_bytesStr hf (xs := ([UInt8.ofNat (z17 % 256).toNat] : Str)) rfl Tryd.underlying67 Tryd.underlying5 Tryd.underlying9 (hM.lendRow (k := 0) rfl)) fun a hf => ?_
  refine q_ hf rfl rfl rfl (e_assign hf rfl) fun a hf => ?_
  refine pl_nil ?_
  refine then_n ?_
  refine wp_seq ?_
  refine wp_seq ?_
  refine region_pl ?_
  refine q_ hf rfl rfl rfl (e_field hf rfl Tryd.underlying43 rfl Tryd.sizeOf4 (o' := 2) rfl) fun a hf => ?_
  refine q_ hf rfl rfl rfl (e_load1 hf rfl Tryd.isAgg4 (hM.boxCell (k := 1) rfl rfl)) fun a hf => ?_
  refine pl_nil ?_
  refine then_n ?_
  rcases cond_some h with ⟨hc23, h⟩ | ⟨hc23, h⟩
  · refine cond_t hf rfl hc23 ?_
    refine wp_seq ?_
    refine region_pl ?_
    refine q_ hf rfl rfl rfl (e_move hf rfl) fun a hf => ?_
    refine q_ hf rfl rfl rfl (e_move hf rfl) fun a hf => ?_
    obtain ⟨s24, hz25, h⟩ := bind_some h
    refine q_ hf rfl rfl rfl (e_cat hf (x := ([UInt8.ofNat (z17 % 256).toNat] : Str)) (y := y11) rfl rfl hz25) fun a hf => ?_
    obtain ⟨s26, hz27, h⟩ := bind_some h
    refine q_ hf rfl rfl rfl (e_cat hf (x := s24) (y := ([32] : Str)) rfl rfl hz27) fun a hf => ?_
    refine q_ hf rfl rfl rfl (e_field hf rfl Tryd.underlying43 rfl Tryd.sizeOf9 (o' := 3) rfl) fun a hf => ?_
    refine q_ hf rfl rfl rfl (e_load1 hf rfl Tryd.isAgg9 (hM.boxCell (k := 1) rfl rfl)) fun a hf => ?_
    obtain ⟨s28, hz29, h⟩ := bind_some h
    refine q_ hf rfl rfl rfl (e_cat hf (x := s26) (y := p1.Word) rfl rfl hz29) fun a hf => ?_
    refine q_ hf rfl rfl rfl (e_assign hf rfl) fun a hf => ?_
    refine pl_nil ?_
    refine then_n ?_
    refine wp_ret ?_
    refine then_r ?_
    obtain rfl := some_inj h
    have hM := hM.outs (own' := []) 0 rfl
    exact leave1 hf rfl rfl ⟨rfl, hM.fin, (cat_len hz29)⟩
  · refine cond_f hf rfl hc23 ?_
    refine wp_skip ?_
    refine then_n ?_
    refine wp_seq ?_
    refine region_pl ?_
    refine q_ hf rfl rfl rfl (e_move hf rfl) fun a hf => ?_
    refine q_ hf rfl rfl rfl (e_move hf rfl) fun a hf => ?_
    obtain ⟨s30, hz31, h⟩ := bind_some h
    refine q_ hf rfl rfl rfl (e_cat hf (x := y11) (y := ([UInt8.ofNat (z17 % 256).toNat] : Str)) rfl rfl hz31) fun a hf => ?_
    obtain ⟨s32, hz33, h⟩ := bind_some h
    refine q_ hf rfl rfl rfl (e_cat hf (x := s30) (y := ([32] : Str)) rfl rfl hz33) fun a hf => ?_
    refine q_ hf rfl rfl rfl (e_field hf rfl Tryd.underlying43 rfl Tryd.sizeOf9 (o' := 3) rfl) fun a hf => ?_
    refine q_ hf rfl rfl rfl (e_load1 hf rfl Tryd.isAgg9 (hM.boxCell (k := 1) rfl rfl)) fun a hf => ?_
    obtain ⟨s34, hz35, h⟩ := bind_some h
    refine q_ hf rfl rfl rfl (e_cat hf (x := s32) (y := p1.Word) rfl rfl hz35) fun a hf => ?_
    refine q_ hf rfl rfl rfl (e_assign hf rfl) fun a hf => ?_
    refine pl_nil ?_
    refine then_n ?_
    refine wp_ret ?_
    obtain rfl := some_inj h
    have hM := hM.outs (own' := []) 0 rfl
    exact leave1 hf rfl rfl ⟨rfl, hM.fin, (cat_len hz35)⟩

set_option maxRecDepth 100000 in
set_option maxHeartbeats 4000000 in
theorem r_spec_l15Text (C : Cx) (m1 : Move) (b2 : Nat) (o3 : Nat) (hp4 : (ptrRep MoveRep).R C.w0 C.S0 m1 [vP b2 o3]) (r : Str) (h : m_spec_l15Text m1 = some r) :
    Calls Tryd.prog 38 #[vP b2 (o3)] C.w0 fun e w => e = .returned (vS (r)) ∧ Mem C w [] [] ∧ r.length ≤ maxLen := by
  have hM := Mem.begin C [.dat (ptrRep MoveRep) m1 [vP b2 o3]] ⟨hp4, trivial⟩
  refine enter Tryd.func38 rfl Tryd.ntmps38 rfl fun a hf => ?_
  unfold m_spec_l15Text at h
  refine wp_seq ?_
  refine region_pl ?_
  refine q_ hf rfl rfl rfl (e_assign hf rfl) fun a hf => ?_
  refine pl_nil ?_
  refine then_n ?_
  refine wp_seq ?_
  obtain ⟨w5, hw⟩ : ∃ x, x = C.w0.drew := ⟨_, rfl⟩
  refine region_pi (.q 0 (.q 1 (.q 2 (.q 3 (.q 6 (.q 7 (.q 8 (.q 9 (.l 4 (.q 5 (.l 10 (.q 11 (.q 12 (.nil)))))))))))))) (Ext w5) rfl (by kernel_rfl) ?_
  have hM := hM.drew
  rw [← hw] at hM ⊢
  clear hw
  refine pi_q hf rfl rfl rfl rfl (Ext.refl _) (e_move hf rfl) fun a hf => ?_
  refine pi_q hf rfl rfl rfl rfl (Ext.refl _) (e_nil hf rfl) fun a hf => ?_
  obtain ⟨_, hr6, hM⟩ := hM.deref (hM.dat (k := 0) rfl)
  obtain ⟨rfl, hv7, hv8, hv9, hv10⟩ := MoveRep_open hr6
  refine pi_q hf rfl rfl rfl rfl (Ext.refl _) (e_field hf rfl Tryd.underlying45 rfl Tryd.sizeOf43 (o' := o3 + 0) rfl) fun a hf => ?_
  refine pi_q hf rfl rfl rfl rfl (Ext.refl _) (e_loadA hf (us := [vI (m1.Play.Row), vI (m1.Play.Col), .bool (m1.Play.Down), vS (m1.Play.Word)]) rfl ⟨Tryd.isAgg43, Tryd.sizeOf43⟩ rfl (hM.litSub (k := 0) (d := 0) (us := [vI (m1.Play.Row), vI (m1.Play.Col), .bool (m1.Play.Down), vS (m1.Play.Word)]) rfl rfl rfl)) fun a hf => ?_
  refine pi_q hf rfl rfl rfl rfl (Ext.refl _) (e_move hf rfl) fun a hf => ?_
  refine pi_q hf rfl rfl rfl rfl (Ext.refl _) (e_nil hf rfl) fun a hf => ?_
  refine pi_q hf rfl rfl rfl rfl (Ext.refl _) (e_field hf rfl Tryd.underlying45 rfl Tryd.sizeOf2 (o' := o3 + 4) rfl) fun a hf => ?_
  refine pi_q hf rfl rfl rfl rfl (Ext.refl _) (e_load1 hf rfl Tryd.isAgg2 (hM.litCell (k := 0) (j := 4) rfl rfl rfl)) fun a hf => ?_
  refine pi_one ?_
  obtain ⟨y11, hz12, h⟩ := bind_some h
  refine pi_l hf rfl rfl rfl rfl (w_call hf Tryd.call44 rfl (r_spec_l12Text ⟨_, Sh C _ _, none_, hM.sh_lt, none_not, C.G, hM.g_lt, g_none, hM.tabs⟩ m1.Play hv7 hv8 hv9 _ hz12) ?_)
  rintro _ w14 ⟨rfl, hM2, hv13⟩
  obtain ⟨hM, hx15, hup16⟩ := hM.back hM2
  dsimp only [List.cons_append, List.nil_append] at hM hup16
  clear hM2
  refine ⟨_, rfl, Ext w14, fun _ h => Ext.trans hx15 h, Ext.refl _, fun a hf => ?_⟩
  obtain ⟨s17, hz18, h⟩ := bind_some h
  refine pi_q hf rfl rfl rfl rfl (Ext.refl _) (e_cat hf (x := y11) (y := ([32] : Str)) rfl rfl hz18) fun a hf => ?_
  refine pi_one ?_
  obtain ⟨y19, hz20, h⟩ := bind_some h
  refine pi_l hf rfl rfl rfl rfl (w_call hf Tryd.call22 rfl (r_spec_l01Dec ⟨_, Sh C _ _, none_, hM.sh_lt, none_not, C.G, hM.g_lt, g_none, hM.tabs⟩ m1.Score hv10 _ hz20) ?_)
  rintro _ w22 ⟨rfl, hM2, hv21⟩
  obtain ⟨hM, hx23, hup24⟩ := hM.back hM2
  dsimp only [List.cons_append, List.nil_append] at hM hup24
  clear hM2
  refine ⟨_, rfl, Ext w22, fun _ h => Ext.trans hx23 h, Ext.refl _, fun a hf => ?_⟩
  obtain ⟨s25, hz26, h⟩ := bind_some h
  refine pi_q hf rfl rfl rfl rfl (Ext.refl _) (e_cat hf (x := s17) (y := y19) rfl rfl hz26) fun a hf => ?_
  refine pi_q hf rfl rfl rfl rfl (Ext.refl _) (e_assign hf rfl) fun a hf => ?_
  refine pi_nil ?_
  refine then_n ?_
  refine wp_ret ?_
  obtain rfl := some_inj h
  exact leave1 hf rfl rfl ⟨rfl, hM.fin, (cat_len hz26)⟩

set_option maxRecDepth 100000 in
set_option maxHeartbeats 4000000 in
theorem r_spec_MoveText (C : Cx) (m1 : Move) (hp2 : R64 m1.Play.Row) (hp3 : R64 m1.Play.Col) (hp4 : m1.Play.Word.length ≤ maxLen) (hp5 : R64 m1.Score) (r : Str) (h : m_spec_MoveText m1 = some r) :
    Calls Tryd.prog 27 #[.agg #[vI (m1.Play.Row), vI (m1.Play.Col), .bool (m1.Play.Down), vS (m1.Play.Word), vI (m1.Score)]] C.w0 fun e w => e = .returned (vS (r)) ∧ Mem C w [] [] ∧ r.length ≤ maxLen := by
  have hM := Mem.begin C [] trivial
  refine enter Tryd.func27 rfl Tryd.ntmps27 rfl fun a hf => ?_
  unfold m_spec_MoveText at h
  refine wp_seq ?_
  refine region_pl ?_
  refine pl_l hf rfl rfl rfl (w_box hf hM (cs := [vI (m1.Play.Row), vI (m1.Play.Col), .bool (m1.Play.Down), vS (m1.Play.Word), vI (m1.Score)]) rfl rfl fun b6 w7 hx8 hM a hf => ?_)
  refine q_ hf rfl rfl rfl (e_assign hf rfl) fun a hf => ?_
  refine pl_nil ?_
  refine then_n ?_
  refine wp_seq ?_
  refine wp_seq ?_
  refine region_pl ?_
  refine q_ hf rfl rfl rfl (e_field hf rfl Tryd.underlying45 rfl Tryd.sizeOf43 (o' := 0) rfl) fun a hf => ?_
  refine q_ hf rfl rfl rfl (e_loadA hf (us := [vI (m1.Play.Row), vI (m1.Play.Col), .bool (m1.Play.Down), vS (m1.Play.Word)]) rfl ⟨Tryd.isAgg43, Tryd.sizeOf43⟩ rfl (hM.boxSub (k := 0) (us := [vI (m1.Play.Row), vI (m1.Play.Col), .bool (m1.Play.Down), vS (m1.Play.Word)]) (o := 0) rfl rfl)) fun a hf => ?_
  obtain ⟨y10, hz11, h⟩ := bind_some h
  refine pl_l hf rfl rfl rfl (w_call hf Tryd.call37 rfl (r_spec_l12Plain ⟨_, Sh C _ _, none_, hM.sh_lt, none_not, C.G, hM.g_lt, g_none, hM.tabs⟩ m1.Play hp2 hp3 hp4 _ hz11) ?_)
  rintro _ w12 ⟨rfl, hM2⟩
  obtain ⟨hM, hx13, hup14⟩ := hM.back hM2
  dsimp only [List.cons_append, List.nil_append] at hM hup14
  clear hM2
  refine ⟨_, rfl, fun a hf => ?_⟩
  refine q_ hf rfl rfl rfl (e_not hf rfl) fun a hf => ?_
  refine pl_nil ?_
  refine then_n ?_
  rcases cond_some h with ⟨hc15, h⟩ | ⟨hc15, h⟩
  · refine cond_t hf rfl hc15 ?_
    refine wp_seq ?_
    refine region_pl ?_
    refine q_ hf rfl rfl rfl (e_assign hf rfl) fun a hf => ?_
    refine pl_nil ?_
    refine then_n ?_
    refine wp_ret ?_
    refine then_r ?_
    obtain rfl := some_inj h
    have hM := hM.outs (own' := []) 0 rfl
    exact leave1 hf rfl rfl ⟨rfl, hM.fin, (lit_len rfl)⟩
  · refine cond_f hf rfl hc15 ?_
    refine wp_skip ?_
    refine then_n ?_
    refine wp_seq ?_
    refine region_pl ?_
    obtain ⟨y16, hz17, h⟩ := bind_some h
    refine pl_l hf rfl rfl rfl (w_call hf Tryd.call38 rfl (r_spec_l15Text ⟨_, All C _ _, none_, hM.all_lt, none_not, C.G, hM.g_lt, g_none, hM.tabs⟩ m1 _ _ (hM.lendBox (k := 0) rfl (MoveRep_mk (x := m1) hp2 hp3 hp4 hp5)) _ hz17) ?_)
    rintro _ w19 ⟨rfl, hM2, hv18⟩
    obtain ⟨hM, hx20⟩ := hM.backA hM2
    clear hM2
    refine ⟨_, rfl, fun a hf => ?_⟩
    refine q_ hf rfl rfl rfl (e_assign hf rfl) fun a hf => ?_
    refine pl_nil ?_
    refine then_n ?_
    refine wp_ret ?_
    obtain rfl := some_inj h
    have hM := hM.outs (own' := []) 0 rfl
    exact leave1 hf rfl rfl ⟨rfl, hM.fin, hv18⟩

set_option maxRecDepth 100000 in
set_option maxHeartbeats 4000000 in
theorem r_spec_l24NoteText (C : Cx) (n1 : Note) (b2 : Nat) (o3 : Nat) (hp4 : (ptrRep NoteRep).R C.w0 C.S0 n1 [vP b2 o3]) (r : Str) (h : m_spec_l24NoteText n1 = some r) :
    Calls Tryd.prog 30 #[vP b2 (o3)] C.w0 fun e w => e = .returned (vS (r)) ∧ Mem C w [] [] ∧ r.length ≤ maxLen := by
  have hM := Mem.begin C [.dat (ptrRep NoteRep) n1 [vP b2 o3]] ⟨hp4, trivial⟩
  refine enter Tryd.func30 rfl Tryd.ntmps30 rfl fun a hf => ?_
  unfold m_spec_l24NoteText at h
  refine wp_seq ?_
  refine region_pl ?_
  refine q_ hf rfl rfl rfl (e_assign hf rfl) fun a hf => ?_
  refine pl_nil ?_
  refine then_n ?_
  refine wp_seq ?_
  refine region_pl ?_
  refine q_ hf rfl rfl rfl (e_move hf rfl) fun a hf => ?_
  refine q_ hf rfl rfl rfl (e_nil hf rfl) fun a hf => ?_
  obtain ⟨_, hr5, hM⟩ := hM.deref (hM.dat (k := 0) rfl)
  obtain ⟨rfl, hv6, hv7, hv8, hv9, hv10, hv11, hv12⟩ := NoteRep_open hr5
  refine q_ hf rfl rfl rfl (e_field hf rfl Tryd.underlying55 rfl Tryd.sizeOf45 (o' := o3 + 1) rfl) fun a hf => ?_
  refine q_ hf rfl rfl rfl (e_loadA hf (us := [vI (n1.Best.Play.Row), vI (n1.Best.Play.Col), .bool (n1.Best.Play.Down), vS (n1.Best.Play.Word), vI (n1.Best.Score)]) rfl ⟨Tryd.isAgg45, Tryd.sizeOf45⟩ rfl (hM.litSub (k := 0) (d := 1) (us := [vI (n1.Best.Play.Row), vI (n1.Best.Play.Col), .bool (n1.Best.Play.Down), vS (n1.Best.Play.Word), vI (n1.Best.Score)]) rfl rfl rfl)) fun a hf => ?_
  obtain ⟨y13, hz14, h⟩ := bind_some h
  refine pl_l hf rfl rfl rfl (w_call hf Tryd.call27 rfl (r_spec_MoveText ⟨_, Sh C _ _, none_, hM.sh_lt, none_not, C.G, hM.g_lt, g_none, hM.tabs⟩ n1.Best hv7 hv8 hv9 hv10 _ hz14) ?_)
  rintro _ w16 ⟨rfl, hM2, hv15⟩
  obtain ⟨hM, hx17, hup18⟩ := hM.back hM2
  dsimp only [List.cons_append, List.nil_append] at hM hup18
  clear hM2
  refine ⟨_, rfl, fun a hf => ?_⟩
  refine q_ hf rfl rfl rfl (e_assign hf rfl) fun a hf => ?_
  refine pl_nil ?_
  refine then_n ?_
  obtain ⟨x21, h22, h⟩ := bind_some h
  refine seq_join (fun a w => ∃ (s19 : Str), s19 = x21 ∧ Has 33 a [(0, vP b2 (o3)), (3, vS (s19))] ∧ Mem C w [] [.lit b2 (o3) [vI (n1.Score), vI (n1.Best.Play.Row), vI (n1.Best.Play.Col), .bool (n1.Best.Play.Down), vS (n1.Best.Play.Word), vI (n1.Best.Score), vI (n1.Loss), vI (n1.Rank)], .dat (ptrRep NoteRep) n1 [vP b2 o3]] ∧ s19.length ≤ maxLen) ?_ ?_
  · refine wp_seq ?_
    refine region_pl ?_
    refine q_ hf rfl rfl rfl (e_move hf rfl) fun a hf => ?_
    refine q_ hf rfl rfl rfl (e_eqS hf (x := y13) (y := ([] : Str)) rfl rfl) fun a hf => ?_
    refine pl_nil ?_
    refine then_n ?_
    rcases cond_some h22 with ⟨hc23, h22⟩ | ⟨hc23, h22⟩
    · refine cond_t hf rfl hc23 ?_
      refine region_pl ?_
      refine q_ hf rfl rfl rfl (e_assign hf rfl) fun a hf => ?_
      refine pl_nil ?_
      obtain rfl := some_inj h22
      refine then_n ?_
      exact ⟨([45] : Str), rfl, hf.keep ⟨rfl, rfl, trivial⟩, hM.pick [0, 1] rfl, (lit_len rfl)⟩
    · refine cond_f hf rfl hc23 ?_
      refine wp_skip ?_
      obtain rfl := some_inj h22
      refine then_n ?_
      exact ⟨y13, rfl, hf.keep ⟨rfl, rfl, trivial⟩, hM.pick [0, 1] rfl, hv15⟩
  · rintro a w26 ⟨s19, rfl, hf, hM, hv20⟩
    try dsimp only at h
    refine wp_seq ?_
    obtain ⟨w27, hw⟩ : ∃ x, x = w26.drew := ⟨_, rfl⟩
    refine region_pi (.q 0 (.q 1 (.q 2 (.q 3 (.q 6 (.q 7 (.q 8 (.q 9 (.q 13 (.q 14 (.q 15 (.q 16 (.q 20 (.l 4 (.q 5 (.l 10 (.q 11 (.q 12 (.l 17 (.q 18 (.q 19 (.q 21 (.q 22 (.nil)))))))))))))))))))))))) (Ext w27) rfl (by kernel_rfl) ?_
    have hM := hM.drew
    rw [← hw] at hM ⊢
    clear hw
    refine pi_q hf rfl rfl rfl rfl (Ext.refl _) (e_move hf rfl) fun a hf => ?_
    refine pi_q hf rfl rfl rfl rfl (Ext.refl _) (e_nil hf rfl) fun a hf => ?_
    refine pi_q hf rfl rfl rfl rfl (Ext.refl _) (e_field hf rfl Tryd.underlying55 rfl Tryd.sizeOf2 (o' := o3 + 0) rfl) fun a hf => ?_
    refine pi_q hf rfl rfl rfl rfl (Ext.refl _) (e_load1 hf rfl Tryd.isAgg2 (hM.litCell (k := 0) (j := 0) rfl rfl rfl)) fun a hf => ?_
    refine pi_q hf rfl rfl rfl rfl (Ext.refl _) (e_move hf rfl) fun a hf => ?_
    refine pi_q hf rfl rfl rfl rfl (Ext.refl _) (e_nil hf rfl) fun a hf => ?_
    refine pi_q hf rfl rfl rfl rfl (Ext.refl _) (e_field hf rfl Tryd.underlying55 rfl Tryd.sizeOf2 (o' := o3 + 6) rfl) fun a hf => ?_
    refine pi_q hf rfl rfl rfl rfl (Ext.refl _) (e_load1 hf rfl Tryd.isAgg2 (hM.litCell (k := 0) (j := 6) rfl rfl rfl)) fun a hf => ?_
    refine pi_q hf rfl rfl rfl rfl (Ext.refl _) (e_move hf rfl) fun a hf => ?_
    refine pi_q hf rfl rfl rfl rfl (Ext.refl _) (e_nil hf rfl) fun a hf => ?_
    refine pi_q hf rfl rfl rfl rfl (Ext.refl _) (e_field hf rfl Tryd.underlying55 rfl Tryd.sizeOf2 (o' := o3 + 7) rfl) fun a hf => ?_
    refine pi_q hf rfl rfl rfl rfl (Ext.refl _) (e_load1 hf rfl Tryd.isAgg2 (hM.litCell (k := 0) (j := 7) rfl rfl rfl)) fun a hf => ?_
    refine pi_q hf rfl rfl rfl rfl (Ext.refl _) (e_move hf rfl) fun a hf => ?_
    refine pi_one ?_
    obtain ⟨y28, hz29, h⟩ := bind_some h
    refine pi_l hf rfl rfl rfl rfl (w_call hf Tryd.call22 rfl (r_spec_l01Dec ⟨_, Sh C _ _, none_, hM.sh_lt, none_not, C.G, hM.g_lt, g_none, hM.tabs⟩ n1.Score hv6 _ hz29) ?_)
    rintro _ w31 ⟨rfl, hM2, hv30⟩
    obtain ⟨hM, hx32, hup33⟩ := hM.back hM2
    dsimp only [List.cons_append, List.nil_append] at hM hup33
    clear hM2
    refine ⟨_, rfl, Ext w31, fun _ h => Ext.trans hx32 h, Ext.refl _, fun a hf => ?_⟩
    obtain ⟨s34, hz35, h⟩ := bind_some h
    refine pi_q hf rfl rfl rfl rfl (Ext.refl _) (e_cat hf (x := y28) (y := ([32] : Str)) rfl rfl hz35) fun a hf => ?_
    refine pi_one ?_
    obtain ⟨y36, hz37, h⟩ := bind_some h
    refine pi_l hf rfl rfl rfl rfl (w_call hf Tryd.call22 rfl (r_spec_l01Dec ⟨_, Sh C _ _, none_, hM.sh_lt, none_not, C.G, hM.g_lt, g_none, hM.tabs⟩ n1.Loss hv11 _ hz37) ?_)
    rintro _ w39 ⟨rfl, hM2, hv38⟩
    obtain ⟨hM, hx40, hup41⟩ := hM.back hM2
    dsimp only [List.cons_append, List.nil_append] at hM hup41
    clear hM2
    refine ⟨_, rfl, Ext w39, fun _ h => Ext.trans hx40 h, Ext.refl _, fun a hf => ?_⟩
    obtain ⟨s42, hz43, h⟩ := bind_some h
    refine pi_q hf rfl rfl rfl rfl (Ext.refl _) (e_cat hf (x := s34) (y := y36) rfl rfl hz43) fun a hf => ?_
    obtain ⟨s44, hz45, h⟩ := bind_some h
    refine pi_q hf rfl rfl rfl rfl (Ext.refl _) (e_cat hf (x := s42) (y := ([32] : Str)) rfl rfl hz45) fun a hf => ?_
    refine pi_one ?_
    obtain ⟨y46, hz47, h⟩ := bind_some h
    refine pi_l hf rfl rfl rfl rfl (w_call hf Tryd.call22 rfl (r_spec_l01Dec ⟨_, Sh C _ _, none_, hM.sh_lt, none_not, C.G, hM.g_lt, g_none, hM.tabs⟩ n1.Rank hv12 _ hz47) ?_)
    rintro _ w49 ⟨rfl, hM2, hv48⟩
    obtain ⟨hM, hx50, hup51⟩ := hM.back hM2
    dsimp only [List.cons_append, List.nil_append] at hM hup51
    clear hM2
    refine ⟨_, rfl, Ext w49, fun _ h => Ext.trans hx50 h, Ext.refl _, fun a hf => ?_⟩
    obtain ⟨s52, hz53, h⟩ := bind_some h
    refine pi_q hf rfl rfl rfl rfl (Ext.refl _) (e_cat hf (x := s44) (y := y46) rfl rfl hz53) fun a hf => ?_
    obtain ⟨s54, hz55, h⟩ := bind_some h
    refine pi_q hf rfl rfl rfl rfl (Ext.refl _) (e_cat hf (x := s52) (y := ([32] : Str)) rfl rfl hz55) fun a hf => ?_
    obtain ⟨s56, hz57, h⟩ := bind_some h
    refine pi_q hf rfl rfl rfl rfl (Ext.refl _) (e_cat hf (x := s54) (y := s19) rfl rfl hz57) fun a hf => ?_
    refine pi_q hf rfl rfl rfl rfl (Ext.refl _) (e_assign hf rfl) fun a hf => ?_
    refine pi_nil ?_
    refine then_n ?_
    refine wp_ret ?_
    obtain rfl := some_inj h
    exact leave1 hf rfl rfl ⟨rfl, hM.fin, (cat_len hz57)⟩

set_option maxRecDepth 100000 in
set_option maxHeartbeats 4000000 in
theorem r_spec_NoteText (C : Cx) (n1 : Note) (hp2 : R64 n1.Score) (hp3 : R64 n1.Best.Play.Row) (hp4 : R64 n1.Best.Play.Col) (hp5 : n1.Best.Play.Word.length ≤ maxLen) (hp6 : R64 n1.Best.Score) (hp7 : R64 n1.Loss) (hp8 : R64 n1.Rank) (r : Str) (h : m_spec_NoteText n1 = some r) :
    Calls Tryd.prog 19 #[.agg #[vI (n1.Score), vI (n1.Best.Play.Row), vI (n1.Best.Play.Col), .bool (n1.Best.Play.Down), vS (n1.Best.Play.Word), vI (n1.Best.Score), vI (n1.Loss), vI (n1.Rank)]] C.w0 fun e w => e = .returned (vS (r)) ∧ Mem C w [] [] ∧ r.length ≤ maxLen := by
  have hM := Mem.begin C [] trivial
  refine enter Tryd.func19 rfl Tryd.ntmps19 rfl fun a hf => ?_
  unfold m_spec_NoteText at h
  refine wp_seq ?_
  refine region_pl ?_
  refine pl_l hf rfl rfl rfl (w_box hf hM (cs := [vI (n1.Score), vI (n1.Best.Play.Row), vI (n1.Best.Play.Col), .bool (n1.Best.Play.Down), vS (n1.Best.Play.Word), vI (n1.Best.Score), vI (n1.Loss), vI (n1.Rank)]) rfl rfl fun b9 w10 hx11 hM a hf => ?_)
  refine q_ hf rfl rfl rfl (e_assign hf rfl) fun a hf => ?_
  refine pl_nil ?_
  refine then_n ?_
  refine wp_seq ?_
  refine region_pl ?_
  obtain ⟨y13, hz14, h⟩ := bind_some h
  refine pl_l hf rfl rfl rfl (w_call hf Tryd.call30 rfl (r_spec_l24NoteText ⟨_, All C _ _, none_, hM.all_lt, none_not, C.G, hM.g_lt, g_none, hM.tabs⟩ n1 _ _ (hM.lendBox (k := 0) rfl (NoteRep_mk (x := n1) hp2 hp3 hp4 hp5 hp6 hp7 hp8)) _ hz14) ?_)
  rintro _ w16 ⟨rfl, hM2, hv15⟩
  obtain ⟨hM, hx17⟩ := hM.backA hM2
  clear hM2
  refine ⟨_, rfl, fun a hf => ?_⟩
  refine q_ hf rfl rfl rfl (e_assign hf rfl) fun a hf => ?_
  refine pl_nil ?_
  refine then_n ?_
  refine wp_ret ?_
  obtain rfl := some_inj h
  have hM := hM.outs (own' := []) 0 rfl
  exact leave1 hf rfl rfl ⟨rfl, hM.fin, hv15⟩

set_option maxRecDepth 100000 in
set_option maxHeartbeats 4000000 in
theorem r_impl_Decimal (C : Cx) (n1 : Int) (hp2 : R64 n1) (r : Str) (h : m_impl_Decimal n1 = some r) :
    Calls Tryd.prog 23 #[vI (n1)] C.w0 fun e w => e = .returned (vS (r)) ∧ Mem C w [] [] ∧ r.length ≤ maxLen := by
  have hM := Mem.begin C [] trivial
  refine enter Tryd.func23 rfl Tryd.ntmps23 rfl fun a hf => ?_
  unfold m_impl_Decimal at h
  refine wp_seq ?_
  refine region_pl ?_
  refine q_ hf rfl rfl rfl (e_assign hf rfl) fun a hf => ?_
  refine pl_nil ?_
  refine then_n ?_
  refine wp_seq ?_
  refine region_pl ?_
  refine q_ hf rfl rfl rfl (e_move hf rfl) fun a hf => ?_
  obtain ⟨y3, hz4, h⟩ := bind_some h
  refine pl_l hf rfl rfl rfl (w_call hf Tryd.call33 rfl (r_strconv_FormatInt ⟨_, Sh C _ _, none_, hM.sh_lt, none_not, C.G, hM.g_lt, g_none, hM.tabs⟩ n1 hp2 10 (R64_lit rfl) _ hz4) ?_)
  rintro _ w6 ⟨rfl, hM2, hv5⟩
  obtain ⟨hM, hx7, hup8⟩ := hM.back hM2
  dsimp only [List.cons_append, List.nil_append] at hM hup8
  clear hM2
  refine ⟨_, rfl, fun a hf => ?_⟩
  refine q_ hf rfl rfl rfl (e_assign hf rfl) fun a hf => ?_
  refine pl_nil ?_
  refine then_n ?_
  refine wp_ret ?_
  obtain rfl := some_inj h
  exact leave1 hf rfl rfl ⟨rfl, hM.fin, hv5⟩

set_option maxRecDepth 100000 in
set_option maxHeartbeats 4000000 in
theorem r_impl_within (C : Cx) (x1 : Int) (hp2 : R64 x1) (low3 : Int) (hp4 : R64 low3) (high5 : Int) (hp6 : R64 high5) (r : Bool) (h : m_impl_within x1 low3 high5 = some r) :
    Calls Tryd.prog 35 #[vI (x1), vI (low3), vI (high5)] C.w0 fun e w => e = .returned (.bool (r)) ∧ Mem C w [] [] := by
  have hM := Mem.begin C [] trivial
  refine enter Tryd.func35 rfl Tryd.ntmps35 rfl fun a hf => ?_
  unfold m_impl_within at h
  refine wp_seq ?_
  refine region_pl ?_
  refine q_ hf rfl rfl rfl (e_assign hf rfl) fun a hf => ?_
  refine pl_nil ?_
  refine then_n ?_
  obtain ⟨x9, h10, h⟩ := bind_some h
  refine seq_join (fun a w => ∃ (t7 : Bool), t7 = x9 ∧ Has 15 a [(6, .bool (t7))] ∧ Mem C w [] []) ?_ ?_
  · refine region_pl ?_
    refine q_ hf rfl rfl rfl (e_move hf rfl) fun a hf => ?_
    refine q_ hf rfl rfl rfl (e_move hf rfl) fun a hf => ?_
    refine q_ hf rfl rfl rfl (e_le hf (x := low3) (y := x1) rfl rfl) fun a hf => ?_
    refine q_ hf rfl rfl rfl (e_move hf rfl) fun a hf => ?_
    rcases cond_some h10 with ⟨hc11, h10⟩ | ⟨hc11, h10⟩
    · refine gq (wanted_t hf rfl rfl rfl rfl hc11) hf rfl rfl (e_move hf rfl) fun a hf => ?_
      refine gq (wanted_t hf rfl rfl rfl rfl hc11) hf rfl rfl (e_move hf rfl) fun a hf => ?_
      refine gq (wanted_t hf rfl rfl rfl rfl hc11) hf rfl rfl (e_le hf (x := x1) (y := high5) rfl rfl) fun a hf => ?_
      refine q_ hf rfl rfl rfl (e_pick_t hf rfl hc11 rfl) fun a hf => ?_
      refine q_ hf rfl rfl rfl (e_assign hf rfl) fun a hf => ?_
      refine pl_nil ?_
      obtain rfl := some_inj h10
      refine then_n ?_
      exact ⟨(decide (x1 ≤ high5)), rfl, hf.keep ⟨rfl, trivial⟩, hM.pick [] rfl⟩
    · refine pl_gs (wanted_f hf rfl rfl rfl rfl hc11) hf rfl rfl fun a hf => ?_
      refine pl_gs (wanted_f hf rfl rfl rfl rfl hc11) hf rfl rfl fun a hf => ?_
      refine pl_gs (wanted_f hf rfl rfl rfl rfl hc11) hf rfl rfl fun a hf => ?_
      refine q_ hf rfl rfl rfl (e_pick_f hf rfl hc11 rfl) fun a hf => ?_
      refine q_ hf rfl rfl rfl (e_assign hf rfl) fun a hf => ?_
      refine pl_nil ?_
      obtain rfl := some_inj h10
      refine then_n ?_
      exact ⟨false, rfl, hf.keep ⟨rfl, trivial⟩, hM.pick [] rfl⟩
  · rintro a w14 ⟨t7, rfl, hf, hM⟩
    try dsimp only at h
    refine wp_ret ?_
    obtain rfl := some_inj h
    exact leave1 hf rfl rfl ⟨rfl, hM.fin⟩

set_option maxRecDepth 100000 in
set_option maxHeartbeats 4000000 in
theorem r_impl_small (C : Cx) (c1 : UInt8) (r : Bool) (h : m_impl_small c1 = some r) :
    Calls Tryd.prog 74 #[vB (c1)] C.w0 fun e w => e = .returned (.bool (r)) ∧ Mem C w [] [] := by
  have hM := Mem.begin C [] trivial
  refine enter Tryd.func74 rfl Tryd.ntmps74 rfl fun a hf => ?_
  unfold m_impl_small at h
  refine wp_seq ?_
  refine region_pl ?_
  refine q_ hf rfl rfl rfl (e_assign hf rfl) fun a hf => ?_
  refine pl_nil ?_
  refine then_n ?_
  obtain ⟨x4, h5, h⟩ := bind_some h
  refine seq_join (fun a w => ∃ (t2 : Bool), t2 = x4 ∧ Has 9 a [(2, .bool (t2))] ∧ Mem C w [] []) ?_ ?_
  · refine region_pl ?_
    refine q_ hf rfl rfl rfl (e_move hf rfl) fun a hf => ?_
    refine q_ hf rfl rfl rfl (e_leB hf (x := 97) (y := c1) rfl rfl) fun a hf => ?_
    refine q_ hf rfl rfl rfl (e_move hf rfl) fun a hf => ?_
    rcases cond_some h5 with ⟨hc6, h5⟩ | ⟨hc6, h5⟩
    · refine gq (wanted_t hf rfl rfl rfl rfl hc6) hf rfl rfl (e_move hf rfl) fun a hf => ?_
      refine gq (wanted_t hf rfl rfl rfl rfl hc6) hf rfl rfl (e_leB hf (x := c1) (y := 122) rfl rfl) fun a hf => ?_
      refine q_ hf rfl rfl rfl (e_pick_t hf rfl hc6 rfl) fun a hf => ?_
      refine q_ hf rfl rfl rfl (e_assign hf rfl) fun a hf => ?_
      refine pl_nil ?_
      obtain rfl := some_inj h5
      refine then_n ?_
      exact ⟨(decide (c1 ≤ 122)), rfl, hf.keep ⟨rfl, trivial⟩, hM.pick [] rfl⟩
    · refine pl_gs (wanted_f hf rfl rfl rfl rfl hc6) hf rfl rfl fun a hf => ?_
      refine pl_gs (wanted_f hf rfl rfl rfl rfl hc6) hf rfl rfl fun a hf => ?_
      refine q_ hf rfl rfl rfl (e_pick_f hf rfl hc6 rfl) fun a hf => ?_
      refine q_ hf rfl rfl rfl (e_assign hf rfl) fun a hf => ?_
      refine pl_nil ?_
      obtain rfl := some_inj h5
      refine then_n ?_
      exact ⟨false, rfl, hf.keep ⟨rfl, trivial⟩, hM.pick [] rfl⟩
  · rintro a w9 ⟨t2, rfl, hf, hM⟩
    try dsimp only at h
    refine wp_ret ?_
    obtain rfl := some_inj h
    exact leave1 hf rfl rfl ⟨rfl, hM.fin⟩

set_option maxRecDepth 100000 in
set_option maxHeartbeats 4000000 in
theorem r_impl_onlySmall (C : Cx) (s1 : Str) (hp2 : s1.length ≤ maxLen) (r : Bool) (h : m_impl_onlySmall s1 = some r) :
    Calls Tryd.prog 70 #[vS (s1)] C.w0 fun e w => e = .returned (.bool (r)) ∧ Mem C w [] [] := by
  have hM := Mem.begin C [] trivial
  refine enter Tryd.func70 rfl Tryd.ntmps70 rfl fun a hf => ?_
  unfold m_impl_onlySmall at h
  refine wp_seq ?_
  refine region_pl ?_
  refine q_ hf rfl rfl rfl (e_assign hf rfl) fun a hf => ?_
  refine pl_nil ?_
  refine then_n ?_
  obtain ⟨x3, h4, h⟩ := bind_some h
  refine seq_join (fun a w => (.inl ()) = x3 ∧ Has 16 a [] ∧ Mem C w [] []) ?_ ?_
  · refine wp_seq ?_
    refine region_pl ?_
    refine q_ hf rfl rfl rfl (e_move hf rfl) fun a hf => ?_
    refine pl_l hf rfl rfl rfl (w_bytes hf hM (x := s1) rfl Tryd.underlying9 Tryd.underlying67 Tryd.underlying5 hp2 fun A5 c6 w7 hx8 hM a hf => ?_)
    have hl9 := row_len (hM.ownAt (k := 0) rfl)
    refine q_ hf rfl rfl rfl (e_lenL hf (x := s1) rfl Tryd.underlying67) fun a hf => ?_
    refine q_ hf rfl rfl rfl (e_move hf rfl) fun a hf => ?_
    refine pl_nil ?_
    refine then_n ?_
    refine wp_block ?_
    obtain ⟨x13, h14, h4⟩ := bind_some h4
    refine wp_loopM h14 (fun s a w => ∃ (n10 : Int), n10 = s ∧ Has 16 a [(6, vL A5 (s1) c6), (7, vI ((s1.length : Int))), (8, vI (n10))] ∧ Mem C w [.row byteRep A5 c6 5 s1 false] [] ∧ R64 n10) ?_ ?_
    · exact ⟨0, rfl, hf.keep ⟨rfl, rfl, rfl, trivial⟩, hM.pick [] rfl, (R64_lit rfl)⟩
    · rintro s o15 a w12 ⟨n10, rfl, hf, hM, hv11⟩ h16 hd17
      replace h16 : m_impl_onlySmall_l1 s1 n10 = some o15 := h16
      unfold m_impl_onlySmall_l1 at h16
      refine wp_seq ?_
      refine region_pl ?_
      refine q_ hf rfl rfl rfl (e_lt hf (x := n10) (y := (s1.length : Int)) rfl rfl) fun a hf => ?_
      refine pl_nil ?_
      refine then_n ?_
      refine wp_seq ?_
      rcases cond_some h16 with ⟨hc18, h16⟩ | ⟨hc18, h16⟩
      · refine cond_t hf rfl hc18 ?_
        refine wp_skip ?_
        refine then_n ?_
        refine wp_seq ?_
        refine wp_block ?_
        refine wp_seq ?_
        refine region_pl ?_
        obtain ⟨e19, hz20, h16⟩ := bind_some h16
        obtain ⟨b25, _, hA26, h21, h22, hr23, hcell24⟩ := hM.rowElemN (k := 0) rfl (n := 1) rfl hz20
        obtain rfl : _ = _ := hr23
        refine q_ hf rfl rfl rfl (e_indexAddr (A := A5) (b := b25) (o := 0) (xs := s1) (i := n10) hf hA26 rfl rfl Tryd.underlying67 Tryd.sizeOf5 h21 h22) fun a hf => ?_
        refine q_ hf rfl rfl rfl (e_load1 hf rfl Tryd.isAgg5 (hcell24 0 _ rfl)) fun a hf => ?_
        refine q_ hf rfl rfl rfl (e_assign hf rfl) fun a hf => ?_
        refine pl_nil ?_
        refine then_n ?_
        refine wp_seq ?_
        refine region_pl ?_
        refine q_ hf rfl rfl rfl (e_move hf rfl) fun a hf => ?_
        obtain ⟨y27, hz28, h16⟩ := bind_some h16
        refine pl_l hf rfl rfl rfl (w_call hf Tryd.call74 rfl (r_impl_small ⟨_, Sh C _ _, none_, hM.sh_lt, none_not, C.G, hM.g_lt, g_none, hM.tabs⟩ e19 _ hz28) ?_)
        rintro _ w29 ⟨rfl, hM2⟩
        obtain ⟨hM, hx30, hup31⟩ := hM.back hM2
        dsimp only [List.cons_append, List.nil_append] at hM hup31
        clear hM2
        refine ⟨_, rfl, fun a hf => ?_⟩
        refine q_ hf rfl rfl rfl (e_not hf rfl) fun a hf => ?_
        refine pl_nil ?_
        refine then_n ?_
        rcases cond_some h16 with ⟨hc32, h16⟩ | ⟨hc32, h16⟩
        · refine cond_t hf rfl hc32 ?_
          refine wp_seq ?_
          refine region_pl ?_
          refine q_ hf rfl rfl rfl (e_assign hf rfl) fun a hf => ?_
          refine pl_nil ?_
          refine then_n ?_
          refine wp_ret ?_
          refine blk_r ?_
          refine then_r ?_
          obtain rfl := some_inj h16
          obtain rfl := hd17 _ rfl
          try dsimp only at h4
          refine then_r ?_
          refine blk_r ?_
          obtain rfl := some_inj h4
          try dsimp only at h
          refine then_r ?_
          obtain rfl := some_inj h
          have hM := hM.outs (own' := []) 0 rfl
          exact leave1 hf rfl rfl ⟨rfl, hM.fin⟩
        · refine cond_f hf rfl hc32 ?_
          refine wp_skip ?_
          refine blk_n ?_
          refine then_n ?_
          refine region_pl ?_
          obtain ⟨z33, hz34, h16⟩ := bind_some h16
          refine q_ hf rfl rfl rfl (e_add hf rfl rfl hz34) fun a hf => ?_
          refine q_ hf rfl rfl rfl (e_move hf rfl) fun a hf => ?_
          refine pl_nil ?_
          obtain rfl := some_inj h16
          refine then_n ⟨_, rfl, ?_⟩
          exact ⟨z33, rfl, hf.keep ⟨rfl, rfl, rfl, trivial⟩, hM.pick [] rfl, (chk_R hz34)⟩
      · refine cond_f hf rfl hc18 ?_
        refine wp_exit ?_
        refine then_x ?_
        obtain rfl := some_inj h16
        obtain rfl := hd17 _ rfl
        try dsimp only at h4
        refine then_x ?_
        refine exit_hit ?_
        obtain rfl := some_inj h4
        refine then_n ?_
        exact ⟨rfl, hf.keep trivial, (hM.drop (.cons _ .slnil)).pick [] rfl⟩
  · rintro a w41 ⟨rfl, hf, hM⟩
    try dsimp only at h
    refine wp_seq ?_
    refine region_pl ?_
    refine q_ hf rfl rfl rfl (e_assign hf rfl) fun a hf => ?_
    refine pl_nil ?_
    refine then_n ?_
    refine wp_ret ?_
    obtain rfl := some_inj h
    exact leave1 hf rfl rfl ⟨rfl, hM.fin⟩

set_option maxRecDepth 100000 in
set_option maxHeartbeats 4000000 in
theorem r_impl_IsWord (C : Cx) (s1 : Str) (hp2 : s1.length ≤ maxLen) (r : Bool) (h : m_impl_IsWord s1 = some r) :
    Calls Tryd.prog 64 #[vS (s1)] C.w0 fun e w => e = .returned (.bool (r)) ∧ Mem C w [] [] := by
  have hM := Mem.begin C [] trivial
  refine enter Tryd.func64 rfl Tryd.ntmps64 rfl fun a hf => ?_
  unfold m_impl_IsWord at h
  refine wp_seq ?_
  refine region_pl ?_
  refine q_ hf rfl rfl rfl (e_assign hf rfl) fun a hf => ?_
  refine pl_nil ?_
  refine then_n ?_
  obtain ⟨x5, h6, h⟩ := bind_some h
  refine seq_join (fun a w => ∃ (t3 : Bool), t3 = x5 ∧ Has 15 a [(2, .bool (t3))] ∧ Mem C w [] []) ?_ ?_
  · refine region_pl ?_
    refine q_ hf rfl rfl rfl (e_move hf rfl) fun a hf => ?_
    refine q_ hf rfl rfl rfl (e_lenS hf (x := s1) rfl Tryd.underlying9) fun a hf => ?_
    refine q_ hf rfl rfl rfl (e_ge hf (x := (s1.length : Int)) (y := 1) rfl rfl) fun a hf => ?_
    refine q_ hf rfl rfl rfl (e_move hf rfl) fun a hf => ?_
    rcases cond_some h6 with ⟨hc7, h6⟩ | ⟨hc7, h6⟩
    · refine gq (wanted_t hf rfl rfl rfl rfl hc7) hf rfl rfl (e_move hf rfl) fun a hf => ?_
      refine gq (wanted_t hf rfl rfl rfl rfl hc7) hf rfl rfl (e_lenS hf (x := s1) rfl Tryd.underlying9) fun a hf => ?_
      refine gq (wanted_t hf rfl rfl rfl rfl hc7) hf rfl rfl (e_le hf (x := (s1.length : Int)) (y := 12) rfl rfl) fun a hf => ?_
      refine q_ hf rfl rfl rfl (e_pick_t hf rfl hc7 rfl) fun a hf => ?_
      refine q_ hf rfl rfl rfl (e_move hf rfl) fun a hf => ?_
      rcases cond_some h6 with ⟨hc8, h6⟩ | ⟨hc8, h6⟩
      · refine gq (wanted_t hf rfl rfl rfl rfl hc8) hf rfl rfl (e_move hf rfl) fun a hf => ?_
        obtain ⟨y9, hz10, h6⟩ := bind_some h6
        refine pl_gl (wanted_t hf rfl rfl rfl rfl hc8) hf rfl rfl (w_call hf Tryd.call70 rfl (r_impl_onlySmall ⟨_, Sh C _ _, none_, hM.sh_lt, none_not, C.G, hM.g_lt, g_none, hM.tabs⟩ s1 hp2 _ hz10) ?_)
        rintro _ w11 ⟨rfl, hM2⟩
        obtain ⟨hM, hx12, hup13⟩ := hM.back hM2
        dsimp only [List.cons_append, List.nil_append] at hM hup13
        clear hM2
        refine ⟨_, rfl, fun a hf => ?_⟩
        refine q_ hf rfl rfl rfl (e_pick_t hf rfl hc8 rfl) fun a hf => ?_
        refine q_ hf rfl rfl rfl (e_assign hf rfl) fun a hf => ?_
        refine pl_nil ?_
        obtain rfl := some_inj h6
        refine then_n ?_
        exact ⟨y9, rfl, hf.keep ⟨rfl, trivial⟩, hM.pick [] rfl⟩
      · refine pl_gs (wanted_f hf rfl rfl rfl rfl hc8) hf rfl rfl fun a hf => ?_
        refine pl_gs (wanted_f hf rfl rfl rfl rfl hc8) hf rfl rfl fun a hf => ?_
        refine q_ hf rfl rfl rfl (e_pick_f hf rfl hc8 rfl) fun a hf => ?_
        refine q_ hf rfl rfl rfl (e_assign hf rfl) fun a hf => ?_
        refine pl_nil ?_
        obtain rfl := some_inj h6
        refine then_n ?_
        exact ⟨false, rfl, hf.keep ⟨rfl, trivial⟩, hM.pick [] rfl⟩
    · refine pl_gs (wanted_f hf rfl rfl rfl rfl hc7) hf rfl rfl fun a hf => ?_
      refine pl_gs (wanted_f hf rfl rfl rfl rfl hc7) hf rfl rfl fun a hf => ?_
      refine pl_gs (wanted_f hf rfl rfl rfl rfl hc7) hf rfl rfl fun a hf => ?_
      refine q_ hf rfl rfl rfl (e_pick_f hf rfl hc7 rfl) fun a hf => ?_
      refine q_ hf rfl rfl rfl (e_move hf rfl) fun a hf => ?_
      refine pl_gs (wanted_f hf rfl rfl rfl rfl rfl) hf rfl rfl fun a hf => ?_
      refine pl_gs (wanted_f hf rfl rfl rfl rfl rfl) hf rfl rfl fun a hf => ?_
      refine q_ hf rfl rfl rfl (e_pick_f hf rfl rfl rfl) fun a hf => ?_
      refine q_ hf rfl rfl rfl (e_assign hf rfl) fun a hf => ?_
      refine pl_nil ?_
      obtain rfl := some_inj h6
      refine then_n ?_
      exact ⟨false, rfl, hf.keep ⟨rfl, trivial⟩, hM.pick [] rfl⟩
  · rintro a w17 ⟨t3, rfl, hf, hM⟩
    try dsimp only at h
    refine wp_ret ?_
    obtain rfl := some_inj h
    exact leave1 hf rfl rfl ⟨rfl, hM.fin⟩

set_option maxRecDepth 100000 in
set_option maxHeartbeats 4000000 in
theorem r_impl_isPlaced (C : Cx) (s1 : Str) (hp2 : s1.length ≤ maxLen) (r : Bool) (h : m_impl_isPlaced s1 = some r) :
    Calls Tryd.prog 54 #[vS (s1)] C.w0 fun e w => e = .returned (.bool (r)) ∧ Mem C w [] [] := by
  have hM := Mem.begin C [] trivial
  refine enter Tryd.func54 rfl Tryd.ntmps54 rfl fun a hf => ?_
  unfold m_impl_isPlaced at h
  refine wp_seq ?_
  refine region_pl ?_
  refine q_ hf rfl rfl rfl (e_assign hf rfl) fun a hf => ?_
  refine pl_nil ?_
  refine then_n ?_
  obtain ⟨x5, h6, h⟩ := bind_some h
  refine seq_join (fun a w => ∃ (t3 : Bool), t3 = x5 ∧ Has 14 a [(2, .bool (t3))] ∧ Mem C w [] []) ?_ ?_
  · refine region_pl ?_
    refine q_ hf rfl rfl rfl (e_move hf rfl) fun a hf => ?_
    obtain ⟨y7, hz8, h6⟩ := bind_some h6
    refine pl_l hf rfl rfl rfl (w_call hf Tryd.call65 rfl (r_strings_ToLower ⟨_, Sh C _ _, none_, hM.sh_lt, none_not, C.G, hM.g_lt, g_none, hM.tabs⟩ s1 hp2 _ hz8) ?_)
    rintro _ w10 ⟨rfl, hM2, hv9⟩
    obtain ⟨hM, hx11, hup12⟩ := hM.back hM2
    dsimp only [List.cons_append, List.nil_append] at hM hup12
    clear hM2
    refine ⟨_, rfl, fun a hf => ?_⟩
    obtain ⟨y13, hz14, h6⟩ := bind_some h6
    refine pl_l hf rfl rfl rfl (w_call hf Tryd.call64 rfl (r_impl_IsWord ⟨_, Sh C _ _, none_, hM.sh_lt, none_not, C.G, hM.g_lt, g_none, hM.tabs⟩ y7 hv9 _ hz14) ?_)
    rintro _ w15 ⟨rfl, hM2⟩
    obtain ⟨hM, hx16, hup17⟩ := hM.back hM2
    dsimp only [List.cons_append, List.nil_append] at hM hup17
    clear hM2
    refine ⟨_, rfl, fun a hf => ?_⟩
    refine q_ hf rfl rfl rfl (e_move hf rfl) fun a hf => ?_
    rcases cond_some h6 with ⟨hc18, h6⟩ | ⟨hc18, h6⟩
    · refine gq (wanted_t hf rfl rfl rfl rfl hc18) hf rfl rfl (e_move hf rfl) fun a hf => ?_
      refine gq (wanted_t hf rfl rfl rfl rfl hc18) hf rfl rfl (e_lenS hf (x := s1) rfl Tryd.underlying9) fun a hf => ?_
      refine gq (wanted_t hf rfl rfl rfl rfl hc18) hf rfl rfl (e_move hf rfl) fun a hf => ?_
      obtain ⟨y19, hz20, h6⟩ := bind_some h6
      refine pl_gl (wanted_t hf rfl rfl rfl rfl hc18) hf rfl rfl (w_call hf Tryd.call65 rfl (r_strings_ToLower ⟨_, Sh C _ _, none_, hM.sh_lt, none_not, C.G, hM.g_lt, g_none, hM.tabs⟩ s1 hp2 _ hz20) ?_)
      rintro _ w22 ⟨rfl, hM2, hv21⟩
      obtain ⟨hM, hx23, hup24⟩ := hM.back hM2
      dsimp only [List.cons_append, List.nil_append] at hM hup24
      clear hM2
      refine ⟨_, rfl, fun a hf => ?_⟩
      refine gq (wanted_t hf rfl rfl rfl rfl hc18) hf rfl rfl (e_lenS hf (x := y19) rfl Tryd.underlying9) fun a hf => ?_
      refine gq (wanted_t hf rfl rfl rfl rfl hc18) hf rfl rfl (e_eq hf (x := (s1.length : Int)) (y := (y19.length : Int)) rfl rfl) fun a hf => ?_
      refine q_ hf rfl rfl rfl (e_pick_t hf rfl hc18 rfl) fun a hf => ?_
      refine q_ hf rfl rfl rfl (e_assign hf rfl) fun a hf => ?_
      refine pl_nil ?_
      obtain rfl := some_inj h6
      refine then_n ?_
      exact ⟨((s1.length : Int) == (y19.length : Int)), rfl, hf.keep ⟨rfl, trivial⟩, hM.pick [] rfl⟩
    · refine pl_gs (wanted_f hf rfl rfl rfl rfl hc18) hf rfl rfl fun a hf => ?_
      refine pl_gs (wanted_f hf rfl rfl rfl rfl hc18) hf rfl rfl fun a hf => ?_
      refine pl_gs (wanted_f hf rfl rfl rfl rfl hc18) hf rfl rfl fun a hf => ?_
      refine pl_gs (wanted_f hf rfl rfl rfl rfl hc18) hf rfl rfl fun a hf => ?_
      refine pl_gs (wanted_f hf rfl rfl rfl rfl hc18) hf rfl rfl fun a hf => ?_
      refine pl_gs (wanted_f hf rfl rfl rfl rfl hc18) hf rfl rfl fun a hf => ?_
      refine q_ hf rfl rfl rfl (e_pick_f hf rfl hc18 rfl) fun a hf => ?_
      refine q_ hf rfl rfl rfl (e_assign hf rfl) fun a hf => ?_
      refine pl_nil ?_
      obtain rfl := some_inj h6
      refine then_n ?_
      exact ⟨false, rfl, hf.keep ⟨rfl, trivial⟩, hM.pick [] rfl⟩
  · rintro a w27 ⟨t3, rfl, hf, hM⟩
    try dsimp only at h
    refine wp_ret ?_
    obtain rfl := some_inj h
    exact leave1 hf rfl rfl ⟨rfl, hM.fin⟩

set_option maxRecDepth 100000 in
set_option maxHeartbeats 4000000 in
theorem r_impl_isMain (C : Cx) (s1 : Str) (hp2 : s1.length ≤ maxLen) (r : Bool) (h : m_impl_isMain s1 = some r) :
    Calls Tryd.prog 45 #[vS (s1)] C.w0 fun e w => e = .returned (.bool (r)) ∧ Mem C w [] [] := by
  have hM := Mem.begin C [] trivial
  refine enter Tryd.func45 rfl Tryd.ntmps45 rfl fun a hf => ?_
  unfold m_impl_isMain at h
  refine wp_seq ?_
  refine region_pl ?_
  refine q_ hf rfl rfl rfl (e_assign hf rfl) fun a hf => ?_
  refine pl_nil ?_
  refine then_n ?_
  obtain ⟨x5, h6, h⟩ := bind_some h
  refine seq_join (fun a w => ∃ (t3 : Bool), t3 = x5 ∧ Has 10 a [(2, .bool (t3))] ∧ Mem C w [] []) ?_ ?_
  · refine region_pl ?_
    refine q_ hf rfl rfl rfl (e_move hf rfl) fun a hf => ?_
    refine q_ hf rfl rfl rfl (e_lenS hf (x := s1) rfl Tryd.underlying9) fun a hf => ?_
    refine q_ hf rfl rfl rfl (e_ge hf (x := (s1.length : Int)) (y := 2) rfl rfl) fun a hf => ?_
    refine q_ hf rfl rfl rfl (e_move hf rfl) fun a hf => ?_
    rcases cond_some h6 with ⟨hc7, h6⟩ | ⟨hc7, h6⟩
    · refine gq (wanted_t hf rfl rfl rfl rfl hc7) hf rfl rfl (e_move hf rfl) fun a hf => ?_
      obtain ⟨y8, hz9, h6⟩ := bind_some h6
      refine pl_gl (wanted_t hf rfl rfl rfl rfl hc7) hf rfl rfl (w_call hf Tryd.call54 rfl (r_impl_isPlaced ⟨_, Sh C _ _, none_, hM.sh_lt, none_not, C.G, hM.g_lt, g_none, hM.tabs⟩ s1 hp2 _ hz9) ?_)
      rintro _ w10 ⟨rfl, hM2⟩
      obtain ⟨hM, hx11, hup12⟩ := hM.back hM2
      dsimp only [List.cons_append, List.nil_append] at hM hup12
      clear hM2
      refine ⟨_, rfl, fun a hf => ?_⟩
      refine q_ hf rfl rfl rfl (e_pick_t hf rfl hc7 rfl) fun a hf => ?_
      refine q_ hf rfl rfl rfl (e_assign hf rfl) fun a hf => ?_
      refine pl_nil ?_
      obtain rfl := some_inj h6
      refine then_n ?_
      exact ⟨y8, rfl, hf.keep ⟨rfl, trivial⟩, hM.pick [] rfl⟩
    · refine pl_gs (wanted_f hf rfl rfl rfl rfl hc7) hf rfl rfl fun a hf => ?_
      refine pl_gs (wanted_f hf rfl rfl rfl rfl hc7) hf rfl rfl fun a hf => ?_
      refine q_ hf rfl rfl rfl (e_pick_f hf rfl hc7 rfl) fun a hf => ?_
      refine q_ hf rfl rfl rfl (e_assign hf rfl) fun a hf => ?_
      refine pl_nil ?_
      obtain rfl := some_inj h6
      refine then_n ?_
      exact ⟨false, rfl, hf.keep ⟨rfl, trivial⟩, hM.pick [] rfl⟩
  · rintro a w15 ⟨t3, rfl, hf, hM⟩
    try dsimp only at h
    refine wp_ret ?_
    obtain rfl := some_inj h
    exact leave1 hf rfl rfl ⟨rfl, hM.fin⟩

set_option maxRecDepth 100000 in
set_option maxHeartbeats 4000000 in
theorem r_impl_PlayText (C : Cx) (p1 : Play) (hp2 : R64 p1.Row) (hp3 : R64 p1.Col) (hp4 : p1.Word.length ≤ maxLen) (r : Str) (h : m_impl_PlayText p1 = some r) :
    Calls Tryd.prog 40 #[.agg #[vI (p1.Row), vI (p1.Col), .bool (p1.Down), vS (p1.Word)]] C.w0 fun e w => e = .returned (vS (r)) ∧ Mem C w [] [] ∧ r.length ≤ maxLen := by
  have hM := Mem.begin C [] trivial
  refine enter Tryd.func40 rfl Tryd.ntmps40 rfl fun a hf => ?_
  unfold m_impl_PlayText at h
  refine wp_seq ?_
  refine region_pl ?_
  refine pl_l hf rfl rfl rfl (w_box hf hM (cs := [vI (p1.Row), vI (p1.Col), .bool (p1.Down), vS (p1.Word)]) rfl rfl fun b5 w6 hx7 hM a hf => ?_)
  refine q_ hf rfl rfl rfl (e_assign hf rfl) fun a hf => ?_
  refine pl_nil ?_
  refine then_n ?_
  refine wp_seq ?_
  obtain ⟨x11, h12, h⟩ := bind_some h
  refine seq_join (fun a w => ∃ (t9 : Bool), t9 = x11 ∧ Has 46 a [(1, vP b5 (0)), (20, .bool (t9))] ∧ Mem C w [.box b5 [vI (p1.Row), vI (p1.Col), .bool (p1.Down), vS (p1.Word)] 43] []) ?_ ?_
  · refine region_pl ?_
    refine q_ hf rfl rfl rfl (e_field hf rfl Tryd.underlying43 rfl Tryd.sizeOf2 (o' := 0) rfl) fun a hf => ?_
    refine q_ hf rfl rfl rfl (e_load1 hf rfl Tryd.isAgg2 (hM.boxCell (k := 0) rfl rfl)) fun a hf => ?_
    obtain ⟨y13, hz14, h12⟩ := bind_some h12
    refine pl_l hf rfl rfl rfl (w_call hf Tryd.call35 rfl (r_impl_within ⟨_, Sh C _ _, none_, hM.sh_lt, none_not, C.G, hM.g_lt, g_none, hM.tabs⟩ p1.Row hp2 0 (R64_lit rfl) 14 (R64_lit rfl) _ hz14) ?_)
    rintro _ w15 ⟨rfl, hM2⟩
    obtain ⟨hM, hx16, hup17⟩ := hM.back hM2
    dsimp only [List.cons_append, List.nil_append] at hM hup17
    clear hM2
    refine ⟨_, rfl, fun a hf => ?_⟩
    refine q_ hf rfl rfl rfl (e_not hf rfl) fun a hf => ?_
    refine q_ hf rfl rfl rfl (e_move hf rfl) fun a hf => ?_
    rcases cond_some h12 with ⟨hc18, h12⟩ | ⟨hc18, h12⟩
    · refine pl_gs (wanted_f hf rfl rfl rfl rfl hc18) hf rfl rfl fun a hf => ?_
      refine pl_gs (wanted_f hf rfl rfl rfl rfl hc18) hf rfl rfl fun a hf => ?_
      refine pl_gs (wanted_f hf rfl rfl rfl rfl hc18) hf rfl rfl fun a hf => ?_
      refine pl_gs (wanted_f hf rfl rfl rfl rfl hc18) hf rfl rfl fun a hf => ?_
      refine q_ hf rfl rfl rfl (e_pick_t hf rfl hc18 rfl) fun a hf => ?_
      refine q_ hf rfl rfl rfl (e_move hf rfl) fun a hf => ?_
      refine pl_gs (wanted_f hf rfl rfl rfl rfl rfl) hf rfl rfl fun a hf => ?_
      refine pl_gs (wanted_f hf rfl rfl rfl rfl rfl) hf rfl rfl fun a hf => ?_
      refine pl_gs (wanted_f hf rfl rfl rfl rfl rfl) hf rfl rfl fun a hf => ?_
      refine pl_gs (wanted_f hf rfl rfl rfl rfl rfl) hf rfl rfl fun a hf => ?_
      refine q_ hf rfl rfl rfl (e_pick_t hf rfl rfl rfl) fun a hf => ?_
      refine pl_nil ?_
      obtain rfl := some_inj h12
      refine then_n ?_
      exact ⟨true, rfl, hf.keep ⟨rfl, rfl, trivial⟩, hM.pick [] rfl⟩
    · refine gq (wanted_t hf rfl rfl rfl rfl hc18) hf rfl rfl (e_field hf rfl Tryd.underlying43 rfl Tryd.sizeOf2 (o' := 1) rfl) fun a hf => ?_
      refine gq (wanted_t hf rfl rfl rfl rfl hc18) hf rfl rfl (e_load1 hf rfl Tryd.isAgg2 (hM.boxCell (k := 0) rfl rfl)) fun a hf => ?_
      obtain ⟨y20, hz21, h12⟩ := bind_some h12
      refine pl_gl (wanted_t hf rfl rfl rfl rfl hc18) hf rfl rfl (w_call hf Tryd.call35 rfl (r_impl_within ⟨_, Sh C _ _, none_, hM.sh_lt, none_not, C.G, hM.g_lt, g_none, hM.tabs⟩ p1.Col hp3 0 (R64_lit rfl) 14 (R64_lit rfl) _ hz21) ?_)
      rintro _ w22 ⟨rfl, hM2⟩
      obtain ⟨hM, hx23, hup24⟩ := hM.back hM2
      dsimp only [List.cons_append, List.nil_append] at hM hup24
      clear hM2
      refine ⟨_, rfl, fun a hf => ?_⟩
      refine gq (wanted_t hf rfl rfl rfl rfl hc18) hf rfl rfl (e_not hf rfl) fun a hf => ?_
      refine q_ hf rfl rfl rfl (e_pick_f hf rfl hc18 rfl) fun a hf => ?_
      refine q_ hf rfl rfl rfl (e_move hf rfl) fun a hf => ?_
      rcases cond_some h12 with ⟨hc25, h12⟩ | ⟨hc25, h12⟩
      · refine pl_gs (wanted_f hf rfl rfl rfl rfl hc25) hf rfl rfl fun a hf => ?_
        refine pl_gs (wanted_f hf rfl rfl rfl rfl hc25) hf rfl rfl fun a hf => ?_
        refine pl_gs (wanted_f hf rfl rfl rfl rfl hc25) hf rfl rfl fun a hf => ?_
        refine pl_gs (wanted_f hf rfl rfl rfl rfl hc25) hf rfl rfl fun a hf => ?_
        refine q_ hf rfl rfl rfl (e_pick_t hf rfl hc25 rfl) fun a hf => ?_
        refine pl_nil ?_
        obtain rfl := some_inj h12
        refine then_n ?_
        exact ⟨true, rfl, hf.keep ⟨rfl, rfl, trivial⟩, hM.pick [] rfl⟩
      · refine gq (wanted_t hf rfl rfl rfl rfl hc25) hf rfl rfl (e_field hf rfl Tryd.underlying43 rfl Tryd.sizeOf9 (o' := 3) rfl) fun a hf => ?_
        refine gq (wanted_t hf rfl rfl rfl rfl hc25) hf rfl rfl (e_load1 hf rfl Tryd.isAgg9 (hM.boxCell (k := 0) rfl rfl)) fun a hf => ?_
        obtain ⟨y27, hz28, h12⟩ := bind_some h12
        refine pl_gl (wanted_t hf rfl rfl rfl rfl hc25) hf rfl rfl (w_call hf Tryd.call45 rfl (r_impl_isMain ⟨_, Sh C _ _, none_, hM.sh_lt, none_not, C.G, hM.g_lt, g_none, hM.tabs⟩ p1.Word hp4 _ hz28) ?_)
        rintro _ w29 ⟨rfl, hM2⟩
        obtain ⟨hM, hx30, hup31⟩ := hM.back hM2
        dsimp only [List.cons_append, List.nil_append] at hM hup31
        clear hM2
        refine ⟨_, rfl, fun a hf => ?_⟩
        refine gq (wanted_t hf rfl rfl rfl rfl hc25) hf rfl rfl (e_not hf rfl) fun a hf => ?_
        refine q_ hf rfl rfl rfl (e_pick_f hf rfl hc25 rfl) fun a hf => ?_
        refine pl_nil ?_
        obtain rfl := some_inj h12
        refine then_n ?_
        exact ⟨(!y27), rfl, hf.keep ⟨rfl, rfl, trivial⟩, hM.pick [] rfl⟩
  · rintro a w33 ⟨t9, rfl, hf, hM⟩
    try dsimp only at h
    rcases cond_some h with ⟨hc34, h⟩ | ⟨hc34, h⟩
    · refine cond_t hf rfl hc34 ?_
      refine wp_seq ?_
      refine region_pl ?_
      refine q_ hf rfl rfl rfl (e_assign hf rfl) fun a hf => ?_
      refine pl_nil ?_
      refine then_n ?_
      refine wp_ret ?_
      refine then_r ?_
      obtain rfl := some_inj h
      have hM := hM.outs (own' := []) 0 rfl
      exact leave1 hf rfl rfl ⟨rfl, hM.fin, (lit_len rfl)⟩
    · refine cond_f hf rfl hc34 ?_
      refine wp_skip ?_
      refine then_n ?_
      refine wp_seq ?_
      obtain ⟨w35, hw⟩ : ∃ x, x = w33.drew := ⟨_, rfl⟩
      refine region_pi (.q 0 (.q 1 (.q 2 (.q 4 (.q 5 (.q 6 (.q 7 (.q 8 (.l 3 (.q 9 (.q 10 (.nil)))))))))))) (Ext w35) rfl (by kernel_rfl) ?_
      have hM := hM.drew
      rw [← hw] at hM ⊢
      clear hw
      refine pi_q hf rfl rfl rfl rfl (Ext.refl _) (e_field hf rfl Tryd.underlying43 rfl Tryd.sizeOf2 (o' := 0) rfl) fun a hf => ?_
      refine pi_q hf rfl rfl rfl rfl (Ext.refl _) (e_load1 hf rfl Tryd.isAgg2 (hM.boxCell (k := 0) rfl rfl)) fun a hf => ?_
      obtain ⟨z36, hz37, h⟩ := bind_some h
      refine pi_q hf rfl rfl rfl rfl (Ext.refl _) (e_add hf rfl rfl hz37) fun a hf => ?_
      refine pi_q hf rfl rfl rfl rfl (Ext.refl _) (e_field hf rfl Tryd.underlying43 rfl Tryd.sizeOf2 (o' := 1) rfl) fun a hf => ?_
      refine pi_q hf rfl rfl rfl rfl (Ext.refl _) (e_load1 hf rfl Tryd.isAgg2 (hM.boxCell (k := 0) rfl rfl)) fun a hf => ?_
      obtain ⟨z38, hz39, h⟩ := bind_some h
      refine pi_q hf rfl rfl rfl rfl (Ext.refl _) (e_add hf rfl rfl hz39) fun a hf => ?_
      obtain ⟨z40, hz41, h⟩ := bind_some h
      refine pi_q hf rfl rfl rfl rfl (Ext.refl _) (e_convIR hf rfl Tryd.underlying2 Tryd.underlying21 hz41) fun a hf => ?_
      obtain ⟨s42, hz43, h⟩ := bind_some h
      refine pi_q hf rfl rfl rfl rfl (Ext.refl _) (e_convRS hf rfl Tryd.underlying21 Tryd.underlying9 hz43) fun a hf => ?_
      refine pi_one ?_
      obtain ⟨y44, hz45, h⟩ := bind_some h
      refine pi_l hf rfl rfl rfl rfl (w_call hf Tryd.call23 rfl (r_impl_Decimal ⟨_, Sh C _ _, none_, hM.sh_lt, none_not, C.G, hM.g_lt, g_none, hM.tabs⟩ z36 (chk_R hz37) _ hz45) ?_)
      rintro _ w47 ⟨rfl, hM2, hv46⟩
      obtain ⟨hM, hx48, hup49⟩ := hM.back hM2
      dsimp only [List.cons_append, List.nil_append] at hM hup49
      clear hM2
      refine ⟨_, rfl, Ext w47, fun _ h => Ext.trans hx48 h, Ext.refl _, fun a hf => ?_⟩
      refine pi_q hf rfl rfl rfl rfl (Ext.refl _) (e_assign hf rfl) fun a hf => ?_
      refine pi_q hf rfl rfl rfl rfl (Ext.refl _) (e_assign hf rfl) fun a hf => ?_
      refine pi_nil ?_
      refine then_n ?_
      refine wp_seq ?_
      refine wp_seq ?_
      refine region_pl ?_
      refine q_ hf rfl rfl rfl (e_field hf rfl Tryd.underlying43 rfl Tryd.sizeOf4 (o' := 2) rfl) fun a hf => ?_
      refine q_ hf rfl rfl rfl (e_load1 hf rfl Tryd.isAgg4 (hM.boxCell (k := 0) rfl rfl)) fun a hf => ?_
      refine pl_nil ?_
      refine then_n ?_
      rcases cond_some h with ⟨hc50, h⟩ | ⟨hc50, h⟩
      · refine cond_t hf rfl hc50 ?_
        refine wp_seq ?_
        refine region_pl ?_
        refine q_ hf rfl rfl rfl (e_move hf rfl) fun a hf => ?_
        refine q_ hf rfl rfl rfl (e_move hf rfl) fun a hf => ?_
        obtain ⟨s51, hz52, h⟩ := bind_some h
        refine q_ hf rfl rfl rfl (e_cat hf (x := s42) (y := y44) rfl rfl hz52) fun a hf => ?_
        obtain ⟨s53, hz54, h⟩ := bind_some h
        refine q_ hf rfl rfl rfl (e_cat hf (x := s51) (y := ([32] : Str)) rfl rfl hz54) fun a hf => ?_
        refine q_ hf rfl rfl rfl (e_field hf rfl Tryd.underlying43 rfl Tryd.sizeOf9 (o' := 3) rfl) fun a hf => ?_
        refine q_ hf rfl rfl rfl (e_load1 hf rfl Tryd.isAgg9 (hM.boxCell (k := 0) rfl rfl)) fun a hf => ?_
        obtain ⟨s55, hz56, h⟩ := bind_some h
        refine q_ hf rfl rfl rfl (e_cat hf (x := s53) (y := p1.Word) rfl rfl hz56) fun a hf => ?_
        refine q_ hf rfl rfl rfl (e_assign hf rfl) fun a hf => ?_
        refine pl_nil ?_
        refine then_n ?_
        refine wp_ret ?_
        refine then_r ?_
        obtain rfl := some_inj h
        have hM := hM.outs (own' := []) 0 rfl
        exact leave1 hf rfl rfl ⟨rfl, hM.fin, (cat_len hz56)⟩
      · refine cond_f hf rfl hc50 ?_
        refine wp_skip ?_
        refine then_n ?_
        refine wp_seq ?_
        refine region_pl ?_
        refine q_ hf rfl rfl rfl (e_move hf rfl) fun a hf => ?_
        refine q_ hf rfl rfl rfl (e_move hf rfl) fun a hf => ?_
        obtain ⟨s57, hz58, h⟩ := bind_some h
        refine q_ hf rfl rfl rfl (e_cat hf (x := y44) (y := s42) rfl rfl hz58) fun a hf => ?_
        obtain ⟨s59, hz60, h⟩ := bind_some h
        refine q_ hf rfl rfl rfl (e_cat hf (x := s57) (y := ([32] : Str)) rfl rfl hz60) fun a hf => ?_
        refine q_ hf rfl rfl rfl (e_field hf rfl Tryd.underlying43 rfl Tryd.sizeOf9 (o' := 3) rfl) fun a hf => ?_
        refine q_ hf rfl rfl rfl (e_load1 hf rfl Tryd.isAgg9 (hM.boxCell (k := 0) rfl rfl)) fun a hf => ?_
        obtain ⟨s61, hz62, h⟩ := bind_some h
        refine q_ hf rfl rfl rfl (e_cat hf (x := s59) (y := p1.Word) rfl rfl hz62) fun a hf => ?_
        refine q_ hf rfl rfl rfl (e_assign hf rfl) fun a hf => ?_
        refine pl_nil ?_
        refine then_n ?_
        refine wp_ret ?_
        obtain rfl := some_inj h
        have hM := hM.outs (own' := []) 0 rfl
        exact leave1 hf rfl rfl ⟨rfl, hM.fin, (cat_len hz62)⟩

set_option maxRecDepth 100000 in
set_option maxHeartbeats 4000000 in
theorem r_impl_MoveText (C : Cx) (m1 : Move) (hp2 : R64 m1.Play.Row) (hp3 : R64 m1.Play.Col) (hp4 : m1.Play.Word.length ≤ maxLen) (hp5 : R64 m1.Score) (r : Str) (h : m_impl_MoveText m1 = some r) :
    Calls Tryd.prog 29 #[.agg #[vI (m1.Play.Row), vI (m1.Play.Col), .bool (m1.Play.Down), vS (m1.Play.Word), vI (m1.Score)]] C.w0 fun e w => e = .returned (vS (r)) ∧ Mem C w [] [] ∧ r.length ≤ maxLen := by
  have hM := Mem.begin C [] trivial
  refine enter Tryd.func29 rfl Tryd.ntmps29 rfl fun a hf => ?_
  unfold m_impl_MoveText at h
  refine wp_seq ?_
  refine region_pl ?_
  refine pl_l hf rfl rfl rfl (w_box hf hM (cs := [vI (m1.Play.Row), vI (m1.Play.Col), .bool (m1.Play.Down), vS (m1.Play.Word), vI (m1.Score)]) rfl rfl fun b6 w7 hx8 hM a hf => ?_)
  refine q_ hf rfl rfl rfl (e_assign hf rfl) fun a hf => ?_
  refine pl_nil ?_
  refine then_n ?_
  refine wp_seq ?_
  refine region_pl ?_
  refine q_ hf rfl rfl rfl (e_field hf rfl Tryd.underlying45 rfl Tryd.sizeOf43 (o' := 0) rfl) fun a hf => ?_
  refine q_ hf rfl rfl rfl (e_loadA hf (us := [vI (m1.Play.Row), vI (m1.Play.Col), .bool (m1.Play.Down), vS (m1.Play.Word)]) rfl ⟨Tryd.isAgg43, Tryd.sizeOf43⟩ rfl (hM.boxSub (k := 0) (us := [vI (m1.Play.Row), vI (m1.Play.Col), .bool (m1.Play.Down), vS (m1.Play.Word)]) (o := 0) rfl rfl)) fun a hf => ?_
  obtain ⟨y10, hz11, h⟩ := bind_some h
  refine pl_l hf rfl rfl rfl (w_call hf Tryd.call40 rfl (r_impl_PlayText ⟨_, Sh C _ _, none_, hM.sh_lt, none_not, C.G, hM.g_lt, g_none, hM.tabs⟩ m1.Play hp2 hp3 hp4 _ hz11) ?_)
  rintro _ w13 ⟨rfl, hM2, hv12⟩
  obtain ⟨hM, hx14, hup15⟩ := hM.back hM2
  dsimp only [List.cons_append, List.nil_append] at hM hup15
  clear hM2
  refine ⟨_, rfl, fun a hf => ?_⟩
  refine q_ hf rfl rfl rfl (e_assign hf rfl) fun a hf => ?_
  refine pl_nil ?_
  refine then_n ?_
  refine wp_seq ?_
  refine wp_seq ?_
  refine region_pl ?_
  refine q_ hf rfl rfl rfl (e_move hf rfl) fun a hf => ?_
  refine q_ hf rfl rfl rfl (e_eqS hf (x := y10) (y := ([] : Str)) rfl rfl) fun a hf => ?_
  refine pl_nil ?_
  refine then_n ?_
  rcases cond_some h with ⟨hc16, h⟩ | ⟨hc16, h⟩
  · refine cond_t hf rfl hc16 ?_
    refine wp_seq ?_
    refine region_pl ?_
    refine q_ hf rfl rfl rfl (e_assign hf rfl) fun a hf => ?_
    refine pl_nil ?_
    refine then_n ?_
    refine wp_ret ?_
    refine then_r ?_
    obtain rfl := some_inj h
    have hM := hM.outs (own' := []) 0 rfl
    exact leave1 hf rfl rfl ⟨rfl, hM.fin, (lit_len rfl)⟩
  · refine cond_f hf rfl hc16 ?_
    refine wp_skip ?_
    refine then_n ?_
    refine wp_seq ?_
    refine region_pl ?_
    refine q_ hf rfl rfl rfl (e_move hf rfl) fun a hf => ?_
    obtain ⟨s17, hz18, h⟩ := bind_some h
    refine q_ hf rfl rfl rfl (e_cat hf (x := y10) (y := ([32] : Str)) rfl rfl hz18) fun a hf => ?_
    refine q_ hf rfl rfl rfl (e_field hf rfl Tryd.underlying45 rfl Tryd.sizeOf2 (o' := 4) rfl) fun a hf => ?_
    refine q_ hf rfl rfl rfl (e_load1 hf rfl Tryd.isAgg2 (hM.boxCell (k := 0) rfl rfl)) fun a hf => ?_
    obtain ⟨y19, hz20, h⟩ := bind_some h
    refine pl_l hf rfl rfl rfl (w_call hf Tryd.call23 rfl (r_impl_Decimal ⟨_, Sh C _ _, none_, hM.sh_lt, none_not, C.G, hM.g_lt, g_none, hM.tabs⟩ m1.Score hp5 _ hz20) ?_)
    rintro _ w22 ⟨rfl, hM2, hv21⟩
    obtain ⟨hM, hx23, hup24⟩ := hM.back hM2
    dsimp only [List.cons_append, List.nil_append] at hM hup24
    clear hM2
    refine ⟨_, rfl, fun a hf => ?_⟩
    obtain ⟨s25, hz26, h⟩ := bind_some h
    refine q_ hf rfl rfl rfl (e_cat hf (x := s17) (y := y19) rfl rfl hz26) fun a hf => ?_
    refine q_ hf rfl rfl rfl (e_assign hf rfl) fun a hf => ?_
    refine pl_nil ?_
    refine then_n ?_
    refine wp_ret ?_
    obtain rfl := some_inj h
    have hM := hM.outs (own' := []) 0 rfl
    exact leave1 hf rfl rfl ⟨rfl, hM.fin, (cat_len hz26)⟩

set_option maxRecDepth 100000 in
set_option maxHeartbeats 4000000 in
theorem r_impl_dashed (C : Cx) (s1 : Str) (hp2 : s1.length ≤ maxLen) (r : Str) (h : m_impl_dashed s1 = some r) :
    Calls Tryd.prog 32 #[vS (s1)] C.w0 fun e w => e = .returned (vS (r)) ∧ Mem C w [] [] ∧ r.length ≤ maxLen := by
  have hM := Mem.begin C [] trivial
  refine enter Tryd.func32 rfl Tryd.ntmps32 rfl fun a hf => ?_
  unfold m_impl_dashed at h
  refine wp_seq ?_
  refine region_pl ?_
  refine q_ hf rfl rfl rfl (e_assign hf rfl) fun a hf => ?_
  refine pl_nil ?_
  refine then_n ?_
  refine wp_seq ?_
  refine wp_seq ?_
  refine region_pl ?_
  refine q_ hf rfl rfl rfl (e_move hf rfl) fun a hf => ?_
  refine q_ hf rfl rfl rfl (e_eqS hf (x := s1) (y := ([] : Str)) rfl rfl) fun a hf => ?_
  refine pl_nil ?_
  refine then_n ?_
  rcases cond_some h with ⟨hc3, h⟩ | ⟨hc3, h⟩
  · refine cond_t hf rfl hc3 ?_
    refine wp_seq ?_
    refine region_pl ?_
    refine q_ hf rfl rfl rfl (e_assign hf rfl) fun a hf => ?_
    refine pl_nil ?_
    refine then_n ?_
    refine wp_ret ?_
    refine then_r ?_
    obtain rfl := some_inj h
    exact leave1 hf rfl rfl ⟨rfl, hM.fin, (lit_len rfl)⟩
  · refine cond_f hf rfl hc3 ?_
    refine wp_skip ?_
    refine then_n ?_
    refine wp_seq ?_
    refine region_pl ?_
    refine q_ hf rfl rfl rfl (e_move hf rfl) fun a hf => ?_
    refine q_ hf rfl rfl rfl (e_assign hf rfl) fun a hf => ?_
    refine pl_nil ?_
    refine then_n ?_
    refine wp_ret ?_
    obtain rfl := some_inj h
    exact leave1 hf rfl rfl ⟨rfl, hM.fin, hp2⟩

set_option maxRecDepth 100000 in
set_option maxHeartbeats 4000000 in
theorem r_impl_joined (C : Cx) (words1 : (List Str)) (A2 : Option Addr) (c3 : Nat) (hp4 : (sliceRep strRep).R C.w0 C.S0 words1 [vL A2 words1 c3]) (r : Str) (h : m_impl_joined words1 = some r) :
    Calls Tryd.prog 31 #[vL A2 (words1) c3] C.w0 fun e w => e = .returned (vS (r)) ∧ Mem C w [] [] ∧ r.length ≤ maxLen := by
  have hM := Mem.begin C [.dat (sliceRep strRep) words1 [vL A2 words1 c3]] ⟨hp4, trivial⟩
  refine enter Tryd.func31 rfl Tryd.ntmps31 rfl fun a hf => ?_
  unfold m_impl_joined at h
  refine wp_seq ?_
  refine region_pl ?_
  refine q_ hf rfl rfl rfl (e_assign hf rfl) fun a hf => ?_
  refine pl_nil ?_
  refine then_n ?_
  refine wp_seq ?_
  refine region_pl ?_
  refine q_ hf rfl rfl rfl (e_move hf rfl) fun a hf => ?_
  obtain ⟨y5, hz6, h⟩ := bind_some h
  refine pl_l hf rfl rfl rfl (w_call hf Tryd.call41 rfl (r_strings_Join ⟨_, Sh C _ _, none_, hM.sh_lt, none_not, C.G, hM.g_lt, g_none, hM.tabs⟩ words1 _ _ (hM.dat (k := 0) rfl) ([32] : Str) (lit_len rfl) _ hz6) ?_)
  rintro _ w8 ⟨rfl, hM2, hv7⟩
  obtain ⟨hM, hx9, hup10⟩ := hM.back hM2
  dsimp only [List.cons_append, List.nil_append] at hM hup10
  clear hM2
  refine ⟨_, rfl, fun a hf => ?_⟩
  refine q_ hf rfl rfl rfl (e_assign hf rfl) fun a hf => ?_
  refine pl_nil ?_
  refine then_n ?_
  refine wp_ret ?_
  obtain rfl := some_inj h
  exact leave1 hf rfl rfl ⟨rfl, hM.fin, hv7⟩

set_option maxRecDepth 100000 in
set_option maxHeartbeats 4000000 in
theorem r_impl_NoteText (C : Cx) (n1 : Note) (hp2 : R64 n1.Score) (hp3 : R64 n1.Best.Play.Row) (hp4 : R64 n1.Best.Play.Col) (hp5 : n1.Best.Play.Word.length ≤ maxLen) (hp6 : R64 n1.Best.Score) (hp7 : R64 n1.Loss) (hp8 : R64 n1.Rank) (r : Str) (h : m_impl_NoteText n1 = some r) :
    Calls Tryd.prog 21 #[.agg #[vI (n1.Score), vI (n1.Best.Play.Row), vI (n1.Best.Play.Col), .bool (n1.Best.Play.Down), vS (n1.Best.Play.Word), vI (n1.Best.Score), vI (n1.Loss), vI (n1.Rank)]] C.w0 fun e w => e = .returned (vS (r)) ∧ Mem C w [] [] ∧ r.length ≤ maxLen := by
  have hM := Mem.begin C [] trivial
  refine enter Tryd.func21 rfl Tryd.ntmps21 rfl fun a hf => ?_
  unfold m_impl_NoteText at h
  refine wp_seq ?_
  refine region_pl ?_
  refine pl_l hf rfl rfl rfl (w_box hf hM (cs := [vI (n1.Score), vI (n1.Best.Play.Row), vI (n1.Best.Play.Col), .bool (n1.Best.Play.Down), vS (n1.Best.Play.Word), vI (n1.Best.Score), vI (n1.Loss), vI (n1.Rank)]) rfl rfl fun b9 w10 hx11 hM a hf => ?_)
  refine q_ hf rfl rfl rfl (e_assign hf rfl) fun a hf => ?_
  refine pl_nil ?_
  refine then_n ?_
  refine wp_seq ?_
  obtain ⟨w13, hw⟩ : ∃ x, x = w10.drew := ⟨_, rfl⟩
  refine region_pi (.q 0 (.q 1 (.q 3 (.q 4 (.q 6 (.q 7 (.q 9 (.q 10 (.l 2 (.l 5 (.l 8 (.l 11 (.l 12 (.l 13 (.l 14 (.q 15 (.nil))))))))))))))))) (Ext w13) rfl (by kernel_rfl) ?_
  have hM := hM.drew
  rw [← hw] at hM ⊢
  clear hw
  refine pi_q hf rfl rfl rfl rfl (Ext.refl _) (e_field hf rfl Tryd.underlying55 rfl Tryd.sizeOf2 (o' := 0) rfl) fun a hf => ?_
  refine pi_q hf rfl rfl rfl rfl (Ext.refl _) (e_load1 hf rfl Tryd.isAgg2 (hM.boxCell (k := 0) rfl rfl)) fun a hf => ?_
  refine pi_q hf rfl rfl rfl rfl (Ext.refl _) (e_field hf rfl Tryd.underlying55 rfl Tryd.sizeOf2 (o' := 6) rfl) fun a hf => ?_
  refine pi_q hf rfl rfl rfl rfl (Ext.refl _) (e_load1 hf rfl Tryd.isAgg2 (hM.boxCell (k := 0) rfl rfl)) fun a hf => ?_
  refine pi_q hf rfl rfl rfl rfl (Ext.refl _) (e_field hf rfl Tryd.underlying55 rfl Tryd.sizeOf2 (o' := 7) rfl) fun a hf => ?_
  refine pi_q hf rfl rfl rfl rfl (Ext.refl _) (e_load1 hf rfl Tryd.isAgg2 (hM.boxCell (k := 0) rfl rfl)) fun a hf => ?_
  refine pi_q hf rfl rfl rfl rfl (Ext.refl _) (e_field hf rfl Tryd.underlying55 rfl Tryd.sizeOf45 (o' := 1) rfl) fun a hf => ?_
  refine pi_q hf rfl rfl rfl rfl (Ext.refl _) (e_loadA hf (us := [vI (n1.Best.Play.Row), vI (n1.Best.Play.Col), .bool (n1.Best.Play.Down), vS (n1.Best.Play.Word), vI (n1.Best.Score)]) rfl ⟨Tryd.isAgg45, Tryd.sizeOf45⟩ rfl (hM.boxSub (k := 0) (us := [vI (n1.Best.Play.Row), vI (n1.Best.Play.Col), .bool (n1.Best.Play.Down), vS (n1.Best.Play.Word), vI (n1.Best.Score)]) (o := 1) rfl rfl)) fun a hf => ?_
  refine pi_one ?_
  obtain ⟨y14, hz15, h⟩ := bind_some h
  refine pi_l hf rfl rfl rfl rfl (w_call hf Tryd.call23 rfl (r_impl_Decimal ⟨_, Sh C _ _, none_, hM.sh_lt, none_not, C.G, hM.g_lt, g_none, hM.tabs⟩ n1.Score hp2 _ hz15) ?_)
  rintro _ w17 ⟨rfl, hM2, hv16⟩
  obtain ⟨hM, hx18, hup19⟩ := hM.back hM2
  dsimp only [List.cons_append, List.nil_append] at hM hup19
  clear hM2
  refine ⟨_, rfl, Ext w17, fun _ h => Ext.trans hx18 h, Ext.refl _, fun a hf => ?_⟩
  refine pi_one ?_
  obtain ⟨y20, hz21, h⟩ := bind_some h
  refine pi_l hf rfl rfl rfl rfl (w_call hf Tryd.call23 rfl (r_impl_Decimal ⟨_, Sh C _ _, none_, hM.sh_lt, none_not, C.G, hM.g_lt, g_none, hM.tabs⟩ n1.Loss hp7 _ hz21) ?_)
  rintro _ w23 ⟨rfl, hM2, hv22⟩
  obtain ⟨hM, hx24, hup25⟩ := hM.back hM2
  dsimp only [List.cons_append, List.nil_append] at hM hup25
  clear hM2
  refine ⟨_, rfl, Ext w23, fun _ h => Ext.trans hx24 h, Ext.refl _, fun a hf => ?_⟩
  refine pi_one ?_
  obtain ⟨y26, hz27, h⟩ := bind_some h
  refine pi_l hf rfl rfl rfl rfl (w_call hf Tryd.call23 rfl (r_impl_Decimal ⟨_, Sh C _ _, none_, hM.sh_lt, none_not, C.G, hM.g_lt, g_none, hM.tabs⟩ n1.Rank hp8 _ hz27) ?_)
  rintro _ w29 ⟨rfl, hM2, hv28⟩
  obtain ⟨hM, hx30, hup31⟩ := hM.back hM2
  dsimp only [List.cons_append, List.nil_append] at hM hup31
  clear hM2
  refine ⟨_, rfl, Ext w29, fun _ h => Ext.trans hx30 h, Ext.refl _, fun a hf => ?_⟩
  refine pi_one ?_
  obtain ⟨y32, hz33, h⟩ := bind_some h
  refine pi_l hf rfl rfl rfl rfl (w_call hf Tryd.call29 rfl (r_impl_MoveText ⟨_, Sh C _ _, none_, hM.sh_lt, none_not, C.G, hM.g_lt, g_none, hM.tabs⟩ n1.Best hp3 hp4 hp5 hp6 _ hz33) ?_)
  rintro _ w35 ⟨rfl, hM2, hv34⟩
  obtain ⟨hM, hx36, hup37⟩ := hM.back hM2
  dsimp only [List.cons_append, List.nil_append] at hM hup37
  clear hM2
  refine ⟨_, rfl, Ext w35, fun _ h => Ext.trans hx36 h, Ext.refl _, fun a hf => ?_⟩
  refine pi_one ?_
  obtain ⟨y38, hz39, h⟩ := bind_some h
  refine pi_l hf rfl rfl rfl rfl (w_call hf Tryd.call32 rfl (r_impl_dashed ⟨_, Sh C _ _, none_, hM.sh_lt, none_not, C.G, hM.g_lt, g_none, hM.tabs⟩ y32 hv34 _ hz39) ?_)
  rintro _ w41 ⟨rfl, hM2, hv40⟩
  obtain ⟨hM, hx42, hup43⟩ := hM.back hM2
  dsimp only [List.cons_append, List.nil_append] at hM hup43
  clear hM2
  refine ⟨_, rfl, Ext w41, fun _ h => Ext.trans hx42 h, Ext.refl _, fun a hf => ?_⟩
  refine pi_one ?_
  refine pi_l hf rfl rfl rfl rfl (w_slice hf hM (K := strRep) (xs := ([y14, y20, y26, y38] : (List Str))) (os := [.tmp 5, .tmp 8, .tmp 11, .tmp 15]) Tryd.underlying76 ei_9 rfl rfl rfl rfl rfl ⟨⟨[vS (y14)], rfl, ⟨rfl, hv16⟩⟩, ⟨[vS (y20)], rfl, ⟨rfl, hv22⟩⟩, ⟨[vS (y26)], rfl, ⟨rfl, hv28⟩⟩, ⟨[vS (y38)], rfl, ⟨rfl, hv40⟩⟩, trivial⟩ rfl fun b44 w45 hx46 hM => ⟨Ext w45, fun _ h => Ext.trans hx46 h, Ext.refl _, fun a hf => ?_⟩)
  refine pi_one ?_
  obtain ⟨y47, hz48, h⟩ := bind_some h
  refine pi_l hf rfl rfl rfl rfl (w_call hf Tryd.call31 rfl (r_impl_joined ⟨_, All C _ _, none_, hM.all_lt, none_not, C.G, hM.g_lt, g_none, hM.tabs⟩ ([y14, y20, y26, y38] : (List Str)) _ _ (hM.lendRow (k := 0) rfl) _ hz48) ?_)
  rintro _ w50 ⟨rfl, hM2, hv49⟩
  obtain ⟨hM, hx51⟩ := hM.backA hM2
  clear hM2
  refine ⟨_, rfl, Ext w50, fun _ h => Ext.trans hx51 h, Ext.refl _, fun a hf => ?_⟩
  refine pi_q hf rfl rfl rfl rfl (Ext.refl _) (e_assign hf rfl) fun a hf => ?_
  refine pi_nil ?_
  refine then_n ?_
  refine wp_ret ?_
  obtain rfl := some_inj h
  have hM := hM.outs (own' := []) 0 rfl
  exact leave1 hf rfl rfl ⟨rfl, hM.fin, hv49⟩

set_option maxRecDepth 100000 in
set_option maxHeartbeats 4000000 in
theorem r_laws_FnExactNoteText (C : Cx) (aN1 : Note) (hp2 : R64 aN1.Score) (hp3 : R64 aN1.Best.Play.Row) (hp4 : R64 aN1.Best.Play.Col) (hp5 : aN1.Best.Play.Word.length ≤ maxLen) (hp6 : R64 aN1.Best.Score) (hp7 : R64 aN1.Loss) (hp8 : R64 aN1.Rank) (r : Bool) (h : m_laws_FnExactNoteText aN1 = some r) :
    Calls Tryd.prog 6 #[.agg #[vI (aN1.Score), vI (aN1.Best.Play.Row), vI (aN1.Best.Play.Col), .bool (aN1.Best.Play.Down), vS (aN1.Best.Play.Word), vI (aN1.Best.Score), vI (aN1.Loss), vI (aN1.Rank)]] C.w0 fun e w => e = .returned (.bool (r)) ∧ Mem C w [] [] := by
  have hM := Mem.begin C [] trivial
  refine enter Tryd.func6 rfl Tryd.ntmps6 rfl fun a hf => ?_
  unfold m_laws_FnExactNoteText at h
  refine wp_seq ?_
  refine region_pl ?_
  refine pl_l hf rfl rfl rfl (w_box hf hM (cs := [vI (aN1.Score), vI (aN1.Best.Play.Row), vI (aN1.Best.Play.Col), .bool (aN1.Best.Play.Down), vS (aN1.Best.Play.Word), vI (aN1.Best.Score), vI (aN1.Loss), vI (aN1.Rank)]) rfl rfl fun b9 w10 hx11 hM a hf => ?_)
  refine q_ hf rfl rfl rfl (e_assign hf rfl) fun a hf => ?_
  refine pl_nil ?_
  refine then_n ?_
  refine wp_seq ?_
  refine region_pl ?_
  refine q_ hf rfl rfl rfl (e_assign hf rfl) fun a hf => ?_
  refine pl_nil ?_
  refine then_n ?_
  refine wp_seq ?_
  refine region_pl ?_
  refine q_ hf rfl rfl rfl (e_loadA hf (us := [vI (aN1.Score), vI (aN1.Best.Play.Row), vI (aN1.Best.Play.Col), .bool (aN1.Best.Play.Down), vS (aN1.Best.Play.Word), vI (aN1.Best.Score), vI (aN1.Loss), vI (aN1.Rank)]) rfl ⟨Tryd.isAgg51, Tryd.sizeOf51⟩ rfl (hM.boxSub (k := 0) (us := [vI (aN1.Score), vI (aN1.Best.Play.Row), vI (aN1.Best.Play.Col), .bool (aN1.Best.Play.Down), vS (aN1.Best.Play.Word), vI (aN1.Best.Score), vI (aN1.Loss), vI (aN1.Rank)]) (o := 0) rfl rfl)) fun a hf => ?_
  refine q_ hf rfl rfl rfl (e_move hf rfl) fun a hf => ?_
  obtain ⟨y13, hz14, h⟩ := bind_some h
  refine pl_l hf rfl rfl rfl (w_call hf Tryd.call18 rfl (r_laws_szNote ⟨_, Sh C _ _, none_, hM.sh_lt, none_not, C.G, hM.g_lt, g_none, hM.tabs⟩ aN1 hp2 hp3 hp4 hp5 hp6 hp7 hp8 1048576 (R64_lit rfl) _ hz14) ?_)
  rintro _ w16 ⟨rfl, hM2, hv15⟩
  obtain ⟨hM, hx17, hup18⟩ := hM.back hM2
  dsimp only [List.cons_append, List.nil_append] at hM hup18
  clear hM2
  refine ⟨_, rfl, fun a hf => ?_⟩
  refine q_ hf rfl rfl rfl (e_assign hf rfl) fun a hf => ?_
  refine pl_nil ?_
  refine then_n ?_
  refine wp_seq ?_
  refine wp_seq ?_
  refine region_pl ?_
  refine q_ hf rfl rfl rfl (e_move hf rfl) fun a hf => ?_
  refine q_ hf rfl rfl rfl (e_lt hf (x := y13) (y := 0) rfl rfl) fun a hf => ?_
  refine pl_nil ?_
  refine then_n ?_
  rcases cond_some h with ⟨hc19, h⟩ | ⟨hc19, h⟩
  · refine cond_t hf rfl hc19 ?_
    refine wp_seq ?_
    refine region_pl ?_
    refine q_ hf rfl rfl rfl (e_assign hf rfl) fun a hf => ?_
    refine pl_nil ?_
    refine then_n ?_
    refine wp_ret ?_
    refine then_r ?_
    obtain rfl := some_inj h
    have hM := hM.outs (own' := []) 0 rfl
    exact leave1 hf rfl rfl ⟨rfl, hM.fin⟩
  · refine cond_f hf rfl hc19 ?_
    refine wp_skip ?_
    refine then_n ?_
    refine wp_seq ?_
    refine region_pl ?_
    refine q_ hf rfl rfl rfl (e_loadA hf (us := [vI (aN1.Score), vI (aN1.Best.Play.Row), vI (aN1.Best.Play.Col), .bool (aN1.Best.Play.Down), vS (aN1.Best.Play.Word), vI (aN1.Best.Score), vI (aN1.Loss), vI (aN1.Rank)]) rfl ⟨Tryd.isAgg51, Tryd.sizeOf51⟩ rfl (hM.boxSub (k := 0) (us := [vI (aN1.Score), vI (aN1.Best.Play.Row), vI (aN1.Best.Play.Col), .bool (aN1.Best.Play.Down), vS (aN1.Best.Play.Word), vI (aN1.Best.Score), vI (aN1.Loss), vI (aN1.Rank)]) (o := 0) rfl rfl)) fun a hf => ?_
    obtain ⟨y20, hz21, h⟩ := bind_some h
    refine pl_l hf rfl rfl rfl (w_call hf Tryd.call20 rfl (r_laws_toNote ⟨_, Sh C _ _, none_, hM.sh_lt, none_not, C.G, hM.g_lt, g_none, hM.tabs⟩ aN1 hp2 hp3 hp4 hp5 hp6 hp7 hp8 _ hz21) ?_)
    rintro _ w29 ⟨rfl, hM2, hv22, hv23, hv24, hv25, hv26, hv27, hv28⟩
    obtain ⟨hM, hx30, hup31⟩ := hM.back hM2
    dsimp only [List.cons_append, List.nil_append] at hM hup31
    clear hM2
    refine ⟨_, rfl, fun a hf => ?_⟩
    obtain ⟨y32, hz33, h⟩ := bind_some h
    refine pl_l hf rfl rfl rfl (w_call hf Tryd.call19 rfl (r_spec_NoteText ⟨_, Sh C _ _, none_, hM.sh_lt, none_not, C.G, hM.g_lt, g_none, hM.tabs⟩ y20 hv22 hv23 hv24 hv25 hv26 hv27 hv28 _ hz33) ?_)
    rintro _ w35 ⟨rfl, hM2, hv34⟩
    obtain ⟨hM, hx36, hup37⟩ := hM.back hM2
    dsimp only [List.cons_append, List.nil_append] at hM hup37
    clear hM2
    refine ⟨_, rfl, fun a hf => ?_⟩
    refine q_ hf rfl rfl rfl (e_assign hf rfl) fun a hf => ?_
    refine pl_nil ?_
    refine then_n ?_
    refine wp_seq ?_
    refine region_pl ?_
    refine q_ hf rfl rfl rfl (e_loadA hf (us := [vI (aN1.Score), vI (aN1.Best.Play.Row), vI (aN1.Best.Play.Col), .bool (aN1.Best.Play.Down), vS (aN1.Best.Play.Word), vI (aN1.Best.Score), vI (aN1.Loss), vI (aN1.Rank)]) rfl ⟨Tryd.isAgg51, Tryd.sizeOf51⟩ rfl (hM.boxSub (k := 0) (us := [vI (aN1.Score), vI (aN1.Best.Play.Row), vI (aN1.Best.Play.Col), .bool (aN1.Best.Play.Down), vS (aN1.Best.Play.Word), vI (aN1.Best.Score), vI (aN1.Loss), vI (aN1.Rank)]) (o := 0) rfl rfl)) fun a hf => ?_
    obtain ⟨y38, hz39, h⟩ := bind_some h
    refine pl_l hf rfl rfl rfl (w_call hf Tryd.call20 rfl (r_laws_toNote ⟨_, Sh C _ _, none_, hM.sh_lt, none_not, C.G, hM.g_lt, g_none, hM.tabs⟩ aN1 hp2 hp3 hp4 hp5 hp6 hp7 hp8 _ hz39) ?_)
    rintro _ w47 ⟨rfl, hM2, hv40, hv41, hv42, hv43, hv44, hv45, hv46⟩
    obtain ⟨hM, hx48, hup49⟩ := hM.back hM2
    dsimp only [List.cons_append, List.nil_append] at hM hup49
    clear hM2
    refine ⟨_, rfl, fun a hf => ?_⟩
    obtain ⟨y50, hz51, h⟩ := bind_some h
    refine pl_l hf rfl rfl rfl (w_call hf Tryd.call21 rfl (r_impl_NoteText ⟨_, Sh C _ _, none_, hM.sh_lt, none_not, C.G, hM.g_lt, g_none, hM.tabs⟩ y38 hv40 hv41 hv42 hv43 hv44 hv45 hv46 _ hz51) ?_)
    rintro _ w53 ⟨rfl, hM2, hv52⟩
    obtain ⟨hM, hx54, hup55⟩ := hM.back hM2
    dsimp only [List.cons_append, List.nil_append] at hM hup55
    clear hM2
    refine ⟨_, rfl, fun a hf => ?_⟩
    refine q_ hf rfl rfl rfl (e_assign hf rfl) fun a hf => ?_
    refine pl_nil ?_
    refine then_n ?_
    refine wp_seq ?_
    refine wp_seq ?_
    refine region_pl ?_
    refine q_ hf rfl rfl rfl (e_move hf rfl) fun a hf => ?_
    refine q_ hf rfl rfl rfl (e_move hf rfl) fun a hf => ?_
    refine q_ hf rfl rfl rfl (e_neS hf (x := y50) (y := y32) rfl rfl) fun a hf => ?_
    refine pl_nil ?_
    refine then_n ?_
    rcases cond_some h with ⟨hc56, h⟩ | ⟨hc56, h⟩
    · refine cond_t hf rfl hc56 ?_
      refine wp_seq ?_
      refine region_pl ?_
      refine q_ hf rfl rfl rfl (e_assign hf rfl) fun a hf => ?_
      refine pl_nil ?_
      refine then_n ?_
      refine wp_ret ?_
      refine then_r ?_
      obtain rfl := some_inj h
      have hM := hM.outs (own' := []) 0 rfl
      exact leave1 hf rfl rfl ⟨rfl, hM.fin⟩
    · refine cond_f hf rfl hc56 ?_
      refine wp_skip ?_
      refine then_n ?_
      refine wp_seq ?_
      refine region_pl ?_
      refine q_ hf rfl rfl rfl (e_assign hf rfl) fun a hf => ?_
      refine pl_nil ?_
      refine then_n ?_
      refine wp_ret ?_
      obtain rfl := some_inj h
      have hM := hM.outs (own' := []) 0 rfl
      exact leave1 hf rfl rfl ⟨rfl, hM.fin⟩

end Go.Proofs.YtgmbcolpchckbaaDoor
