/- The functions that this law reaches do what their models say. Printed by gen.py. -/
import Derived.Test.YtdngdgjlcfbdhaaMod
import Derived.Test.YtdngdgjlcfbdhaaLib
namespace Go.Proofs.Ytdngdgjlcfbdhaa
open Go Go.RowKit
set_option linter.unusedSimpArgs false
set_option linter.unusedVariables false

def FnC_UInt8_to_Bool (fk : FuncId) (fc : List Value) (f : UInt8 → Option Bool) (C : Cx) : Prop := ∀ (x0 : UInt8) (r : Bool) (h : f x0 = some r),
    Calls Try.prog fk (([vB (x0)] : List Value) ++ fc).toArray C.w0 fun e w => e = .returned (.bool (r)) ∧ Mem C w [] []

set_option maxRecDepth 100000 in
set_option maxHeartbeats 4000000 in
theorem r_laws_szBoard (C : Cx) (a1 : Board) (hp2 : R64 a1.Size) (hp3 : a1.Premium.length ≤ maxLen) (hp4 : a1.Cells.length ≤ maxLen) (left5 : Int) (hp6 : R64 left5) (r : Int) (h : m_laws_szBoard a1 left5 = some r) :
    Calls Try.prog 88 #[.agg #[vI (a1.Size), vS (a1.Premium), vS (a1.Cells)], vI (left5)] C.w0 fun e w => e = .returned (vI (r)) ∧ Mem C w [] [] ∧ R64 r := by
  have hM := Mem.begin C [] trivial
  refine enter Try.func88 rfl Try.ntmps88 rfl fun a hf => ?_
  unfold m_laws_szBoard at h
  refine wp_seq ?_
  refine region_pl ?_
  refine pl_l hf rfl rfl rfl (w_box hf hM (cs := [vI (a1.Size), vS (a1.Premium), vS (a1.Cells)]) rfl rfl fun b7 w8 hx9 hM a hf => ?_)
  refine q_ hf rfl rfl rfl (e_assign hf rfl) fun a hf => ?_
  refine pl_nil ?_
  refine then_n ?_
  refine wp_seq ?_
  refine region_pl ?_
  refine q_ hf rfl rfl rfl (e_move hf rfl) fun a hf => ?_
  refine q_ hf rfl rfl rfl (e_field hf rfl Try.underlying70 rfl Try.sizeOf9 (o' := 1) rfl) fun a hf => ?_
  refine q_ hf rfl rfl rfl (e_load1 hf rfl Try.isAgg9 (hM.boxCell (k := 0) rfl rfl)) fun a hf => ?_
  refine q_ hf rfl rfl rfl (e_lenS hf (x := a1.Premium) rfl Try.underlying9) fun a hf => ?_
  obtain ⟨z11, hz12, h⟩ := bind_some h
  refine q_ hf rfl rfl rfl (e_sub hf rfl rfl hz12) fun a hf => ?_
  refine q_ hf rfl rfl rfl (e_assign hf rfl) fun a hf => ?_
  refine pl_nil ?_
  refine then_n ?_
  refine wp_seq ?_
  refine wp_seq ?_
  refine region_pl ?_
  refine q_ hf rfl rfl rfl (e_move hf rfl) fun a hf => ?_
  refine q_ hf rfl rfl rfl (e_lt hf (x := z11) (y := 0) rfl rfl) fun a hf => ?_
  refine pl_nil ?_
  refine then_n ?_
  rcases cond_some h with ⟨hc13, h⟩ | ⟨hc13, h⟩
  · refine cond_t hf rfl hc13 ?_
    refine wp_seq ?_
    refine region_pl ?_
    refine q_ hf rfl rfl rfl (e_assign hf rfl) fun a hf => ?_
    refine pl_nil ?_
    refine then_n ?_
    refine wp_ret ?_
    refine then_r ?_
    obtain rfl := some_inj h
    have hM := hM.outs (own' := []) 0 rfl
    exact leave1 hf rfl rfl ⟨rfl, hM.fin, (R64_lit rfl)⟩
  · refine cond_f hf rfl hc13 ?_
    refine wp_skip ?_
    refine then_n ?_
    refine wp_seq ?_
    refine region_pl ?_
    refine q_ hf rfl rfl rfl (e_move hf rfl) fun a hf => ?_
    refine q_ hf rfl rfl rfl (e_field hf rfl Try.underlying70 rfl Try.sizeOf9 (o' := 2) rfl) fun a hf => ?_
    refine q_ hf rfl rfl rfl (e_load1 hf rfl Try.isAgg9 (hM.boxCell (k := 0) rfl rfl)) fun a hf => ?_
    refine q_ hf rfl rfl rfl (e_lenS hf (x := a1.Cells) rfl Try.underlying9) fun a hf => ?_
    obtain ⟨z14, hz15, h⟩ := bind_some h
    refine q_ hf rfl rfl rfl (e_sub hf rfl rfl hz15) fun a hf => ?_
    refine q_ hf rfl rfl rfl (e_assign hf rfl) fun a hf => ?_
    refine pl_nil ?_
    refine then_n ?_
    refine wp_seq ?_
    refine wp_seq ?_
    refine region_pl ?_
    refine q_ hf rfl rfl rfl (e_move hf rfl) fun a hf => ?_
    refine q_ hf rfl rfl rfl (e_lt hf (x := z14) (y := 0) rfl rfl) fun a hf => ?_
    refine pl_nil ?_
    refine then_n ?_
    rcases cond_some h with ⟨hc16, h⟩ | ⟨hc16, h⟩
    · refine cond_t hf rfl hc16 ?_
      refine wp_seq ?_
      refine region_pl ?_
      refine q_ hf rfl rfl rfl (e_assign hf rfl) fun a hf => ?_
      refine pl_nil ?_
      refine then_n ?_
      refine wp_ret ?_
      refine then_r ?_
      obtain rfl := some_inj h
      have hM := hM.outs (own' := []) 0 rfl
      exact leave1 hf rfl rfl ⟨rfl, hM.fin, (R64_lit rfl)⟩
    · refine cond_f hf rfl hc16 ?_
      refine wp_skip ?_
      refine then_n ?_
      refine wp_seq ?_
      refine region_pl ?_
      refine q_ hf rfl rfl rfl (e_move hf rfl) fun a hf => ?_
      refine q_ hf rfl rfl rfl (e_assign hf rfl) fun a hf => ?_
      refine pl_nil ?_
      refine then_n ?_
      refine wp_ret ?_
      obtain rfl := some_inj h
      have hM := hM.outs (own' := []) 0 rfl
      exact leave1 hf rfl rfl ⟨rfl, hM.fin, (chk_R hz15)⟩

set_option maxRecDepth 100000 in
set_option maxHeartbeats 4000000 in
theorem r_laws_szEnd (C : Cx) (a1 : End) (hp2 : R64 a1.Board.Size) (hp3 : a1.Board.Premium.length ≤ maxLen) (hp4 : a1.Board.Cells.length ≤ maxLen) (hp5 : a1.Mine.length ≤ maxLen) (hp6 : a1.Theirs.length ≤ maxLen) (left7 : Int) (hp8 : R64 left7) (r : Int) (h : m_laws_szEnd a1 left7 = some r) :
    Calls Try.prog 46 #[.agg #[vI (a1.Board.Size), vS (a1.Board.Premium), vS (a1.Board.Cells), vS (a1.Mine), vS (a1.Theirs), .bool (a1.Passed)], vI (left7)] C.w0 fun e w => e = .returned (vI (r)) ∧ Mem C w [] [] ∧ R64 r := by
  have hM := Mem.begin C [] trivial
  refine enter Try.func46 rfl Try.ntmps46 rfl fun a hf => ?_
  unfold m_laws_szEnd at h
  refine wp_seq ?_
  refine region_pl ?_
  refine pl_l hf rfl rfl rfl (w_box hf hM (cs := [vI (a1.Board.Size), vS (a1.Board.Premium), vS (a1.Board.Cells), vS (a1.Mine), vS (a1.Theirs), .bool (a1.Passed)]) rfl rfl fun b9 w10 hx11 hM a hf => ?_)
  refine q_ hf rfl rfl rfl (e_assign hf rfl) fun a hf => ?_
  refine pl_nil ?_
  refine then_n ?_
  refine wp_seq ?_
  refine region_pl ?_
  refine q_ hf rfl rfl rfl (e_field hf rfl Try.underlying72 rfl Try.sizeOf70 (o' := 0) rfl) fun a hf => ?_
  refine q_ hf rfl rfl rfl (e_loadA hf (us := [vI (a1.Board.Size), vS (a1.Board.Premium), vS (a1.Board.Cells)]) rfl ⟨Try.isAgg70, Try.sizeOf70⟩ rfl (hM.boxSub (k := 0) (us := [vI (a1.Board.Size), vS (a1.Board.Premium), vS (a1.Board.Cells)]) (o := 0) rfl rfl)) fun a hf => ?_
  refine q_ hf rfl rfl rfl (e_move hf rfl) fun a hf => ?_
  obtain ⟨y13, hz14, h⟩ := bind_some h
  refine pl_l hf rfl rfl rfl (w_call hf Try.call88 rfl (r_laws_szBoard ⟨_, Sh C _ _, none_, hM.sh_lt, none_not⟩ a1.Board hp2 hp3 hp4 left7 hp8 _ hz14) ?_)
  rintro _ w16 ⟨rfl, hM2, hv15⟩
  obtain ⟨hM, hx17, hup18⟩ := hM.back hM2
  dsimp only [List.cons_append, List.nil_append] at hM hup18
  clear hM2
  refine ⟨_, rfl, fun a hf => ?_⟩
  refine q_ hf rfl rfl rfl (e_assign hf rfl) fun a hf => ?_
  refine pl_nil ?_
  refine then_n ?_
  refine wp_seq ?_
  refine wp_seq ?_
  refine region_pl ?_
  refine q_ hf rfl rfl rfl (e_move hf rfl) fun a hf => ?_
  refine q_ hf rfl rfl rfl (e_lt hf (x := y13) (y := 0) rfl rfl) fun a hf => ?_
  refine pl_nil ?_
  refine then_n ?_
  rcases cond_some h with ⟨hc19, h⟩ | ⟨hc19, h⟩
  · refine cond_t hf rfl hc19 ?_
    refine wp_seq ?_
    refine region_pl ?_
    refine q_ hf rfl rfl rfl (e_assign hf rfl) fun a hf => ?_
    refine pl_nil ?_
    refine then_n ?_
    refine wp_ret ?_
    refine then_r ?_
    obtain rfl := some_inj h
    have hM := hM.outs (own' := []) 0 rfl
    exact leave1 hf rfl rfl ⟨rfl, hM.fin, (R64_lit rfl)⟩
  · refine cond_f hf rfl hc19 ?_
    refine wp_skip ?_
    refine then_n ?_
    refine wp_seq ?_
    refine region_pl ?_
    refine q_ hf rfl rfl rfl (e_move hf rfl) fun a hf => ?_
    refine q_ hf rfl rfl rfl (e_field hf rfl Try.underlying72 rfl Try.sizeOf9 (o' := 3) rfl) fun a hf => ?_
    refine q_ hf rfl rfl rfl (e_load1 hf rfl Try.isAgg9 (hM.boxCell (k := 0) rfl rfl)) fun a hf => ?_
    refine q_ hf rfl rfl rfl (e_lenS hf (x := a1.Mine) rfl Try.underlying9) fun a hf => ?_
    obtain ⟨z20, hz21, h⟩ := bind_some h
    refine q_ hf rfl rfl rfl (e_sub hf rfl rfl hz21) fun a hf => ?_
    refine q_ hf rfl rfl rfl (e_assign hf rfl) fun a hf => ?_
    refine pl_nil ?_
    refine then_n ?_
    refine wp_seq ?_
    refine wp_seq ?_
    refine region_pl ?_
    refine q_ hf rfl rfl rfl (e_move hf rfl) fun a hf => ?_
    refine q_ hf rfl rfl rfl (e_lt hf (x := z20) (y := 0) rfl rfl) fun a hf => ?_
    refine pl_nil ?_
    refine then_n ?_
    rcases cond_some h with ⟨hc22, h⟩ | ⟨hc22, h⟩
    · refine cond_t hf rfl hc22 ?_
      refine wp_seq ?_
      refine region_pl ?_
      refine q_ hf rfl rfl rfl (e_assign hf rfl) fun a hf => ?_
      refine pl_nil ?_
      refine then_n ?_
      refine wp_ret ?_
      refine then_r ?_
      obtain rfl := some_inj h
      have hM := hM.outs (own' := []) 0 rfl
      exact leave1 hf rfl rfl ⟨rfl, hM.fin, (R64_lit rfl)⟩
    · refine cond_f hf rfl hc22 ?_
      refine wp_skip ?_
      refine then_n ?_
      refine wp_seq ?_
      refine region_pl ?_
      refine q_ hf rfl rfl rfl (e_move hf rfl) fun a hf => ?_
      refine q_ hf rfl rfl rfl (e_field hf rfl Try.underlying72 rfl Try.sizeOf9 (o' := 4) rfl) fun a hf => ?_
      refine q_ hf rfl rfl rfl (e_load1 hf rfl Try.isAgg9 (hM.boxCell (k := 0) rfl rfl)) fun a hf => ?_
      refine q_ hf rfl rfl rfl (e_lenS hf (x := a1.Theirs) rfl Try.underlying9) fun a hf => ?_
      obtain ⟨z23, hz24, h⟩ := bind_some h
      refine q_ hf rfl rfl rfl (e_sub hf rfl rfl hz24) fun a hf => ?_
      refine q_ hf rfl rfl rfl (e_assign hf rfl) fun a hf => ?_
      refine pl_nil ?_
      refine then_n ?_
      refine wp_seq ?_
      refine wp_seq ?_
      refine region_pl ?_
      refine q_ hf rfl rfl rfl (e_move hf rfl) fun a hf => ?_
      refine q_ hf rfl rfl rfl (e_lt hf (x := z23) (y := 0) rfl rfl) fun a hf => ?_
      refine pl_nil ?_
      refine then_n ?_
      rcases cond_some h with ⟨hc25, h⟩ | ⟨hc25, h⟩
      · refine cond_t hf rfl hc25 ?_
        refine wp_seq ?_
        refine region_pl ?_
        refine q_ hf rfl rfl rfl (e_assign hf rfl) fun a hf => ?_
        refine pl_nil ?_
        refine then_n ?_
        refine wp_ret ?_
        refine then_r ?_
        obtain rfl := some_inj h
        have hM := hM.outs (own' := []) 0 rfl
        exact leave1 hf rfl rfl ⟨rfl, hM.fin, (R64_lit rfl)⟩
      · refine cond_f hf rfl hc25 ?_
        refine wp_skip ?_
        refine then_n ?_
        refine wp_seq ?_
        refine region_pl ?_
        refine q_ hf rfl rfl rfl (e_move hf rfl) fun a hf => ?_
        refine q_ hf rfl rfl rfl (e_assign hf rfl) fun a hf => ?_
        refine pl_nil ?_
        refine then_n ?_
        refine wp_ret ?_
        obtain rfl := some_inj h
        have hM := hM.outs (own' := []) 0 rfl
        exact leave1 hf rfl rfl ⟨rfl, hM.fin, (chk_R hz24)⟩

set_option maxRecDepth 100000 in
set_option maxHeartbeats 4000000 in
theorem r_laws_toBoard (C : Cx) (a1 : Board) (hp2 : R64 a1.Size) (hp3 : a1.Premium.length ≤ maxLen) (hp4 : a1.Cells.length ≤ maxLen) (r : Board) (h : m_laws_toBoard a1 = some r) :
    Calls Try.prog 90 #[.agg #[vI (a1.Size), vS (a1.Premium), vS (a1.Cells)]] C.w0 fun e w => e = .returned (.agg #[vI (r.Size), vS (r.Premium), vS (r.Cells)]) ∧ Mem C w [] [] ∧ R64 r.Size ∧ r.Premium.length ≤ maxLen ∧ r.Cells.length ≤ maxLen := by
  have hM := Mem.begin C [] trivial
  refine enter Try.func90 rfl Try.ntmps90 rfl fun a hf => ?_
  unfold m_laws_toBoard at h
  refine wp_seq ?_
  refine region_pl ?_
  refine pl_l hf rfl rfl rfl (w_box hf hM (cs := [vI (a1.Size), vS (a1.Premium), vS (a1.Cells)]) rfl rfl fun b5 w6 hx7 hM a hf => ?_)
  refine pl_l hf rfl rfl rfl (w_alloc hM (cs := [vI (0), vS (([] : Str)), vS (([] : Str))]) Try.zeroValue75 rfl fun b9 w10 hx11 hM a hf => ?_)
  refine pl_nil ?_
  refine then_n ?_
  refine wp_seq ?_
  refine region_pl ?_
  refine pl_l hf rfl rfl rfl (w_alloc hM (cs := [vI (0), vS (([] : Str)), vS (([] : Str))]) Try.zeroValue75 rfl fun b13 w14 hx15 hM a hf => ?_)
  refine pl_nil ?_
  refine then_n ?_
  refine wp_seq ?_
  refine region_pl ?_
  refine q_ hf rfl rfl rfl (e_field hf rfl Try.underlying70 rfl Try.sizeOf2 (o' := 0) rfl) fun a hf => ?_
  refine q_ hf rfl rfl rfl (e_load1 hf rfl Try.isAgg2 (hM.boxCell (k := 2) rfl rfl)) fun a hf => ?_
  refine q_ hf rfl rfl rfl (e_field hf rfl Try.underlying75 rfl Try.sizeOf2 (o' := 0) rfl) fun a hf => ?_
  refine pl_0 hf rfl rfl (w_store hf hM (us := [vI (a1.Size)]) (cs' := [vI (a1.Size), vS (([] : Str)), vS (([] : Str))]) rfl rfl (k := 0) rfl rfl Try.sizeOf2 rfl rfl rfl fun w17 hM => ?_)
  dsimp only [List.set] at hM
  refine pl_nil ?_
  refine then_n ?_
  refine wp_seq ?_
  refine region_pl ?_
  refine q_ hf rfl rfl rfl (e_field hf rfl Try.underlying70 rfl Try.sizeOf9 (o' := 1) rfl) fun a hf => ?_
  refine q_ hf rfl rfl rfl (e_load1 hf rfl Try.isAgg9 (hM.boxCell (k := 2) rfl rfl)) fun a hf => ?_
  refine q_ hf rfl rfl rfl (e_field hf rfl Try.underlying75 rfl Try.sizeOf9 (o' := 1) rfl) fun a hf => ?_
  refine pl_0 hf rfl rfl (w_store hf hM (us := [vS (a1.Premium)]) (cs' := [vI (a1.Size), vS (a1.Premium), vS (([] : Str))]) rfl rfl (k := 0) rfl rfl Try.sizeOf9 rfl rfl rfl fun w20 hM => ?_)
  dsimp only [List.set] at hM
  refine pl_nil ?_
  refine then_n ?_
  refine wp_seq ?_
  refine region_pl ?_
  refine q_ hf rfl rfl rfl (e_field hf rfl Try.underlying70 rfl Try.sizeOf9 (o' := 2) rfl) fun a hf => ?_
  refine q_ hf rfl rfl rfl (e_load1 hf rfl Try.isAgg9 (hM.boxCell (k := 2) rfl rfl)) fun a hf => ?_
  refine q_ hf rfl rfl rfl (e_field hf rfl Try.underlying75 rfl Try.sizeOf9 (o' := 2) rfl) fun a hf => ?_
  refine pl_0 hf rfl rfl (w_store hf hM (us := [vS (a1.Cells)]) (cs' := [vI (a1.Size), vS (a1.Premium), vS (a1.Cells)]) rfl rfl (k := 0) rfl rfl Try.sizeOf9 rfl rfl rfl fun w23 hM => ?_)
  dsimp only [List.set] at hM
  refine pl_nil ?_
  refine then_n ?_
  refine wp_seq ?_
  refine region_pl ?_
  refine q_ hf rfl rfl rfl (e_loadA hf (us := [vI (a1.Size), vS (a1.Premium), vS (a1.Cells)]) rfl ⟨Try.isAgg75, Try.sizeOf75⟩ rfl (hM.boxSub (k := 0) (us := [vI (a1.Size), vS (a1.Premium), vS (a1.Cells)]) (o := 0) rfl rfl)) fun a hf => ?_
  refine pl_0 hf rfl rfl (w_store hf hM (us := [vI (a1.Size), vS (a1.Premium), vS (a1.Cells)]) (cs' := [vI (a1.Size), vS (a1.Premium), vS (a1.Cells)]) rfl rfl (k := 1) rfl rfl Try.sizeOf75 rfl rfl rfl fun w26 hM => ?_)
  dsimp only [List.set] at hM
  refine pl_nil ?_
  refine then_n ?_
  refine wp_ret ?_
  obtain rfl := some_inj h
  have hres29 := leaveV1 (P := Try.prog) Try.results90 (res_agg hf rfl ⟨Try.isAgg75, Try.sizeOf75⟩ (us := [vI (a1.Size), vS (a1.Premium), vS (a1.Cells)]) rfl (hM.boxSub (k := 1) (o := 0) rfl rfl))
  have hM := hM.outs (own' := []) 0 rfl
  exact bodyPost_ret hres29 hf.defers ⟨rfl, hM.fin, hp2, hp3, hp4⟩

set_option maxRecDepth 100000 in
set_option maxHeartbeats 4000000 in
theorem r_laws_toEnd (C : Cx) (a1 : End) (hp2 : R64 a1.Board.Size) (hp3 : a1.Board.Premium.length ≤ maxLen) (hp4 : a1.Board.Cells.length ≤ maxLen) (hp5 : a1.Mine.length ≤ maxLen) (hp6 : a1.Theirs.length ≤ maxLen) (r : End) (h : m_laws_toEnd a1 = some r) :
    Calls Try.prog 48 #[.agg #[vI (a1.Board.Size), vS (a1.Board.Premium), vS (a1.Board.Cells), vS (a1.Mine), vS (a1.Theirs), .bool (a1.Passed)]] C.w0 fun e w => e = .returned (.agg #[vI (r.Board.Size), vS (r.Board.Premium), vS (r.Board.Cells), vS (r.Mine), vS (r.Theirs), .bool (r.Passed)]) ∧ Mem C w [] [] ∧ R64 r.Board.Size ∧ r.Board.Premium.length ≤ maxLen ∧ r.Board.Cells.length ≤ maxLen ∧ r.Mine.length ≤ maxLen ∧ r.Theirs.length ≤ maxLen := by
  have hM := Mem.begin C [] trivial
  refine enter Try.func48 rfl Try.ntmps48 rfl fun a hf => ?_
  unfold m_laws_toEnd at h
  refine wp_seq ?_
  refine region_pl ?_
  refine pl_l hf rfl rfl rfl (w_box hf hM (cs := [vI (a1.Board.Size), vS (a1.Board.Premium), vS (a1.Board.Cells), vS (a1.Mine), vS (a1.Theirs), .bool (a1.Passed)]) rfl rfl fun b7 w8 hx9 hM a hf => ?_)
  refine pl_l hf rfl rfl rfl (w_alloc hM (cs := [vI (0), vS (([] : Str)), vS (([] : Str)), vS (([] : Str)), vS (([] : Str)), .bool (false)]) Try.zeroValue77 rfl fun b11 w12 hx13 hM a hf => ?_)
  refine pl_nil ?_
  refine then_n ?_
  refine wp_seq ?_
  refine region_pl ?_
  refine pl_l hf rfl rfl rfl (w_alloc hM (cs := [vI (0), vS (([] : Str)), vS (([] : Str)), vS (([] : Str)), vS (([] : Str)), .bool (false)]) Try.zeroValue77 rfl fun b15 w16 hx17 hM a hf => ?_)
  refine pl_nil ?_
  refine then_n ?_
  refine wp_seq ?_
  refine region_pl ?_
  refine q_ hf rfl rfl rfl (e_field hf rfl Try.underlying72 rfl Try.sizeOf70 (o' := 0) rfl) fun a hf => ?_
  refine q_ hf rfl rfl rfl (e_loadA hf (us := [vI (a1.Board.Size), vS (a1.Board.Premium), vS (a1.Board.Cells)]) rfl ⟨Try.isAgg70, Try.sizeOf70⟩ rfl (hM.boxSub (k := 2) (us := [vI (a1.Board.Size), vS (a1.Board.Premium), vS (a1.Board.Cells)]) (o := 0) rfl rfl)) fun a hf => ?_
  obtain ⟨y19, hz20, h⟩ := bind_some h
  refine pl_l hf rfl rfl rfl (w_call hf Try.call90 rfl (r_laws_toBoard ⟨_, Sh C _ _, none_, hM.sh_lt, none_not⟩ a1.Board hp2 hp3 hp4 _ hz20) ?_)
  rintro _ w24 ⟨rfl, hM2, hv21, hv22, hv23⟩
  obtain ⟨hM, hx25, hup26⟩ := hM.back hM2
  dsimp only [List.cons_append, List.nil_append] at hM hup26
  clear hM2
  refine ⟨_, rfl, fun a hf => ?_⟩
  refine q_ hf rfl rfl rfl (e_field hf rfl Try.underlying77 rfl Try.sizeOf75 (o' := 0) rfl) fun a hf => ?_
  refine pl_0 hf rfl rfl (w_store hf hM (us := [vI (y19.Size), vS (y19.Premium), vS (y19.Cells)]) (cs' := [vI (y19.Size), vS (y19.Premium), vS (y19.Cells), vS (([] : Str)), vS (([] : Str)), .bool (false)]) rfl rfl (k := 0) rfl rfl Try.sizeOf75 rfl rfl rfl fun w27 hM => ?_)
  dsimp only [List.set] at hM
  refine pl_nil ?_
  refine then_n ?_
  refine wp_seq ?_
  refine region_pl ?_
  refine q_ hf rfl rfl rfl (e_field hf rfl Try.underlying72 rfl Try.sizeOf9 (o' := 3) rfl) fun a hf => ?_
  refine q_ hf rfl rfl rfl (e_load1 hf rfl Try.isAgg9 (hM.boxCell (k := 2) rfl rfl)) fun a hf => ?_
  refine q_ hf rfl rfl rfl (e_field hf rfl Try.underlying77 rfl Try.sizeOf9 (o' := 3) rfl) fun a hf => ?_
  refine pl_0 hf rfl rfl (w_store hf hM (us := [vS (a1.Mine)]) (cs' := [vI (y19.Size), vS (y19.Premium), vS (y19.Cells), vS (a1.Mine), vS (([] : Str)), .bool (false)]) rfl rfl (k := 0) rfl rfl Try.sizeOf9 rfl rfl rfl fun w30 hM => ?_)
  dsimp only [List.set] at hM
  refine pl_nil ?_
  refine then_n ?_
  refine wp_seq ?_
  refine region_pl ?_
  refine q_ hf rfl rfl rfl (e_field hf rfl Try.underlying72 rfl Try.sizeOf9 (o' := 4) rfl) fun a hf => ?_
  refine q_ hf rfl rfl rfl (e_load1 hf rfl Try.isAgg9 (hM.boxCell (k := 2) rfl rfl)) fun a hf => ?_
  refine q_ hf rfl rfl rfl (e_field hf rfl Try.underlying77 rfl Try.sizeOf9 (o' := 4) rfl) fun a hf => ?_
  refine pl_0 hf rfl rfl (w_store hf hM (us := [vS (a1.Theirs)]) (cs' := [vI (y19.Size), vS (y19.Premium), vS (y19.Cells), vS (a1.Mine), vS (a1.Theirs), .bool (false)]) rfl rfl (k := 0) rfl rfl Try.sizeOf9 rfl rfl rfl fun w33 hM => ?_)
  dsimp only [List.set] at hM
  refine pl_nil ?_
  refine then_n ?_
  refine wp_seq ?_
  refine region_pl ?_
  refine q_ hf rfl rfl rfl (e_field hf rfl Try.underlying72 rfl Try.sizeOf4 (o' := 5) rfl) fun a hf => ?_
  refine q_ hf rfl rfl rfl (e_load1 hf rfl Try.isAgg4 (hM.boxCell (k := 2) rfl rfl)) fun a hf => ?_
  refine q_ hf rfl rfl rfl (e_field hf rfl Try.underlying77 rfl Try.sizeOf4 (o' := 5) rfl) fun a hf => ?_
  refine pl_0 hf rfl rfl (w_store hf hM (us := [.bool (a1.Passed)]) (cs' := [vI (y19.Size), vS (y19.Premium), vS (y19.Cells), vS (a1.Mine), vS (a1.Theirs), .bool (a1.Passed)]) rfl rfl (k := 0) rfl rfl Try.sizeOf4 rfl rfl rfl fun w36 hM => ?_)
  dsimp only [List.set] at hM
  refine pl_nil ?_
  refine then_n ?_
  refine wp_seq ?_
  refine region_pl ?_
  refine q_ hf rfl rfl rfl (e_loadA hf (us := [vI (y19.Size), vS (y19.Premium), vS (y19.Cells), vS (a1.Mine), vS (a1.Theirs), .bool (a1.Passed)]) rfl ⟨Try.isAgg77, Try.sizeOf77⟩ rfl (hM.boxSub (k := 0) (us := [vI (y19.Size), vS (y19.Premium), vS (y19.Cells), vS (a1.Mine), vS (a1.Theirs), .bool (a1.Passed)]) (o := 0) rfl rfl)) fun a hf => ?_
  refine pl_0 hf rfl rfl (w_store hf hM (us := [vI (y19.Size), vS (y19.Premium), vS (y19.Cells), vS (a1.Mine), vS (a1.Theirs), .bool (a1.Passed)]) (cs' := [vI (y19.Size), vS (y19.Premium), vS (y19.Cells), vS (a1.Mine), vS (a1.Theirs), .bool (a1.Passed)]) rfl rfl (k := 1) rfl rfl Try.sizeOf77 rfl rfl rfl fun w39 hM => ?_)
  dsimp only [List.set] at hM
  refine pl_nil ?_
  refine then_n ?_
  refine wp_ret ?_
  obtain rfl := some_inj h
  have hres42 := leaveV1 (P := Try.prog) Try.results48 (res_agg hf rfl ⟨Try.isAgg77, Try.sizeOf77⟩ (us := [vI (y19.Size), vS (y19.Premium), vS (y19.Cells), vS (a1.Mine), vS (a1.Theirs), .bool (a1.Passed)]) rfl (hM.boxSub (k := 1) (o := 0) rfl rfl))
  have hM := hM.outs (own' := []) 0 rfl
  exact bodyPost_ret hres42 hf.defers ⟨rfl, hM.fin, hv21, hv22, hv23, hp5, hp6⟩

set_option maxRecDepth 100000 in
set_option maxHeartbeats 4000000 in
theorem r_spec_l00In (C : Cx) (n1 : Int) (hp2 : R64 n1) (low3 : Int) (hp4 : R64 low3) (high5 : Int) (hp6 : R64 high5) (r : Bool) (h : m_spec_l00In n1 low3 high5 = some r) :
    Calls Try.prog 95 #[vI (n1), vI (low3), vI (high5)] C.w0 fun e w => e = .returned (.bool (r)) ∧ Mem C w [] [] := by
  have hM := Mem.begin C [] trivial
  refine enter Try.func95 rfl Try.ntmps95 rfl fun a hf => ?_
  unfold m_spec_l00In at h
  refine wp_seq ?_
  refine region_pl ?_
  refine q_ hf rfl rfl rfl (e_assign hf rfl) fun a hf => ?_
  refine pl_nil ?_
  refine then_n ?_
  obtain ⟨x9, h10, h⟩ := bind_some h
  refine seq_join (fun a w => ∃ (t7 : Bool), t7 = x9 ∧ Has 15 a [(6, .bool (t7))] ∧ Mem C w [] []) ?_ ?_
  · refine region_pl ?_
    refine q_ hf rfl rfl rfl (e_move hf rfl) fun a hf => ?_
    refine q_ hf rfl rfl rfl (e_move hf rfl) fun a hf => ?_
    refine q_ hf rfl rfl rfl (e_ge hf (x := n1) (y := low3) rfl rfl) fun a hf => ?_
    refine q_ hf rfl rfl rfl (e_move hf rfl) fun a hf => ?_
    rcases cond_some h10 with ⟨hc11, h10⟩ | ⟨hc11, h10⟩
    · refine gq (wanted_t hf rfl rfl rfl rfl hc11) hf rfl rfl (e_move hf rfl) fun a hf => ?_
      refine gq (wanted_t hf rfl rfl rfl rfl hc11) hf rfl rfl (e_move hf rfl) fun a hf => ?_
      refine gq (wanted_t hf rfl rfl rfl rfl hc11) hf rfl rfl (e_le hf (x := n1) (y := high5) rfl rfl) fun a hf => ?_
      refine q_ hf rfl rfl rfl (e_pick_t hf rfl hc11 rfl) fun a hf => ?_
      refine q_ hf rfl rfl rfl (e_assign hf rfl) fun a hf => ?_
      refine pl_nil ?_
      obtain rfl := some_inj h10
      refine then_n ?_
      exact ⟨(decide (n1 ≤ high5)), rfl, hf.keep ⟨rfl, trivial⟩, hM.pick [] rfl⟩
    · refine pl_gs (wanted_f hf rfl rfl rfl rfl hc11) hf rfl rfl fun a hf => ?_
      refine pl_gs (wanted_f hf rfl rfl rfl rfl hc11) hf rfl rfl fun a hf => ?_
      refine pl_gs (wanted_f hf rfl rfl rfl rfl hc11) hf rfl rfl fun a hf => ?_
      refine q_ hf rfl rfl rfl (e_pick_f hf rfl hc11 rfl) fun a hf => ?_
      refine q_ hf rfl rfl rfl (e_assign hf rfl) fun a hf => ?_
      refine pl_nil ?_
      obtain rfl := some_inj h10
      refine then_n ?_
      exact ⟨false, rfl, hf.keep ⟨rfl, trivial⟩, hM.pick [] rfl⟩
  · rintro a w14 ⟨t7, rfl, hf, hM⟩
    try dsimp only at h
    refine wp_ret ?_
    obtain rfl := some_inj h
    exact leave1 hf rfl rfl ⟨rfl, hM.fin⟩

set_option maxRecDepth 100000 in
set_option maxHeartbeats 4000000 in
theorem r_spec_l11Size (C : Cx) (size1 : Int) (hp2 : R64 size1) (r : Bool) (h : m_spec_l11Size size1 = some r) :
    Calls Try.prog 130 #[vI (size1)] C.w0 fun e w => e = .returned (.bool (r)) ∧ Mem C w [] [] := by
  have hM := Mem.begin C [] trivial
  refine enter Try.func130 rfl Try.ntmps130 rfl fun a hf => ?_
  unfold m_spec_l11Size at h
  refine wp_seq ?_
  refine region_pl ?_
  refine q_ hf rfl rfl rfl (e_assign hf rfl) fun a hf => ?_
  refine pl_nil ?_
  refine then_n ?_
  refine wp_seq ?_
  refine region_pl ?_
  refine q_ hf rfl rfl rfl (e_move hf rfl) fun a hf => ?_
  obtain ⟨y3, hz4, h⟩ := bind_some h
  refine pl_l hf rfl rfl rfl (w_call hf Try.call95 rfl (r_spec_l00In ⟨_, Sh C _ _, none_, hM.sh_lt, none_not⟩ size1 hp2 5 (R64_lit rfl) 15 (R64_lit rfl) _ hz4) ?_)
  rintro _ w5 ⟨rfl, hM2⟩
  obtain ⟨hM, hx6, hup7⟩ := hM.back hM2
  dsimp only [List.cons_append, List.nil_append] at hM hup7
  clear hM2
  refine ⟨_, rfl, fun a hf => ?_⟩
  refine q_ hf rfl rfl rfl (e_assign hf rfl) fun a hf => ?_
  refine pl_nil ?_
  refine then_n ?_
  refine wp_ret ?_
  obtain rfl := some_inj h
  exact leave1 hf rfl rfl ⟨rfl, hM.fin⟩

set_option maxRecDepth 100000 in
set_option maxHeartbeats 4000000 in
theorem r_spec_l01Small (C : Cx) (c1 : UInt8) (r : Bool) (h : m_spec_l01Small c1 = some r) :
    Calls Try.prog 99 #[vB (c1)] C.w0 fun e w => e = .returned (.bool (r)) ∧ Mem C w [] [] := by
  have hM := Mem.begin C [] trivial
  refine enter Try.func99 rfl Try.ntmps99 rfl fun a hf => ?_
  unfold m_spec_l01Small at h
  refine wp_seq ?_
  refine region_pl ?_
  refine q_ hf rfl rfl rfl (e_assign hf rfl) fun a hf => ?_
  refine pl_nil ?_
  refine then_n ?_
  obtain ⟨x4, h5, h⟩ := bind_some h
  refine seq_join (fun a w => ∃ (t2 : Bool), t2 = x4 ∧ Has 9 a [(2, .bool (t2))] ∧ Mem C w [] []) ?_ ?_
  · refine region_pl ?_
    refine q_ hf rfl rfl rfl (e_move hf rfl) fun a hf => ?_
    refine q_ hf rfl rfl rfl (e_geB hf (x := c1) (y := 97) rfl rfl) fun a hf => ?_
    refine q_ hf rfl rfl rfl (e_move hf rfl) fun a hf => ?_
    rcases cond_some h5 with ⟨hc6, h5⟩ | ⟨hc6, h5⟩
    · refine gq (wanted_t hf rfl rfl rfl rfl hc6) hf rfl rfl (e_move hf rfl) fun a hf => ?_
      refine gq (wanted_t hf rfl rfl rfl rfl hc6) hf rfl rfl (e_leB hf (x := c1) (y := 122) rfl rfl) fun a hf => ?_
      refine q_ hf rfl rfl rfl (e_pick_t hf rfl hc6 rfl) fun a hf => ?_
      refine q_ hf rfl rfl rfl (e_assign hf rfl) fun a hf => ?_
      refine pl_nil ?_
      obtain rfl := some_inj h5
      refine then_n ?_
      exact ⟨(decide (c1 ≤ 122)), rfl, hf.keep ⟨rfl, trivial⟩, hM.pick [] rfl⟩
    · refine pl_gs (wanted_f hf rfl rfl rfl rfl hc6) hf rfl rfl fun a hf => ?_
      refine pl_gs (wanted_f hf rfl rfl rfl rfl hc6) hf rfl rfl fun a hf => ?_
      refine q_ hf rfl rfl rfl (e_pick_f hf rfl hc6 rfl) fun a hf => ?_
      refine q_ hf rfl rfl rfl (e_assign hf rfl) fun a hf => ?_
      refine pl_nil ?_
      obtain rfl := some_inj h5
      refine then_n ?_
      exact ⟨false, rfl, hf.keep ⟨rfl, trivial⟩, hM.pick [] rfl⟩
  · rintro a w9 ⟨t2, rfl, hf, hM⟩
    try dsimp only at h
    refine wp_ret ?_
    obtain rfl := some_inj h
    exact leave1 hf rfl rfl ⟨rfl, hM.fin⟩

set_option maxRecDepth 100000 in
set_option maxHeartbeats 4000000 in
theorem r_spec_l03Capital (C : Cx) (c1 : UInt8) (r : Bool) (h : m_spec_l03Capital c1 = some r) :
    Calls Try.prog 140 #[vB (c1)] C.w0 fun e w => e = .returned (.bool (r)) ∧ Mem C w [] [] := by
  have hM := Mem.begin C [] trivial
  refine enter Try.func140 rfl Try.ntmps140 rfl fun a hf => ?_
  unfold m_spec_l03Capital at h
  refine wp_seq ?_
  refine region_pl ?_
  refine q_ hf rfl rfl rfl (e_assign hf rfl) fun a hf => ?_
  refine pl_nil ?_
  refine then_n ?_
  obtain ⟨x4, h5, h⟩ := bind_some h
  refine seq_join (fun a w => ∃ (t2 : Bool), t2 = x4 ∧ Has 9 a [(2, .bool (t2))] ∧ Mem C w [] []) ?_ ?_
  · refine region_pl ?_
    refine q_ hf rfl rfl rfl (e_move hf rfl) fun a hf => ?_
    refine q_ hf rfl rfl rfl (e_geB hf (x := c1) (y := 65) rfl rfl) fun a hf => ?_
    refine q_ hf rfl rfl rfl (e_move hf rfl) fun a hf => ?_
    rcases cond_some h5 with ⟨hc6, h5⟩ | ⟨hc6, h5⟩
    · refine gq (wanted_t hf rfl rfl rfl rfl hc6) hf rfl rfl (e_move hf rfl) fun a hf => ?_
      refine gq (wanted_t hf rfl rfl rfl rfl hc6) hf rfl rfl (e_leB hf (x := c1) (y := 90) rfl rfl) fun a hf => ?_
      refine q_ hf rfl rfl rfl (e_pick_t hf rfl hc6 rfl) fun a hf => ?_
      refine q_ hf rfl rfl rfl (e_assign hf rfl) fun a hf => ?_
      refine pl_nil ?_
      obtain rfl := some_inj h5
      refine then_n ?_
      exact ⟨(decide (c1 ≤ 90)), rfl, hf.keep ⟨rfl, trivial⟩, hM.pick [] rfl⟩
    · refine pl_gs (wanted_f hf rfl rfl rfl rfl hc6) hf rfl rfl fun a hf => ?_
      refine pl_gs (wanted_f hf rfl rfl rfl rfl hc6) hf rfl rfl fun a hf => ?_
      refine q_ hf rfl rfl rfl (e_pick_f hf rfl hc6 rfl) fun a hf => ?_
      refine q_ hf rfl rfl rfl (e_assign hf rfl) fun a hf => ?_
      refine pl_nil ?_
      obtain rfl := some_inj h5
      refine then_n ?_
      exact ⟨false, rfl, hf.keep ⟨rfl, trivial⟩, hM.pick [] rfl⟩
  · rintro a w9 ⟨t2, rfl, hf, hM⟩
    try dsimp only at h
    refine wp_ret ?_
    obtain rfl := some_inj h
    exact leave1 hf rfl rfl ⟨rfl, hM.fin⟩

set_option maxRecDepth 100000 in
set_option maxHeartbeats 4000000 in
theorem r_spec_l11Cell (C : Cx) (c1 : UInt8) (r : Bool) (h : m_spec_l11Cell c1 = some r) :
    Calls Try.prog 131 #[vB (c1)] C.w0 fun e w => e = .returned (.bool (r)) ∧ Mem C w [] [] := by
  have hM := Mem.begin C [] trivial
  refine enter Try.func131 rfl Try.ntmps131 rfl fun a hf => ?_
  unfold m_spec_l11Cell at h
  refine wp_seq ?_
  refine region_pl ?_
  refine q_ hf rfl rfl rfl (e_assign hf rfl) fun a hf => ?_
  refine pl_nil ?_
  refine then_n ?_
  obtain ⟨x4, h5, h⟩ := bind_some h
  refine seq_join (fun a w => ∃ (t2 : Bool), t2 = x4 ∧ Has 13 a [(2, .bool (t2))] ∧ Mem C w [] []) ?_ ?_
  · refine region_pl ?_
    refine q_ hf rfl rfl rfl (e_move hf rfl) fun a hf => ?_
    refine q_ hf rfl rfl rfl (e_eqB hf (x := c1) (y := 46) rfl rfl) fun a hf => ?_
    refine q_ hf rfl rfl rfl (e_move hf rfl) fun a hf => ?_
    rcases cond_some h5 with ⟨hc6, h5⟩ | ⟨hc6, h5⟩
    · refine pl_gs (wanted_f hf rfl rfl rfl rfl hc6) hf rfl rfl fun a hf => ?_
      refine pl_gs (wanted_f hf rfl rfl rfl rfl hc6) hf rfl rfl fun a hf => ?_
      refine q_ hf rfl rfl rfl (e_pick_t hf rfl hc6 rfl) fun a hf => ?_
      refine q_ hf rfl rfl rfl (e_move hf rfl) fun a hf => ?_
      refine pl_gs (wanted_f hf rfl rfl rfl rfl rfl) hf rfl rfl fun a hf => ?_
      refine pl_gs (wanted_f hf rfl rfl rfl rfl rfl) hf rfl rfl fun a hf => ?_
      refine q_ hf rfl rfl rfl (e_pick_t hf rfl rfl rfl) fun a hf => ?_
      refine q_ hf rfl rfl rfl (e_assign hf rfl) fun a hf => ?_
      refine pl_nil ?_
      obtain rfl := some_inj h5
      refine then_n ?_
      exact ⟨true, rfl, hf.keep ⟨rfl, trivial⟩, hM.pick [] rfl⟩
    · refine gq (wanted_t hf rfl rfl rfl rfl hc6) hf rfl rfl (e_move hf rfl) fun a hf => ?_
      obtain ⟨y8, hz9, h5⟩ := bind_some h5
      refine pl_gl (wanted_t hf rfl rfl rfl rfl hc6) hf rfl rfl (w_call hf Try.call99 rfl (r_spec_l01Small ⟨_, Sh C _ _, none_, hM.sh_lt, none_not⟩ c1 _ hz9) ?_)
      rintro _ w10 ⟨rfl, hM2⟩
      obtain ⟨hM, hx11, hup12⟩ := hM.back hM2
      dsimp only [List.cons_append, List.nil_append] at hM hup12
      clear hM2
      refine ⟨_, rfl, fun a hf => ?_⟩
      refine q_ hf rfl rfl rfl (e_pick_f hf rfl hc6 rfl) fun a hf => ?_
      refine q_ hf rfl rfl rfl (e_move hf rfl) fun a hf => ?_
      rcases cond_some h5 with ⟨hc13, h5⟩ | ⟨hc13, h5⟩
      · refine pl_gs (wanted_f hf rfl rfl rfl rfl hc13) hf rfl rfl fun a hf => ?_
        refine pl_gs (wanted_f hf rfl rfl rfl rfl hc13) hf rfl rfl fun a hf => ?_
        refine q_ hf rfl rfl rfl (e_pick_t hf rfl hc13 rfl) fun a hf => ?_
        refine q_ hf rfl rfl rfl (e_assign hf rfl) fun a hf => ?_
        refine pl_nil ?_
        obtain rfl := some_inj h5
        refine then_n ?_
        exact ⟨true, rfl, hf.keep ⟨rfl, trivial⟩, hM.pick [] rfl⟩
      · refine gq (wanted_t hf rfl rfl rfl rfl hc13) hf rfl rfl (e_move hf rfl) fun a hf => ?_
        obtain ⟨y15, hz16, h5⟩ := bind_some h5
        refine pl_gl (wanted_t hf rfl rfl rfl rfl hc13) hf rfl rfl (w_call hf Try.call140 rfl (r_spec_l03Capital ⟨_, Sh C _ _, none_, hM.sh_lt, none_not⟩ c1 _ hz16) ?_)
        rintro _ w17 ⟨rfl, hM2⟩
        obtain ⟨hM, hx18, hup19⟩ := hM.back hM2
        dsimp only [List.cons_append, List.nil_append] at hM hup19
        clear hM2
        refine ⟨_, rfl, fun a hf => ?_⟩
        refine q_ hf rfl rfl rfl (e_pick_f hf rfl hc13 rfl) fun a hf => ?_
        refine q_ hf rfl rfl rfl (e_assign hf rfl) fun a hf => ?_
        refine pl_nil ?_
        obtain rfl := some_inj h5
        refine then_n ?_
        exact ⟨y15, rfl, hf.keep ⟨rfl, trivial⟩, hM.pick [] rfl⟩
  · rintro a w21 ⟨t2, rfl, hf, hM⟩
    try dsimp only at h
    refine wp_ret ?_
    obtain rfl := some_inj h
    exact leave1 hf rfl rfl ⟨rfl, hM.fin⟩

set_option maxRecDepth 100000 in
set_option maxHeartbeats 4000000 in
theorem r_spec_l11Premium (C : Cx) (c1 : UInt8) (r : Bool) (h : m_spec_l11Premium c1 = some r) :
    Calls Try.prog 132 #[vB (c1)] C.w0 fun e w => e = .returned (.bool (r)) ∧ Mem C w [] [] := by
  have hM := Mem.begin C [] trivial
  refine enter Try.func132 rfl Try.ntmps132 rfl fun a hf => ?_
  unfold m_spec_l11Premium at h
  refine wp_seq ?_
  refine region_pl ?_
  refine q_ hf rfl rfl rfl (e_assign hf rfl) fun a hf => ?_
  refine pl_nil ?_
  refine then_n ?_
  obtain ⟨x4, h5, h⟩ := bind_some h
  refine seq_join (fun a w => ∃ (t2 : Bool), t2 = x4 ∧ Has 21 a [(2, .bool (t2))] ∧ Mem C w [] []) ?_ ?_
  · refine region_pl ?_
    refine q_ hf rfl rfl rfl (e_move hf rfl) fun a hf => ?_
    refine q_ hf rfl rfl rfl (e_eqB hf (x := c1) (y := 46) rfl rfl) fun a hf => ?_
    refine q_ hf rfl rfl rfl (e_move hf rfl) fun a hf => ?_
    rcases cond_some h5 with ⟨hc6, h5⟩ | ⟨hc6, h5⟩
    · refine pl_gs (wanted_f hf rfl rfl rfl rfl hc6) hf rfl rfl fun a hf => ?_
      refine pl_gs (wanted_f hf rfl rfl rfl rfl hc6) hf rfl rfl fun a hf => ?_
      refine q_ hf rfl rfl rfl (e_pick_t hf rfl hc6 rfl) fun a hf => ?_
      refine q_ hf rfl rfl rfl (e_move hf rfl) fun a hf => ?_
      refine pl_gs (wanted_f hf rfl rfl rfl rfl rfl) hf rfl rfl fun a hf => ?_
      refine pl_gs (wanted_f hf rfl rfl rfl rfl rfl) hf rfl rfl fun a hf => ?_
      refine q_ hf rfl rfl rfl (e_pick_t hf rfl rfl rfl) fun a hf => ?_
      refine q_ hf rfl rfl rfl (e_move hf rfl) fun a hf => ?_
      refine pl_gs (wanted_f hf rfl rfl rfl rfl rfl) hf rfl rfl fun a hf => ?_
      refine pl_gs (wanted_f hf rfl rfl rfl rfl rfl) hf rfl rfl fun a hf => ?_
      refine q_ hf rfl rfl rfl (e_pick_t hf rfl rfl rfl) fun a hf => ?_
      refine q_ hf rfl rfl rfl (e_move hf rfl) fun a hf => ?_
      refine pl_gs (wanted_f hf rfl rfl rfl rfl rfl) hf rfl rfl fun a hf => ?_
      refine pl_gs (wanted_f hf rfl rfl rfl rfl rfl) hf rfl rfl fun a hf => ?_
      refine q_ hf rfl rfl rfl (e_pick_t hf rfl rfl rfl) fun a hf => ?_
      refine q_ hf rfl rfl rfl (e_assign hf rfl) fun a hf => ?_
      refine pl_nil ?_
      obtain rfl := some_inj h5
      refine then_n ?_
      exact ⟨true, rfl, hf.keep ⟨rfl, trivial⟩, hM.pick [] rfl⟩
    · refine gq (wanted_t hf rfl rfl rfl rfl hc6) hf rfl rfl (e_move hf rfl) fun a hf => ?_
      refine gq (wanted_t hf rfl rfl rfl rfl hc6) hf rfl rfl (e_eqB hf (x := c1) (y := 50) rfl rfl) fun a hf => ?_
      refine q_ hf rfl rfl rfl (e_pick_f hf rfl hc6 rfl) fun a hf => ?_
      refine q_ hf rfl rfl rfl (e_move hf rfl) fun a hf => ?_
      rcases cond_some h5 with ⟨hc8, h5⟩ | ⟨hc8, h5⟩
      · refine pl_gs (wanted_f hf rfl rfl rfl rfl hc8) hf rfl rfl fun a hf => ?_
        refine pl_gs (wanted_f hf rfl rfl rfl rfl hc8) hf rfl rfl fun a hf => ?_
        refine q_ hf rfl rfl rfl (e_pick_t hf rfl hc8 rfl) fun a hf => ?_
        refine q_ hf rfl rfl rfl (e_move hf rfl) fun a hf => ?_
        refine pl_gs (wanted_f hf rfl rfl rfl rfl rfl) hf rfl rfl fun a hf => ?_
        refine pl_gs (wanted_f hf rfl rfl rfl rfl rfl) hf rfl rfl fun a hf => ?_
        refine q_ hf rfl rfl rfl (e_pick_t hf rfl rfl rfl) fun a hf => ?_
        refine q_ hf rfl rfl rfl (e_move hf rfl) fun a hf => ?_
        refine pl_gs (wanted_f hf rfl rfl rfl rfl rfl) hf rfl rfl fun a hf => ?_
        refine pl_gs (wanted_f hf rfl rfl rfl rfl rfl) hf rfl rfl fun a hf => ?_
        refine q_ hf rfl rfl rfl (e_pick_t hf rfl rfl rfl) fun a hf => ?_
        refine q_ hf rfl rfl rfl (e_assign hf rfl) fun a hf => ?_
        refine pl_nil ?_
        obtain rfl := some_inj h5
        refine then_n ?_
        exact ⟨true, rfl, hf.keep ⟨rfl, trivial⟩, hM.pick [] rfl⟩
      · refine gq (wanted_t hf rfl rfl rfl rfl hc8) hf rfl rfl (e_move hf rfl) fun a hf => ?_
        refine gq (wanted_t hf rfl rfl rfl rfl hc8) hf rfl rfl (e_eqB hf (x := c1) (y := 51) rfl rfl) fun a hf => ?_
        refine q_ hf rfl rfl rfl (e_pick_f hf rfl hc8 rfl) fun a hf => ?_
        refine q_ hf rfl rfl rfl (e_move hf rfl) fun a hf => ?_
        rcases cond_some h5 with ⟨hc10, h5⟩ | ⟨hc10, h5⟩
        · refine pl_gs (wanted_f hf rfl rfl rfl rfl hc10) hf rfl rfl fun a hf => ?_
          refine pl_gs (wanted_f hf rfl rfl rfl rfl hc10) hf rfl rfl fun a hf => ?_
          refine q_ hf rfl rfl rfl (e_pick_t hf rfl hc10 rfl) fun a hf => ?_
          refine q_ hf rfl rfl rfl (e_move hf rfl) fun a hf => ?_
          refine pl_gs (wanted_f hf rfl rfl rfl rfl rfl) hf rfl rfl fun a hf => ?_
          refine pl_gs (wanted_f hf rfl rfl rfl rfl rfl) hf rfl rfl fun a hf => ?_
          refine q_ hf rfl rfl rfl (e_pick_t hf rfl rfl rfl) fun a hf => ?_
          refine q_ hf rfl rfl rfl (e_assign hf rfl) fun a hf => ?_
          refine pl_nil ?_
          obtain rfl := some_inj h5
          refine then_n ?_
          exact ⟨true, rfl, hf.keep ⟨rfl, trivial⟩, hM.pick [] rfl⟩
        · refine gq (wanted_t hf rfl rfl rfl rfl hc10) hf rfl rfl (e_move hf rfl) fun a hf => ?_
          refine gq (wanted_t hf rfl rfl rfl rfl hc10) hf rfl rfl (e_eqB hf (x := c1) (y := 100) rfl rfl) fun a hf => ?_
          refine q_ hf rfl rfl rfl (e_pick_f hf rfl hc10 rfl) fun a hf => ?_
          refine q_ hf rfl rfl rfl (e_move hf rfl) fun a hf => ?_
          rcases cond_some h5 with ⟨hc12, h5⟩ | ⟨hc12, h5⟩
          · refine pl_gs (wanted_f hf rfl rfl rfl rfl hc12) hf rfl rfl fun a hf => ?_
            refine pl_gs (wanted_f hf rfl rfl rfl rfl hc12) hf rfl rfl fun a hf => ?_
            refine q_ hf rfl rfl rfl (e_pick_t hf rfl hc12 rfl) fun a hf => ?_
            refine q_ hf rfl rfl rfl (e_assign hf rfl) fun a hf => ?_
            refine pl_nil ?_
            obtain rfl := some_inj h5
            refine then_n ?_
            exact ⟨true, rfl, hf.keep ⟨rfl, trivial⟩, hM.pick [] rfl⟩
          · refine gq (wanted_t hf rfl rfl rfl rfl hc12) hf rfl rfl (e_move hf rfl) fun a hf => ?_
            refine gq (wanted_t hf rfl rfl rfl rfl hc12) hf rfl rfl (e_eqB hf (x := c1) (y := 116) rfl rfl) fun a hf => ?_
            refine q_ hf rfl rfl rfl (e_pick_f hf rfl hc12 rfl) fun a hf => ?_
            refine q_ hf rfl rfl rfl (e_assign hf rfl) fun a hf => ?_
            refine pl_nil ?_
            obtain rfl := some_inj h5
            refine then_n ?_
            exact ⟨(c1 == 116), rfl, hf.keep ⟨rfl, trivial⟩, hM.pick [] rfl⟩
  · rintro a w15 ⟨t2, rfl, hf, hM⟩
    try dsimp only at h
    refine wp_ret ?_
    obtain rfl := some_inj h
    exact leave1 hf rfl rfl ⟨rfl, hM.fin⟩

set_option maxRecDepth 100000 in
set_option maxHeartbeats 4000000 in
theorem r_spec_l11Ok (C : Cx) (b1 : Board) (b2 : Nat) (o3 : Nat) (hp4 : (ptrRep BoardRep).R C.w0 C.S0 b1 [vP b2 o3]) (r : Bool) (h : m_spec_l11Ok b1 = some r) :
    Calls Try.prog 115 #[vP b2 (o3)] C.w0 fun e w => e = .returned (.bool (r)) ∧ Mem C w [] [] := by
  have hM := Mem.begin C [.dat (ptrRep BoardRep) b1 [vP b2 o3]] ⟨hp4, trivial⟩
  refine enter Try.func115 rfl Try.ntmps115 rfl fun a hf => ?_
  unfold m_spec_l11Ok at h
  refine wp_seq ?_
  refine region_pl ?_
  refine q_ hf rfl rfl rfl (e_assign hf rfl) fun a hf => ?_
  refine pl_nil ?_
  refine then_n ?_
  refine wp_seq ?_
  obtain ⟨x7, h8, h⟩ := bind_some h
  refine seq_join (fun a w => ∃ (t5 : Bool), t5 = x7 ∧ Has 71 a [(0, vP b2 (o3)), (43, .bool (t5))] ∧ Mem C w [] [.dat (ptrRep BoardRep) b1 [vP b2 o3]]) ?_ ?_
  · obtain ⟨w9, hw⟩ : ∃ x, x = C.w0.drew := ⟨_, rfl⟩
    refine region_pi (.q 0 (.q 1 (.q 2 (.q 3 (.l 4 (.q 5 (.q 6 (.q 7 (.q 8 (.q 9 (.q 10 (.q 11 (.q 12 (.q 13 (.q 14 (.q 15 (.q 16 (.q 17 (.q 18 (.q 19 (.q 20 (.q 21 (.q 22 (.q 23 (.q 24 (.q 25 (.q 26 (.q 27 (.q 28 (.q 29 (.q 30 (.q 31 (.q 32 (.q 33 (.q 34 (.q 35 (.q 36 (.q 37 (.q 38 (.q 39 (.nil))))))))))))))))))))))))))))))))))))))))) (Ext w9) rfl (by kernel_rfl) ?_
    have hM := hM.drew
    rw [← hw] at hM ⊢
    clear hw
    refine pi_q hf rfl rfl rfl rfl (Ext.refl _) (e_move hf rfl) fun a hf => ?_
    refine pi_q hf rfl rfl rfl rfl (Ext.refl _) (e_nil hf rfl) fun a hf => ?_
    obtain ⟨_, hr10, hM⟩ := hM.deref (hM.dat (k := 0) rfl)
    obtain ⟨rfl, hv11, hv12, hv13⟩ := BoardRep_open hr10
    refine pi_q hf rfl rfl rfl rfl (Ext.refl _) (e_field hf rfl Try.underlying75 rfl Try.sizeOf2 (o' := o3 + 0) rfl) fun a hf => ?_
    refine pi_q hf rfl rfl rfl rfl (Ext.refl _) (e_load1 hf rfl Try.isAgg2 (hM.litCell (k := 0) (j := 0) rfl rfl rfl)) fun a hf => ?_
    refine pi_one ?_
    obtain ⟨y14, hz15, h8⟩ := bind_some h8
    refine pi_l hf rfl rfl rfl rfl (w_call hf Try.call130 rfl (r_spec_l11Size ⟨_, Sh C _ _, none_, hM.sh_lt, none_not⟩ b1.Size hv11 _ hz15) ?_)
    rintro _ w16 ⟨rfl, hM2⟩
    obtain ⟨hM, hx17, hup18⟩ := hM.back hM2
    dsimp only [List.cons_append, List.nil_append] at hM hup18
    clear hM2
    refine ⟨_, rfl, Ext w16, fun _ h => Ext.trans hx17 h, Ext.refl _, fun a hf => ?_⟩
    refine pi_q hf rfl rfl rfl rfl (Ext.refl _) (e_not hf rfl) fun a hf => ?_
    refine pi_q hf rfl rfl rfl rfl (Ext.refl _) (e_move hf rfl) fun a hf => ?_
    rcases cond_some h8 with ⟨hc19, h8⟩ | ⟨hc19, h8⟩
    · refine pi_gs hf rfl (wanted_f hf rfl rfl rfl rfl hc19) rfl rfl (Ext.refl _) fun a hf => ?_
      refine pi_gs hf rfl (wanted_f hf rfl rfl rfl rfl hc19) rfl rfl (Ext.refl _) fun a hf => ?_
      refine pi_gs hf rfl (wanted_f hf rfl rfl rfl rfl hc19) rfl rfl (Ext.refl _) fun a hf => ?_
      refine pi_gs hf rfl (wanted_f hf rfl rfl rfl rfl hc19) rfl rfl (Ext.refl _) fun a hf => ?_
      refine pi_gs hf rfl (wanted_f hf rfl rfl rfl rfl hc19) rfl rfl (Ext.refl _) fun a hf => ?_
      refine pi_gs hf rfl (wanted_f hf rfl rfl rfl rfl hc19) rfl rfl (Ext.refl _) fun a hf => ?_
      refine pi_gs hf rfl (wanted_f hf rfl rfl rfl rfl hc19) rfl rfl (Ext.refl _) fun a hf => ?_
      refine pi_gs hf rfl (wanted_f hf rfl rfl rfl rfl hc19) rfl rfl (Ext.refl _) fun a hf => ?_
      refine pi_gs hf rfl (wanted_f hf rfl rfl rfl rfl hc19) rfl rfl (Ext.refl _) fun a hf => ?_
      refine pi_gs hf rfl (wanted_f hf rfl rfl rfl rfl hc19) rfl rfl (Ext.refl _) fun a hf => ?_
      refine pi_gs hf rfl (wanted_f hf rfl rfl rfl rfl hc19) rfl rfl (Ext.refl _) fun a hf => ?_
      refine pi_gs hf rfl (wanted_f hf rfl rfl rfl rfl hc19) rfl rfl (Ext.refl _) fun a hf => ?_
      refine pi_gs hf rfl (wanted_f hf rfl rfl rfl rfl hc19) rfl rfl (Ext.refl _) fun a hf => ?_
      refine pi_gs hf rfl (wanted_f hf rfl rfl rfl rfl hc19) rfl rfl (Ext.refl _) fun a hf => ?_
      refine pi_gs hf rfl (wanted_f hf rfl rfl rfl rfl hc19) rfl rfl (Ext.refl _) fun a hf => ?_
      refine pi_q hf rfl rfl rfl rfl (Ext.refl _) (e_pick_t hf rfl hc19 rfl) fun a hf => ?_
      refine pi_q hf rfl rfl rfl rfl (Ext.refl _) (e_move hf rfl) fun a hf => ?_
      refine pi_gs hf rfl (wanted_f hf rfl rfl rfl rfl rfl) rfl rfl (Ext.refl _) fun a hf => ?_
      refine pi_gs hf rfl (wanted_f hf rfl rfl rfl rfl rfl) rfl rfl (Ext.refl _) fun a hf => ?_
      refine pi_gs hf rfl (wanted_f hf rfl rfl rfl rfl rfl) rfl rfl (Ext.refl _) fun a hf => ?_
      refine pi_gs hf rfl (wanted_f hf rfl rfl rfl rfl rfl) rfl rfl (Ext.refl _) fun a hf => ?_
      refine pi_gs hf rfl (wanted_f hf rfl rfl rfl rfl rfl) rfl rfl (Ext.refl _) fun a hf => ?_
      refine pi_gs hf rfl (wanted_f hf rfl rfl rfl rfl rfl) rfl rfl (Ext.refl _) fun a hf => ?_
      refine pi_gs hf rfl (wanted_f hf rfl rfl rfl rfl rfl) rfl rfl (Ext.refl _) fun a hf => ?_
      refine pi_gs hf rfl (wanted_f hf rfl rfl rfl rfl rfl) rfl rfl (Ext.refl _) fun a hf => ?_
      refine pi_gs hf rfl (wanted_f hf rfl rfl rfl rfl rfl) rfl rfl (Ext.refl _) fun a hf => ?_
      refine pi_gs hf rfl (wanted_f hf rfl rfl rfl rfl rfl) rfl rfl (Ext.refl _) fun a hf => ?_
      refine pi_gs hf rfl (wanted_f hf rfl rfl rfl rfl rfl) rfl rfl (Ext.refl _) fun a hf => ?_
      refine pi_gs hf rfl (wanted_f hf rfl rfl rfl rfl rfl) rfl rfl (Ext.refl _) fun a hf => ?_
      refine pi_gs hf rfl (wanted_f hf rfl rfl rfl rfl rfl) rfl rfl (Ext.refl _) fun a hf => ?_
      refine pi_gs hf rfl (wanted_f hf rfl rfl rfl rfl rfl) rfl rfl (Ext.refl _) fun a hf => ?_
      refine pi_gs hf rfl (wanted_f hf rfl rfl rfl rfl rfl) rfl rfl (Ext.refl _) fun a hf => ?_
      refine pi_q hf rfl rfl rfl rfl (Ext.refl _) (e_pick_t hf rfl rfl rfl) fun a hf => ?_
      refine pi_nil ?_
      obtain rfl := some_inj h8
      refine then_n ?_
      exact ⟨true, rfl, hf.keep ⟨rfl, rfl, trivial⟩, hM.pick [1] rfl⟩
    · refine pi_gq hf rfl (wanted_t hf rfl rfl rfl rfl hc19) rfl rfl (Ext.refl _) (e_move hf rfl) fun a hf => ?_
      refine pi_gq hf rfl (wanted_t hf rfl rfl rfl rfl hc19) rfl rfl (Ext.refl _) (e_nil hf rfl) fun a hf => ?_
      refine pi_gq hf rfl (wanted_t hf rfl rfl rfl rfl hc19) rfl rfl (Ext.refl _) (e_field hf rfl Try.underlying75 rfl Try.sizeOf9 (o' := o3 + 1) rfl) fun a hf => ?_
      refine pi_gq hf rfl (wanted_t hf rfl rfl rfl rfl hc19) rfl rfl (Ext.refl _) (e_load1 hf rfl Try.isAgg9 (hM.litCell (k := 0) (j := 1) rfl rfl rfl)) fun a hf => ?_
      refine pi_gq hf rfl (wanted_t hf rfl rfl rfl rfl hc19) rfl rfl (Ext.refl _) (e_lenS hf (x := b1.Premium) rfl Try.underlying9) fun a hf => ?_
      refine pi_gq hf rfl (wanted_t hf rfl rfl rfl rfl hc19) rfl rfl (Ext.refl _) (e_move hf rfl) fun a hf => ?_
      refine pi_gq hf rfl (wanted_t hf rfl rfl rfl rfl hc19) rfl rfl (Ext.refl _) (e_nil hf rfl) fun a hf => ?_
      refine pi_gq hf rfl (wanted_t hf rfl rfl rfl rfl hc19) rfl rfl (Ext.refl _) (e_field hf rfl Try.underlying75 rfl Try.sizeOf2 (o' := o3 + 0) rfl) fun a hf => ?_
      refine pi_gq hf rfl (wanted_t hf rfl rfl rfl rfl hc19) rfl rfl (Ext.refl _) (e_load1 hf rfl Try.isAgg2 (hM.litCell (k := 0) (j := 0) rfl rfl rfl)) fun a hf => ?_
      refine pi_gq hf rfl (wanted_t hf rfl rfl rfl rfl hc19) rfl rfl (Ext.refl _) (e_move hf rfl) fun a hf => ?_
      refine pi_gq hf rfl (wanted_t hf rfl rfl rfl rfl hc19) rfl rfl (Ext.refl _) (e_nil hf rfl) fun a hf => ?_
      refine pi_gq hf rfl (wanted_t hf rfl rfl rfl rfl hc19) rfl rfl (Ext.refl _) (e_field hf rfl Try.underlying75 rfl Try.sizeOf2 (o' := o3 + 0) rfl) fun a hf => ?_
      refine pi_gq hf rfl (wanted_t hf rfl rfl rfl rfl hc19) rfl rfl (Ext.refl _) (e_load1 hf rfl Try.isAgg2 (hM.litCell (k := 0) (j := 0) rfl rfl rfl)) fun a hf => ?_
      obtain ⟨z21, hz22, h8⟩ := bind_some h8
      refine pi_gq hf rfl (wanted_t hf rfl rfl rfl rfl hc19) rfl rfl (Ext.refl _) (e_mul hf rfl rfl hz22) fun a hf => ?_
      refine pi_gq hf rfl (wanted_t hf rfl rfl rfl rfl hc19) rfl rfl (Ext.refl _) (e_ne hf (x := (b1.Premium.length : Int)) (y := z21) rfl rfl) fun a hf => ?_
      refine pi_q hf rfl rfl rfl rfl (Ext.refl _) (e_pick_f hf rfl hc19 rfl) fun a hf => ?_
      refine pi_q hf rfl rfl rfl rfl (Ext.refl _) (e_move hf rfl) fun a hf => ?_
      rcases cond_some h8 with ⟨hc23, h8⟩ | ⟨hc23, h8⟩
      · refine pi_gs hf rfl (wanted_f hf rfl rfl rfl rfl hc23) rfl rfl (Ext.refl _) fun a hf => ?_
        refine pi_gs hf rfl (wanted_f hf rfl rfl rfl rfl hc23) rfl rfl (Ext.refl _) fun a hf => ?_
        refine pi_gs hf rfl (wanted_f hf rfl rfl rfl rfl hc23) rfl rfl (Ext.refl _) fun a hf => ?_
        refine pi_gs hf rfl (wanted_f hf rfl rfl rfl rfl hc23) rfl rfl (Ext.refl _) fun a hf => ?_
        refine pi_gs hf rfl (wanted_f hf rfl rfl rfl rfl hc23) rfl rfl (Ext.refl _) fun a hf => ?_
        refine pi_gs hf rfl (wanted_f hf rfl rfl rfl rfl hc23) rfl rfl (Ext.refl _) fun a hf => ?_
        refine pi_gs hf rfl (wanted_f hf rfl rfl rfl rfl hc23) rfl rfl (Ext.refl _) fun a hf => ?_
        refine pi_gs hf rfl (wanted_f hf rfl rfl rfl rfl hc23) rfl rfl (Ext.refl _) fun a hf => ?_
        refine pi_gs hf rfl (wanted_f hf rfl rfl rfl rfl hc23) rfl rfl (Ext.refl _) fun a hf => ?_
        refine pi_gs hf rfl (wanted_f hf rfl rfl rfl rfl hc23) rfl rfl (Ext.refl _) fun a hf => ?_
        refine pi_gs hf rfl (wanted_f hf rfl rfl rfl rfl hc23) rfl rfl (Ext.refl _) fun a hf => ?_
        refine pi_gs hf rfl (wanted_f hf rfl rfl rfl rfl hc23) rfl rfl (Ext.refl _) fun a hf => ?_
        refine pi_gs hf rfl (wanted_f hf rfl rfl rfl rfl hc23) rfl rfl (Ext.refl _) fun a hf => ?_
        refine pi_gs hf rfl (wanted_f hf rfl rfl rfl rfl hc23) rfl rfl (Ext.refl _) fun a hf => ?_
        refine pi_gs hf rfl (wanted_f hf rfl rfl rfl rfl hc23) rfl rfl (Ext.refl _) fun a hf => ?_
        refine pi_q hf rfl rfl rfl rfl (Ext.refl _) (e_pick_t hf rfl hc23 rfl) fun a hf => ?_
        refine pi_nil ?_
        obtain rfl := some_inj h8
        refine then_n ?_
        exact ⟨true, rfl, hf.keep ⟨rfl, rfl, trivial⟩, hM.pick [1] rfl⟩
      · refine pi_gq hf rfl (wanted_t hf rfl rfl rfl rfl hc23) rfl rfl (Ext.refl _) (e_move hf rfl) fun a hf => ?_
        refine pi_gq hf rfl (wanted_t hf rfl rfl rfl rfl hc23) rfl rfl (Ext.refl _) (e_nil hf rfl) fun a hf => ?_
        refine pi_gq hf rfl (wanted_t hf rfl rfl rfl rfl hc23) rfl rfl (Ext.refl _) (e_field hf rfl Try.underlying75 rfl Try.sizeOf9 (o' := o3 + 2) rfl) fun a hf => ?_
        refine pi_gq hf rfl (wanted_t hf rfl rfl rfl rfl hc23) rfl rfl (Ext.refl _) (e_load1 hf rfl Try.isAgg9 (hM.litCell (k := 0) (j := 2) rfl rfl rfl)) fun a hf => ?_
        refine pi_gq hf rfl (wanted_t hf rfl rfl rfl rfl hc23) rfl rfl (Ext.refl _) (e_lenS hf (x := b1.Cells) rfl Try.underlying9) fun a hf => ?_
        refine pi_gq hf rfl (wanted_t hf rfl rfl rfl rfl hc23) rfl rfl (Ext.refl _) (e_move hf rfl) fun a hf => ?_
        refine pi_gq hf rfl (wanted_t hf rfl rfl rfl rfl hc23) rfl rfl (Ext.refl _) (e_nil hf rfl) fun a hf => ?_
        refine pi_gq hf rfl (wanted_t hf rfl rfl rfl rfl hc23) rfl rfl (Ext.refl _) (e_field hf rfl Try.underlying75 rfl Try.sizeOf2 (o' := o3 + 0) rfl) fun a hf => ?_
        refine pi_gq hf rfl (wanted_t hf rfl rfl rfl rfl hc23) rfl rfl (Ext.refl _) (e_load1 hf rfl Try.isAgg2 (hM.litCell (k := 0) (j := 0) rfl rfl rfl)) fun a hf => ?_
        refine pi_gq hf rfl (wanted_t hf rfl rfl rfl rfl hc23) rfl rfl (Ext.refl _) (e_move hf rfl) fun a hf => ?_
        refine pi_gq hf rfl (wanted_t hf rfl rfl rfl rfl hc23) rfl rfl (Ext.refl _) (e_nil hf rfl) fun a hf => ?_
        refine pi_gq hf rfl (wanted_t hf rfl rfl rfl rfl hc23) rfl rfl (Ext.refl _) (e_field hf rfl Try.underlying75 rfl Try.sizeOf2 (o' := o3 + 0) rfl) fun a hf => ?_
        refine pi_gq hf rfl (wanted_t hf rfl rfl rfl rfl hc23) rfl rfl (Ext.refl _) (e_load1 hf rfl Try.isAgg2 (hM.litCell (k := 0) (j := 0) rfl rfl rfl)) fun a hf => ?_
        obtain ⟨z25, hz26, h8⟩ := bind_some h8
        refine pi_gq hf rfl (wanted_t hf rfl rfl rfl rfl hc23) rfl rfl (Ext.refl _) (e_mul hf rfl rfl hz26) fun a hf => ?_
        refine pi_gq hf rfl (wanted_t hf rfl rfl rfl rfl hc23) rfl rfl (Ext.refl _) (e_ne hf (x := (b1.Cells.length : Int)) (y := z25) rfl rfl) fun a hf => ?_
        refine pi_q hf rfl rfl rfl rfl (Ext.refl _) (e_pick_f hf rfl hc23 rfl) fun a hf => ?_
        refine pi_nil ?_
        obtain rfl := some_inj h8
        refine then_n ?_
        exact ⟨((b1.Cells.length : Int) != z25), rfl, hf.keep ⟨rfl, rfl, trivial⟩, hM.pick [1] rfl⟩
  · rintro a w28 ⟨t5, rfl, hf, hM⟩
    try dsimp only at h
    rcases cond_some h with ⟨hc29, h⟩ | ⟨hc29, h⟩
    · refine cond_t hf rfl hc29 ?_
      refine wp_seq ?_
      refine region_pl ?_
      refine q_ hf rfl rfl rfl (e_assign hf rfl) fun a hf => ?_
      refine pl_nil ?_
      refine then_n ?_
      refine wp_ret ?_
      refine then_r ?_
      obtain rfl := some_inj h
      exact leave1 hf rfl rfl ⟨rfl, hM.fin⟩
    · refine cond_f hf rfl hc29 ?_
      refine wp_skip ?_
      refine then_n ?_
      obtain ⟨x30, h31, h⟩ := bind_some h
      refine seq_join (fun a w => (.inl ()) = x30 ∧ Has 71 a [] ∧ Mem C w [] [.dat (ptrRep BoardRep) b1 [vP b2 o3]]) ?_ ?_
      · refine wp_seq ?_
        refine region_pl ?_
        refine q_ hf rfl rfl rfl (e_assign hf rfl) fun a hf => ?_
        refine pl_nil ?_
        refine then_n ?_
        refine wp_block ?_
        obtain ⟨x35, h36, h31⟩ := bind_some h31
        refine wp_loopM h36 (fun s a w => ∃ (n32 : Int), n32 = s ∧ Has 71 a [(0, vP b2 (o3)), (3, vI (n32))] ∧ Mem C w [] [.dat (ptrRep BoardRep) b1 [vP b2 o3]] ∧ R64 n32) ?_ ?_
        · exact ⟨0, rfl, hf.keep ⟨rfl, rfl, trivial⟩, hM.pick [0] rfl, (R64_lit rfl)⟩
        · rintro s o37 a w34 ⟨n32, rfl, hf, hM, hv33⟩ h38 hd39
          replace h38 : m_spec_l11Ok_l1 b1 n32 = some o37 := h38
          unfold m_spec_l11Ok_l1 at h38
          refine wp_seq ?_
          refine wp_seq ?_
          refine region_pl ?_
          refine q_ hf rfl rfl rfl (e_move hf rfl) fun a hf => ?_
          refine q_ hf rfl rfl rfl (e_move hf rfl) fun a hf => ?_
          refine q_ hf rfl rfl rfl (e_nil hf rfl) fun a hf => ?_
          obtain ⟨_, hr40, hM⟩ := hM.deref (hM.dat (k := 0) rfl)
          obtain ⟨rfl, hv41, hv42, hv43⟩ := BoardRep_open hr40
          refine q_ hf rfl rfl rfl (e_field hf rfl Try.underlying75 rfl Try.sizeOf9 (o' := o3 + 2) rfl) fun a hf => ?_
          refine q_ hf rfl rfl rfl (e_load1 hf rfl Try.isAgg9 (hM.litCell (k := 0) (j := 2) rfl rfl rfl)) fun a hf => ?_
          refine q_ hf rfl rfl rfl (e_lenS hf (x := b1.Cells) rfl Try.underlying9) fun a hf => ?_
          refine q_ hf rfl rfl rfl (e_lt hf (x := n32) (y := (b1.Cells.length : Int)) rfl rfl) fun a hf => ?_
          refine pl_nil ?_
          refine then_n ?_
          rcases cond_some h38 with ⟨hc44, h38⟩ | ⟨hc44, h38⟩
          · refine cond_t hf rfl hc44 ?_
            refine wp_skip ?_
            refine then_n ?_
            refine wp_seq ?_
            refine wp_block ?_
            obtain ⟨x47, h48, h38⟩ := bind_some h38
            refine seq_join (fun a w => ∃ (t45 : Bool), t45 = x47 ∧ Has 71 a [(0, vP b2 (o3)), (3, vI (n32)), (70, .bool (t45))] ∧ Mem C w [] [.lit b2 (o3) [vI (b1.Size), vS (b1.Premium), vS (b1.Cells)], .dat (ptrRep BoardRep) b1 [vP b2 o3]]) ?_ ?_
            · refine region_pl ?_
              refine q_ hf rfl rfl rfl (e_move hf rfl) fun a hf => ?_
              refine q_ hf rfl rfl rfl (e_nil hf rfl) fun a hf => ?_
              refine q_ hf rfl rfl rfl (e_field hf rfl Try.underlying75 rfl Try.sizeOf9 (o' := o3 + 2) rfl) fun a hf => ?_
              refine q_ hf rfl rfl rfl (e_load1 hf rfl Try.isAgg9 (hM.litCell (k := 0) (j := 2) rfl rfl rfl)) fun a hf => ?_
              refine q_ hf rfl rfl rfl (e_move hf rfl) fun a hf => ?_
              obtain ⟨c49, hz50, h48⟩ := bind_some h48
              refine q_ hf rfl rfl rfl (e_indexS hf (x := b1.Cells) rfl rfl Try.underlying9 hz50) fun a hf => ?_
              obtain ⟨y51, hz52, h48⟩ := bind_some h48
              refine pl_l hf rfl rfl rfl (w_call hf Try.call131 rfl (r_spec_l11Cell ⟨_, Sh C _ _, none_, hM.sh_lt, none_not⟩ c49 _ hz52) ?_)
              rintro _ w53 ⟨rfl, hM2⟩
              obtain ⟨hM, hx54, hup55⟩ := hM.back hM2
              dsimp only [List.cons_append, List.nil_append] at hM hup55
              clear hM2
              refine ⟨_, rfl, fun a hf => ?_⟩
              refine q_ hf rfl rfl rfl (e_not hf rfl) fun a hf => ?_
              refine q_ hf rfl rfl rfl (e_move hf rfl) fun a hf => ?_
              rcases cond_some h48 with ⟨hc56, h48⟩ | ⟨hc56, h48⟩
              · refine pl_gs (wanted_f hf rfl rfl rfl rfl hc56) hf rfl rfl fun a hf => ?_
                refine pl_gs (wanted_f hf rfl rfl rfl rfl hc56) hf rfl rfl fun a hf => ?_
                refine pl_gs (wanted_f hf rfl rfl rfl rfl hc56) hf rfl rfl fun a hf => ?_
                refine pl_gs (wanted_f hf rfl rfl rfl rfl hc56) hf rfl rfl fun a hf => ?_
                refine pl_gs (wanted_f hf rfl rfl rfl rfl hc56) hf rfl rfl fun a hf => ?_
                refine pl_gs (wanted_f hf rfl rfl rfl rfl hc56) hf rfl rfl fun a hf => ?_
                refine pl_gs (wanted_f hf rfl rfl rfl rfl hc56) hf rfl rfl fun a hf => ?_
                refine pl_gs (wanted_f hf rfl rfl rfl rfl hc56) hf rfl rfl fun a hf => ?_
                refine q_ hf rfl rfl rfl (e_pick_t hf rfl hc56 rfl) fun a hf => ?_
                refine pl_nil ?_
                obtain rfl := some_inj h48
                refine then_n ?_
                exact ⟨true, rfl, hf.keep ⟨rfl, rfl, rfl, trivial⟩, hM.pick [0, 1] rfl⟩
              · refine gq (wanted_t hf rfl rfl rfl rfl hc56) hf rfl rfl (e_move hf rfl) fun a hf => ?_
                refine gq (wanted_t hf rfl rfl rfl rfl hc56) hf rfl rfl (e_nil hf rfl) fun a hf => ?_
                refine gq (wanted_t hf rfl rfl rfl rfl hc56) hf rfl rfl (e_field hf rfl Try.underlying75 rfl Try.sizeOf9 (o' := o3 + 1) rfl) fun a hf => ?_
                refine gq (wanted_t hf rfl rfl rfl rfl hc56) hf rfl rfl (e_load1 hf rfl Try.isAgg9 (hM.litCell (k := 0) (j := 1) rfl rfl rfl)) fun a hf => ?_
                refine gq (wanted_t hf rfl rfl rfl rfl hc56) hf rfl rfl (e_move hf rfl) fun a hf => ?_
                obtain ⟨c58, hz59, h48⟩ := bind_some h48
                refine gq (wanted_t hf rfl rfl rfl rfl hc56) hf rfl rfl (e_indexS hf (x := b1.Premium) rfl rfl Try.underlying9 hz59) fun a hf => ?_
                obtain ⟨y60, hz61, h48⟩ := bind_some h48
                refine pl_gl (wanted_t hf rfl rfl rfl rfl hc56) hf rfl rfl (w_call hf Try.call132 rfl (r_spec_l11Premium ⟨_, Sh C _ _, none_, hM.sh_lt, none_not⟩ c58 _ hz61) ?_)
                rintro _ w62 ⟨rfl, hM2⟩
                obtain ⟨hM, hx63, hup64⟩ := hM.back hM2
                dsimp only [List.cons_append, List.nil_append] at hM hup64
                clear hM2
                refine ⟨_, rfl, fun a hf => ?_⟩
                refine gq (wanted_t hf rfl rfl rfl rfl hc56) hf rfl rfl (e_not hf rfl) fun a hf => ?_
                refine q_ hf rfl rfl rfl (e_pick_f hf rfl hc56 rfl) fun a hf => ?_
                refine pl_nil ?_
                obtain rfl := some_inj h48
                refine then_n ?_
                exact ⟨(!y60), rfl, hf.keep ⟨rfl, rfl, rfl, trivial⟩, hM.pick [0, 1] rfl⟩
            · rintro a w66 ⟨t45, rfl, hf, hM⟩
              try dsimp only at h38
              rcases cond_some h38 with ⟨hc67, h38⟩ | ⟨hc67, h38⟩
              · refine cond_t hf rfl hc67 ?_
                refine wp_seq ?_
                refine region_pl ?_
                refine q_ hf rfl rfl rfl (e_assign hf rfl) fun a hf => ?_
                refine pl_nil ?_
                refine then_n ?_
                refine wp_ret ?_
                refine blk_r ?_
                refine then_r ?_
                obtain rfl := some_inj h38
                obtain rfl := hd39 _ rfl
                try dsimp only at h31
                refine then_r ?_
                refine blk_r ?_
                obtain rfl := some_inj h31
                try dsimp only at h
                refine then_r ?_
                obtain rfl := some_inj h
                exact leave1 hf rfl rfl ⟨rfl, hM.fin⟩
              · refine cond_f hf rfl hc67 ?_
                refine wp_skip ?_
                refine blk_n ?_
                refine then_n ?_
                refine region_pl ?_
                refine q_ hf rfl rfl rfl (e_move hf rfl) fun a hf => ?_
                obtain ⟨z68, hz69, h38⟩ := bind_some h38
                refine q_ hf rfl rfl rfl (e_add hf rfl rfl hz69) fun a hf => ?_
                refine q_ hf rfl rfl rfl (e_assign hf rfl) fun a hf => ?_
                refine pl_nil ?_
                obtain rfl := some_inj h38
                refine then_n ⟨_, rfl, ?_⟩
                exact ⟨z68, rfl, hf.keep ⟨rfl, rfl, trivial⟩, hM.pick [1] rfl, (chk_R hz69)⟩
          · refine cond_f hf rfl hc44 ?_
            refine wp_exit ?_
            refine then_x ?_
            obtain rfl := some_inj h38
            obtain rfl := hd39 _ rfl
            try dsimp only at h31
            refine then_x ?_
            refine exit_hit ?_
            obtain rfl := some_inj h31
            refine then_n ?_
            exact ⟨rfl, hf.keep trivial, hM.pick [1] rfl⟩
      · rintro a w76 ⟨rfl, hf, hM⟩
        try dsimp only at h
        refine wp_seq ?_
        refine region_pl ?_
        refine q_ hf rfl rfl rfl (e_assign hf rfl) fun a hf => ?_
        refine pl_nil ?_
        refine then_n ?_
        refine wp_ret ?_
        obtain rfl := some_inj h
        exact leave1 hf rfl rfl ⟨rfl, hM.fin⟩

set_option maxRecDepth 100000 in
set_option maxHeartbeats 4000000 in
theorem r_spec_l03Tile (C : Cx) (c1 : UInt8) (r : Bool) (h : m_spec_l03Tile c1 = some r) :
    Calls Try.prog 138 #[vB (c1)] C.w0 fun e w => e = .returned (.bool (r)) ∧ Mem C w [] [] := by
  have hM := Mem.begin C [] trivial
  refine enter Try.func138 rfl Try.ntmps138 rfl fun a hf => ?_
  unfold m_spec_l03Tile at h
  refine wp_seq ?_
  refine region_pl ?_
  refine q_ hf rfl rfl rfl (e_assign hf rfl) fun a hf => ?_
  refine pl_nil ?_
  refine then_n ?_
  obtain ⟨x4, h5, h⟩ := bind_some h
  refine seq_join (fun a w => ∃ (t2 : Bool), t2 = x4 ∧ Has 9 a [(2, .bool (t2))] ∧ Mem C w [] []) ?_ ?_
  · refine region_pl ?_
    refine q_ hf rfl rfl rfl (e_move hf rfl) fun a hf => ?_
    refine q_ hf rfl rfl rfl (e_eqB hf (x := c1) (y := 63) rfl rfl) fun a hf => ?_
    refine q_ hf rfl rfl rfl (e_move hf rfl) fun a hf => ?_
    rcases cond_some h5 with ⟨hc6, h5⟩ | ⟨hc6, h5⟩
    · refine pl_gs (wanted_f hf rfl rfl rfl rfl hc6) hf rfl rfl fun a hf => ?_
      refine pl_gs (wanted_f hf rfl rfl rfl rfl hc6) hf rfl rfl fun a hf => ?_
      refine q_ hf rfl rfl rfl (e_pick_t hf rfl hc6 rfl) fun a hf => ?_
      refine q_ hf rfl rfl rfl (e_assign hf rfl) fun a hf => ?_
      refine pl_nil ?_
      obtain rfl := some_inj h5
      refine then_n ?_
      exact ⟨true, rfl, hf.keep ⟨rfl, trivial⟩, hM.pick [] rfl⟩
    · refine gq (wanted_t hf rfl rfl rfl rfl hc6) hf rfl rfl (e_move hf rfl) fun a hf => ?_
      obtain ⟨y8, hz9, h5⟩ := bind_some h5
      refine pl_gl (wanted_t hf rfl rfl rfl rfl hc6) hf rfl rfl (w_call hf Try.call99 rfl (r_spec_l01Small ⟨_, Sh C _ _, none_, hM.sh_lt, none_not⟩ c1 _ hz9) ?_)
      rintro _ w10 ⟨rfl, hM2⟩
      obtain ⟨hM, hx11, hup12⟩ := hM.back hM2
      dsimp only [List.cons_append, List.nil_append] at hM hup12
      clear hM2
      refine ⟨_, rfl, fun a hf => ?_⟩
      refine q_ hf rfl rfl rfl (e_pick_f hf rfl hc6 rfl) fun a hf => ?_
      refine q_ hf rfl rfl rfl (e_assign hf rfl) fun a hf => ?_
      refine pl_nil ?_
      obtain rfl := some_inj h5
      refine then_n ?_
      exact ⟨y8, rfl, hf.keep ⟨rfl, trivial⟩, hM.pick [] rfl⟩
  · rintro a w14 ⟨t2, rfl, hf, hM⟩
    try dsimp only at h
    refine wp_ret ?_
    obtain rfl := some_inj h
    exact leave1 hf rfl rfl ⟨rfl, hM.fin⟩

set_option maxRecDepth 100000 in
set_option maxHeartbeats 4000000 in
theorem r_spec_l03Pile (C : Cx) (s1 : Str) (hp2 : s1.length ≤ maxLen) (r : Bool) (h : m_spec_l03Pile s1 = some r) :
    Calls Try.prog 124 #[vS (s1)] C.w0 fun e w => e = .returned (.bool (r)) ∧ Mem C w [] [] := by
  have hM := Mem.begin C [] trivial
  refine enter Try.func124 rfl Try.ntmps124 rfl fun a hf => ?_
  unfold m_spec_l03Pile at h
  refine wp_seq ?_
  refine region_pl ?_
  refine q_ hf rfl rfl rfl (e_assign hf rfl) fun a hf => ?_
  refine pl_nil ?_
  refine then_n ?_
  obtain ⟨x3, h4, h⟩ := bind_some h
  refine seq_join (fun a w => (.inl ()) = x3 ∧ Has 32 a [(0, vS (s1))] ∧ Mem C w [] []) ?_ ?_
  · refine wp_seq ?_
    refine region_pl ?_
    refine q_ hf rfl rfl rfl (e_assign hf rfl) fun a hf => ?_
    refine pl_nil ?_
    refine then_n ?_
    refine wp_block ?_
    obtain ⟨x8, h9, h4⟩ := bind_some h4
    refine wp_loopM h9 (fun s a w => ∃ (n5 : Int), n5 = s ∧ Has 32 a [(0, vS (s1)), (3, vI (n5))] ∧ Mem C w [] [] ∧ R64 n5) ?_ ?_
    · exact ⟨0, rfl, hf.keep ⟨rfl, rfl, trivial⟩, hM.pick [] rfl, (R64_lit rfl)⟩
    · rintro s o10 a w7 ⟨n5, rfl, hf, hM, hv6⟩ h11 hd12
      replace h11 : m_spec_l03Pile_l1 s1 n5 = some o10 := h11
      unfold m_spec_l03Pile_l1 at h11
      refine wp_seq ?_
      refine wp_seq ?_
      refine region_pl ?_
      refine q_ hf rfl rfl rfl (e_move hf rfl) fun a hf => ?_
      refine q_ hf rfl rfl rfl (e_move hf rfl) fun a hf => ?_
      refine q_ hf rfl rfl rfl (e_lenS hf (x := s1) rfl Try.underlying9) fun a hf => ?_
      refine q_ hf rfl rfl rfl (e_lt hf (x := n5) (y := (s1.length : Int)) rfl rfl) fun a hf => ?_
      refine pl_nil ?_
      refine then_n ?_
      rcases cond_some h11 with ⟨hc13, h11⟩ | ⟨hc13, h11⟩
      · refine cond_t hf rfl hc13 ?_
        refine wp_skip ?_
        refine then_n ?_
        refine wp_seq ?_
        refine wp_block ?_
        obtain ⟨x16, h17, h11⟩ := bind_some h11
        refine seq_join (fun a w => ∃ (t14 : Bool), t14 = x16 ∧ Has 32 a [(0, vS (s1)), (3, vI (n5)), (28, .bool (t14))] ∧ Mem C w [] []) ?_ ?_
        · obtain ⟨w18, hw⟩ : ∃ x, x = w7.drew := ⟨_, rfl⟩
          refine region_pi (.q 0 (.q 1 (.q 2 (.l 3 (.q 4 (.q 5 (.q 6 (.q 7 (.q 8 (.q 9 (.q 10 (.q 11 (.q 12 (.q 13 (.q 14 (.q 15 (.q 16 (.q 17 (.q 18 (.nil)))))))))))))))))))) (Ext w18) rfl (by kernel_rfl) ?_
          have hM := hM.drew
          rw [← hw] at hM ⊢
          clear hw
          refine pi_q hf rfl rfl rfl rfl (Ext.refl _) (e_move hf rfl) fun a hf => ?_
          refine pi_q hf rfl rfl rfl rfl (Ext.refl _) (e_move hf rfl) fun a hf => ?_
          obtain ⟨c19, hz20, h17⟩ := bind_some h17
          refine pi_q hf rfl rfl rfl rfl (Ext.refl _) (e_indexS hf (x := s1) rfl rfl Try.underlying9 hz20) fun a hf => ?_
          refine pi_one ?_
          obtain ⟨y21, hz22, h17⟩ := bind_some h17
          refine pi_l hf rfl rfl rfl rfl (w_call hf Try.call138 rfl (r_spec_l03Tile ⟨_, Sh C _ _, none_, hM.sh_lt, none_not⟩ c19 _ hz22) ?_)
          rintro _ w23 ⟨rfl, hM2⟩
          obtain ⟨hM, hx24, hup25⟩ := hM.back hM2
          dsimp only [List.cons_append, List.nil_append] at hM hup25
          clear hM2
          refine ⟨_, rfl, Ext w23, fun _ h => Ext.trans hx24 h, Ext.refl _, fun a hf => ?_⟩
          refine pi_q hf rfl rfl rfl rfl (Ext.refl _) (e_not hf rfl) fun a hf => ?_
          refine pi_q hf rfl rfl rfl rfl (Ext.refl _) (e_move hf rfl) fun a hf => ?_
          rcases cond_some h17 with ⟨hc26, h17⟩ | ⟨hc26, h17⟩
          · refine pi_gs hf rfl (wanted_f hf rfl rfl rfl rfl hc26) rfl rfl (Ext.refl _) fun a hf => ?_
            refine pi_gs hf rfl (wanted_f hf rfl rfl rfl rfl hc26) rfl rfl (Ext.refl _) fun a hf => ?_
            refine pi_gs hf rfl (wanted_f hf rfl rfl rfl rfl hc26) rfl rfl (Ext.refl _) fun a hf => ?_
            refine pi_gs hf rfl (wanted_u hf rfl rfl rfl rfl) rfl rfl (Ext.refl _) fun a hf => ?_
            refine pi_gs hf rfl (wanted_u hf rfl rfl rfl rfl) rfl rfl (Ext.refl _) fun a hf => ?_
            refine pi_gs hf rfl (wanted_u hf rfl rfl rfl rfl) rfl rfl (Ext.refl _) fun a hf => ?_
            refine pi_gs hf rfl (wanted_u hf rfl rfl rfl rfl) rfl rfl (Ext.refl _) fun a hf => ?_
            refine pi_gs hf rfl (wanted_u hf rfl rfl rfl rfl) rfl rfl (Ext.refl _) fun a hf => ?_
            refine pi_gs hf rfl (wanted_u hf rfl rfl rfl rfl) rfl rfl (Ext.refl _) fun a hf => ?_
            refine pi_gs hf rfl (wanted_u hf rfl rfl rfl rfl) rfl rfl (Ext.refl _) fun a hf => ?_
            refine pi_gs hf rfl (wanted_u hf rfl rfl rfl rfl) rfl rfl (Ext.refl _) fun a hf => ?_
            refine pi_gs hf rfl (wanted_f hf rfl rfl rfl rfl hc26) rfl rfl (Ext.refl _) fun a hf => ?_
            refine pi_q hf rfl rfl rfl rfl (Ext.refl _) (e_pick_t hf rfl hc26 rfl) fun a hf => ?_
            refine pi_nil ?_
            obtain rfl := some_inj h17
            refine then_n ?_
            exact ⟨true, rfl, hf.keep ⟨rfl, rfl, rfl, trivial⟩, hM.pick [] rfl⟩
          · refine pi_gq hf rfl (wanted_t hf rfl rfl rfl rfl hc26) rfl rfl (Ext.refl _) (e_move hf rfl) fun a hf => ?_
            refine pi_gq hf rfl (wanted_t hf rfl rfl rfl rfl hc26) rfl rfl (Ext.refl _) (e_gt hf (x := n5) (y := 0) rfl rfl) fun a hf => ?_
            refine pi_gq hf rfl (wanted_t hf rfl rfl rfl rfl hc26) rfl rfl (Ext.refl _) (e_move hf rfl) fun a hf => ?_
            rcases cond_some h17 with ⟨hc28, h17⟩ | ⟨hc28, h17⟩
            · refine pi_gq hf rfl (wanted_t hf rfl rfl rfl rfl hc28) rfl rfl (Ext.refl _) (e_move hf rfl) fun a hf => ?_
              refine pi_gq hf rfl (wanted_t hf rfl rfl rfl rfl hc28) rfl rfl (Ext.refl _) (e_move hf rfl) fun a hf => ?_
              obtain ⟨c29, hz30, h17⟩ := bind_some h17
              refine pi_gq hf rfl (wanted_t hf rfl rfl rfl rfl hc28) rfl rfl (Ext.refl _) (e_indexS hf (x := s1) rfl rfl Try.underlying9 hz30) fun a hf => ?_
              refine pi_gq hf rfl (wanted_t hf rfl rfl rfl rfl hc28) rfl rfl (Ext.refl _) (e_move hf rfl) fun a hf => ?_
              refine pi_gq hf rfl (wanted_t hf rfl rfl rfl rfl hc28) rfl rfl (Ext.refl _) (e_move hf rfl) fun a hf => ?_
              obtain ⟨z31, hz32, h17⟩ := bind_some h17
              refine pi_gq hf rfl (wanted_t hf rfl rfl rfl rfl hc28) rfl rfl (Ext.refl _) (e_sub hf rfl rfl hz32) fun a hf => ?_
              obtain ⟨c33, hz34, h17⟩ := bind_some h17
              refine pi_gq hf rfl (wanted_t hf rfl rfl rfl rfl hc28) rfl rfl (Ext.refl _) (e_indexS hf (x := s1) rfl rfl Try.underlying9 hz34) fun a hf => ?_
              refine pi_gq hf rfl (wanted_t hf rfl rfl rfl rfl hc28) rfl rfl (Ext.refl _) (e_ltB hf (x := c29) (y := c33) rfl rfl) fun a hf => ?_
              refine pi_gq hf rfl (wanted_t hf rfl rfl rfl rfl hc26) rfl rfl (Ext.refl _) (e_pick_t hf rfl hc28 rfl) fun a hf => ?_
              refine pi_q hf rfl rfl rfl rfl (Ext.refl _) (e_pick_f hf rfl hc26 rfl) fun a hf => ?_
              refine pi_nil ?_
              obtain rfl := some_inj h17
              refine then_n ?_
              exact ⟨(decide (c29 < c33)), rfl, hf.keep ⟨rfl, rfl, rfl, trivial⟩, hM.pick [] rfl⟩
            · refine pi_gs hf rfl (wanted_f hf rfl rfl rfl rfl hc28) rfl rfl (Ext.refl _) fun a hf => ?_
              refine pi_gs hf rfl (wanted_f hf rfl rfl rfl rfl hc28) rfl rfl (Ext.refl _) fun a hf => ?_
              refine pi_gs hf rfl (wanted_f hf rfl rfl rfl rfl hc28) rfl rfl (Ext.refl _) fun a hf => ?_
              refine pi_gs hf rfl (wanted_f hf rfl rfl rfl rfl hc28) rfl rfl (Ext.refl _) fun a hf => ?_
              refine pi_gs hf rfl (wanted_f hf rfl rfl rfl rfl hc28) rfl rfl (Ext.refl _) fun a hf => ?_
              refine pi_gs hf rfl (wanted_f hf rfl rfl rfl rfl hc28) rfl rfl (Ext.refl _) fun a hf => ?_
              refine pi_gs hf rfl (wanted_f hf rfl rfl rfl rfl hc28) rfl rfl (Ext.refl _) fun a hf => ?_
              refine pi_gs hf rfl (wanted_f hf rfl rfl rfl rfl hc28) rfl rfl (Ext.refl _) fun a hf => ?_
              refine pi_gq hf rfl (wanted_t hf rfl rfl rfl rfl hc26) rfl rfl (Ext.refl _) (e_pick_f hf rfl hc28 rfl) fun a hf => ?_
              refine pi_q hf rfl rfl rfl rfl (Ext.refl _) (e_pick_f hf rfl hc26 rfl) fun a hf => ?_
              refine pi_nil ?_
              obtain rfl := some_inj h17
              refine then_n ?_
              exact ⟨false, rfl, hf.keep ⟨rfl, rfl, rfl, trivial⟩, hM.pick [] rfl⟩
        · rintro a w37 ⟨t14, rfl, hf, hM⟩
          try dsimp only at h11
          rcases cond_some h11 with ⟨hc38, h11⟩ | ⟨hc38, h11⟩
          · refine cond_t hf rfl hc38 ?_
            refine wp_seq ?_
            refine region_pl ?_
            refine q_ hf rfl rfl rfl (e_assign hf rfl) fun a hf => ?_
            refine pl_nil ?_
            refine then_n ?_
            refine wp_ret ?_
            refine blk_r ?_
            refine then_r ?_
            obtain rfl := some_inj h11
            obtain rfl := hd12 _ rfl
            try dsimp only at h4
            refine then_r ?_
            refine blk_r ?_
            obtain rfl := some_inj h4
            try dsimp only at h
            refine then_r ?_
            obtain rfl := some_inj h
            exact leave1 hf rfl rfl ⟨rfl, hM.fin⟩
          · refine cond_f hf rfl hc38 ?_
            refine wp_skip ?_
            refine blk_n ?_
            refine then_n ?_
            refine region_pl ?_
            refine q_ hf rfl rfl rfl (e_move hf rfl) fun a hf => ?_
            obtain ⟨z39, hz40, h11⟩ := bind_some h11
            refine q_ hf rfl rfl rfl (e_add hf rfl rfl hz40) fun a hf => ?_
            refine q_ hf rfl rfl rfl (e_assign hf rfl) fun a hf => ?_
            refine pl_nil ?_
            obtain rfl := some_inj h11
            refine then_n ⟨_, rfl, ?_⟩
            exact ⟨z39, rfl, hf.keep ⟨rfl, rfl, trivial⟩, hM.pick [] rfl, (chk_R hz40)⟩
      · refine cond_f hf rfl hc13 ?_
        refine wp_exit ?_
        refine then_x ?_
        obtain rfl := some_inj h11
        obtain rfl := hd12 _ rfl
        try dsimp only at h4
        refine then_x ?_
        refine exit_hit ?_
        obtain rfl := some_inj h4
        refine then_n ?_
        exact ⟨rfl, hf.keep ⟨rfl, trivial⟩, hM.pick [] rfl⟩
  · rintro a w47 ⟨rfl, hf, hM⟩
    try dsimp only at h
    refine wp_seq ?_
    refine region_pl ?_
    refine q_ hf rfl rfl rfl (e_move hf rfl) fun a hf => ?_
    refine q_ hf rfl rfl rfl (e_lenS hf (x := s1) rfl Try.underlying9) fun a hf => ?_
    refine q_ hf rfl rfl rfl (e_le hf (x := (s1.length : Int)) (y := 120) rfl rfl) fun a hf => ?_
    refine q_ hf rfl rfl rfl (e_assign hf rfl) fun a hf => ?_
    refine pl_nil ?_
    refine then_n ?_
    refine wp_ret ?_
    obtain rfl := some_inj h
    exact leave1 hf rfl rfl ⟨rfl, hM.fin⟩

set_option maxRecDepth 100000 in
set_option maxHeartbeats 4000000 in
theorem r_spec_l03Rack (C : Cx) (s1 : Str) (hp2 : s1.length ≤ maxLen) (r : Bool) (h : m_spec_l03Rack s1 = some r) :
    Calls Try.prog 116 #[vS (s1)] C.w0 fun e w => e = .returned (.bool (r)) ∧ Mem C w [] [] := by
  have hM := Mem.begin C [] trivial
  refine enter Try.func116 rfl Try.ntmps116 rfl fun a hf => ?_
  unfold m_spec_l03Rack at h
  refine wp_seq ?_
  refine region_pl ?_
  refine q_ hf rfl rfl rfl (e_assign hf rfl) fun a hf => ?_
  refine pl_nil ?_
  refine then_n ?_
  obtain ⟨x5, h6, h⟩ := bind_some h
  refine seq_join (fun a w => ∃ (t3 : Bool), t3 = x5 ∧ Has 10 a [(2, .bool (t3))] ∧ Mem C w [] []) ?_ ?_
  · refine region_pl ?_
    refine q_ hf rfl rfl rfl (e_move hf rfl) fun a hf => ?_
    obtain ⟨y7, hz8, h6⟩ := bind_some h6
    refine pl_l hf rfl rfl rfl (w_call hf Try.call124 rfl (r_spec_l03Pile ⟨_, Sh C _ _, none_, hM.sh_lt, none_not⟩ s1 hp2 _ hz8) ?_)
    rintro _ w9 ⟨rfl, hM2⟩
    obtain ⟨hM, hx10, hup11⟩ := hM.back hM2
    dsimp only [List.cons_append, List.nil_append] at hM hup11
    clear hM2
    refine ⟨_, rfl, fun a hf => ?_⟩
    refine q_ hf rfl rfl rfl (e_move hf rfl) fun a hf => ?_
    rcases cond_some h6 with ⟨hc12, h6⟩ | ⟨hc12, h6⟩
    · refine gq (wanted_t hf rfl rfl rfl rfl hc12) hf rfl rfl (e_move hf rfl) fun a hf => ?_
      refine gq (wanted_t hf rfl rfl rfl rfl hc12) hf rfl rfl (e_lenS hf (x := s1) rfl Try.underlying9) fun a hf => ?_
      refine gq (wanted_t hf rfl rfl rfl rfl hc12) hf rfl rfl (e_le hf (x := (s1.length : Int)) (y := 7) rfl rfl) fun a hf => ?_
      refine q_ hf rfl rfl rfl (e_pick_t hf rfl hc12 rfl) fun a hf => ?_
      refine q_ hf rfl rfl rfl (e_assign hf rfl) fun a hf => ?_
      refine pl_nil ?_
      obtain rfl := some_inj h6
      refine then_n ?_
      exact ⟨(decide ((s1.length : Int) ≤ 7)), rfl, hf.keep ⟨rfl, trivial⟩, hM.pick [] rfl⟩
    · refine pl_gs (wanted_f hf rfl rfl rfl rfl hc12) hf rfl rfl fun a hf => ?_
      refine pl_gs (wanted_f hf rfl rfl rfl rfl hc12) hf rfl rfl fun a hf => ?_
      refine pl_gs (wanted_f hf rfl rfl rfl rfl hc12) hf rfl rfl fun a hf => ?_
      refine q_ hf rfl rfl rfl (e_pick_f hf rfl hc12 rfl) fun a hf => ?_
      refine q_ hf rfl rfl rfl (e_assign hf rfl) fun a hf => ?_
      refine pl_nil ?_
      obtain rfl := some_inj h6
      refine then_n ?_
      exact ⟨false, rfl, hf.keep ⟨rfl, trivial⟩, hM.pick [] rfl⟩
  · rintro a w15 ⟨t3, rfl, hf, hM⟩
    try dsimp only at h
    refine wp_ret ?_
    obtain rfl := some_inj h
    exact leave1 hf rfl rfl ⟨rfl, hM.fin⟩

set_option maxRecDepth 100000 in
set_option maxHeartbeats 4000000 in
theorem r_spec_l22Ok (C : Cx) (e1 : End) (b2 : Nat) (o3 : Nat) (hp4 : (ptrRep EndRep).R C.w0 C.S0 e1 [vP b2 o3]) (r : Bool) (h : m_spec_l22Ok e1 = some r) :
    Calls Try.prog 89 #[vP b2 (o3)] C.w0 fun e w => e = .returned (.bool (r)) ∧ Mem C w [] [] := by
  have hM := Mem.begin C [.dat (ptrRep EndRep) e1 [vP b2 o3]] ⟨hp4, trivial⟩
  refine enter Try.func89 rfl Try.ntmps89 rfl fun a hf => ?_
  unfold m_spec_l22Ok at h
  refine wp_seq ?_
  refine region_pl ?_
  refine q_ hf rfl rfl rfl (e_assign hf rfl) fun a hf => ?_
  refine pl_nil ?_
  refine then_n ?_
  obtain ⟨x7, h8, h⟩ := bind_some h
  refine seq_join (fun a w => ∃ (t5 : Bool), t5 = x7 ∧ Has 35 a [(2, .bool (t5))] ∧ Mem C w [] [.dat (ptrRep EndRep) e1 [vP b2 o3]]) ?_ ?_
  · refine region_pl ?_
    refine q_ hf rfl rfl rfl (e_move hf rfl) fun a hf => ?_
    refine q_ hf rfl rfl rfl (e_nil hf rfl) fun a hf => ?_
    obtain ⟨_, hr9, hM⟩ := hM.deref (hM.dat (k := 0) rfl)
    obtain ⟨rfl, hv10, hv11, hv12, hv13, hv14⟩ := EndRep_open hr9
    refine q_ hf rfl rfl rfl (e_field hf rfl Try.underlying77 rfl Try.sizeOf75 (o' := o3 + 0) rfl) fun a hf => ?_
    obtain ⟨y15, hz16, h8⟩ := bind_some h8
    refine pl_l hf rfl rfl rfl (w_call hf Try.call115 rfl (r_spec_l11Ok ⟨_, Sh C _ _, none_, hM.sh_lt, none_not⟩ e1.Board _ _ (hM.litPtr (k := 0) (d := 0) (us := [vI (e1.Board.Size), vS (e1.Board.Premium), vS (e1.Board.Cells)]) rfl rfl rfl (BoardRep_mk (x := e1.Board) hv10 hv11 hv12)) _ hz16) ?_)
    rintro _ w17 ⟨rfl, hM2⟩
    obtain ⟨hM, hx18, hup19⟩ := hM.back hM2
    dsimp only [List.cons_append, List.nil_append] at hM hup19
    clear hM2
    refine ⟨_, rfl, fun a hf => ?_⟩
    refine q_ hf rfl rfl rfl (e_move hf rfl) fun a hf => ?_
    rcases cond_some h8 with ⟨hc20, h8⟩ | ⟨hc20, h8⟩
    · refine gq (wanted_t hf rfl rfl rfl rfl hc20) hf rfl rfl (e_move hf rfl) fun a hf => ?_
      refine gq (wanted_t hf rfl rfl rfl rfl hc20) hf rfl rfl (e_nil hf rfl) fun a hf => ?_
      refine gq (wanted_t hf rfl rfl rfl rfl hc20) hf rfl rfl (e_field hf rfl Try.underlying77 rfl Try.sizeOf9 (o' := o3 + 3) rfl) fun a hf => ?_
      refine gq (wanted_t hf rfl rfl rfl rfl hc20) hf rfl rfl (e_load1 hf rfl Try.isAgg9 (hM.litCell (k := 0) (j := 3) rfl rfl rfl)) fun a hf => ?_
      obtain ⟨y21, hz22, h8⟩ := bind_some h8
      refine pl_gl (wanted_t hf rfl rfl rfl rfl hc20) hf rfl rfl (w_call hf Try.call116 rfl (r_spec_l03Rack ⟨_, Sh C _ _, none_, hM.sh_lt, none_not⟩ e1.Mine hv13 _ hz22) ?_)
      rintro _ w23 ⟨rfl, hM2⟩
      obtain ⟨hM, hx24, hup25⟩ := hM.back hM2
      dsimp only [List.cons_append, List.nil_append] at hM hup25
      clear hM2
      refine ⟨_, rfl, fun a hf => ?_⟩
      refine q_ hf rfl rfl rfl (e_pick_t hf rfl hc20 rfl) fun a hf => ?_
      refine q_ hf rfl rfl rfl (e_move hf rfl) fun a hf => ?_
      rcases cond_some h8 with ⟨hc26, h8⟩ | ⟨hc26, h8⟩
      · refine gq (wanted_t hf rfl rfl rfl rfl hc26) hf rfl rfl (e_move hf rfl) fun a hf => ?_
        refine gq (wanted_t hf rfl rfl rfl rfl hc26) hf rfl rfl (e_nil hf rfl) fun a hf => ?_
        refine gq (wanted_t hf rfl rfl rfl rfl hc26) hf rfl rfl (e_field hf rfl Try.underlying77 rfl Try.sizeOf9 (o' := o3 + 4) rfl) fun a hf => ?_
        refine gq (wanted_t hf rfl rfl rfl rfl hc26) hf rfl rfl (e_load1 hf rfl Try.isAgg9 (hM.litCell (k := 0) (j := 4) rfl rfl rfl)) fun a hf => ?_
        obtain ⟨y27, hz28, h8⟩ := bind_some h8
        refine pl_gl (wanted_t hf rfl rfl rfl rfl hc26) hf rfl rfl (w_call hf Try.call116 rfl (r_spec_l03Rack ⟨_, Sh C _ _, none_, hM.sh_lt, none_not⟩ e1.Theirs hv14 _ hz28) ?_)
        rintro _ w29 ⟨rfl, hM2⟩
        obtain ⟨hM, hx30, hup31⟩ := hM.back hM2
        dsimp only [List.cons_append, List.nil_append] at hM hup31
        clear hM2
        refine ⟨_, rfl, fun a hf => ?_⟩
        refine q_ hf rfl rfl rfl (e_pick_t hf rfl hc26 rfl) fun a hf => ?_
        refine q_ hf rfl rfl rfl (e_move hf rfl) fun a hf => ?_
        rcases cond_some h8 with ⟨hc32, h8⟩ | ⟨hc32, h8⟩
        · refine gq (wanted_t hf rfl rfl rfl rfl hc32) hf rfl rfl (e_move hf rfl) fun a hf => ?_
          refine gq (wanted_t hf rfl rfl rfl rfl hc32) hf rfl rfl (e_nil hf rfl) fun a hf => ?_
          refine gq (wanted_t hf rfl rfl rfl rfl hc32) hf rfl rfl (e_field hf rfl Try.underlying77 rfl Try.sizeOf9 (o' := o3 + 3) rfl) fun a hf => ?_
          refine gq (wanted_t hf rfl rfl rfl rfl hc32) hf rfl rfl (e_load1 hf rfl Try.isAgg9 (hM.litCell (k := 0) (j := 3) rfl rfl rfl)) fun a hf => ?_
          refine gq (wanted_t hf rfl rfl rfl rfl hc32) hf rfl rfl (e_neS hf (x := e1.Mine) (y := ([] : Str)) rfl rfl) fun a hf => ?_
          refine q_ hf rfl rfl rfl (e_pick_t hf rfl hc32 rfl) fun a hf => ?_
          refine q_ hf rfl rfl rfl (e_move hf rfl) fun a hf => ?_
          rcases cond_some h8 with ⟨hc33, h8⟩ | ⟨hc33, h8⟩
          · refine gq (wanted_t hf rfl rfl rfl rfl hc33) hf rfl rfl (e_move hf rfl) fun a hf => ?_
            refine gq (wanted_t hf rfl rfl rfl rfl hc33) hf rfl rfl (e_nil hf rfl) fun a hf => ?_
            refine gq (wanted_t hf rfl rfl rfl rfl hc33) hf rfl rfl (e_field hf rfl Try.underlying77 rfl Try.sizeOf9 (o' := o3 + 4) rfl) fun a hf => ?_
            refine gq (wanted_t hf rfl rfl rfl rfl hc33) hf rfl rfl (e_load1 hf rfl Try.isAgg9 (hM.litCell (k := 0) (j := 4) rfl rfl rfl)) fun a hf => ?_
            refine gq (wanted_t hf rfl rfl rfl rfl hc33) hf rfl rfl (e_neS hf (x := e1.Theirs) (y := ([] : Str)) rfl rfl) fun a hf => ?_
            refine q_ hf rfl rfl rfl (e_pick_t hf rfl hc33 rfl) fun a hf => ?_
            refine q_ hf rfl rfl rfl (e_assign hf rfl) fun a hf => ?_
            refine pl_nil ?_
            obtain rfl := some_inj h8
            refine then_n ?_
            exact ⟨(e1.Theirs != ([] : Str)), rfl, hf.keep ⟨rfl, trivial⟩, hM.pick [1] rfl⟩
          · refine pl_gs (wanted_f hf rfl rfl rfl rfl hc33) hf rfl rfl fun a hf => ?_
            refine pl_gs (wanted_f hf rfl rfl rfl rfl hc33) hf rfl rfl fun a hf => ?_
            refine pl_gs (wanted_f hf rfl rfl rfl rfl hc33) hf rfl rfl fun a hf => ?_
            refine pl_gs (wanted_f hf rfl rfl rfl rfl hc33) hf rfl rfl fun a hf => ?_
            refine pl_gs (wanted_f hf rfl rfl rfl rfl hc33) hf rfl rfl fun a hf => ?_
            refine q_ hf rfl rfl rfl (e_pick_f hf rfl hc33 rfl) fun a hf => ?_
            refine q_ hf rfl rfl rfl (e_assign hf rfl) fun a hf => ?_
            refine pl_nil ?_
            obtain rfl := some_inj h8
            refine then_n ?_
            exact ⟨false, rfl, hf.keep ⟨rfl, trivial⟩, hM.pick [1] rfl⟩
        · refine pl_gs (wanted_f hf rfl rfl rfl rfl hc32) hf rfl rfl fun a hf => ?_
          refine pl_gs (wanted_f hf rfl rfl rfl rfl hc32) hf rfl rfl fun a hf => ?_
          refine pl_gs (wanted_f hf rfl rfl rfl rfl hc32) hf rfl rfl fun a hf => ?_
          refine pl_gs (wanted_f hf rfl rfl rfl rfl hc32) hf rfl rfl fun a hf => ?_
          refine pl_gs (wanted_f hf rfl rfl rfl rfl hc32) hf rfl rfl fun a hf => ?_
          refine q_ hf rfl rfl rfl (e_pick_f hf rfl hc32 rfl) fun a hf => ?_
          refine q_ hf rfl rfl rfl (e_move hf rfl) fun a hf => ?_
          refine pl_gs (wanted_f hf rfl rfl rfl rfl rfl) hf rfl rfl fun a hf => ?_
          refine pl_gs (wanted_f hf rfl rfl rfl rfl rfl) hf rfl rfl fun a hf => ?_
          refine pl_gs (wanted_f hf rfl rfl rfl rfl rfl) hf rfl rfl fun a hf => ?_
          refine pl_gs (wanted_f hf rfl rfl rfl rfl rfl) hf rfl rfl fun a hf => ?_
          refine pl_gs (wanted_f hf rfl rfl rfl rfl rfl) hf rfl rfl fun a hf => ?_
          refine q_ hf rfl rfl rfl (e_pick_f hf rfl rfl rfl) fun a hf => ?_
          refine q_ hf rfl rfl rfl (e_assign hf rfl) fun a hf => ?_
          refine pl_nil ?_
          obtain rfl := some_inj h8
          refine then_n ?_
          exact ⟨false, rfl, hf.keep ⟨rfl, trivial⟩, hM.pick [1] rfl⟩
      · refine pl_gs (wanted_f hf rfl rfl rfl rfl hc26) hf rfl rfl fun a hf => ?_
        refine pl_gs (wanted_f hf rfl rfl rfl rfl hc26) hf rfl rfl fun a hf => ?_
        refine pl_gs (wanted_f hf rfl rfl rfl rfl hc26) hf rfl rfl fun a hf => ?_
        refine pl_gs (wanted_f hf rfl rfl rfl rfl hc26) hf rfl rfl fun a hf => ?_
        refine pl_gs (wanted_f hf rfl rfl rfl rfl hc26) hf rfl rfl fun a hf => ?_
        refine q_ hf rfl rfl rfl (e_pick_f hf rfl hc26 rfl) fun a hf => ?_
        refine q_ hf rfl rfl rfl (e_move hf rfl) fun a hf => ?_
        refine pl_gs (wanted_f hf rfl rfl rfl rfl rfl) hf rfl rfl fun a hf => ?_
        refine pl_gs (wanted_f hf rfl rfl rfl rfl rfl) hf rfl rfl fun a hf => ?_
        refine pl_gs (wanted_f hf rfl rfl rfl rfl rfl) hf rfl rfl fun a hf => ?_
        refine pl_gs (wanted_f hf rfl rfl rfl rfl rfl) hf rfl rfl fun a hf => ?_
        refine pl_gs (wanted_f hf rfl rfl rfl rfl rfl) hf rfl rfl fun a hf => ?_
        refine q_ hf rfl rfl rfl (e_pick_f hf rfl rfl rfl) fun a hf => ?_
        refine q_ hf rfl rfl rfl (e_move hf rfl) fun a hf => ?_
        refine pl_gs (wanted_f hf rfl rfl rfl rfl rfl) hf rfl rfl fun a hf => ?_
        refine pl_gs (wanted_f hf rfl rfl rfl rfl rfl) hf rfl rfl fun a hf => ?_
        refine pl_gs (wanted_f hf rfl rfl rfl rfl rfl) hf rfl rfl fun a hf => ?_
        refine pl_gs (wanted_f hf rfl rfl rfl rfl rfl) hf rfl rfl fun a hf => ?_
        refine pl_gs (wanted_f hf rfl rfl rfl rfl rfl) hf rfl rfl fun a hf => ?_
        refine q_ hf rfl rfl rfl (e_pick_f hf rfl rfl rfl) fun a hf => ?_
        refine q_ hf rfl rfl rfl (e_assign hf rfl) fun a hf => ?_
        refine pl_nil ?_
        obtain rfl := some_inj h8
        refine then_n ?_
        exact ⟨false, rfl, hf.keep ⟨rfl, trivial⟩, hM.pick [1] rfl⟩
    · refine pl_gs (wanted_f hf rfl rfl rfl rfl hc20) hf rfl rfl fun a hf => ?_
      refine pl_gs (wanted_f hf rfl rfl rfl rfl hc20) hf rfl rfl fun a hf => ?_
      refine pl_gs (wanted_f hf rfl rfl rfl rfl hc20) hf rfl rfl fun a hf => ?_
      refine pl_gs (wanted_f hf rfl rfl rfl rfl hc20) hf rfl rfl fun a hf => ?_
      refine pl_gs (wanted_f hf rfl rfl rfl rfl hc20) hf rfl rfl fun a hf => ?_
      refine q_ hf rfl rfl rfl (e_pick_f hf rfl hc20 rfl) fun a hf => ?_
      refine q_ hf rfl rfl rfl (e_move hf rfl) fun a hf => ?_
      refine pl_gs (wanted_f hf rfl rfl rfl rfl rfl) hf rfl rfl fun a hf => ?_
      refine pl_gs (wanted_f hf rfl rfl rfl rfl rfl) hf rfl rfl fun a hf => ?_
      refine pl_gs (wanted_f hf rfl rfl rfl rfl rfl) hf rfl rfl fun a hf => ?_
      refine pl_gs (wanted_f hf rfl rfl rfl rfl rfl) hf rfl rfl fun a hf => ?_
      refine pl_gs (wanted_f hf rfl rfl rfl rfl rfl) hf rfl rfl fun a hf => ?_
      refine q_ hf rfl rfl rfl (e_pick_f hf rfl rfl rfl) fun a hf => ?_
      refine q_ hf rfl rfl rfl (e_move hf rfl) fun a hf => ?_
      refine pl_gs (wanted_f hf rfl rfl rfl rfl rfl) hf rfl rfl fun a hf => ?_
      refine pl_gs (wanted_f hf rfl rfl rfl rfl rfl) hf rfl rfl fun a hf => ?_
      refine pl_gs (wanted_f hf rfl rfl rfl rfl rfl) hf rfl rfl fun a hf => ?_
      refine pl_gs (wanted_f hf rfl rfl rfl rfl rfl) hf rfl rfl fun a hf => ?_
      refine pl_gs (wanted_f hf rfl rfl rfl rfl rfl) hf rfl rfl fun a hf => ?_
      refine q_ hf rfl rfl rfl (e_pick_f hf rfl rfl rfl) fun a hf => ?_
      refine q_ hf rfl rfl rfl (e_move hf rfl) fun a hf => ?_
      refine pl_gs (wanted_f hf rfl rfl rfl rfl rfl) hf rfl rfl fun a hf => ?_
      refine pl_gs (wanted_f hf rfl rfl rfl rfl rfl) hf rfl rfl fun a hf => ?_
      refine pl_gs (wanted_f hf rfl rfl rfl rfl rfl) hf rfl rfl fun a hf => ?_
      refine pl_gs (wanted_f hf rfl rfl rfl rfl rfl) hf rfl rfl fun a hf => ?_
      refine pl_gs (wanted_f hf rfl rfl rfl rfl rfl) hf rfl rfl fun a hf => ?_
      refine q_ hf rfl rfl rfl (e_pick_f hf rfl rfl rfl) fun a hf => ?_
      refine q_ hf rfl rfl rfl (e_assign hf rfl) fun a hf => ?_
      refine pl_nil ?_
      obtain rfl := some_inj h8
      refine then_n ?_
      exact ⟨false, rfl, hf.keep ⟨rfl, trivial⟩, hM.pick [1] rfl⟩
  · rintro a w39 ⟨t5, rfl, hf, hM⟩
    try dsimp only at h
    refine wp_ret ?_
    obtain rfl := some_inj h
    exact leave1 hf rfl rfl ⟨rfl, hM.fin⟩

set_option maxRecDepth 100000 in
set_option maxHeartbeats 4000000 in
theorem r_spec_ValidEnd (C : Cx) (e1 : End) (hp2 : R64 e1.Board.Size) (hp3 : e1.Board.Premium.length ≤ maxLen) (hp4 : e1.Board.Cells.length ≤ maxLen) (hp5 : e1.Mine.length ≤ maxLen) (hp6 : e1.Theirs.length ≤ maxLen) (r : Bool) (h : m_spec_ValidEnd e1 = some r) :
    Calls Try.prog 47 #[.agg #[vI (e1.Board.Size), vS (e1.Board.Premium), vS (e1.Board.Cells), vS (e1.Mine), vS (e1.Theirs), .bool (e1.Passed)]] C.w0 fun e w => e = .returned (.bool (r)) ∧ Mem C w [] [] := by
  have hM := Mem.begin C [] trivial
  refine enter Try.func47 rfl Try.ntmps47 rfl fun a hf => ?_
  unfold m_spec_ValidEnd at h
  refine wp_seq ?_
  refine region_pl ?_
  refine pl_l hf rfl rfl rfl (w_box hf hM (cs := [vI (e1.Board.Size), vS (e1.Board.Premium), vS (e1.Board.Cells), vS (e1.Mine), vS (e1.Theirs), .bool (e1.Passed)]) rfl rfl fun b7 w8 hx9 hM a hf => ?_)
  refine q_ hf rfl rfl rfl (e_assign hf rfl) fun a hf => ?_
  refine pl_nil ?_
  refine then_n ?_
  refine wp_seq ?_
  refine region_pl ?_
  obtain ⟨y11, hz12, h⟩ := bind_some h
  refine pl_l hf rfl rfl rfl (w_call hf Try.call89 rfl (r_spec_l22Ok ⟨_, All C _ _, none_, hM.all_lt, none_not⟩ e1 _ _ (hM.lendBox (k := 0) rfl (EndRep_mk (x := e1) hp2 hp3 hp4 hp5 hp6)) _ hz12) ?_)
  rintro _ w13 ⟨rfl, hM2⟩
  obtain ⟨hM, hx14⟩ := hM.backA hM2
  clear hM2
  refine ⟨_, rfl, fun a hf => ?_⟩
  refine q_ hf rfl rfl rfl (e_assign hf rfl) fun a hf => ?_
  refine pl_nil ?_
  refine then_n ?_
  refine wp_ret ?_
  obtain rfl := some_inj h
  have hM := hM.outs (own' := []) 0 rfl
  exact leave1 hf rfl rfl ⟨rfl, hM.fin⟩

set_option maxRecDepth 100000 in
set_option maxHeartbeats 4000000 in
theorem r_impl_within (C : Cx) (x1 : Int) (hp2 : R64 x1) (low3 : Int) (hp4 : R64 low3) (high5 : Int) (hp6 : R64 high5) (r : Bool) (h : m_impl_within x1 low3 high5 = some r) :
    Calls Try.prog 56 #[vI (x1), vI (low3), vI (high5)] C.w0 fun e w => e = .returned (.bool (r)) ∧ Mem C w [] [] := by
  have hM := Mem.begin C [] trivial
  refine enter Try.func56 rfl Try.ntmps56 rfl fun a hf => ?_
  unfold m_impl_within at h
  refine wp_seq ?_
  refine region_pl ?_
  refine q_ hf rfl rfl rfl (e_assign hf rfl) fun a hf => ?_
  refine pl_nil ?_
  refine then_n ?_
  obtain ⟨x9, h10, h⟩ := bind_some h
  refine seq_join (fun a w => ∃ (t7 : Bool), t7 = x9 ∧ Has 15 a [(6, .bool (t7))] ∧ Mem C w [] []) ?_ ?_
  · refine region_pl ?_
    refine q_ hf rfl rfl rfl (e_move hf rfl) fun a hf => ?_
    refine q_ hf rfl rfl rfl (e_move hf rfl) fun a hf => ?_
    refine q_ hf rfl rfl rfl (e_le hf (x := low3) (y := x1) rfl rfl) fun a hf => ?_
    refine q_ hf rfl rfl rfl (e_move hf rfl) fun a hf => ?_
    rcases cond_some h10 with ⟨hc11, h10⟩ | ⟨hc11, h10⟩
    · refine gq (wanted_t hf rfl rfl rfl rfl hc11) hf rfl rfl (e_move hf rfl) fun a hf => ?_
      refine gq (wanted_t hf rfl rfl rfl rfl hc11) hf rfl rfl (e_move hf rfl) fun a hf => ?_
      refine gq (wanted_t hf rfl rfl rfl rfl hc11) hf rfl rfl (e_le hf (x := x1) (y := high5) rfl rfl) fun a hf => ?_
      refine q_ hf rfl rfl rfl (e_pick_t hf rfl hc11 rfl) fun a hf => ?_
      refine q_ hf rfl rfl rfl (e_assign hf rfl) fun a hf => ?_
      refine pl_nil ?_
      obtain rfl := some_inj h10
      refine then_n ?_
      exact ⟨(decide (x1 ≤ high5)), rfl, hf.keep ⟨rfl, trivial⟩, hM.pick [] rfl⟩
    · refine pl_gs (wanted_f hf rfl rfl rfl rfl hc11) hf rfl rfl fun a hf => ?_
      refine pl_gs (wanted_f hf rfl rfl rfl rfl hc11) hf rfl rfl fun a hf => ?_
      refine pl_gs (wanted_f hf rfl rfl rfl rfl hc11) hf rfl rfl fun a hf => ?_
      refine q_ hf rfl rfl rfl (e_pick_f hf rfl hc11 rfl) fun a hf => ?_
      refine q_ hf rfl rfl rfl (e_assign hf rfl) fun a hf => ?_
      refine pl_nil ?_
      obtain rfl := some_inj h10
      refine then_n ?_
      exact ⟨false, rfl, hf.keep ⟨rfl, trivial⟩, hM.pick [] rfl⟩
  · rintro a w14 ⟨t7, rfl, hf, hM⟩
    try dsimp only at h
    refine wp_ret ?_
    obtain rfl := some_inj h
    exact leave1 hf rfl rfl ⟨rfl, hM.fin⟩

set_option maxRecDepth 100000 in
set_option maxHeartbeats 4000000 in
theorem r_impl_sizeOk (C : Cx) (size1 : Int) (hp2 : R64 size1) (r : Bool) (h : m_impl_sizeOk size1 = some r) :
    Calls Try.prog 117 #[vI (size1)] C.w0 fun e w => e = .returned (.bool (r)) ∧ Mem C w [] [] := by
  have hM := Mem.begin C [] trivial
  refine enter Try.func117 rfl Try.ntmps117 rfl fun a hf => ?_
  unfold m_impl_sizeOk at h
  refine wp_seq ?_
  refine region_pl ?_
  refine q_ hf rfl rfl rfl (e_assign hf rfl) fun a hf => ?_
  refine pl_nil ?_
  refine then_n ?_
  refine wp_seq ?_
  refine region_pl ?_
  refine q_ hf rfl rfl rfl (e_move hf rfl) fun a hf => ?_
  obtain ⟨y3, hz4, h⟩ := bind_some h
  refine pl_l hf rfl rfl rfl (w_call hf Try.call56 rfl (r_impl_within ⟨_, Sh C _ _, none_, hM.sh_lt, none_not⟩ size1 hp2 5 (R64_lit rfl) 15 (R64_lit rfl) _ hz4) ?_)
  rintro _ w5 ⟨rfl, hM2⟩
  obtain ⟨hM, hx6, hup7⟩ := hM.back hM2
  dsimp only [List.cons_append, List.nil_append] at hM hup7
  clear hM2
  refine ⟨_, rfl, fun a hf => ?_⟩
  refine q_ hf rfl rfl rfl (e_assign hf rfl) fun a hf => ?_
  refine pl_nil ?_
  refine then_n ?_
  refine wp_ret ?_
  obtain rfl := some_inj h
  exact leave1 hf rfl rfl ⟨rfl, hM.fin⟩

set_option maxRecDepth 100000 in
set_option maxHeartbeats 4000000 in
theorem r_impl_allBytes (C : Cx) (s1 : Str) (hp2 : s1.length ≤ maxLen) (is3 : (UInt8 → Option Bool)) (fk4 : FuncId) (fc5 : List Value) (hfn6 : FnOk Try.prog C fk4 (FnC_UInt8_to_Bool fk4 fc5 is3)) (r : Bool) (h : m_impl_allBytes s1 is3 = some r) :
    Calls Try.prog 59 #[vS (s1), .func (.func fk4) #[] fc5.toArray] C.w0 fun e w => e = .returned (.bool (r)) ∧ Mem C w [] [] := by
  have hM := Mem.begin C [] trivial
  refine enter Try.func59 rfl Try.ntmps59 rfl fun a hf => ?_
  unfold m_impl_allBytes at h
  refine wp_seq ?_
  refine region_pl ?_
  refine q_ hf rfl rfl rfl (e_assign hf rfl) fun a hf => ?_
  refine pl_nil ?_
  refine then_n ?_
  obtain ⟨x7, h8, h⟩ := bind_some h
  refine seq_join (fun a w => (.inl ()) = x7 ∧ Has 18 a [] ∧ Mem C w [] []) ?_ ?_
  · refine wp_seq ?_
    refine region_pl ?_
    refine q_ hf rfl rfl rfl (e_assign hf rfl) fun a hf => ?_
    refine pl_nil ?_
    refine then_n ?_
    refine wp_block ?_
    obtain ⟨x12, h13, h8⟩ := bind_some h8
    refine wp_loopM h13 (fun s a w => ∃ (n9 : Int), n9 = s ∧ Has 18 a [(0, vS (s1)), (1, .func (.func fk4) #[] fc5.toArray), (5, vI (n9))] ∧ Mem C w [] [] ∧ R64 n9) ?_ ?_
    · exact ⟨0, rfl, hf.keep ⟨rfl, rfl, rfl, trivial⟩, hM.pick [] rfl, (R64_lit rfl)⟩
    · rintro s o14 a w11 ⟨n9, rfl, hf, hM, hv10⟩ h15 hd16
      replace h15 : m_impl_allBytes_l1 s1 is3 n9 = some o14 := h15
      unfold m_impl_allBytes_l1 at h15
      refine wp_seq ?_
      refine wp_seq ?_
      refine region_pl ?_
      refine q_ hf rfl rfl rfl (e_move hf rfl) fun a hf => ?_
      refine q_ hf rfl rfl rfl (e_move hf rfl) fun a hf => ?_
      refine q_ hf rfl rfl rfl (e_lenS hf (x := s1) rfl Try.underlying9) fun a hf => ?_
      refine q_ hf rfl rfl rfl (e_lt hf (x := n9) (y := (s1.length : Int)) rfl rfl) fun a hf => ?_
      refine pl_nil ?_
      refine then_n ?_
      rcases cond_some h15 with ⟨hc17, h15⟩ | ⟨hc17, h15⟩
      · refine cond_t hf rfl hc17 ?_
        refine wp_skip ?_
        refine then_n ?_
        refine wp_seq ?_
        refine wp_block ?_
        refine wp_seq ?_
        refine region_pl ?_
        refine q_ hf rfl rfl rfl (e_move hf rfl) fun a hf => ?_
        refine q_ hf rfl rfl rfl (e_move hf rfl) fun a hf => ?_
        refine q_ hf rfl rfl rfl (e_move hf rfl) fun a hf => ?_
        obtain ⟨c18, hz19, h15⟩ := bind_some h15
        refine q_ hf rfl rfl rfl (e_indexS hf (x := s1) rfl rfl Try.underlying9 hz19) fun a hf => ?_
        obtain ⟨y20, hz21, h15⟩ := bind_some h15
        refine pl_l hf rfl rfl rfl (w_callV hf rfl hfn6.1 rfl (hfn6.2 ⟨_, Sh C _ _, none_, hM.sh_lt, none_not⟩ hM.sameS hM.s0sh c18 _ hz21) ?_)
        rintro _ w22 ⟨rfl, hM2⟩
        obtain ⟨hM, hx23, hup24⟩ := hM.back hM2
        dsimp only [List.cons_append, List.nil_append] at hM hup24
        clear hM2
        refine ⟨_, rfl, fun a hf => ?_⟩
        refine q_ hf rfl rfl rfl (e_not hf rfl) fun a hf => ?_
        refine pl_nil ?_
        refine then_n ?_
        rcases cond_some h15 with ⟨hc25, h15⟩ | ⟨hc25, h15⟩
        · refine cond_t hf rfl hc25 ?_
          refine wp_seq ?_
          refine region_pl ?_
          refine q_ hf rfl rfl rfl (e_assign hf rfl) fun a hf => ?_
          refine pl_nil ?_
          refine then_n ?_
          refine wp_ret ?_
          refine blk_r ?_
          refine then_r ?_
          obtain rfl := some_inj h15
          obtain rfl := hd16 _ rfl
          try dsimp only at h8
          refine then_r ?_
          refine blk_r ?_
          obtain rfl := some_inj h8
          try dsimp only at h
          refine then_r ?_
          obtain rfl := some_inj h
          exact leave1 hf rfl rfl ⟨rfl, hM.fin⟩
        · refine cond_f hf rfl hc25 ?_
          refine wp_skip ?_
          refine blk_n ?_
          refine then_n ?_
          refine region_pl ?_
          refine q_ hf rfl rfl rfl (e_move hf rfl) fun a hf => ?_
          obtain ⟨z26, hz27, h15⟩ := bind_some h15
          refine q_ hf rfl rfl rfl (e_add hf rfl rfl hz27) fun a hf => ?_
          refine q_ hf rfl rfl rfl (e_assign hf rfl) fun a hf => ?_
          refine pl_nil ?_
          obtain rfl := some_inj h15
          refine then_n ⟨_, rfl, ?_⟩
          exact ⟨z26, rfl, hf.keep ⟨rfl, rfl, rfl, trivial⟩, hM.pick [] rfl, (chk_R hz27)⟩
      · refine cond_f hf rfl hc17 ?_
        refine wp_exit ?_
        refine then_x ?_
        obtain rfl := some_inj h15
        obtain rfl := hd16 _ rfl
        try dsimp only at h8
        refine then_x ?_
        refine exit_hit ?_
        obtain rfl := some_inj h8
        refine then_n ?_
        exact ⟨rfl, hf.keep trivial, hM.pick [] rfl⟩
  · rintro a w34 ⟨rfl, hf, hM⟩
    try dsimp only at h
    refine wp_seq ?_
    refine region_pl ?_
    refine q_ hf rfl rfl rfl (e_assign hf rfl) fun a hf => ?_
    refine pl_nil ?_
    refine then_n ?_
    refine wp_ret ?_
    obtain rfl := some_inj h
    exact leave1 hf rfl rfl ⟨rfl, hM.fin⟩

set_option maxRecDepth 100000 in
set_option maxHeartbeats 4000000 in
theorem r_impl_premiumOk (C : Cx) (c1 : UInt8) (r : Bool) (h : m_impl_premiumOk c1 = some r) :
    Calls Try.prog 118 #[vB (c1)] C.w0 fun e w => e = .returned (.bool (r)) ∧ Mem C w [] [] := by
  have hM := Mem.begin C [] trivial
  refine enter Try.func118 rfl Try.ntmps118 rfl fun a hf => ?_
  unfold m_impl_premiumOk at h
  refine wp_seq ?_
  refine region_pl ?_
  refine q_ hf rfl rfl rfl (e_assign hf rfl) fun a hf => ?_
  refine pl_nil ?_
  refine then_n ?_
  refine wp_seq ?_
  refine region_pl ?_
  refine q_ hf rfl rfl rfl (e_move hf rfl) fun a hf => ?_
  obtain ⟨y2, hz3, h⟩ := bind_some h
  refine pl_l hf rfl rfl rfl (w_call hf Try.call133 rfl (r_strings_IndexByte ⟨_, Sh C _ _, none_, hM.sh_lt, none_not⟩ ([50, 51, 100, 116, 46] : Str) (lit_len rfl) c1 _ hz3) ?_)
  rintro _ w5 ⟨rfl, hM2, hv4⟩
  obtain ⟨hM, hx6, hup7⟩ := hM.back hM2
  dsimp only [List.cons_append, List.nil_append] at hM hup7
  clear hM2
  refine ⟨_, rfl, fun a hf => ?_⟩
  refine q_ hf rfl rfl rfl (e_ge hf (x := y2) (y := 0) rfl rfl) fun a hf => ?_
  refine q_ hf rfl rfl rfl (e_assign hf rfl) fun a hf => ?_
  refine pl_nil ?_
  refine then_n ?_
  refine wp_ret ?_
  obtain rfl := some_inj h
  exact leave1 hf rfl rfl ⟨rfl, hM.fin⟩

set_option maxRecDepth 100000 in
set_option maxHeartbeats 4000000 in
theorem r_impl_small (C : Cx) (c1 : UInt8) (r : Bool) (h : m_impl_small c1 = some r) :
    Calls Try.prog 100 #[vB (c1)] C.w0 fun e w => e = .returned (.bool (r)) ∧ Mem C w [] [] := by
  have hM := Mem.begin C [] trivial
  refine enter Try.func100 rfl Try.ntmps100 rfl fun a hf => ?_
  unfold m_impl_small at h
  refine wp_seq ?_
  refine region_pl ?_
  refine q_ hf rfl rfl rfl (e_assign hf rfl) fun a hf => ?_
  refine pl_nil ?_
  refine then_n ?_
  obtain ⟨x4, h5, h⟩ := bind_some h
  refine seq_join (fun a w => ∃ (t2 : Bool), t2 = x4 ∧ Has 9 a [(2, .bool (t2))] ∧ Mem C w [] []) ?_ ?_
  · refine region_pl ?_
    refine q_ hf rfl rfl rfl (e_move hf rfl) fun a hf => ?_
    refine q_ hf rfl rfl rfl (e_leB hf (x := 97) (y := c1) rfl rfl) fun a hf => ?_
    refine q_ hf rfl rfl rfl (e_move hf rfl) fun a hf => ?_
    rcases cond_some h5 with ⟨hc6, h5⟩ | ⟨hc6, h5⟩
    · refine gq (wanted_t hf rfl rfl rfl rfl hc6) hf rfl rfl (e_move hf rfl) fun a hf => ?_
      refine gq (wanted_t hf rfl rfl rfl rfl hc6) hf rfl rfl (e_leB hf (x := c1) (y := 122) rfl rfl) fun a hf => ?_
      refine q_ hf rfl rfl rfl (e_pick_t hf rfl hc6 rfl) fun a hf => ?_
      refine q_ hf rfl rfl rfl (e_assign hf rfl) fun a hf => ?_
      refine pl_nil ?_
      obtain rfl := some_inj h5
      refine then_n ?_
      exact ⟨(decide (c1 ≤ 122)), rfl, hf.keep ⟨rfl, trivial⟩, hM.pick [] rfl⟩
    · refine pl_gs (wanted_f hf rfl rfl rfl rfl hc6) hf rfl rfl fun a hf => ?_
      refine pl_gs (wanted_f hf rfl rfl rfl rfl hc6) hf rfl rfl fun a hf => ?_
      refine q_ hf rfl rfl rfl (e_pick_f hf rfl hc6 rfl) fun a hf => ?_
      refine q_ hf rfl rfl rfl (e_assign hf rfl) fun a hf => ?_
      refine pl_nil ?_
      obtain rfl := some_inj h5
      refine then_n ?_
      exact ⟨false, rfl, hf.keep ⟨rfl, trivial⟩, hM.pick [] rfl⟩
  · rintro a w9 ⟨t2, rfl, hf, hM⟩
    try dsimp only at h
    refine wp_ret ?_
    obtain rfl := some_inj h
    exact leave1 hf rfl rfl ⟨rfl, hM.fin⟩

set_option maxRecDepth 100000 in
set_option maxHeartbeats 4000000 in
theorem r_impl_capital (C : Cx) (c1 : UInt8) (r : Bool) (h : m_impl_capital c1 = some r) :
    Calls Try.prog 134 #[vB (c1)] C.w0 fun e w => e = .returned (.bool (r)) ∧ Mem C w [] [] := by
  have hM := Mem.begin C [] trivial
  refine enter Try.func134 rfl Try.ntmps134 rfl fun a hf => ?_
  unfold m_impl_capital at h
  refine wp_seq ?_
  refine region_pl ?_
  refine q_ hf rfl rfl rfl (e_assign hf rfl) fun a hf => ?_
  refine pl_nil ?_
  refine then_n ?_
  obtain ⟨x4, h5, h⟩ := bind_some h
  refine seq_join (fun a w => ∃ (t2 : Bool), t2 = x4 ∧ Has 9 a [(2, .bool (t2))] ∧ Mem C w [] []) ?_ ?_
  · refine region_pl ?_
    refine q_ hf rfl rfl rfl (e_move hf rfl) fun a hf => ?_
    refine q_ hf rfl rfl rfl (e_leB hf (x := 65) (y := c1) rfl rfl) fun a hf => ?_
    refine q_ hf rfl rfl rfl (e_move hf rfl) fun a hf => ?_
    rcases cond_some h5 with ⟨hc6, h5⟩ | ⟨hc6, h5⟩
    · refine gq (wanted_t hf rfl rfl rfl rfl hc6) hf rfl rfl (e_move hf rfl) fun a hf => ?_
      refine gq (wanted_t hf rfl rfl rfl rfl hc6) hf rfl rfl (e_leB hf (x := c1) (y := 90) rfl rfl) fun a hf => ?_
      refine q_ hf rfl rfl rfl (e_pick_t hf rfl hc6 rfl) fun a hf => ?_
      refine q_ hf rfl rfl rfl (e_assign hf rfl) fun a hf => ?_
      refine pl_nil ?_
      obtain rfl := some_inj h5
      refine then_n ?_
      exact ⟨(decide (c1 ≤ 90)), rfl, hf.keep ⟨rfl, trivial⟩, hM.pick [] rfl⟩
    · refine pl_gs (wanted_f hf rfl rfl rfl rfl hc6) hf rfl rfl fun a hf => ?_
      refine pl_gs (wanted_f hf rfl rfl rfl rfl hc6) hf rfl rfl fun a hf => ?_
      refine q_ hf rfl rfl rfl (e_pick_f hf rfl hc6 rfl) fun a hf => ?_
      refine q_ hf rfl rfl rfl (e_assign hf rfl) fun a hf => ?_
      refine pl_nil ?_
      obtain rfl := some_inj h5
      refine then_n ?_
      exact ⟨false, rfl, hf.keep ⟨rfl, trivial⟩, hM.pick [] rfl⟩
  · rintro a w9 ⟨t2, rfl, hf, hM⟩
    try dsimp only at h
    refine wp_ret ?_
    obtain rfl := some_inj h
    exact leave1 hf rfl rfl ⟨rfl, hM.fin⟩

set_option maxRecDepth 100000 in
set_option maxHeartbeats 4000000 in
theorem r_impl_cellOk (C : Cx) (c1 : UInt8) (r : Bool) (h : m_impl_cellOk c1 = some r) :
    Calls Try.prog 119 #[vB (c1)] C.w0 fun e w => e = .returned (.bool (r)) ∧ Mem C w [] [] := by
  have hM := Mem.begin C [] trivial
  refine enter Try.func119 rfl Try.ntmps119 rfl fun a hf => ?_
  unfold m_impl_cellOk at h
  refine wp_seq ?_
  refine region_pl ?_
  refine q_ hf rfl rfl rfl (e_assign hf rfl) fun a hf => ?_
  refine pl_nil ?_
  refine then_n ?_
  obtain ⟨x4, h5, h⟩ := bind_some h
  refine seq_join (fun a w => ∃ (t2 : Bool), t2 = x4 ∧ Has 13 a [(2, .bool (t2))] ∧ Mem C w [] []) ?_ ?_
  · refine region_pl ?_
    refine q_ hf rfl rfl rfl (e_move hf rfl) fun a hf => ?_
    refine q_ hf rfl rfl rfl (e_eqB hf (x := c1) (y := 46) rfl rfl) fun a hf => ?_
    refine q_ hf rfl rfl rfl (e_move hf rfl) fun a hf => ?_
    rcases cond_some h5 with ⟨hc6, h5⟩ | ⟨hc6, h5⟩
    · refine pl_gs (wanted_f hf rfl rfl rfl rfl hc6) hf rfl rfl fun a hf => ?_
      refine pl_gs (wanted_f hf rfl rfl rfl rfl hc6) hf rfl rfl fun a hf => ?_
      refine q_ hf rfl rfl rfl (e_pick_t hf rfl hc6 rfl) fun a hf => ?_
      refine q_ hf rfl rfl rfl (e_move hf rfl) fun a hf => ?_
      refine pl_gs (wanted_f hf rfl rfl rfl rfl rfl) hf rfl rfl fun a hf => ?_
      refine pl_gs (wanted_f hf rfl rfl rfl rfl rfl) hf rfl rfl fun a hf => ?_
      refine q_ hf rfl rfl rfl (e_pick_t hf rfl rfl rfl) fun a hf => ?_
      refine q_ hf rfl rfl rfl (e_assign hf rfl) fun a hf => ?_
      refine pl_nil ?_
      obtain rfl := some_inj h5
      refine then_n ?_
      exact ⟨true, rfl, hf.keep ⟨rfl, trivial⟩, hM.pick [] rfl⟩
    · refine gq (wanted_t hf rfl rfl rfl rfl hc6) hf rfl rfl (e_move hf rfl) fun a hf => ?_
      obtain ⟨y8, hz9, h5⟩ := bind_some h5
      refine pl_gl (wanted_t hf rfl rfl rfl rfl hc6) hf rfl rfl (w_call hf Try.call100 rfl (r_impl_small ⟨_, Sh C _ _, none_, hM.sh_lt, none_not⟩ c1 _ hz9) ?_)
      rintro _ w10 ⟨rfl, hM2⟩
      obtain ⟨hM, hx11, hup12⟩ := hM.back hM2
      dsimp only [List.cons_append, List.nil_append] at hM hup12
      clear hM2
      refine ⟨_, rfl, fun a hf => ?_⟩
      refine q_ hf rfl rfl rfl (e_pick_f hf rfl hc6 rfl) fun a hf => ?_
      refine q_ hf rfl rfl rfl (e_move hf rfl) fun a hf => ?_
      rcases cond_some h5 with ⟨hc13, h5⟩ | ⟨hc13, h5⟩
      · refine pl_gs (wanted_f hf rfl rfl rfl rfl hc13) hf rfl rfl fun a hf => ?_
        refine pl_gs (wanted_f hf rfl rfl rfl rfl hc13) hf rfl rfl fun a hf => ?_
        refine q_ hf rfl rfl rfl (e_pick_t hf rfl hc13 rfl) fun a hf => ?_
        refine q_ hf rfl rfl rfl (e_assign hf rfl) fun a hf => ?_
        refine pl_nil ?_
        obtain rfl := some_inj h5
        refine then_n ?_
        exact ⟨true, rfl, hf.keep ⟨rfl, trivial⟩, hM.pick [] rfl⟩
      · refine gq (wanted_t hf rfl rfl rfl rfl hc13) hf rfl rfl (e_move hf rfl) fun a hf => ?_
        obtain ⟨y15, hz16, h5⟩ := bind_some h5
        refine pl_gl (wanted_t hf rfl rfl rfl rfl hc13) hf rfl rfl (w_call hf Try.call134 rfl (r_impl_capital ⟨_, Sh C _ _, none_, hM.sh_lt, none_not⟩ c1 _ hz16) ?_)
        rintro _ w17 ⟨rfl, hM2⟩
        obtain ⟨hM, hx18, hup19⟩ := hM.back hM2
        dsimp only [List.cons_append, List.nil_append] at hM hup19
        clear hM2
        refine ⟨_, rfl, fun a hf => ?_⟩
        refine q_ hf rfl rfl rfl (e_pick_f hf rfl hc13 rfl) fun a hf => ?_
        refine q_ hf rfl rfl rfl (e_assign hf rfl) fun a hf => ?_
        refine pl_nil ?_
        obtain rfl := some_inj h5
        refine then_n ?_
        exact ⟨y15, rfl, hf.keep ⟨rfl, trivial⟩, hM.pick [] rfl⟩
  · rintro a w21 ⟨t2, rfl, hf, hM⟩
    try dsimp only at h
    refine wp_ret ?_
    obtain rfl := some_inj h
    exact leave1 hf rfl rfl ⟨rfl, hM.fin⟩

set_option maxRecDepth 100000 in
set_option maxHeartbeats 4000000 in
theorem r_impl_ValidBoard (C : Cx) (b1 : Board) (hp2 : R64 b1.Size) (hp3 : b1.Premium.length ≤ maxLen) (hp4 : b1.Cells.length ≤ maxLen) (r : Bool) (h : m_impl_ValidBoard b1 = some r) :
    Calls Try.prog 91 #[.agg #[vI (b1.Size), vS (b1.Premium), vS (b1.Cells)]] C.w0 fun e w => e = .returned (.bool (r)) ∧ Mem C w [] [] := by
  have hM := Mem.begin C [] trivial
  refine enter Try.func91 rfl Try.ntmps91 rfl fun a hf => ?_
  unfold m_impl_ValidBoard at h
  refine wp_seq ?_
  refine region_pl ?_
  refine pl_l hf rfl rfl rfl (w_box hf hM (cs := [vI (b1.Size), vS (b1.Premium), vS (b1.Cells)]) rfl rfl fun b5 w6 hx7 hM a hf => ?_)
  refine q_ hf rfl rfl rfl (e_assign hf rfl) fun a hf => ?_
  refine pl_nil ?_
  refine then_n ?_
  refine wp_seq ?_
  obtain ⟨x11, h12, h⟩ := bind_some h
  refine seq_join (fun a w => ∃ (t9 : Bool), t9 = x11 ∧ Has 35 a [(1, vP b5 (0)), (26, .bool (t9))] ∧ Mem C w [.box b5 [vI (b1.Size), vS (b1.Premium), vS (b1.Cells)] 75] []) ?_ ?_
  · refine region_pl ?_
    refine q_ hf rfl rfl rfl (e_field hf rfl Try.underlying75 rfl Try.sizeOf2 (o' := 0) rfl) fun a hf => ?_
    refine q_ hf rfl rfl rfl (e_load1 hf rfl Try.isAgg2 (hM.boxCell (k := 0) rfl rfl)) fun a hf => ?_
    obtain ⟨y13, hz14, h12⟩ := bind_some h12
    refine pl_l hf rfl rfl rfl (w_call hf Try.call117 rfl (r_impl_sizeOk ⟨_, Sh C _ _, none_, hM.sh_lt, none_not⟩ b1.Size hp2 _ hz14) ?_)
    rintro _ w15 ⟨rfl, hM2⟩
    obtain ⟨hM, hx16, hup17⟩ := hM.back hM2
    dsimp only [List.cons_append, List.nil_append] at hM hup17
    clear hM2
    refine ⟨_, rfl, fun a hf => ?_⟩
    refine q_ hf rfl rfl rfl (e_not hf rfl) fun a hf => ?_
    refine q_ hf rfl rfl rfl (e_move hf rfl) fun a hf => ?_
    rcases cond_some h12 with ⟨hc18, h12⟩ | ⟨hc18, h12⟩
    · refine pl_gs (wanted_f hf rfl rfl rfl rfl hc18) hf rfl rfl fun a hf => ?_
      refine pl_gs (wanted_f hf rfl rfl rfl rfl hc18) hf rfl rfl fun a hf => ?_
      refine pl_gs (wanted_f hf rfl rfl rfl rfl hc18) hf rfl rfl fun a hf => ?_
      refine pl_gs (wanted_f hf rfl rfl rfl rfl hc18) hf rfl rfl fun a hf => ?_
      refine pl_gs (wanted_f hf rfl rfl rfl rfl hc18) hf rfl rfl fun a hf => ?_
      refine pl_gs (wanted_f hf rfl rfl rfl rfl hc18) hf rfl rfl fun a hf => ?_
      refine pl_gs (wanted_f hf rfl rfl rfl rfl hc18) hf rfl rfl fun a hf => ?_
      refine pl_gs (wanted_f hf rfl rfl rfl rfl hc18) hf rfl rfl fun a hf => ?_
      refine pl_gs (wanted_f hf rfl rfl rfl rfl hc18) hf rfl rfl fun a hf => ?_
      refine q_ hf rfl rfl rfl (e_pick_t hf rfl hc18 rfl) fun a hf => ?_
      refine q_ hf rfl rfl rfl (e_move hf rfl) fun a hf => ?_
      refine pl_gs (wanted_f hf rfl rfl rfl rfl rfl) hf rfl rfl fun a hf => ?_
      refine pl_gs (wanted_f hf rfl rfl rfl rfl rfl) hf rfl rfl fun a hf => ?_
      refine pl_gs (wanted_f hf rfl rfl rfl rfl rfl) hf rfl rfl fun a hf => ?_
      refine pl_gs (wanted_f hf rfl rfl rfl rfl rfl) hf rfl rfl fun a hf => ?_
      refine pl_gs (wanted_f hf rfl rfl rfl rfl rfl) hf rfl rfl fun a hf => ?_
      refine pl_gs (wanted_f hf rfl rfl rfl rfl rfl) hf rfl rfl fun a hf => ?_
      refine pl_gs (wanted_f hf rfl rfl rfl rfl rfl) hf rfl rfl fun a hf => ?_
      refine q_ hf rfl rfl rfl (e_pick_t hf rfl rfl rfl) fun a hf => ?_
      refine pl_nil ?_
      obtain rfl := some_inj h12
      refine then_n ?_
      exact ⟨true, rfl, hf.keep ⟨rfl, rfl, trivial⟩, hM.pick [] rfl⟩
    · refine gq (wanted_t hf rfl rfl rfl rfl hc18) hf rfl rfl (e_field hf rfl Try.underlying75 rfl Try.sizeOf9 (o' := 1) rfl) fun a hf => ?_
      refine gq (wanted_t hf rfl rfl rfl rfl hc18) hf rfl rfl (e_load1 hf rfl Try.isAgg9 (hM.boxCell (k := 0) rfl rfl)) fun a hf => ?_
      refine gq (wanted_t hf rfl rfl rfl rfl hc18) hf rfl rfl (e_lenS hf (x := b1.Premium) rfl Try.underlying9) fun a hf => ?_
      refine gq (wanted_t hf rfl rfl rfl rfl hc18) hf rfl rfl (e_field hf rfl Try.underlying75 rfl Try.sizeOf2 (o' := 0) rfl) fun a hf => ?_
      refine gq (wanted_t hf rfl rfl rfl rfl hc18) hf rfl rfl (e_load1 hf rfl Try.isAgg2 (hM.boxCell (k := 0) rfl rfl)) fun a hf => ?_
      refine gq (wanted_t hf rfl rfl rfl rfl hc18) hf rfl rfl (e_field hf rfl Try.underlying75 rfl Try.sizeOf2 (o' := 0) rfl) fun a hf => ?_
      refine gq (wanted_t hf rfl rfl rfl rfl hc18) hf rfl rfl (e_load1 hf rfl Try.isAgg2 (hM.boxCell (k := 0) rfl rfl)) fun a hf => ?_
      obtain ⟨z20, hz21, h12⟩ := bind_some h12
      refine gq (wanted_t hf rfl rfl rfl rfl hc18) hf rfl rfl (e_mul hf rfl rfl hz21) fun a hf => ?_
      refine gq (wanted_t hf rfl rfl rfl rfl hc18) hf rfl rfl (e_ne hf (x := (b1.Premium.length : Int)) (y := z20) rfl rfl) fun a hf => ?_
      refine q_ hf rfl rfl rfl (e_pick_f hf rfl hc18 rfl) fun a hf => ?_
      refine q_ hf rfl rfl rfl (e_move hf rfl) fun a hf => ?_
      rcases cond_some h12 with ⟨hc22, h12⟩ | ⟨hc22, h12⟩
      · refine pl_gs (wanted_f hf rfl rfl rfl rfl hc22) hf rfl rfl fun a hf => ?_
        refine pl_gs (wanted_f hf rfl rfl rfl rfl hc22) hf rfl rfl fun a hf => ?_
        refine pl_gs (wanted_f hf rfl rfl rfl rfl hc22) hf rfl rfl fun a hf => ?_
        refine pl_gs (wanted_f hf rfl rfl rfl rfl hc22) hf rfl rfl fun a hf => ?_
        refine pl_gs (wanted_f hf rfl rfl rfl rfl hc22) hf rfl rfl fun a hf => ?_
        refine pl_gs (wanted_f hf rfl rfl rfl rfl hc22) hf rfl rfl fun a hf => ?_
        refine pl_gs (wanted_f hf rfl rfl rfl rfl hc22) hf rfl rfl fun a hf => ?_
        refine q_ hf rfl rfl rfl (e_pick_t hf rfl hc22 rfl) fun a hf => ?_
        refine pl_nil ?_
        obtain rfl := some_inj h12
        refine then_n ?_
        exact ⟨true, rfl, hf.keep ⟨rfl, rfl, trivial⟩, hM.pick [] rfl⟩
      · refine gq (wanted_t hf rfl rfl rfl rfl hc22) hf rfl rfl (e_field hf rfl Try.underlying75 rfl Try.sizeOf9 (o' := 2) rfl) fun a hf => ?_
        refine gq (wanted_t hf rfl rfl rfl rfl hc22) hf rfl rfl (e_load1 hf rfl Try.isAgg9 (hM.boxCell (k := 0) rfl rfl)) fun a hf => ?_
        refine gq (wanted_t hf rfl rfl rfl rfl hc22) hf rfl rfl (e_lenS hf (x := b1.Cells) rfl Try.underlying9) fun a hf => ?_
        refine gq (wanted_t hf rfl rfl rfl rfl hc22) hf rfl rfl (e_field hf rfl Try.underlying75 rfl Try.sizeOf9 (o' := 1) rfl) fun a hf => ?_
        refine gq (wanted_t hf rfl rfl rfl rfl hc22) hf rfl rfl (e_load1 hf rfl Try.isAgg9 (hM.boxCell (k := 0) rfl rfl)) fun a hf => ?_
        refine gq (wanted_t hf rfl rfl rfl rfl hc22) hf rfl rfl (e_lenS hf (x := b1.Premium) rfl Try.underlying9) fun a hf => ?_
        refine gq (wanted_t hf rfl rfl rfl rfl hc22) hf rfl rfl (e_ne hf (x := (b1.Cells.length : Int)) (y := (b1.Premium.length : Int)) rfl rfl) fun a hf => ?_
        refine q_ hf rfl rfl rfl (e_pick_f hf rfl hc22 rfl) fun a hf => ?_
        refine pl_nil ?_
        obtain rfl := some_inj h12
        refine then_n ?_
        exact ⟨((b1.Cells.length : Int) != (b1.Premium.length : Int)), rfl, hf.keep ⟨rfl, rfl, trivial⟩, hM.pick [] rfl⟩
  · rintro a w25 ⟨t9, rfl, hf, hM⟩
    try dsimp only at h
    rcases cond_some h with ⟨hc26, h⟩ | ⟨hc26, h⟩
    · refine cond_t hf rfl hc26 ?_
      refine wp_seq ?_
      refine region_pl ?_
      refine q_ hf rfl rfl rfl (e_assign hf rfl) fun a hf => ?_
      refine pl_nil ?_
      refine then_n ?_
      refine wp_ret ?_
      refine then_r ?_
      obtain rfl := some_inj h
      have hM := hM.outs (own' := []) 0 rfl
      exact leave1 hf rfl rfl ⟨rfl, hM.fin⟩
    · refine cond_f hf rfl hc26 ?_
      refine wp_skip ?_
      refine then_n ?_
      obtain ⟨x29, h30, h⟩ := bind_some h
      refine seq_join (fun a w => ∃ (t27 : Bool), t27 = x29 ∧ Has 35 a [(2, .bool (t27))] ∧ Mem C w [.box b5 [vI (b1.Size), vS (b1.Premium), vS (b1.Cells)] 75] []) ?_ ?_
      · refine region_pl ?_
        refine q_ hf rfl rfl rfl (e_field hf rfl Try.underlying75 rfl Try.sizeOf9 (o' := 1) rfl) fun a hf => ?_
        refine q_ hf rfl rfl rfl (e_load1 hf rfl Try.isAgg9 (hM.boxCell (k := 0) rfl rfl)) fun a hf => ?_
        obtain ⟨y31, hz32, h30⟩ := bind_some h30
        refine pl_l hf rfl rfl rfl (w_call hf Try.call59 rfl (r_impl_allBytes ⟨_, Sh C _ _, none_, hM.sh_lt, none_not⟩ b1.Premium hp3 m_impl_premiumOk 118 [] ⟨Try.call118, fun C1 _ _ => r_impl_premiumOk C1⟩ _ hz32) ?_)
        rintro _ w33 ⟨rfl, hM2⟩
        obtain ⟨hM, hx34, hup35⟩ := hM.back hM2
        dsimp only [List.cons_append, List.nil_append] at hM hup35
        clear hM2
        refine ⟨_, rfl, fun a hf => ?_⟩
        refine q_ hf rfl rfl rfl (e_move hf rfl) fun a hf => ?_
        rcases cond_some h30 with ⟨hc36, h30⟩ | ⟨hc36, h30⟩
        · refine gq (wanted_t hf rfl rfl rfl rfl hc36) hf rfl rfl (e_field hf rfl Try.underlying75 rfl Try.sizeOf9 (o' := 2) rfl) fun a hf => ?_
          refine gq (wanted_t hf rfl rfl rfl rfl hc36) hf rfl rfl (e_load1 hf rfl Try.isAgg9 (hM.boxCell (k := 0) rfl rfl)) fun a hf => ?_
          obtain ⟨y37, hz38, h30⟩ := bind_some h30
          refine pl_gl (wanted_t hf rfl rfl rfl rfl hc36) hf rfl rfl (w_call hf Try.call59 rfl (r_impl_allBytes ⟨_, Sh C _ _, none_, hM.sh_lt, none_not⟩ b1.Cells hp4 m_impl_cellOk 119 [] ⟨Try.call119, fun C1 _ _ => r_impl_cellOk C1⟩ _ hz38) ?_)
          rintro _ w39 ⟨rfl, hM2⟩
          obtain ⟨hM, hx40, hup41⟩ := hM.back hM2
          dsimp only [List.cons_append, List.nil_append] at hM hup41
          clear hM2
          refine ⟨_, rfl, fun a hf => ?_⟩
          refine q_ hf rfl rfl rfl (e_pick_t hf rfl hc36 rfl) fun a hf => ?_
          refine q_ hf rfl rfl rfl (e_assign hf rfl) fun a hf => ?_
          refine pl_nil ?_
          obtain rfl := some_inj h30
          refine then_n ?_
          exact ⟨y37, rfl, hf.keep ⟨rfl, trivial⟩, hM.pick [] rfl⟩
        · refine pl_gs (wanted_f hf rfl rfl rfl rfl hc36) hf rfl rfl fun a hf => ?_
          refine pl_gs (wanted_f hf rfl rfl rfl rfl hc36) hf rfl rfl fun a hf => ?_
          refine pl_gs (wanted_f hf rfl rfl rfl rfl hc36) hf rfl rfl fun a hf => ?_
          refine q_ hf rfl rfl rfl (e_pick_f hf rfl hc36 rfl) fun a hf => ?_
          refine q_ hf rfl rfl rfl (e_assign hf rfl) fun a hf => ?_
          refine pl_nil ?_
          obtain rfl := some_inj h30
          refine then_n ?_
          exact ⟨false, rfl, hf.keep ⟨rfl, trivial⟩, hM.pick [] rfl⟩
      · rintro a w44 ⟨t27, rfl, hf, hM⟩
        try dsimp only at h
        refine wp_ret ?_
        obtain rfl := some_inj h
        have hM := hM.outs (own' := []) 0 rfl
        exact leave1 hf rfl rfl ⟨rfl, hM.fin⟩

set_option maxRecDepth 100000 in
set_option maxHeartbeats 4000000 in
theorem r_impl_place (C : Cx) (tile1 : UInt8) (r : Int) (h : m_impl_place tile1 = some r) :
    Calls Try.prog 142 #[vB (tile1)] C.w0 fun e w => e = .returned (vI (r)) ∧ Mem C w [] [] ∧ R64 r := by
  have hM := Mem.begin C [] trivial
  refine enter Try.func142 rfl Try.ntmps142 rfl fun a hf => ?_
  unfold m_impl_place at h
  refine wp_seq ?_
  refine region_pl ?_
  refine q_ hf rfl rfl rfl (e_assign hf rfl) fun a hf => ?_
  refine pl_nil ?_
  refine then_n ?_
  refine wp_seq ?_
  refine wp_block ?_
  refine wp_seq ?_
  refine region_pl ?_
  refine q_ hf rfl rfl rfl (e_move hf rfl) fun a hf => ?_
  refine q_ hf rfl rfl rfl (e_eqB hf (x := tile1) (y := 63) rfl rfl) fun a hf => ?_
  refine q_ hf rfl rfl rfl (e_assign hf rfl) fun a hf => ?_
  refine pl_nil ?_
  refine then_n ?_
  rcases cond_some h with ⟨hc2, h⟩ | ⟨hc2, h⟩
  · refine cond_t hf rfl hc2 ?_
    refine wp_seq ?_
    refine region_pl ?_
    refine q_ hf rfl rfl rfl (e_assign hf rfl) fun a hf => ?_
    refine pl_nil ?_
    refine then_n ?_
    refine wp_ret ?_
    refine blk_r ?_
    refine then_r ?_
    obtain rfl := some_inj h
    exact leave1 hf rfl rfl ⟨rfl, hM.fin, (R64_lit rfl)⟩
  · refine cond_f hf rfl hc2 ?_
    refine wp_seq ?_
    refine region_pl ?_
    refine q_ hf rfl rfl rfl (e_move hf rfl) fun a hf => ?_
    obtain ⟨y3, hz4, h⟩ := bind_some h
    refine pl_l hf rfl rfl rfl (w_call hf Try.call100 rfl (r_impl_small ⟨_, Sh C _ _, none_, hM.sh_lt, none_not⟩ tile1 _ hz4) ?_)
    rintro _ w5 ⟨rfl, hM2⟩
    obtain ⟨hM, hx6, hup7⟩ := hM.back hM2
    dsimp only [List.cons_append, List.nil_append] at hM hup7
    clear hM2
    refine ⟨_, rfl, fun a hf => ?_⟩
    refine q_ hf rfl rfl rfl (e_assign hf rfl) fun a hf => ?_
    refine pl_nil ?_
    refine then_n ?_
    rcases cond_some h with ⟨hc8, h⟩ | ⟨hc8, h⟩
    · refine cond_t hf rfl hc8 ?_
      refine wp_seq ?_
      refine region_pl ?_
      refine q_ hf rfl rfl rfl (e_move hf rfl) fun a hf => ?_
      refine q_ hf rfl rfl rfl (e_subB hf (x := tile1) (y := 97) rfl rfl) fun a hf => ?_
      refine q_ hf rfl rfl rfl (e_convBI hf (x := tile1 - 97) rfl Try.underlying5 Try.underlying3) fun a hf => ?_
      obtain ⟨z9, hz10, h⟩ := bind_some h
      refine q_ hf rfl rfl rfl (e_add hf rfl rfl hz10) fun a hf => ?_
      refine q_ hf rfl rfl rfl (e_assign hf rfl) fun a hf => ?_
      refine pl_nil ?_
      refine then_n ?_
      refine wp_ret ?_
      refine blk_r ?_
      refine then_r ?_
      obtain rfl := some_inj h
      exact leave1 hf rfl rfl ⟨rfl, hM.fin, (chk_R hz10)⟩
    · refine cond_f hf rfl hc8 ?_
      refine wp_skip ?_
      refine blk_n ?_
      refine then_n ?_
      refine wp_seq ?_
      refine region_pl ?_
      refine q_ hf rfl rfl rfl (e_assign hf rfl) fun a hf => ?_
      refine pl_nil ?_
      refine then_n ?_
      refine wp_ret ?_
      obtain rfl := some_inj h
      exact leave1 hf rfl rfl ⟨rfl, hM.fin, (R64_lit rfl)⟩

set_option maxRecDepth 100000 in
set_option maxHeartbeats 4000000 in
theorem r_impl_onlyTiles (C : Cx) (s1 : Str) (hp2 : s1.length ≤ maxLen) (r : Bool) (h : m_impl_onlyTiles s1 = some r) :
    Calls Try.prog 135 #[vS (s1)] C.w0 fun e w => e = .returned (.bool (r)) ∧ Mem C w [] [] := by
  have hM := Mem.begin C [] trivial
  refine enter Try.func135 rfl Try.ntmps135 rfl fun a hf => ?_
  unfold m_impl_onlyTiles at h
  refine wp_seq ?_
  refine region_pl ?_
  refine q_ hf rfl rfl rfl (e_assign hf rfl) fun a hf => ?_
  refine pl_nil ?_
  refine then_n ?_
  obtain ⟨x3, h4, h⟩ := bind_some h
  refine seq_join (fun a w => (.inl ()) = x3 ∧ Has 15 a [] ∧ Mem C w [] []) ?_ ?_
  · refine wp_seq ?_
    refine region_pl ?_
    refine q_ hf rfl rfl rfl (e_assign hf rfl) fun a hf => ?_
    refine pl_nil ?_
    refine then_n ?_
    refine wp_block ?_
    obtain ⟨x8, h9, h4⟩ := bind_some h4
    refine wp_loopM h9 (fun s a w => ∃ (n5 : Int), n5 = s ∧ Has 15 a [(0, vS (s1)), (3, vI (n5))] ∧ Mem C w [] [] ∧ R64 n5) ?_ ?_
    · exact ⟨0, rfl, hf.keep ⟨rfl, rfl, trivial⟩, hM.pick [] rfl, (R64_lit rfl)⟩
    · rintro s o10 a w7 ⟨n5, rfl, hf, hM, hv6⟩ h11 hd12
      replace h11 : m_impl_onlyTiles_l1 s1 n5 = some o10 := h11
      unfold m_impl_onlyTiles_l1 at h11
      refine wp_seq ?_
      refine wp_seq ?_
      refine region_pl ?_
      refine q_ hf rfl rfl rfl (e_move hf rfl) fun a hf => ?_
      refine q_ hf rfl rfl rfl (e_move hf rfl) fun a hf => ?_
      refine q_ hf rfl rfl rfl (e_lenS hf (x := s1) rfl Try.underlying9) fun a hf => ?_
      refine q_ hf rfl rfl rfl (e_lt hf (x := n5) (y := (s1.length : Int)) rfl rfl) fun a hf => ?_
      refine pl_nil ?_
      refine then_n ?_
      rcases cond_some h11 with ⟨hc13, h11⟩ | ⟨hc13, h11⟩
      · refine cond_t hf rfl hc13 ?_
        refine wp_skip ?_
        refine then_n ?_
        refine wp_seq ?_
        refine wp_block ?_
        refine wp_seq ?_
        refine region_pl ?_
        refine q_ hf rfl rfl rfl (e_move hf rfl) fun a hf => ?_
        refine q_ hf rfl rfl rfl (e_move hf rfl) fun a hf => ?_
        obtain ⟨c14, hz15, h11⟩ := bind_some h11
        refine q_ hf rfl rfl rfl (e_indexS hf (x := s1) rfl rfl Try.underlying9 hz15) fun a hf => ?_
        obtain ⟨y16, hz17, h11⟩ := bind_some h11
        refine pl_l hf rfl rfl rfl (w_call hf Try.call142 rfl (r_impl_place ⟨_, Sh C _ _, none_, hM.sh_lt, none_not⟩ c14 _ hz17) ?_)
        rintro _ w19 ⟨rfl, hM2, hv18⟩
        obtain ⟨hM, hx20, hup21⟩ := hM.back hM2
        dsimp only [List.cons_append, List.nil_append] at hM hup21
        clear hM2
        refine ⟨_, rfl, fun a hf => ?_⟩
        refine q_ hf rfl rfl rfl (e_lt hf (x := y16) (y := 0) rfl rfl) fun a hf => ?_
        refine pl_nil ?_
        refine then_n ?_
        rcases cond_some h11 with ⟨hc22, h11⟩ | ⟨hc22, h11⟩
        · refine cond_t hf rfl hc22 ?_
          refine wp_seq ?_
          refine region_pl ?_
          refine q_ hf rfl rfl rfl (e_assign hf rfl) fun a hf => ?_
          refine pl_nil ?_
          refine then_n ?_
          refine wp_ret ?_
          refine blk_r ?_
          refine then_r ?_
          obtain rfl := some_inj h11
          obtain rfl := hd12 _ rfl
          try dsimp only at h4
          refine then_r ?_
          refine blk_r ?_
          obtain rfl := some_inj h4
          try dsimp only at h
          refine then_r ?_
          obtain rfl := some_inj h
          exact leave1 hf rfl rfl ⟨rfl, hM.fin⟩
        · refine cond_f hf rfl hc22 ?_
          refine wp_skip ?_
          refine blk_n ?_
          refine then_n ?_
          refine region_pl ?_
          refine q_ hf rfl rfl rfl (e_move hf rfl) fun a hf => ?_
          obtain ⟨z23, hz24, h11⟩ := bind_some h11
          refine q_ hf rfl rfl rfl (e_add hf rfl rfl hz24) fun a hf => ?_
          refine q_ hf rfl rfl rfl (e_assign hf rfl) fun a hf => ?_
          refine pl_nil ?_
          obtain rfl := some_inj h11
          refine then_n ⟨_, rfl, ?_⟩
          exact ⟨z23, rfl, hf.keep ⟨rfl, rfl, trivial⟩, hM.pick [] rfl, (chk_R hz24)⟩
      · refine cond_f hf rfl hc13 ?_
        refine wp_exit ?_
        refine then_x ?_
        obtain rfl := some_inj h11
        obtain rfl := hd12 _ rfl
        try dsimp only at h4
        refine then_x ?_
        refine exit_hit ?_
        obtain rfl := some_inj h4
        refine then_n ?_
        exact ⟨rfl, hf.keep trivial, hM.pick [] rfl⟩
  · rintro a w31 ⟨rfl, hf, hM⟩
    try dsimp only at h
    refine wp_seq ?_
    refine region_pl ?_
    refine q_ hf rfl rfl rfl (e_assign hf rfl) fun a hf => ?_
    refine pl_nil ?_
    refine then_n ?_
    refine wp_ret ?_
    obtain rfl := some_inj h
    exact leave1 hf rfl rfl ⟨rfl, hM.fin⟩

set_option maxRecDepth 100000 in
set_option maxHeartbeats 4000000 in
theorem r_impl_ValidPile (C : Cx) (s1 : Str) (hp2 : s1.length ≤ maxLen) (r : Bool) (h : m_impl_ValidPile s1 = some r) :
    Calls Try.prog 120 #[vS (s1)] C.w0 fun e w => e = .returned (.bool (r)) ∧ Mem C w [] [] := by
  have hM := Mem.begin C [] trivial
  refine enter Try.func120 rfl Try.ntmps120 rfl fun a hf => ?_
  unfold m_impl_ValidPile at h
  refine wp_seq ?_
  refine region_pl ?_
  refine q_ hf rfl rfl rfl (e_assign hf rfl) fun a hf => ?_
  refine pl_nil ?_
  refine then_n ?_
  refine wp_seq ?_
  obtain ⟨x5, h6, h⟩ := bind_some h
  refine seq_join (fun a w => ∃ (t3 : Bool), t3 = x5 ∧ Has 26 a [(0, vS (s1)), (11, .bool (t3))] ∧ Mem C w [] []) ?_ ?_
  · refine region_pl ?_
    refine q_ hf rfl rfl rfl (e_move hf rfl) fun a hf => ?_
    refine q_ hf rfl rfl rfl (e_lenS hf (x := s1) rfl Try.underlying9) fun a hf => ?_
    refine q_ hf rfl rfl rfl (e_gt hf (x := (s1.length : Int)) (y := 120) rfl rfl) fun a hf => ?_
    refine q_ hf rfl rfl rfl (e_move hf rfl) fun a hf => ?_
    rcases cond_some h6 with ⟨hc7, h6⟩ | ⟨hc7, h6⟩
    · refine pl_gs (wanted_f hf rfl rfl rfl rfl hc7) hf rfl rfl fun a hf => ?_
      refine pl_gs (wanted_f hf rfl rfl rfl rfl hc7) hf rfl rfl fun a hf => ?_
      refine pl_gs (wanted_f hf rfl rfl rfl rfl hc7) hf rfl rfl fun a hf => ?_
      refine q_ hf rfl rfl rfl (e_pick_t hf rfl hc7 rfl) fun a hf => ?_
      refine pl_nil ?_
      obtain rfl := some_inj h6
      refine then_n ?_
      exact ⟨true, rfl, hf.keep ⟨rfl, rfl, trivial⟩, hM.pick [] rfl⟩
    · refine gq (wanted_t hf rfl rfl rfl rfl hc7) hf rfl rfl (e_move hf rfl) fun a hf => ?_
      obtain ⟨y9, hz10, h6⟩ := bind_some h6
      refine pl_gl (wanted_t hf rfl rfl rfl rfl hc7) hf rfl rfl (w_call hf Try.call135 rfl (r_impl_onlyTiles ⟨_, Sh C _ _, none_, hM.sh_lt, none_not⟩ s1 hp2 _ hz10) ?_)
      rintro _ w11 ⟨rfl, hM2⟩
      obtain ⟨hM, hx12, hup13⟩ := hM.back hM2
      dsimp only [List.cons_append, List.nil_append] at hM hup13
      clear hM2
      refine ⟨_, rfl, fun a hf => ?_⟩
      refine gq (wanted_t hf rfl rfl rfl rfl hc7) hf rfl rfl (e_not hf rfl) fun a hf => ?_
      refine q_ hf rfl rfl rfl (e_pick_f hf rfl hc7 rfl) fun a hf => ?_
      refine pl_nil ?_
      obtain rfl := some_inj h6
      refine then_n ?_
      exact ⟨(!y9), rfl, hf.keep ⟨rfl, rfl, trivial⟩, hM.pick [] rfl⟩
  · rintro a w15 ⟨t3, rfl, hf, hM⟩
    try dsimp only at h
    rcases cond_some h with ⟨hc16, h⟩ | ⟨hc16, h⟩
    · refine cond_t hf rfl hc16 ?_
      refine wp_seq ?_
      refine region_pl ?_
      refine q_ hf rfl rfl rfl (e_assign hf rfl) fun a hf => ?_
      refine pl_nil ?_
      refine then_n ?_
      refine wp_ret ?_
      refine then_r ?_
      obtain rfl := some_inj h
      exact leave1 hf rfl rfl ⟨rfl, hM.fin⟩
    · refine cond_f hf rfl hc16 ?_
      refine wp_skip ?_
      refine then_n ?_
      obtain ⟨x17, h18, h⟩ := bind_some h
      refine seq_join (fun a w => (.inl ()) = x17 ∧ Has 26 a [] ∧ Mem C w [] []) ?_ ?_
      · refine wp_seq ?_
        refine region_pl ?_
        refine q_ hf rfl rfl rfl (e_assign hf rfl) fun a hf => ?_
        refine pl_nil ?_
        refine then_n ?_
        refine wp_block ?_
        obtain ⟨x22, h23, h18⟩ := bind_some h18
        refine wp_loopM h23 (fun s a w => ∃ (n19 : Int), n19 = s ∧ Has 26 a [(0, vS (s1)), (3, vI (n19))] ∧ Mem C w [] [] ∧ R64 n19) ?_ ?_
        · exact ⟨1, rfl, hf.keep ⟨rfl, rfl, trivial⟩, hM.pick [] rfl, (R64_lit rfl)⟩
        · rintro s o24 a w21 ⟨n19, rfl, hf, hM, hv20⟩ h25 hd26
          replace h25 : m_impl_ValidPile_l1 s1 n19 = some o24 := h25
          unfold m_impl_ValidPile_l1 at h25
          refine wp_seq ?_
          refine wp_seq ?_
          refine region_pl ?_
          refine q_ hf rfl rfl rfl (e_move hf rfl) fun a hf => ?_
          refine q_ hf rfl rfl rfl (e_move hf rfl) fun a hf => ?_
          refine q_ hf rfl rfl rfl (e_lenS hf (x := s1) rfl Try.underlying9) fun a hf => ?_
          refine q_ hf rfl rfl rfl (e_lt hf (x := n19) (y := (s1.length : Int)) rfl rfl) fun a hf => ?_
          refine pl_nil ?_
          refine then_n ?_
          rcases cond_some h25 with ⟨hc27, h25⟩ | ⟨hc27, h25⟩
          · refine cond_t hf rfl hc27 ?_
            refine wp_skip ?_
            refine then_n ?_
            refine wp_seq ?_
            refine wp_block ?_
            refine wp_seq ?_
            obtain ⟨w28, hw⟩ : ∃ x, x = w21.drew := ⟨_, rfl⟩
            refine region_pi (.q 0 (.q 1 (.q 2 (.q 3 (.q 4 (.q 5 (.q 6 (.q 7 (.nil))))))))) (Ext w28) rfl (by kernel_rfl) ?_
            have hM := hM.drew
            rw [← hw] at hM ⊢
            clear hw
            refine pi_q hf rfl rfl rfl rfl (Ext.refl _) (e_move hf rfl) fun a hf => ?_
            refine pi_q hf rfl rfl rfl rfl (Ext.refl _) (e_move hf rfl) fun a hf => ?_
            obtain ⟨z29, hz30, h25⟩ := bind_some h25
            refine pi_q hf rfl rfl rfl rfl (Ext.refl _) (e_sub hf rfl rfl hz30) fun a hf => ?_
            obtain ⟨c31, hz32, h25⟩ := bind_some h25
            refine pi_q hf rfl rfl rfl rfl (Ext.refl _) (e_indexS hf (x := s1) rfl rfl Try.underlying9 hz32) fun a hf => ?_
            refine pi_q hf rfl rfl rfl rfl (Ext.refl _) (e_move hf rfl) fun a hf => ?_
            refine pi_q hf rfl rfl rfl rfl (Ext.refl _) (e_move hf rfl) fun a hf => ?_
            obtain ⟨c33, hz34, h25⟩ := bind_some h25
            refine pi_q hf rfl rfl rfl rfl (Ext.refl _) (e_indexS hf (x := s1) rfl rfl Try.underlying9 hz34) fun a hf => ?_
            refine pi_q hf rfl rfl rfl rfl (Ext.refl _) (e_gtB hf (x := c31) (y := c33) rfl rfl) fun a hf => ?_
            refine pi_nil ?_
            refine then_n ?_
            rcases cond_some h25 with ⟨hc35, h25⟩ | ⟨hc35, h25⟩
            · refine cond_t hf rfl hc35 ?_
              refine wp_seq ?_
              refine region_pl ?_
              refine q_ hf rfl rfl rfl (e_assign hf rfl) fun a hf => ?_
              refine pl_nil ?_
              refine then_n ?_
              refine wp_ret ?_
              refine blk_r ?_
              refine then_r ?_
              obtain rfl := some_inj h25
              obtain rfl := hd26 _ rfl
              try dsimp only at h18
              refine then_r ?_
              refine blk_r ?_
              obtain rfl := some_inj h18
              try dsimp only at h
              refine then_r ?_
              obtain rfl := some_inj h
              exact leave1 hf rfl rfl ⟨rfl, hM.fin⟩
            · refine cond_f hf rfl hc35 ?_
              refine wp_skip ?_
              refine blk_n ?_
              refine then_n ?_
              refine region_pl ?_
              refine q_ hf rfl rfl rfl (e_move hf rfl) fun a hf => ?_
              obtain ⟨z36, hz37, h25⟩ := bind_some h25
              refine q_ hf rfl rfl rfl (e_add hf rfl rfl hz37) fun a hf => ?_
              refine q_ hf rfl rfl rfl (e_assign hf rfl) fun a hf => ?_
              refine pl_nil ?_
              obtain rfl := some_inj h25
              refine then_n ⟨_, rfl, ?_⟩
              exact ⟨z36, rfl, hf.keep ⟨rfl, rfl, trivial⟩, hM.pick [] rfl, (chk_R hz37)⟩
          · refine cond_f hf rfl hc27 ?_
            refine wp_exit ?_
            refine then_x ?_
            obtain rfl := some_inj h25
            obtain rfl := hd26 _ rfl
            try dsimp only at h18
            refine then_x ?_
            refine exit_hit ?_
            obtain rfl := some_inj h18
            refine then_n ?_
            exact ⟨rfl, hf.keep trivial, hM.pick [] rfl⟩
      · rintro a w44 ⟨rfl, hf, hM⟩
        try dsimp only at h
        refine wp_seq ?_
        refine region_pl ?_
        refine q_ hf rfl rfl rfl (e_assign hf rfl) fun a hf => ?_
        refine pl_nil ?_
        refine then_n ?_
        refine wp_ret ?_
        obtain rfl := some_inj h
        exact leave1 hf rfl rfl ⟨rfl, hM.fin⟩

set_option maxRecDepth 100000 in
set_option maxHeartbeats 4000000 in
theorem r_impl_ValidRack (C : Cx) (s1 : Str) (hp2 : s1.length ≤ maxLen) (r : Bool) (h : m_impl_ValidRack s1 = some r) :
    Calls Try.prog 92 #[vS (s1)] C.w0 fun e w => e = .returned (.bool (r)) ∧ Mem C w [] [] := by
  have hM := Mem.begin C [] trivial
  refine enter Try.func92 rfl Try.ntmps92 rfl fun a hf => ?_
  unfold m_impl_ValidRack at h
  refine wp_seq ?_
  refine region_pl ?_
  refine q_ hf rfl rfl rfl (e_assign hf rfl) fun a hf => ?_
  refine pl_nil ?_
  refine then_n ?_
  obtain ⟨x5, h6, h⟩ := bind_some h
  refine seq_join (fun a w => ∃ (t3 : Bool), t3 = x5 ∧ Has 10 a [(2, .bool (t3))] ∧ Mem C w [] []) ?_ ?_
  · refine region_pl ?_
    refine q_ hf rfl rfl rfl (e_move hf rfl) fun a hf => ?_
    refine q_ hf rfl rfl rfl (e_lenS hf (x := s1) rfl Try.underlying9) fun a hf => ?_
    refine q_ hf rfl rfl rfl (e_le hf (x := (s1.length : Int)) (y := 7) rfl rfl) fun a hf => ?_
    refine q_ hf rfl rfl rfl (e_move hf rfl) fun a hf => ?_
    rcases cond_some h6 with ⟨hc7, h6⟩ | ⟨hc7, h6⟩
    · refine gq (wanted_t hf rfl rfl rfl rfl hc7) hf rfl rfl (e_move hf rfl) fun a hf => ?_
      obtain ⟨y8, hz9, h6⟩ := bind_some h6
      refine pl_gl (wanted_t hf rfl rfl rfl rfl hc7) hf rfl rfl (w_call hf Try.call120 rfl (r_impl_ValidPile ⟨_, Sh C _ _, none_, hM.sh_lt, none_not⟩ s1 hp2 _ hz9) ?_)
      rintro _ w10 ⟨rfl, hM2⟩
      obtain ⟨hM, hx11, hup12⟩ := hM.back hM2
      dsimp only [List.cons_append, List.nil_append] at hM hup12
      clear hM2
      refine ⟨_, rfl, fun a hf => ?_⟩
      refine q_ hf rfl rfl rfl (e_pick_t hf rfl hc7 rfl) fun a hf => ?_
      refine q_ hf rfl rfl rfl (e_assign hf rfl) fun a hf => ?_
      refine pl_nil ?_
      obtain rfl := some_inj h6
      refine then_n ?_
      exact ⟨y8, rfl, hf.keep ⟨rfl, trivial⟩, hM.pick [] rfl⟩
    · refine pl_gs (wanted_f hf rfl rfl rfl rfl hc7) hf rfl rfl fun a hf => ?_
      refine pl_gs (wanted_f hf rfl rfl rfl rfl hc7) hf rfl rfl fun a hf => ?_
      refine q_ hf rfl rfl rfl (e_pick_f hf rfl hc7 rfl) fun a hf => ?_
      refine q_ hf rfl rfl rfl (e_assign hf rfl) fun a hf => ?_
      refine pl_nil ?_
      obtain rfl := some_inj h6
      refine then_n ?_
      exact ⟨false, rfl, hf.keep ⟨rfl, trivial⟩, hM.pick [] rfl⟩
  · rintro a w15 ⟨t3, rfl, hf, hM⟩
    try dsimp only at h
    refine wp_ret ?_
    obtain rfl := some_inj h
    exact leave1 hf rfl rfl ⟨rfl, hM.fin⟩

set_option maxRecDepth 100000 in
set_option maxHeartbeats 4000000 in
theorem r_impl_ValidEnd (C : Cx) (e1 : End) (hp2 : R64 e1.Board.Size) (hp3 : e1.Board.Premium.length ≤ maxLen) (hp4 : e1.Board.Cells.length ≤ maxLen) (hp5 : e1.Mine.length ≤ maxLen) (hp6 : e1.Theirs.length ≤ maxLen) (r : Bool) (h : m_impl_ValidEnd e1 = some r) :
    Calls Try.prog 49 #[.agg #[vI (e1.Board.Size), vS (e1.Board.Premium), vS (e1.Board.Cells), vS (e1.Mine), vS (e1.Theirs), .bool (e1.Passed)]] C.w0 fun e w => e = .returned (.bool (r)) ∧ Mem C w [] [] := by
  have hM := Mem.begin C [] trivial
  refine enter Try.func49 rfl Try.ntmps49 rfl fun a hf => ?_
  unfold m_impl_ValidEnd at h
  refine wp_seq ?_
  refine region_pl ?_
  refine pl_l hf rfl rfl rfl (w_box hf hM (cs := [vI (e1.Board.Size), vS (e1.Board.Premium), vS (e1.Board.Cells), vS (e1.Mine), vS (e1.Theirs), .bool (e1.Passed)]) rfl rfl fun b7 w8 hx9 hM a hf => ?_)
  refine q_ hf rfl rfl rfl (e_assign hf rfl) fun a hf => ?_
  refine pl_nil ?_
  refine then_n ?_
  obtain ⟨x13, h14, h⟩ := bind_some h
  refine seq_join (fun a w => ∃ (t11 : Bool), t11 = x13 ∧ Has 26 a [(2, .bool (t11))] ∧ Mem C w [.box b7 [vI (e1.Board.Size), vS (e1.Board.Premium), vS (e1.Board.Cells), vS (e1.Mine), vS (e1.Theirs), .bool (e1.Passed)] 77] []) ?_ ?_
  · refine region_pl ?_
    refine q_ hf rfl rfl rfl (e_field hf rfl Try.underlying77 rfl Try.sizeOf75 (o' := 0) rfl) fun a hf => ?_
    refine q_ hf rfl rfl rfl (e_loadA hf (us := [vI (e1.Board.Size), vS (e1.Board.Premium), vS (e1.Board.Cells)]) rfl ⟨Try.isAgg75, Try.sizeOf75⟩ rfl (hM.boxSub (k := 0) (us := [vI (e1.Board.Size), vS (e1.Board.Premium), vS (e1.Board.Cells)]) (o := 0) rfl rfl)) fun a hf => ?_
    obtain ⟨y15, hz16, h14⟩ := bind_some h14
    refine pl_l hf rfl rfl rfl (w_call hf Try.call91 rfl (r_impl_ValidBoard ⟨_, Sh C _ _, none_, hM.sh_lt, none_not⟩ e1.Board hp2 hp3 hp4 _ hz16) ?_)
    rintro _ w17 ⟨rfl, hM2⟩
    obtain ⟨hM, hx18, hup19⟩ := hM.back hM2
    dsimp only [List.cons_append, List.nil_append] at hM hup19
    clear hM2
    refine ⟨_, rfl, fun a hf => ?_⟩
    refine q_ hf rfl rfl rfl (e_move hf rfl) fun a hf => ?_
    rcases cond_some h14 with ⟨hc20, h14⟩ | ⟨hc20, h14⟩
    · refine gq (wanted_t hf rfl rfl rfl rfl hc20) hf rfl rfl (e_field hf rfl Try.underlying77 rfl Try.sizeOf9 (o' := 3) rfl) fun a hf => ?_
      refine gq (wanted_t hf rfl rfl rfl rfl hc20) hf rfl rfl (e_load1 hf rfl Try.isAgg9 (hM.boxCell (k := 0) rfl rfl)) fun a hf => ?_
      obtain ⟨y21, hz22, h14⟩ := bind_some h14
      refine pl_gl (wanted_t hf rfl rfl rfl rfl hc20) hf rfl rfl (w_call hf Try.call92 rfl (r_impl_ValidRack ⟨_, Sh C _ _, none_, hM.sh_lt, none_not⟩ e1.Mine hp5 _ hz22) ?_)
      rintro _ w23 ⟨rfl, hM2⟩
      obtain ⟨hM, hx24, hup25⟩ := hM.back hM2
      dsimp only [List.cons_append, List.nil_append] at hM hup25
      clear hM2
      refine ⟨_, rfl, fun a hf => ?_⟩
      refine q_ hf rfl rfl rfl (e_pick_t hf rfl hc20 rfl) fun a hf => ?_
      refine q_ hf rfl rfl rfl (e_move hf rfl) fun a hf => ?_
      rcases cond_some h14 with ⟨hc26, h14⟩ | ⟨hc26, h14⟩
      · refine gq (wanted_t hf rfl rfl rfl rfl hc26) hf rfl rfl (e_field hf rfl Try.underlying77 rfl Try.sizeOf9 (o' := 4) rfl) fun a hf => ?_
        refine gq (wanted_t hf rfl rfl rfl rfl hc26) hf rfl rfl (e_load1 hf rfl Try.isAgg9 (hM.boxCell (k := 0) rfl rfl)) fun a hf => ?_
        obtain ⟨y27, hz28, h14⟩ := bind_some h14
        refine pl_gl (wanted_t hf rfl rfl rfl rfl hc26) hf rfl rfl (w_call hf Try.call92 rfl (r_impl_ValidRack ⟨_, Sh C _ _, none_, hM.sh_lt, none_not⟩ e1.Theirs hp6 _ hz28) ?_)
        rintro _ w29 ⟨rfl, hM2⟩
        obtain ⟨hM, hx30, hup31⟩ := hM.back hM2
        dsimp only [List.cons_append, List.nil_append] at hM hup31
        clear hM2
        refine ⟨_, rfl, fun a hf => ?_⟩
        refine q_ hf rfl rfl rfl (e_pick_t hf rfl hc26 rfl) fun a hf => ?_
        refine q_ hf rfl rfl rfl (e_move hf rfl) fun a hf => ?_
        rcases cond_some h14 with ⟨hc32, h14⟩ | ⟨hc32, h14⟩
        · refine gq (wanted_t hf rfl rfl rfl rfl hc32) hf rfl rfl (e_field hf rfl Try.underlying77 rfl Try.sizeOf9 (o' := 3) rfl) fun a hf => ?_
          refine gq (wanted_t hf rfl rfl rfl rfl hc32) hf rfl rfl (e_load1 hf rfl Try.isAgg9 (hM.boxCell (k := 0) rfl rfl)) fun a hf => ?_
          refine gq (wanted_t hf rfl rfl rfl rfl hc32) hf rfl rfl (e_neS hf (x := e1.Mine) (y := ([] : Str)) rfl rfl) fun a hf => ?_
          refine q_ hf rfl rfl rfl (e_pick_t hf rfl hc32 rfl) fun a hf => ?_
          refine q_ hf rfl rfl rfl (e_move hf rfl) fun a hf => ?_
          rcases cond_some h14 with ⟨hc33, h14⟩ | ⟨hc33, h14⟩
          · refine gq (wanted_t hf rfl rfl rfl rfl hc33) hf rfl rfl (e_field hf rfl Try.underlying77 rfl Try.sizeOf9 (o' := 4) rfl) fun a hf => ?_
            refine gq (wanted_t hf rfl rfl rfl rfl hc33) hf rfl rfl (e_load1 hf rfl Try.isAgg9 (hM.boxCell (k := 0) rfl rfl)) fun a hf => ?_
            refine gq (wanted_t hf rfl rfl rfl rfl hc33) hf rfl rfl (e_neS hf (x := e1.Theirs) (y := ([] : Str)) rfl rfl) fun a hf => ?_
            refine q_ hf rfl rfl rfl (e_pick_t hf rfl hc33 rfl) fun a hf => ?_
            refine q_ hf rfl rfl rfl (e_assign hf rfl) fun a hf => ?_
            refine pl_nil ?_
            obtain rfl := some_inj h14
            refine then_n ?_
            exact ⟨(e1.Theirs != ([] : Str)), rfl, hf.keep ⟨rfl, trivial⟩, hM.pick [] rfl⟩
          · refine pl_gs (wanted_f hf rfl rfl rfl rfl hc33) hf rfl rfl fun a hf => ?_
            refine pl_gs (wanted_f hf rfl rfl rfl rfl hc33) hf rfl rfl fun a hf => ?_
            refine pl_gs (wanted_f hf rfl rfl rfl rfl hc33) hf rfl rfl fun a hf => ?_
            refine q_ hf rfl rfl rfl (e_pick_f hf rfl hc33 rfl) fun a hf => ?_
            refine q_ hf rfl rfl rfl (e_assign hf rfl) fun a hf => ?_
            refine pl_nil ?_
            obtain rfl := some_inj h14
            refine then_n ?_
            exact ⟨false, rfl, hf.keep ⟨rfl, trivial⟩, hM.pick [] rfl⟩
        · refine pl_gs (wanted_f hf rfl rfl rfl rfl hc32) hf rfl rfl fun a hf => ?_
          refine pl_gs (wanted_f hf rfl rfl rfl rfl hc32) hf rfl rfl fun a hf => ?_
          refine pl_gs (wanted_f hf rfl rfl rfl rfl hc32) hf rfl rfl fun a hf => ?_
          refine q_ hf rfl rfl rfl (e_pick_f hf rfl hc32 rfl) fun a hf => ?_
          refine q_ hf rfl rfl rfl (e_move hf rfl) fun a hf => ?_
          refine pl_gs (wanted_f hf rfl rfl rfl rfl rfl) hf rfl rfl fun a hf => ?_
          refine pl_gs (wanted_f hf rfl rfl rfl rfl rfl) hf rfl rfl fun a hf => ?_
          refine pl_gs (wanted_f hf rfl rfl rfl rfl rfl) hf rfl rfl fun a hf => ?_
          refine q_ hf rfl rfl rfl (e_pick_f hf rfl rfl rfl) fun a hf => ?_
          refine q_ hf rfl rfl rfl (e_assign hf rfl) fun a hf => ?_
          refine pl_nil ?_
          obtain rfl := some_inj h14
          refine then_n ?_
          exact ⟨false, rfl, hf.keep ⟨rfl, trivial⟩, hM.pick [] rfl⟩
      · refine pl_gs (wanted_f hf rfl rfl rfl rfl hc26) hf rfl rfl fun a hf => ?_
        refine pl_gs (wanted_f hf rfl rfl rfl rfl hc26) hf rfl rfl fun a hf => ?_
        refine pl_gs (wanted_f hf rfl rfl rfl rfl hc26) hf rfl rfl fun a hf => ?_
        refine q_ hf rfl rfl rfl (e_pick_f hf rfl hc26 rfl) fun a hf => ?_
        refine q_ hf rfl rfl rfl (e_move hf rfl) fun a hf => ?_
        refine pl_gs (wanted_f hf rfl rfl rfl rfl rfl) hf rfl rfl fun a hf => ?_
        refine pl_gs (wanted_f hf rfl rfl rfl rfl rfl) hf rfl rfl fun a hf => ?_
        refine pl_gs (wanted_f hf rfl rfl rfl rfl rfl) hf rfl rfl fun a hf => ?_
        refine q_ hf rfl rfl rfl (e_pick_f hf rfl rfl rfl) fun a hf => ?_
        refine q_ hf rfl rfl rfl (e_move hf rfl) fun a hf => ?_
        refine pl_gs (wanted_f hf rfl rfl rfl rfl rfl) hf rfl rfl fun a hf => ?_
        refine pl_gs (wanted_f hf rfl rfl rfl rfl rfl) hf rfl rfl fun a hf => ?_
        refine pl_gs (wanted_f hf rfl rfl rfl rfl rfl) hf rfl rfl fun a hf => ?_
        refine q_ hf rfl rfl rfl (e_pick_f hf rfl rfl rfl) fun a hf => ?_
        refine q_ hf rfl rfl rfl (e_assign hf rfl) fun a hf => ?_
        refine pl_nil ?_
        obtain rfl := some_inj h14
        refine then_n ?_
        exact ⟨false, rfl, hf.keep ⟨rfl, trivial⟩, hM.pick [] rfl⟩
    · refine pl_gs (wanted_f hf rfl rfl rfl rfl hc20) hf rfl rfl fun a hf => ?_
      refine pl_gs (wanted_f hf rfl rfl rfl rfl hc20) hf rfl rfl fun a hf => ?_
      refine pl_gs (wanted_f hf rfl rfl rfl rfl hc20) hf rfl rfl fun a hf => ?_
      refine q_ hf rfl rfl rfl (e_pick_f hf rfl hc20 rfl) fun a hf => ?_
      refine q_ hf rfl rfl rfl (e_move hf rfl) fun a hf => ?_
      refine pl_gs (wanted_f hf rfl rfl rfl rfl rfl) hf rfl rfl fun a hf => ?_
      refine pl_gs (wanted_f hf rfl rfl rfl rfl rfl) hf rfl rfl fun a hf => ?_
      refine pl_gs (wanted_f hf rfl rfl rfl rfl rfl) hf rfl rfl fun a hf => ?_
      refine q_ hf rfl rfl rfl (e_pick_f hf rfl rfl rfl) fun a hf => ?_
      refine q_ hf rfl rfl rfl (e_move hf rfl) fun a hf => ?_
      refine pl_gs (wanted_f hf rfl rfl rfl rfl rfl) hf rfl rfl fun a hf => ?_
      refine pl_gs (wanted_f hf rfl rfl rfl rfl rfl) hf rfl rfl fun a hf => ?_
      refine pl_gs (wanted_f hf rfl rfl rfl rfl rfl) hf rfl rfl fun a hf => ?_
      refine q_ hf rfl rfl rfl (e_pick_f hf rfl rfl rfl) fun a hf => ?_
      refine q_ hf rfl rfl rfl (e_move hf rfl) fun a hf => ?_
      refine pl_gs (wanted_f hf rfl rfl rfl rfl rfl) hf rfl rfl fun a hf => ?_
      refine pl_gs (wanted_f hf rfl rfl rfl rfl rfl) hf rfl rfl fun a hf => ?_
      refine pl_gs (wanted_f hf rfl rfl rfl rfl rfl) hf rfl rfl fun a hf => ?_
      refine q_ hf rfl rfl rfl (e_pick_f hf rfl rfl rfl) fun a hf => ?_
      refine q_ hf rfl rfl rfl (e_assign hf rfl) fun a hf => ?_
      refine pl_nil ?_
      obtain rfl := some_inj h14
      refine then_n ?_
      exact ⟨false, rfl, hf.keep ⟨rfl, trivial⟩, hM.pick [] rfl⟩
  · rintro a w39 ⟨t11, rfl, hf, hM⟩
    try dsimp only at h
    refine wp_ret ?_
    obtain rfl := some_inj h
    have hM := hM.outs (own' := []) 0 rfl
    exact leave1 hf rfl rfl ⟨rfl, hM.fin⟩

set_option maxRecDepth 100000 in
set_option maxHeartbeats 4000000 in
theorem r_laws_FnExactValidEnd (C : Cx) (aE1 : End) (hp2 : R64 aE1.Board.Size) (hp3 : aE1.Board.Premium.length ≤ maxLen) (hp4 : aE1.Board.Cells.length ≤ maxLen) (hp5 : aE1.Mine.length ≤ maxLen) (hp6 : aE1.Theirs.length ≤ maxLen) (r : Bool) (h : m_laws_FnExactValidEnd aE1 = some r) :
    Calls Try.prog 12 #[.agg #[vI (aE1.Board.Size), vS (aE1.Board.Premium), vS (aE1.Board.Cells), vS (aE1.Mine), vS (aE1.Theirs), .bool (aE1.Passed)]] C.w0 fun e w => e = .returned (.bool (r)) ∧ Mem C w [] [] := by
  have hM := Mem.begin C [] trivial
  refine enter Try.func12 rfl Try.ntmps12 rfl fun a hf => ?_
  unfold m_laws_FnExactValidEnd at h
  refine wp_seq ?_
  refine region_pl ?_
  refine pl_l hf rfl rfl rfl (w_box hf hM (cs := [vI (aE1.Board.Size), vS (aE1.Board.Premium), vS (aE1.Board.Cells), vS (aE1.Mine), vS (aE1.Theirs), .bool (aE1.Passed)]) rfl rfl fun b7 w8 hx9 hM a hf => ?_)
  refine q_ hf rfl rfl rfl (e_assign hf rfl) fun a hf => ?_
  refine pl_nil ?_
  refine then_n ?_
  refine wp_seq ?_
  refine region_pl ?_
  refine q_ hf rfl rfl rfl (e_assign hf rfl) fun a hf => ?_
  refine pl_nil ?_
  refine then_n ?_
  refine wp_seq ?_
  refine region_pl ?_
  refine q_ hf rfl rfl rfl (e_loadA hf (us := [vI (aE1.Board.Size), vS (aE1.Board.Premium), vS (aE1.Board.Cells), vS (aE1.Mine), vS (aE1.Theirs), .bool (aE1.Passed)]) rfl ⟨Try.isAgg72, Try.sizeOf72⟩ rfl (hM.boxSub (k := 0) (us := [vI (aE1.Board.Size), vS (aE1.Board.Premium), vS (aE1.Board.Cells), vS (aE1.Mine), vS (aE1.Theirs), .bool (aE1.Passed)]) (o := 0) rfl rfl)) fun a hf => ?_
  refine q_ hf rfl rfl rfl (e_move hf rfl) fun a hf => ?_
  obtain ⟨y11, hz12, h⟩ := bind_some h
  refine pl_l hf rfl rfl rfl (w_call hf Try.call46 rfl (r_laws_szEnd ⟨_, Sh C _ _, none_, hM.sh_lt, none_not⟩ aE1 hp2 hp3 hp4 hp5 hp6 1048576 (R64_lit rfl) _ hz12) ?_)
  rintro _ w14 ⟨rfl, hM2, hv13⟩
  obtain ⟨hM, hx15, hup16⟩ := hM.back hM2
  dsimp only [List.cons_append, List.nil_append] at hM hup16
  clear hM2
  refine ⟨_, rfl, fun a hf => ?_⟩
  refine q_ hf rfl rfl rfl (e_assign hf rfl) fun a hf => ?_
  refine pl_nil ?_
  refine then_n ?_
  refine wp_seq ?_
  refine wp_seq ?_
  refine region_pl ?_
  refine q_ hf rfl rfl rfl (e_move hf rfl) fun a hf => ?_
  refine q_ hf rfl rfl rfl (e_lt hf (x := y11) (y := 0) rfl rfl) fun a hf => ?_
  refine pl_nil ?_
  refine then_n ?_
  rcases cond_some h with ⟨hc17, h⟩ | ⟨hc17, h⟩
  · refine cond_t hf rfl hc17 ?_
    refine wp_seq ?_
    refine region_pl ?_
    refine q_ hf rfl rfl rfl (e_assign hf rfl) fun a hf => ?_
    refine pl_nil ?_
    refine then_n ?_
    refine wp_ret ?_
    refine then_r ?_
    obtain rfl := some_inj h
    have hM := hM.outs (own' := []) 0 rfl
    exact leave1 hf rfl rfl ⟨rfl, hM.fin⟩
  · refine cond_f hf rfl hc17 ?_
    refine wp_skip ?_
    refine then_n ?_
    refine wp_seq ?_
    refine region_pl ?_
    refine q_ hf rfl rfl rfl (e_loadA hf (us := [vI (aE1.Board.Size), vS (aE1.Board.Premium), vS (aE1.Board.Cells), vS (aE1.Mine), vS (aE1.Theirs), .bool (aE1.Passed)]) rfl ⟨Try.isAgg72, Try.sizeOf72⟩ rfl (hM.boxSub (k := 0) (us := [vI (aE1.Board.Size), vS (aE1.Board.Premium), vS (aE1.Board.Cells), vS (aE1.Mine), vS (aE1.Theirs), .bool (aE1.Passed)]) (o := 0) rfl rfl)) fun a hf => ?_
    obtain ⟨y18, hz19, h⟩ := bind_some h
    refine pl_l hf rfl rfl rfl (w_call hf Try.call48 rfl (r_laws_toEnd ⟨_, Sh C _ _, none_, hM.sh_lt, none_not⟩ aE1 hp2 hp3 hp4 hp5 hp6 _ hz19) ?_)
    rintro _ w25 ⟨rfl, hM2, hv20, hv21, hv22, hv23, hv24⟩
    obtain ⟨hM, hx26, hup27⟩ := hM.back hM2
    dsimp only [List.cons_append, List.nil_append] at hM hup27
    clear hM2
    refine ⟨_, rfl, fun a hf => ?_⟩
    obtain ⟨y28, hz29, h⟩ := bind_some h
    refine pl_l hf rfl rfl rfl (w_call hf Try.call47 rfl (r_spec_ValidEnd ⟨_, Sh C _ _, none_, hM.sh_lt, none_not⟩ y18 hv20 hv21 hv22 hv23 hv24 _ hz29) ?_)
    rintro _ w30 ⟨rfl, hM2⟩
    obtain ⟨hM, hx31, hup32⟩ := hM.back hM2
    dsimp only [List.cons_append, List.nil_append] at hM hup32
    clear hM2
    refine ⟨_, rfl, fun a hf => ?_⟩
    refine q_ hf rfl rfl rfl (e_assign hf rfl) fun a hf => ?_
    refine pl_nil ?_
    refine then_n ?_
    refine wp_seq ?_
    refine region_pl ?_
    refine q_ hf rfl rfl rfl (e_loadA hf (us := [vI (aE1.Board.Size), vS (aE1.Board.Premium), vS (aE1.Board.Cells), vS (aE1.Mine), vS (aE1.Theirs), .bool (aE1.Passed)]) rfl ⟨Try.isAgg72, Try.sizeOf72⟩ rfl (hM.boxSub (k := 0) (us := [vI (aE1.Board.Size), vS (aE1.Board.Premium), vS (aE1.Board.Cells), vS (aE1.Mine), vS (aE1.Theirs), .bool (aE1.Passed)]) (o := 0) rfl rfl)) fun a hf => ?_
    obtain ⟨y33, hz34, h⟩ := bind_some h
    refine pl_l hf rfl rfl rfl (w_call hf Try.call48 rfl (r_laws_toEnd ⟨_, Sh C _ _, none_, hM.sh_lt, none_not⟩ aE1 hp2 hp3 hp4 hp5 hp6 _ hz34) ?_)
    rintro _ w40 ⟨rfl, hM2, hv35, hv36, hv37, hv38, hv39⟩
    obtain ⟨hM, hx41, hup42⟩ := hM.back hM2
    dsimp only [List.cons_append, List.nil_append] at hM hup42
    clear hM2
    refine ⟨_, rfl, fun a hf => ?_⟩
    obtain ⟨y43, hz44, h⟩ := bind_some h
    refine pl_l hf rfl rfl rfl (w_call hf Try.call49 rfl (r_impl_ValidEnd ⟨_, Sh C _ _, none_, hM.sh_lt, none_not⟩ y33 hv35 hv36 hv37 hv38 hv39 _ hz44) ?_)
    rintro _ w45 ⟨rfl, hM2⟩
    obtain ⟨hM, hx46, hup47⟩ := hM.back hM2
    dsimp only [List.cons_append, List.nil_append] at hM hup47
    clear hM2
    refine ⟨_, rfl, fun a hf => ?_⟩
    refine q_ hf rfl rfl rfl (e_assign hf rfl) fun a hf => ?_
    refine pl_nil ?_
    refine then_n ?_
    refine wp_seq ?_
    refine wp_seq ?_
    refine region_pl ?_
    refine q_ hf rfl rfl rfl (e_move hf rfl) fun a hf => ?_
    refine q_ hf rfl rfl rfl (e_move hf rfl) fun a hf => ?_
    refine q_ hf rfl rfl rfl (e_neT hf rfl rfl Try.underlying4) fun a hf => ?_
    refine pl_nil ?_
    refine then_n ?_
    rcases cond_some h with ⟨hc48, h⟩ | ⟨hc48, h⟩
    · refine cond_t hf rfl hc48 ?_
      refine wp_seq ?_
      refine region_pl ?_
      refine q_ hf rfl rfl rfl (e_assign hf rfl) fun a hf => ?_
      refine pl_nil ?_
      refine then_n ?_
      refine wp_ret ?_
      refine then_r ?_
      obtain rfl := some_inj h
      have hM := hM.outs (own' := []) 0 rfl
      exact leave1 hf rfl rfl ⟨rfl, hM.fin⟩
    · refine cond_f hf rfl hc48 ?_
      refine wp_skip ?_
      refine then_n ?_
      refine wp_seq ?_
      refine region_pl ?_
      refine q_ hf rfl rfl rfl (e_assign hf rfl) fun a hf => ?_
      refine pl_nil ?_
      refine then_n ?_
      refine wp_ret ?_
      obtain rfl := some_inj h
      have hM := hM.outs (own' := []) 0 rfl
      exact leave1 hf rfl rfl ⟨rfl, hM.fin⟩

end Go.Proofs.Ytdngdgjlcfbdhaa
