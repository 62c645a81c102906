/- The functions that this law reaches do what their models say. Printed by gen.py. -/
import Derived.Test.YtbekokenomhgeaaGreatDoorMod
import Derived.Test.YtbekokenomhgeaaGreatDoorLib
namespace Go.Proofs.YtbekokenomhgeaaGreatDoor
open Go Go.RowKit
set_option linter.unusedSimpArgs false
set_option linter.unusedVariables false

def FnC_UInt8_to_Bool (fk : FuncId) (fc : List Value) (f : UInt8 → Option Bool) (C : Cx) : Prop := ∀ (x0 : UInt8) (r : Bool) (h : f x0 = some r),
    Calls Tryz.prog fk (([vB (x0)] : List Value) ++ fc).toArray C.w0 fun e w => e = .returned (.bool (r)) ∧ Mem C w [] []

def dirV (d : Bool) : Value := bif d then .iface 180 (.agg #[]) else .iface 181 (.agg #[])

theorem dirAt_t {L : List (Nat × Value)} {X : Operand} {t : Bool} (h : ev L X = some (dirV t)) (hc : t = true) : ev L X = some (.iface 180 (.agg #[])) := by subst hc; exact h
theorem dirAt_f {L : List (Nat × Value)} {X : Operand} {t : Bool} (h : ev L X = some (dirV t)) (hc : t = false) : ev L X = some (.iface 181 (.agg #[])) := by subst hc; exact h

theorem dir_m_233 : ∀ w : World, (method (Tryz.prog.types.size + Made.depth) 180 (.agg #[]) "loop.example/g00911/impl.at").run Tryz.prog w = .ok (233, .agg #[]) w := by
  intro w
  kernel_rfl

theorem dir_m_235 : ∀ w : World, (method (Tryz.prog.types.size + Made.depth) 181 (.agg #[]) "loop.example/g00911/impl.at").run Tryz.prog w = .ok (235, .agg #[]) w := by
  intro w
  kernel_rfl

theorem ei_2 : ElemInfo Tryz.prog 2 1 := elemInfo (by kernel_rfl)

theorem ei_3 : ElemInfo Tryz.prog 3 1 := elemInfo (by kernel_rfl)

theorem ei_5 : ElemInfo Tryz.prog 5 1 := elemInfo (by kernel_rfl)

theorem ei_124 : ElemInfo Tryz.prog 124 2 := elemInfo (by kernel_rfl)

theorem bp_28 : ∀ (fs : Array Field), some (TypeDesc.struct fs) = Tryz.prog.underlying 28 → ∀ w, (fs.mapM fun (f : Field) => do pure (f.offset, ← sizeOf f.type)).run Tryz.prog w = .ok #[(0, 1), (1, 1), (2, 1)] w := by
  intro fs h w
  rw [Tryz.underlying28] at h
  cases h
  simp

theorem bp_38 : ∀ (fs : Array Field), some (TypeDesc.struct fs) = Tryz.prog.underlying 38 → ∀ w, (fs.mapM fun (f : Field) => do pure (f.offset, ← sizeOf f.type)).run Tryz.prog w = .ok #[(0, 3), (3, 1), (4, 1), (5, 1)] w := by
  intro fs h w
  rw [Tryz.underlying38] at h
  cases h
  simp

theorem bp_41 : ∀ (fs : Array Field), some (TypeDesc.struct fs) = Tryz.prog.underlying 41 → ∀ w, (fs.mapM fun (f : Field) => do pure (f.offset, ← sizeOf f.type)).run Tryz.prog w = .ok #[(0, 1), (1, 1), (2, 1), (3, 1)] w := by
  intro fs h w
  rw [Tryz.underlying41] at h
  cases h
  simp

theorem bp_124 : ∀ (fs : Array Field), some (TypeDesc.struct fs) = Tryz.prog.underlying 124 → ∀ w, (fs.mapM fun (f : Field) => do pure (f.offset, ← sizeOf f.type)).run Tryz.prog w = .ok #[(0, 1), (1, 1)] w := by
  intro fs h w
  rw [Tryz.underlying124] at h
  cases h
  simp

theorem bp_180 : ∀ (fs : Array Field), some (TypeDesc.struct fs) = Tryz.prog.underlying 180 → ∀ w, (fs.mapM fun (f : Field) => do pure (f.offset, ← sizeOf f.type)).run Tryz.prog w = .ok #[] w := by
  intro fs h w
  rw [Tryz.underlying180] at h
  cases h
  simp

theorem bp_181 : ∀ (fs : Array Field), some (TypeDesc.struct fs) = Tryz.prog.underlying 181 → ∀ w, (fs.mapM fun (f : Field) => do pure (f.offset, ← sizeOf f.type)).run Tryz.prog w = .ok #[] w := by
  intro fs h w
  rw [Tryz.underlying181] at h
  cases h
  simp

set_option maxRecDepth 100000 in
set_option maxHeartbeats 4000000 in
theorem r_laws_szBoard (C : Cx) (a1 : Board) (hp2 : R64 a1.Size) (hp3 : a1.Premium.length ≤ maxLen) (hp4 : a1.Cells.length ≤ maxLen) (left5 : Int) (hp6 : R64 left5) (r : Int) (h : m_laws_szBoard a1 left5 = some r) :
    Calls Tryz.prog 9 #[.agg #[vI (a1.Size), vS (a1.Premium), vS (a1.Cells)], vI (left5)] C.w0 fun e w => e = .returned (vI (r)) ∧ Mem C w [] [] ∧ R64 r := by
  have hM := Mem.begin C [] trivial
  refine enter Tryz.func9 rfl Tryz.ntmps9 rfl fun a hf => ?_
  unfold m_laws_szBoard at h
  refine wp_seq ?_
  refine region_pl ?_
  refine pl_l hf rfl rfl rfl (w_box hf hM (cs := [vI (a1.Size), vS (a1.Premium), vS (a1.Cells)]) rfl rfl fun b7 w8 hx9 hM a hf => ?_)
  refine q_ hf rfl rfl rfl (e_assign hf rfl) fun a hf => ?_
  refine pl_nil ?_
  refine then_n ?_
  refine wp_seq ?_
  refine region_pl ?_
  refine q_ hf rfl rfl rfl (e_move hf rfl) fun a hf => ?_
  refine q_ hf rfl rfl rfl (e_field hf rfl Tryz.underlying23 rfl Tryz.sizeOf9 (o' := 1) rfl) fun a hf => ?_
  refine q_ hf rfl rfl rfl (e_load1 hf rfl Tryz.isAgg9 (hM.boxCell (k := 0) rfl rfl)) fun a hf => ?_
  refine q_ hf rfl rfl rfl (e_lenS hf (x := a1.Premium) rfl Tryz.underlying9) fun a hf => ?_
  obtain ⟨z11, hz12, h⟩ := bind_some h
  refine q_ hf rfl rfl rfl (e_sub hf rfl rfl hz12) fun a hf => ?_
  refine q_ hf rfl rfl rfl (e_assign hf rfl) fun a hf => ?_
  refine pl_nil ?_
  refine then_n ?_
  refine wp_seq ?_
  refine wp_seq ?_
  refine region_pl ?_
  refine q_ hf rfl rfl rfl (e_move hf rfl) fun a hf => ?_
  refine q_ hf rfl rfl rfl (e_lt hf (x := z11) (y := 0) rfl rfl) fun a hf => ?_
  refine pl_nil ?_
  refine then_n ?_
  rcases cond_some h with ⟨hc13, h⟩ | ⟨hc13, h⟩
  · refine cond_t hf rfl hc13 ?_
    refine wp_seq ?_
    refine region_pl ?_
    refine q_ hf rfl rfl rfl (e_assign hf rfl) fun a hf => ?_
    refine pl_nil ?_
    refine then_n ?_
    refine wp_ret ?_
    refine then_r ?_
    obtain rfl := some_inj h
    have hM := hM.outs (own' := []) 0 rfl
    exact leave1 hf rfl rfl ⟨rfl, hM.fin, (R64_lit rfl)⟩
  · refine cond_f hf rfl hc13 ?_
    refine wp_skip ?_
    refine then_n ?_
    refine wp_seq ?_
    refine region_pl ?_
    refine q_ hf rfl rfl rfl (e_move hf rfl) fun a hf => ?_
    refine q_ hf rfl rfl rfl (e_field hf rfl Tryz.underlying23 rfl Tryz.sizeOf9 (o' := 2) rfl) fun a hf => ?_
    refine q_ hf rfl rfl rfl (e_load1 hf rfl Tryz.isAgg9 (hM.boxCell (k := 0) rfl rfl)) fun a hf => ?_
    refine q_ hf rfl rfl rfl (e_lenS hf (x := a1.Cells) rfl Tryz.underlying9) fun a hf => ?_
    obtain ⟨z14, hz15, h⟩ := bind_some h
    refine q_ hf rfl rfl rfl (e_sub hf rfl rfl hz15) fun a hf => ?_
    refine q_ hf rfl rfl rfl (e_assign hf rfl) fun a hf => ?_
    refine pl_nil ?_
    refine then_n ?_
    refine wp_seq ?_
    refine wp_seq ?_
    refine region_pl ?_
    refine q_ hf rfl rfl rfl (e_move hf rfl) fun a hf => ?_
    refine q_ hf rfl rfl rfl (e_lt hf (x := z14) (y := 0) rfl rfl) fun a hf => ?_
    refine pl_nil ?_
    refine then_n ?_
    rcases cond_some h with ⟨hc16, h⟩ | ⟨hc16, h⟩
    · refine cond_t hf rfl hc16 ?_
      refine wp_seq ?_
      refine region_pl ?_
      refine q_ hf rfl rfl rfl (e_assign hf rfl) fun a hf => ?_
      refine pl_nil ?_
      refine then_n ?_
      refine wp_ret ?_
      refine then_r ?_
      obtain rfl := some_inj h
      have hM := hM.outs (own' := []) 0 rfl
      exact leave1 hf rfl rfl ⟨rfl, hM.fin, (R64_lit rfl)⟩
    · refine cond_f hf rfl hc16 ?_
      refine wp_skip ?_
      refine then_n ?_
      refine wp_seq ?_
      refine region_pl ?_
      refine q_ hf rfl rfl rfl (e_move hf rfl) fun a hf => ?_
      refine q_ hf rfl rfl rfl (e_assign hf rfl) fun a hf => ?_
      refine pl_nil ?_
      refine then_n ?_
      refine wp_ret ?_
      obtain rfl := some_inj h
      have hM := hM.outs (own' := []) 0 rfl
      exact leave1 hf rfl rfl ⟨rfl, hM.fin, (chk_R hz15)⟩

set_option maxRecDepth 100000 in
set_option maxHeartbeats 4000000 in
theorem r_laws_szPlay (C : Cx) (a1 : Play) (hp2 : R64 a1.Row) (hp3 : R64 a1.Col) (hp4 : a1.Word.length ≤ maxLen) (left5 : Int) (hp6 : R64 left5) (r : Int) (h : m_laws_szPlay a1 left5 = some r) :
    Calls Tryz.prog 16 #[.agg #[vI (a1.Row), vI (a1.Col), .bool (a1.Down), vS (a1.Word)], vI (left5)] C.w0 fun e w => e = .returned (vI (r)) ∧ Mem C w [] [] ∧ R64 r := by
  have hM := Mem.begin C [] trivial
  refine enter Tryz.func16 rfl Tryz.ntmps16 rfl fun a hf => ?_
  unfold m_laws_szPlay at h
  refine wp_seq ?_
  refine region_pl ?_
  refine pl_l hf rfl rfl rfl (w_box hf hM (cs := [vI (a1.Row), vI (a1.Col), .bool (a1.Down), vS (a1.Word)]) rfl rfl fun b7 w8 hx9 hM a hf => ?_)
  refine q_ hf rfl rfl rfl (e_assign hf rfl) fun a hf => ?_
  refine pl_nil ?_
  refine then_n ?_
  refine wp_seq ?_
  refine region_pl ?_
  refine q_ hf rfl rfl rfl (e_move hf rfl) fun a hf => ?_
  refine q_ hf rfl rfl rfl (e_field hf rfl Tryz.underlying35 rfl Tryz.sizeOf9 (o' := 3) rfl) fun a hf => ?_
  refine q_ hf rfl rfl rfl (e_load1 hf rfl Tryz.isAgg9 (hM.boxCell (k := 0) rfl rfl)) fun a hf => ?_
  refine q_ hf rfl rfl rfl (e_lenS hf (x := a1.Word) rfl Tryz.underlying9) fun a hf => ?_
  obtain ⟨z11, hz12, h⟩ := bind_some h
  refine q_ hf rfl rfl rfl (e_sub hf rfl rfl hz12) fun a hf => ?_
  refine q_ hf rfl rfl rfl (e_assign hf rfl) fun a hf => ?_
  refine pl_nil ?_
  refine then_n ?_
  refine wp_seq ?_
  refine wp_seq ?_
  refine region_pl ?_
  refine q_ hf rfl rfl rfl (e_move hf rfl) fun a hf => ?_
  refine q_ hf rfl rfl rfl (e_lt hf (x := z11) (y := 0) rfl rfl) fun a hf => ?_
  refine pl_nil ?_
  refine then_n ?_
  rcases cond_some h with ⟨hc13, h⟩ | ⟨hc13, h⟩
  · refine cond_t hf rfl hc13 ?_
    refine wp_seq ?_
    refine region_pl ?_
    refine q_ hf rfl rfl rfl (e_assign hf rfl) fun a hf => ?_
    refine pl_nil ?_
    refine then_n ?_
    refine wp_ret ?_
    refine then_r ?_
    obtain rfl := some_inj h
    have hM := hM.outs (own' := []) 0 rfl
    exact leave1 hf rfl rfl ⟨rfl, hM.fin, (R64_lit rfl)⟩
  · refine cond_f hf rfl hc13 ?_
    refine wp_skip ?_
    refine then_n ?_
    refine wp_seq ?_
    refine region_pl ?_
    refine q_ hf rfl rfl rfl (e_move hf rfl) fun a hf => ?_
    refine q_ hf rfl rfl rfl (e_assign hf rfl) fun a hf => ?_
    refine pl_nil ?_
    refine then_n ?_
    refine wp_ret ?_
    obtain rfl := some_inj h
    have hM := hM.outs (own' := []) 0 rfl
    exact leave1 hf rfl rfl ⟨rfl, hM.fin, (chk_R hz12)⟩

set_option maxRecDepth 100000 in
set_option maxHeartbeats 4000000 in
theorem r_laws_toBoard (C : Cx) (a1 : Board) (hp2 : R64 a1.Size) (hp3 : a1.Premium.length ≤ maxLen) (hp4 : a1.Cells.length ≤ maxLen) (r : Board) (h : m_laws_toBoard a1 = some r) :
    Calls Tryz.prog 12 #[.agg #[vI (a1.Size), vS (a1.Premium), vS (a1.Cells)]] C.w0 fun e w => e = .returned (.agg #[vI (r.Size), vS (r.Premium), vS (r.Cells)]) ∧ Mem C w [] [] ∧ R64 r.Size ∧ r.Premium.length ≤ maxLen ∧ r.Cells.length ≤ maxLen := by
  have hM := Mem.begin C [] trivial
  refine enter Tryz.func12 rfl Tryz.ntmps12 rfl fun a hf => ?_
  unfold m_laws_toBoard at h
  refine wp_seq ?_
  refine region_pl ?_
  refine pl_l hf rfl rfl rfl (w_box hf hM (cs := [vI (a1.Size), vS (a1.Premium), vS (a1.Cells)]) rfl rfl fun b5 w6 hx7 hM a hf => ?_)
  refine pl_l hf rfl rfl rfl (w_alloc hM (cs := [vI (0), vS (([] : Str)), vS (([] : Str))]) Tryz.zeroValue28 rfl fun b9 w10 hx11 hM a hf => ?_)
  refine pl_nil ?_
  refine then_n ?_
  refine wp_seq ?_
  refine region_pl ?_
  refine pl_l hf rfl rfl rfl (w_alloc hM (cs := [vI (0), vS (([] : Str)), vS (([] : Str))]) Tryz.zeroValue28 rfl fun b13 w14 hx15 hM a hf => ?_)
  refine pl_nil ?_
  refine then_n ?_
  refine wp_seq ?_
  refine region_pl ?_
  refine q_ hf rfl rfl rfl (e_field hf rfl Tryz.underlying23 rfl Tryz.sizeOf2 (o' := 0) rfl) fun a hf => ?_
  refine q_ hf rfl rfl rfl (e_load1 hf rfl Tryz.isAgg2 (hM.boxCell (k := 2) rfl rfl)) fun a hf => ?_
  refine q_ hf rfl rfl rfl (e_field hf rfl Tryz.underlying28 rfl Tryz.sizeOf2 (o' := 0) rfl) fun a hf => ?_
  refine pl_0 hf rfl rfl (w_store hf hM (us := [vI (a1.Size)]) (cs' := [vI (a1.Size), vS (([] : Str)), vS (([] : Str))]) rfl rfl (k := 0) rfl rfl Tryz.sizeOf2 rfl rfl rfl fun w17 hM => ?_)
  dsimp only [List.set] at hM
  refine pl_nil ?_
  refine then_n ?_
  refine wp_seq ?_
  refine region_pl ?_
  refine q_ hf rfl rfl rfl (e_field hf rfl Tryz.underlying23 rfl Tryz.sizeOf9 (o' := 1) rfl) fun a hf => ?_
  refine q_ hf rfl rfl rfl (e_load1 hf rfl Tryz.isAgg9 (hM.boxCell (k := 2) rfl rfl)) fun a hf => ?_
  refine q_ hf rfl rfl rfl (e_field hf rfl Tryz.underlying28 rfl Tryz.sizeOf9 (o' := 1) rfl) fun a hf => ?_
  refine pl_0 hf rfl rfl (w_store hf hM (us := [vS (a1.Premium)]) (cs' := [vI (a1.Size), vS (a1.Premium), vS (([] : Str))]) rfl rfl (k := 0) rfl rfl Tryz.sizeOf9 rfl rfl rfl fun w20 hM => ?_)
  dsimp only [List.set] at hM
  refine pl_nil ?_
  refine then_n ?_
  refine wp_seq ?_
  refine region_pl ?_
  refine q_ hf rfl rfl rfl (e_field hf rfl Tryz.underlying23 rfl Tryz.sizeOf9 (o' := 2) rfl) fun a hf => ?_
  refine q_ hf rfl rfl rfl (e_load1 hf rfl Tryz.isAgg9 (hM.boxCell (k := 2) rfl rfl)) fun a hf => ?_
  refine q_ hf rfl rfl rfl (e_field hf rfl Tryz.underlying28 rfl Tryz.sizeOf9 (o' := 2) rfl) fun a hf => ?_
  refine pl_0 hf rfl rfl (w_store hf hM (us := [vS (a1.Cells)]) (cs' := [vI (a1.Size), vS (a1.Premium), vS (a1.Cells)]) rfl rfl (k := 0) rfl rfl Tryz.sizeOf9 rfl rfl rfl fun w23 hM => ?_)
  dsimp only [List.set] at hM
  refine pl_nil ?_
  refine then_n ?_
  refine wp_seq ?_
  refine region_pl ?_
  refine q_ hf rfl rfl rfl (e_loadA hf (us := [vI (a1.Size), vS (a1.Premium), vS (a1.Cells)]) rfl ⟨Tryz.isAgg28, Tryz.sizeOf28⟩ rfl (hM.boxSub (k := 0) (us := [vI (a1.Size), vS (a1.Premium), vS (a1.Cells)]) (o := 0) rfl rfl)) fun a hf => ?_
  refine pl_0 hf rfl rfl (w_store hf hM (us := [vI (a1.Size), vS (a1.Premium), vS (a1.Cells)]) (cs' := [vI (a1.Size), vS (a1.Premium), vS (a1.Cells)]) rfl rfl (k := 1) rfl rfl Tryz.sizeOf28 rfl rfl rfl fun w26 hM => ?_)
  dsimp only [List.set] at hM
  refine pl_nil ?_
  refine then_n ?_
  refine wp_ret ?_
  obtain rfl := some_inj h
  have hres29 := leaveV1 (P := Tryz.prog) Tryz.results12 (res_agg hf rfl ⟨Tryz.isAgg28, Tryz.sizeOf28⟩ (us := [vI (a1.Size), vS (a1.Premium), vS (a1.Cells)]) rfl (hM.boxSub (k := 1) (o := 0) rfl rfl))
  have hM := hM.outs (own' := []) 0 rfl
  exact bodyPost_ret hres29 hf.defers ⟨rfl, hM.fin, hp2, hp3, hp4⟩

set_option maxRecDepth 100000 in
set_option maxHeartbeats 4000000 in
theorem r_laws_toPlay (C : Cx) (a1 : Play) (hp2 : R64 a1.Row) (hp3 : R64 a1.Col) (hp4 : a1.Word.length ≤ maxLen) (r : Play) (h : m_laws_toPlay a1 = some r) :
    Calls Tryz.prog 18 #[.agg #[vI (a1.Row), vI (a1.Col), .bool (a1.Down), vS (a1.Word)]] C.w0 fun e w => e = .returned (.agg #[vI (r.Row), vI (r.Col), .bool (r.Down), vS (r.Word)]) ∧ Mem C w [] [] ∧ R64 r.Row ∧ R64 r.Col ∧ r.Word.length ≤ maxLen := by
  have hM := Mem.begin C [] trivial
  refine enter Tryz.func18 rfl Tryz.ntmps18 rfl fun a hf => ?_
  unfold m_laws_toPlay at h
  refine wp_seq ?_
  refine region_pl ?_
  refine pl_l hf rfl rfl rfl (w_box hf hM (cs := [vI (a1.Row), vI (a1.Col), .bool (a1.Down), vS (a1.Word)]) rfl rfl fun b5 w6 hx7 hM a hf => ?_)
  refine pl_l hf rfl rfl rfl (w_alloc hM (cs := [vI (0), vI (0), .bool (false), vS (([] : Str))]) Tryz.zeroValue41 rfl fun b9 w10 hx11 hM a hf => ?_)
  refine pl_nil ?_
  refine then_n ?_
  refine wp_seq ?_
  refine region_pl ?_
  refine pl_l hf rfl rfl rfl (w_alloc hM (cs := [vI (0), vI (0), .bool (false), vS (([] : Str))]) Tryz.zeroValue41 rfl fun b13 w14 hx15 hM a hf => ?_)
  refine pl_nil ?_
  refine then_n ?_
  refine wp_seq ?_
  refine region_pl ?_
  refine q_ hf rfl rfl rfl (e_field hf rfl Tryz.underlying35 rfl Tryz.sizeOf2 (o' := 0) rfl) fun a hf => ?_
  refine q_ hf rfl rfl rfl (e_load1 hf rfl Tryz.isAgg2 (hM.boxCell (k := 2) rfl rfl)) fun a hf => ?_
  refine q_ hf rfl rfl rfl (e_field hf rfl Tryz.underlying41 rfl Tryz.sizeOf2 (o' := 0) rfl) fun a hf => ?_
  refine pl_0 hf rfl rfl (w_store hf hM (us := [vI (a1.Row)]) (cs' := [vI (a1.Row), vI (0), .bool (false), vS (([] : Str))]) rfl rfl (k := 0) rfl rfl Tryz.sizeOf2 rfl rfl rfl fun w17 hM => ?_)
  dsimp only [List.set] at hM
  refine pl_nil ?_
  refine then_n ?_
  refine wp_seq ?_
  refine region_pl ?_
  refine q_ hf rfl rfl rfl (e_field hf rfl Tryz.underlying35 rfl Tryz.sizeOf2 (o' := 1) rfl) fun a hf => ?_
  refine q_ hf rfl rfl rfl (e_load1 hf rfl Tryz.isAgg2 (hM.boxCell (k := 2) rfl rfl)) fun a hf => ?_
  refine q_ hf rfl rfl rfl (e_field hf rfl Tryz.underlying41 rfl Tryz.sizeOf2 (o' := 1) rfl) fun a hf => ?_
  refine pl_0 hf rfl rfl (w_store hf hM (us := [vI (a1.Col)]) (cs' := [vI (a1.Row), vI (a1.Col), .bool (false), vS (([] : Str))]) rfl rfl (k := 0) rfl rfl Tryz.sizeOf2 rfl rfl rfl fun w20 hM => ?_)
  dsimp only [List.set] at hM
  refine pl_nil ?_
  refine then_n ?_
  refine wp_seq ?_
  refine region_pl ?_
  refine q_ hf rfl rfl rfl (e_field hf rfl Tryz.underlying35 rfl Tryz.sizeOf4 (o' := 2) rfl) fun a hf => ?_
  refine q_ hf rfl rfl rfl (e_load1 hf rfl Tryz.isAgg4 (hM.boxCell (k := 2) rfl rfl)) fun a hf => ?_
  refine q_ hf rfl rfl rfl (e_field hf rfl Tryz.underlying41 rfl Tryz.sizeOf4 (o' := 2) rfl) fun a hf => ?_
  refine pl_0 hf rfl rfl (w_store hf hM (us := [.bool (a1.Down)]) (cs' := [vI (a1.Row), vI (a1.Col), .bool (a1.Down), vS (([] : Str))]) rfl rfl (k := 0) rfl rfl Tryz.sizeOf4 rfl rfl rfl fun w23 hM => ?_)
  dsimp only [List.set] at hM
  refine pl_nil ?_
  refine then_n ?_
  refine wp_seq ?_
  refine region_pl ?_
  refine q_ hf rfl rfl rfl (e_field hf rfl Tryz.underlying35 rfl Tryz.sizeOf9 (o' := 3) rfl) fun a hf => ?_
  refine q_ hf rfl rfl rfl (e_load1 hf rfl Tryz.isAgg9 (hM.boxCell (k := 2) rfl rfl)) fun a hf => ?_
  refine q_ hf rfl rfl rfl (e_field hf rfl Tryz.underlying41 rfl Tryz.sizeOf9 (o' := 3) rfl) fun a hf => ?_
  refine pl_0 hf rfl rfl (w_store hf hM (us := [vS (a1.Word)]) (cs' := [vI (a1.Row), vI (a1.Col), .bool (a1.Down), vS (a1.Word)]) rfl rfl (k := 0) rfl rfl Tryz.sizeOf9 rfl rfl rfl fun w26 hM => ?_)
  dsimp only [List.set] at hM
  refine pl_nil ?_
  refine then_n ?_
  refine wp_seq ?_
  refine region_pl ?_
  refine q_ hf rfl rfl rfl (e_loadA hf (us := [vI (a1.Row), vI (a1.Col), .bool (a1.Down), vS (a1.Word)]) rfl ⟨Tryz.isAgg41, Tryz.sizeOf41⟩ rfl (hM.boxSub (k := 0) (us := [vI (a1.Row), vI (a1.Col), .bool (a1.Down), vS (a1.Word)]) (o := 0) rfl rfl)) fun a hf => ?_
  refine pl_0 hf rfl rfl (w_store hf hM (us := [vI (a1.Row), vI (a1.Col), .bool (a1.Down), vS (a1.Word)]) (cs' := [vI (a1.Row), vI (a1.Col), .bool (a1.Down), vS (a1.Word)]) rfl rfl (k := 1) rfl rfl Tryz.sizeOf41 rfl rfl rfl fun w29 hM => ?_)
  dsimp only [List.set] at hM
  refine pl_nil ?_
  refine then_n ?_
  refine wp_ret ?_
  obtain rfl := some_inj h
  have hres32 := leaveV1 (P := Tryz.prog) Tryz.results18 (res_agg hf rfl ⟨Tryz.isAgg41, Tryz.sizeOf41⟩ (us := [vI (a1.Row), vI (a1.Col), .bool (a1.Down), vS (a1.Word)]) rfl (hM.boxSub (k := 1) (o := 0) rfl rfl))
  have hM := hM.outs (own' := []) 0 rfl
  exact bodyPost_ret hres32 hf.defers ⟨rfl, hM.fin, hp2, hp3, hp4⟩

set_option maxRecDepth 100000 in
set_option maxHeartbeats 4000000 in
theorem r_spec_l00In (C : Cx) (n1 : Int) (hp2 : R64 n1) (low3 : Int) (hp4 : R64 low3) (high5 : Int) (hp6 : R64 high5) (r : Bool) (h : m_spec_l00In n1 low3 high5 = some r) :
    Calls Tryz.prog 86 #[vI (n1), vI (low3), vI (high5)] C.w0 fun e w => e = .returned (.bool (r)) ∧ Mem C w [] [] := by
  have hM := Mem.begin C [] trivial
  refine enter Tryz.func86 rfl Tryz.ntmps86 rfl fun a hf => ?_
  unfold m_spec_l00In at h
  refine wp_seq ?_
  refine region_pl ?_
  refine q_ hf rfl rfl rfl (e_assign hf rfl) fun a hf => ?_
  refine pl_nil ?_
  refine then_n ?_
  obtain ⟨x9, h10, h⟩ := bind_some h
  refine seq_join (fun a w => ∃ (t7 : Bool), t7 = x9 ∧ Has 15 a [(6, .bool (t7))] ∧ Mem C w [] []) ?_ ?_
  · refine region_pl ?_
    refine q_ hf rfl rfl rfl (e_move hf rfl) fun a hf => ?_
    refine q_ hf rfl rfl rfl (e_move hf rfl) fun a hf => ?_
    refine q_ hf rfl rfl rfl (e_ge hf (x := n1) (y := low3) rfl rfl) fun a hf => ?_
    refine q_ hf rfl rfl rfl (e_move hf rfl) fun a hf => ?_
    rcases cond_some h10 with ⟨hc11, h10⟩ | ⟨hc11, h10⟩
    · refine gq (wanted_t hf rfl rfl rfl rfl hc11) hf rfl rfl (e_move hf rfl) fun a hf => ?_
      refine gq (wanted_t hf rfl rfl rfl rfl hc11) hf rfl rfl (e_move hf rfl) fun a hf => ?_
      refine gq (wanted_t hf rfl rfl rfl rfl hc11) hf rfl rfl (e_le hf (x := n1) (y := high5) rfl rfl) fun a hf => ?_
      refine q_ hf rfl rfl rfl (e_pick_t hf rfl hc11 rfl) fun a hf => ?_
      refine q_ hf rfl rfl rfl (e_assign hf rfl) fun a hf => ?_
      refine pl_nil ?_
      obtain rfl := some_inj h10
      refine then_n ?_
      exact ⟨(decide (n1 ≤ high5)), rfl, hf.keep ⟨rfl, trivial⟩, hM.pick [] rfl⟩
    · refine pl_gs (wanted_f hf rfl rfl rfl rfl hc11) hf rfl rfl fun a hf => ?_
      refine pl_gs (wanted_f hf rfl rfl rfl rfl hc11) hf rfl rfl fun a hf => ?_
      refine pl_gs (wanted_f hf rfl rfl rfl rfl hc11) hf rfl rfl fun a hf => ?_
      refine q_ hf rfl rfl rfl (e_pick_f hf rfl hc11 rfl) fun a hf => ?_
      refine q_ hf rfl rfl rfl (e_assign hf rfl) fun a hf => ?_
      refine pl_nil ?_
      obtain rfl := some_inj h10
      refine then_n ?_
      exact ⟨false, rfl, hf.keep ⟨rfl, trivial⟩, hM.pick [] rfl⟩
  · rintro a w14 ⟨t7, rfl, hf, hM⟩
    try dsimp only at h
    refine wp_ret ?_
    obtain rfl := some_inj h
    exact leave1 hf rfl rfl ⟨rfl, hM.fin⟩

set_option maxRecDepth 100000 in
set_option maxHeartbeats 4000000 in
theorem r_spec_l11Size (C : Cx) (size1 : Int) (hp2 : R64 size1) (r : Bool) (h : m_spec_l11Size size1 = some r) :
    Calls Tryz.prog 82 #[vI (size1)] C.w0 fun e w => e = .returned (.bool (r)) ∧ Mem C w [] [] := by
  have hM := Mem.begin C [] trivial
  refine enter Tryz.func82 rfl Tryz.ntmps82 rfl fun a hf => ?_
  unfold m_spec_l11Size at h
  refine wp_seq ?_
  refine region_pl ?_
  refine q_ hf rfl rfl rfl (e_assign hf rfl) fun a hf => ?_
  refine pl_nil ?_
  refine then_n ?_
  refine wp_seq ?_
  refine region_pl ?_
  refine q_ hf rfl rfl rfl (e_move hf rfl) fun a hf => ?_
  obtain ⟨y3, hz4, h⟩ := bind_some h
  refine pl_l hf rfl rfl rfl (w_call hf Tryz.call86 rfl (r_spec_l00In ⟨_, Sh C _ _, none_, hM.sh_lt, none_not, C.G, hM.g_lt, g_none, hM.tabs⟩ size1 hp2 5 (R64_lit rfl) 15 (R64_lit rfl) _ hz4) ?_)
  rintro _ w5 ⟨rfl, hM2⟩
  obtain ⟨hM, hx6, hup7⟩ := hM.back hM2
  dsimp only [List.cons_append, List.nil_append] at hM hup7
  clear hM2
  refine ⟨_, rfl, fun a hf => ?_⟩
  refine q_ hf rfl rfl rfl (e_assign hf rfl) fun a hf => ?_
  refine pl_nil ?_
  refine then_n ?_
  refine wp_ret ?_
  obtain rfl := some_inj h
  exact leave1 hf rfl rfl ⟨rfl, hM.fin⟩

set_option maxRecDepth 100000 in
set_option maxHeartbeats 4000000 in
theorem r_spec_l01Small (C : Cx) (c1 : UInt8) (r : Bool) (h : m_spec_l01Small c1 = some r) :
    Calls Tryz.prog 131 #[vB (c1)] C.w0 fun e w => e = .returned (.bool (r)) ∧ Mem C w [] [] := by
  have hM := Mem.begin C [] trivial
  refine enter Tryz.func131 rfl Tryz.ntmps131 rfl fun a hf => ?_
  unfold m_spec_l01Small at h
  refine wp_seq ?_
  refine region_pl ?_
  refine q_ hf rfl rfl rfl (e_assign hf rfl) fun a hf => ?_
  refine pl_nil ?_
  refine then_n ?_
  obtain ⟨x4, h5, h⟩ := bind_some h
  refine seq_join (fun a w => ∃ (t2 : Bool), t2 = x4 ∧ Has 9 a [(2, .bool (t2))] ∧ Mem C w [] []) ?_ ?_
  · refine region_pl ?_
    refine q_ hf rfl rfl rfl (e_move hf rfl) fun a hf => ?_
    refine q_ hf rfl rfl rfl (e_geB hf (x := c1) (y := 97) rfl rfl) fun a hf => ?_
    refine q_ hf rfl rfl rfl (e_move hf rfl) fun a hf => ?_
    rcases cond_some h5 with ⟨hc6, h5⟩ | ⟨hc6, h5⟩
    · refine gq (wanted_t hf rfl rfl rfl rfl hc6) hf rfl rfl (e_move hf rfl) fun a hf => ?_
      refine gq (wanted_t hf rfl rfl rfl rfl hc6) hf rfl rfl (e_leB hf (x := c1) (y := 122) rfl rfl) fun a hf => ?_
      refine q_ hf rfl rfl rfl (e_pick_t hf rfl hc6 rfl) fun a hf => ?_
      refine q_ hf rfl rfl rfl (e_assign hf rfl) fun a hf => ?_
      refine pl_nil ?_
      obtain rfl := some_inj h5
      refine then_n ?_
      exact ⟨(decide (c1 ≤ 122)), rfl, hf.keep ⟨rfl, trivial⟩, hM.pick [] rfl⟩
    · refine pl_gs (wanted_f hf rfl rfl rfl rfl hc6) hf rfl rfl fun a hf => ?_
      refine pl_gs (wanted_f hf rfl rfl rfl rfl hc6) hf rfl rfl fun a hf => ?_
      refine q_ hf rfl rfl rfl (e_pick_f hf rfl hc6 rfl) fun a hf => ?_
      refine q_ hf rfl rfl rfl (e_assign hf rfl) fun a hf => ?_
      refine pl_nil ?_
      obtain rfl := some_inj h5
      refine then_n ?_
      exact ⟨false, rfl, hf.keep ⟨rfl, trivial⟩, hM.pick [] rfl⟩
  · rintro a w9 ⟨t2, rfl, hf, hM⟩
    try dsimp only at h
    refine wp_ret ?_
    obtain rfl := some_inj h
    exact leave1 hf rfl rfl ⟨rfl, hM.fin⟩

set_option maxRecDepth 100000 in
set_option maxHeartbeats 4000000 in
theorem r_spec_l03Capital (C : Cx) (c1 : UInt8) (r : Bool) (h : m_spec_l03Capital c1 = some r) :
    Calls Tryz.prog 132 #[vB (c1)] C.w0 fun e w => e = .returned (.bool (r)) ∧ Mem C w [] [] := by
  have hM := Mem.begin C [] trivial
  refine enter Tryz.func132 rfl Tryz.ntmps132 rfl fun a hf => ?_
  unfold m_spec_l03Capital at h
  refine wp_seq ?_
  refine region_pl ?_
  refine q_ hf rfl rfl rfl (e_assign hf rfl) fun a hf => ?_
  refine pl_nil ?_
  refine then_n ?_
  obtain ⟨x4, h5, h⟩ := bind_some h
  refine seq_join (fun a w => ∃ (t2 : Bool), t2 = x4 ∧ Has 9 a [(2, .bool (t2))] ∧ Mem C w [] []) ?_ ?_
  · refine region_pl ?_
    refine q_ hf rfl rfl rfl (e_move hf rfl) fun a hf => ?_
    refine q_ hf rfl rfl rfl (e_geB hf (x := c1) (y := 65) rfl rfl) fun a hf => ?_
    refine q_ hf rfl rfl rfl (e_move hf rfl) fun a hf => ?_
    rcases cond_some h5 with ⟨hc6, h5⟩ | ⟨hc6, h5⟩
    · refine gq (wanted_t hf rfl rfl rfl rfl hc6) hf rfl rfl (e_move hf rfl) fun a hf => ?_
      refine gq (wanted_t hf rfl rfl rfl rfl hc6) hf rfl rfl (e_leB hf (x := c1) (y := 90) rfl rfl) fun a hf => ?_
      refine q_ hf rfl rfl rfl (e_pick_t hf rfl hc6 rfl) fun a hf => ?_
      refine q_ hf rfl rfl rfl (e_assign hf rfl) fun a hf => ?_
      refine pl_nil ?_
      obtain rfl := some_inj h5
      refine then_n ?_
      exact ⟨(decide (c1 ≤ 90)), rfl, hf.keep ⟨rfl, trivial⟩, hM.pick [] rfl⟩
    · refine pl_gs (wanted_f hf rfl rfl rfl rfl hc6) hf rfl rfl fun a hf => ?_
      refine pl_gs (wanted_f hf rfl rfl rfl rfl hc6) hf rfl rfl fun a hf => ?_
      refine q_ hf rfl rfl rfl (e_pick_f hf rfl hc6 rfl) fun a hf => ?_
      refine q_ hf rfl rfl rfl (e_assign hf rfl) fun a hf => ?_
      refine pl_nil ?_
      obtain rfl := some_inj h5
      refine then_n ?_
      exact ⟨false, rfl, hf.keep ⟨rfl, trivial⟩, hM.pick [] rfl⟩
  · rintro a w9 ⟨t2, rfl, hf, hM⟩
    try dsimp only at h
    refine wp_ret ?_
    obtain rfl := some_inj h
    exact leave1 hf rfl rfl ⟨rfl, hM.fin⟩

set_option maxRecDepth 100000 in
set_option maxHeartbeats 4000000 in
theorem r_spec_l11Cell (C : Cx) (c1 : UInt8) (r : Bool) (h : m_spec_l11Cell c1 = some r) :
    Calls Tryz.prog 83 #[vB (c1)] C.w0 fun e w => e = .returned (.bool (r)) ∧ Mem C w [] [] := by
  have hM := Mem.begin C [] trivial
  refine enter Tryz.func83 rfl Tryz.ntmps83 rfl fun a hf => ?_
  unfold m_spec_l11Cell at h
  refine wp_seq ?_
  refine region_pl ?_
  refine q_ hf rfl rfl rfl (e_assign hf rfl) fun a hf => ?_
  refine pl_nil ?_
  refine then_n ?_
  obtain ⟨x4, h5, h⟩ := bind_some h
  refine seq_join (fun a w => ∃ (t2 : Bool), t2 = x4 ∧ Has 13 a [(2, .bool (t2))] ∧ Mem C w [] []) ?_ ?_
  · refine region_pl ?_
    refine q_ hf rfl rfl rfl (e_move hf rfl) fun a hf => ?_
    refine q_ hf rfl rfl rfl (e_eqB hf (x := c1) (y := 46) rfl rfl) fun a hf => ?_
    refine q_ hf rfl rfl rfl (e_move hf rfl) fun a hf => ?_
    rcases cond_some h5 with ⟨hc6, h5⟩ | ⟨hc6, h5⟩
    · refine pl_gs (wanted_f hf rfl rfl rfl rfl hc6) hf rfl rfl fun a hf => ?_
      refine pl_gs (wanted_f hf rfl rfl rfl rfl hc6) hf rfl rfl fun a hf => ?_
      refine q_ hf rfl rfl rfl (e_pick_t hf rfl hc6 rfl) fun a hf => ?_
      refine q_ hf rfl rfl rfl (e_move hf rfl) fun a hf => ?_
      refine pl_gs (wanted_f hf rfl rfl rfl rfl rfl) hf rfl rfl fun a hf => ?_
      refine pl_gs (wanted_f hf rfl rfl rfl rfl rfl) hf rfl rfl fun a hf => ?_
      refine q_ hf rfl rfl rfl (e_pick_t hf rfl rfl rfl) fun a hf => ?_
      refine q_ hf rfl rfl rfl (e_assign hf rfl) fun a hf => ?_
      refine pl_nil ?_
      obtain rfl := some_inj h5
      refine then_n ?_
      exact ⟨true, rfl, hf.keep ⟨rfl, trivial⟩, hM.pick [] rfl⟩
    · refine gq (wanted_t hf rfl rfl rfl rfl hc6) hf rfl rfl (e_move hf rfl) fun a hf => ?_
      obtain ⟨y8, hz9, h5⟩ := bind_some h5
      refine pl_gl (wanted_t hf rfl rfl rfl rfl hc6) hf rfl rfl (w_call hf Tryz.call131 rfl (r_spec_l01Small ⟨_, Sh C _ _, none_, hM.sh_lt, none_not, C.G, hM.g_lt, g_none, hM.tabs⟩ c1 _ hz9) ?_)
      rintro _ w10 ⟨rfl, hM2⟩
      obtain ⟨hM, hx11, hup12⟩ := hM.back hM2
      dsimp only [List.cons_append, List.nil_append] at hM hup12
      clear hM2
      refine ⟨_, rfl, fun a hf => ?_⟩
      refine q_ hf rfl rfl rfl (e_pick_f hf rfl hc6 rfl) fun a hf => ?_
      refine q_ hf rfl rfl rfl (e_move hf rfl) fun a hf => ?_
      rcases cond_some h5 with ⟨hc13, h5⟩ | ⟨hc13, h5⟩
      · refine pl_gs (wanted_f hf rfl rfl rfl rfl hc13) hf rfl rfl fun a hf => ?_
        refine pl_gs (wanted_f hf rfl rfl rfl rfl hc13) hf rfl rfl fun a hf => ?_
        refine q_ hf rfl rfl rfl (e_pick_t hf rfl hc13 rfl) fun a hf => ?_
        refine q_ hf rfl rfl rfl (e_assign hf rfl) fun a hf => ?_
        refine pl_nil ?_
        obtain rfl := some_inj h5
        refine then_n ?_
        exact ⟨true, rfl, hf.keep ⟨rfl, trivial⟩, hM.pick [] rfl⟩
      · refine gq (wanted_t hf rfl rfl rfl rfl hc13) hf rfl rfl (e_move hf rfl) fun a hf => ?_
        obtain ⟨y15, hz16, h5⟩ := bind_some h5
        refine pl_gl (wanted_t hf rfl rfl rfl rfl hc13) hf rfl rfl (w_call hf Tryz.call132 rfl (r_spec_l03Capital ⟨_, Sh C _ _, none_, hM.sh_lt, none_not, C.G, hM.g_lt, g_none, hM.tabs⟩ c1 _ hz16) ?_)
        rintro _ w17 ⟨rfl, hM2⟩
        obtain ⟨hM, hx18, hup19⟩ := hM.back hM2
        dsimp only [List.cons_append, List.nil_append] at hM hup19
        clear hM2
        refine ⟨_, rfl, fun a hf => ?_⟩
        refine q_ hf rfl rfl rfl (e_pick_f hf rfl hc13 rfl) fun a hf => ?_
        refine q_ hf rfl rfl rfl (e_assign hf rfl) fun a hf => ?_
        refine pl_nil ?_
        obtain rfl := some_inj h5
        refine then_n ?_
        exact ⟨y15, rfl, hf.keep ⟨rfl, trivial⟩, hM.pick [] rfl⟩
  · rintro a w21 ⟨t2, rfl, hf, hM⟩
    try dsimp only at h
    refine wp_ret ?_
    obtain rfl := some_inj h
    exact leave1 hf rfl rfl ⟨rfl, hM.fin⟩

set_option maxRecDepth 100000 in
set_option maxHeartbeats 4000000 in
theorem r_spec_l11Premium (C : Cx) (c1 : UInt8) (r : Bool) (h : m_spec_l11Premium c1 = some r) :
    Calls Tryz.prog 84 #[vB (c1)] C.w0 fun e w => e = .returned (.bool (r)) ∧ Mem C w [] [] := by
  have hM := Mem.begin C [] trivial
  refine enter Tryz.func84 rfl Tryz.ntmps84 rfl fun a hf => ?_
  unfold m_spec_l11Premium at h
  refine wp_seq ?_
  refine region_pl ?_
  refine q_ hf rfl rfl rfl (e_assign hf rfl) fun a hf => ?_
  refine pl_nil ?_
  refine then_n ?_
  obtain ⟨x4, h5, h⟩ := bind_some h
  refine seq_join (fun a w => ∃ (t2 : Bool), t2 = x4 ∧ Has 21 a [(2, .bool (t2))] ∧ Mem C w [] []) ?_ ?_
  · refine region_pl ?_
    refine q_ hf rfl rfl rfl (e_move hf rfl) fun a hf => ?_
    refine q_ hf rfl rfl rfl (e_eqB hf (x := c1) (y := 46) rfl rfl) fun a hf => ?_
    refine q_ hf rfl rfl rfl (e_move hf rfl) fun a hf => ?_
    rcases cond_some h5 with ⟨hc6, h5⟩ | ⟨hc6, h5⟩
    · refine pl_gs (wanted_f hf rfl rfl rfl rfl hc6) hf rfl rfl fun a hf => ?_
      refine pl_gs (wanted_f hf rfl rfl rfl rfl hc6) hf rfl rfl fun a hf => ?_
      refine q_ hf rfl rfl rfl (e_pick_t hf rfl hc6 rfl) fun a hf => ?_
      refine q_ hf rfl rfl rfl (e_move hf rfl) fun a hf => ?_
      refine pl_gs (wanted_f hf rfl rfl rfl rfl rfl) hf rfl rfl fun a hf => ?_
      refine pl_gs (wanted_f hf rfl rfl rfl rfl rfl) hf rfl rfl fun a hf => ?_
      refine q_ hf rfl rfl rfl (e_pick_t hf rfl rfl rfl) fun a hf => ?_
      refine q_ hf rfl rfl rfl (e_move hf rfl) fun a hf => ?_
      refine pl_gs (wanted_f hf rfl rfl rfl rfl rfl) hf rfl rfl fun a hf => ?_
      refine pl_gs (wanted_f hf rfl rfl rfl rfl rfl) hf rfl rfl fun a hf => ?_
      refine q_ hf rfl rfl rfl (e_pick_t hf rfl rfl rfl) fun a hf => ?_
      refine q_ hf rfl rfl rfl (e_move hf rfl) fun a hf => ?_
      refine pl_gs (wanted_f hf rfl rfl rfl rfl rfl) hf rfl rfl fun a hf => ?_
      refine pl_gs (wanted_f hf rfl rfl rfl rfl rfl) hf rfl rfl fun a hf => ?_
      refine q_ hf rfl rfl rfl (e_pick_t hf rfl rfl rfl) fun a hf => ?_
      refine q_ hf rfl rfl rfl (e_assign hf rfl) fun a hf => ?_
      refine pl_nil ?_
      obtain rfl := some_inj h5
      refine then_n ?_
      exact ⟨true, rfl, hf.keep ⟨rfl, trivial⟩, hM.pick [] rfl⟩
    · refine gq (wanted_t hf rfl rfl rfl rfl hc6) hf rfl rfl (e_move hf rfl) fun a hf => ?_
      refine gq (wanted_t hf rfl rfl rfl rfl hc6) hf rfl rfl (e_eqB hf (x := c1) (y := 50) rfl rfl) fun a hf => ?_
      refine q_ hf rfl rfl rfl (e_pick_f hf rfl hc6 rfl) fun a hf => ?_
      refine q_ hf rfl rfl rfl (e_move hf rfl) fun a hf => ?_
      rcases cond_some h5 with ⟨hc8, h5⟩ | ⟨hc8, h5⟩
      · refine pl_gs (wanted_f hf rfl rfl rfl rfl hc8) hf rfl rfl fun a hf => ?_
        refine pl_gs (wanted_f hf rfl rfl rfl rfl hc8) hf rfl rfl fun a hf => ?_
        refine q_ hf rfl rfl rfl (e_pick_t hf rfl hc8 rfl) fun a hf => ?_
        refine q_ hf rfl rfl rfl (e_move hf rfl) fun a hf => ?_
        refine pl_gs (wanted_f hf rfl rfl rfl rfl rfl) hf rfl rfl fun a hf => ?_
        refine pl_gs (wanted_f hf rfl rfl rfl rfl rfl) hf rfl rfl fun a hf => ?_
        refine q_ hf rfl rfl rfl (e_pick_t hf rfl rfl rfl) fun a hf => ?_
        refine q_ hf rfl rfl rfl (e_move hf rfl) fun a hf => ?_
        refine pl_gs (wanted_f hf rfl rfl rfl rfl rfl) hf rfl rfl fun a hf => ?_
        refine pl_gs (wanted_f hf rfl rfl rfl rfl rfl) hf rfl rfl fun a hf => ?_
        refine q_ hf rfl rfl rfl (e_pick_t hf rfl rfl rfl) fun a hf => ?_
        refine q_ hf rfl rfl rfl (e_assign hf rfl) fun a hf => ?_
        refine pl_nil ?_
        obtain rfl := some_inj h5
        refine then_n ?_
        exact ⟨true, rfl, hf.keep ⟨rfl, trivial⟩, hM.pick [] rfl⟩
      · refine gq (wanted_t hf rfl rfl rfl rfl hc8) hf rfl rfl (e_move hf rfl) fun a hf => ?_
        refine gq (wanted_t hf rfl rfl rfl rfl hc8) hf rfl rfl (e_eqB hf (x := c1) (y := 51) rfl rfl) fun a hf => ?_
        refine q_ hf rfl rfl rfl (e_pick_f hf rfl hc8 rfl) fun a hf => ?_
        refine q_ hf rfl rfl rfl (e_move hf rfl) fun a hf => ?_
        rcases cond_some h5 with ⟨hc10, h5⟩ | ⟨hc10, h5⟩
        · refine pl_gs (wanted_f hf rfl rfl rfl rfl hc10) hf rfl rfl fun a hf => ?_
          refine pl_gs (wanted_f hf rfl rfl rfl rfl hc10) hf rfl rfl fun a hf => ?_
          refine q_ hf rfl rfl rfl (e_pick_t hf rfl hc10 rfl) fun a hf => ?_
          refine q_ hf rfl rfl rfl (e_move hf rfl) fun a hf => ?_
          refine pl_gs (wanted_f hf rfl rfl rfl rfl rfl) hf rfl rfl fun a hf => ?_
          refine pl_gs (wanted_f hf rfl rfl rfl rfl rfl) hf rfl rfl fun a hf => ?_
          refine q_ hf rfl rfl rfl (e_pick_t hf rfl rfl rfl) fun a hf => ?_
          refine q_ hf rfl rfl rfl (e_assign hf rfl) fun a hf => ?_
          refine pl_nil ?_
          obtain rfl := some_inj h5
          refine then_n ?_
          exact ⟨true, rfl, hf.keep ⟨rfl, trivial⟩, hM.pick [] rfl⟩
        · refine gq (wanted_t hf rfl rfl rfl rfl hc10) hf rfl rfl (e_move hf rfl) fun a hf => ?_
          refine gq (wanted_t hf rfl rfl rfl rfl hc10) hf rfl rfl (e_eqB hf (x := c1) (y := 100) rfl rfl) fun a hf => ?_
          refine q_ hf rfl rfl rfl (e_pick_f hf rfl hc10 rfl) fun a hf => ?_
          refine q_ hf rfl rfl rfl (e_move hf rfl) fun a hf => ?_
          rcases cond_some h5 with ⟨hc12, h5⟩ | ⟨hc12, h5⟩
          · refine pl_gs (wanted_f hf rfl rfl rfl rfl hc12) hf rfl rfl fun a hf => ?_
            refine pl_gs (wanted_f hf rfl rfl rfl rfl hc12) hf rfl rfl fun a hf => ?_
            refine q_ hf rfl rfl rfl (e_pick_t hf rfl hc12 rfl) fun a hf => ?_
            refine q_ hf rfl rfl rfl (e_assign hf rfl) fun a hf => ?_
            refine pl_nil ?_
            obtain rfl := some_inj h5
            refine then_n ?_
            exact ⟨true, rfl, hf.keep ⟨rfl, trivial⟩, hM.pick [] rfl⟩
          · refine gq (wanted_t hf rfl rfl rfl rfl hc12) hf rfl rfl (e_move hf rfl) fun a hf => ?_
            refine gq (wanted_t hf rfl rfl rfl rfl hc12) hf rfl rfl (e_eqB hf (x := c1) (y := 116) rfl rfl) fun a hf => ?_
            refine q_ hf rfl rfl rfl (e_pick_f hf rfl hc12 rfl) fun a hf => ?_
            refine q_ hf rfl rfl rfl (e_assign hf rfl) fun a hf => ?_
            refine pl_nil ?_
            obtain rfl := some_inj h5
            refine then_n ?_
            exact ⟨(c1 == 116), rfl, hf.keep ⟨rfl, trivial⟩, hM.pick [] rfl⟩
  · rintro a w15 ⟨t2, rfl, hf, hM⟩
    try dsimp only at h
    refine wp_ret ?_
    obtain rfl := some_inj h
    exact leave1 hf rfl rfl ⟨rfl, hM.fin⟩

set_option maxRecDepth 100000 in
set_option maxHeartbeats 4000000 in
theorem r_spec_l11Ok (C : Cx) (b1 : Board) (b2 : Nat) (o3 : Nat) (hp4 : (ptrRep BoardRep).R C.w0 C.S0 b1 [vP b2 o3]) (r : Bool) (h : m_spec_l11Ok b1 = some r) :
    Calls Tryz.prog 39 #[vP b2 (o3)] C.w0 fun e w => e = .returned (.bool (r)) ∧ Mem C w [] [] := by
  have hM := Mem.begin C [.dat (ptrRep BoardRep) b1 [vP b2 o3]] ⟨hp4, trivial⟩
  refine enter Tryz.func39 rfl Tryz.ntmps39 rfl fun a hf => ?_
  unfold m_spec_l11Ok at h
  refine wp_seq ?_
  refine region_pl ?_
  refine q_ hf rfl rfl rfl (e_assign hf rfl) fun a hf => ?_
  refine pl_nil ?_
  refine then_n ?_
  refine wp_seq ?_
  obtain ⟨x7, h8, h⟩ := bind_some h
  refine seq_join (fun a w => ∃ (t5 : Bool), t5 = x7 ∧ Has 71 a [(0, vP b2 (o3)), (43, .bool (t5))] ∧ Mem C w [] [.dat (ptrRep BoardRep) b1 [vP b2 o3]]) ?_ ?_
  · obtain ⟨w9, hw⟩ : ∃ x, x = C.w0.drew := ⟨_, rfl⟩
    refine region_pi (.q 0 (.q 1 (.q 2 (.q 3 (.l 4 (.q 5 (.q 6 (.q 7 (.q 8 (.q 9 (.q 10 (.q 11 (.q 12 (.q 13 (.q 14 (.q 15 (.q 16 (.q 17 (.q 18 (.q 19 (.q 20 (.q 21 (.q 22 (.q 23 (.q 24 (.q 25 (.q 26 (.q 27 (.q 28 (.q 29 (.q 30 (.q 31 (.q 32 (.q 33 (.q 34 (.q 35 (.q 36 (.q 37 (.q 38 (.q 39 (.nil))))))))))))))))))))))))))))))))))))))))) (Ext w9) rfl (by kernel_rfl) ?_
    have hM := hM.drew
    rw [← hw] at hM ⊢
    clear hw
    refine pi_q hf rfl rfl rfl rfl (Ext.refl _) (e_move hf rfl) fun a hf => ?_
    refine pi_q hf rfl rfl rfl rfl (Ext.refl _) (e_nil hf rfl) fun a hf => ?_
    obtain ⟨_, hr10, hM⟩ := hM.deref (hM.dat (k := 0) rfl)
    obtain ⟨rfl, hv11, hv12, hv13⟩ := BoardRep_open hr10
    refine pi_q hf rfl rfl rfl rfl (Ext.refl _) (e_field hf rfl Tryz.underlying28 rfl Tryz.sizeOf2 (o' := o3 + 0) rfl) fun a hf => ?_
    refine pi_q hf rfl rfl rfl rfl (Ext.refl _) (e_load1 hf rfl Tryz.isAgg2 (hM.litCell (k := 0) (j := 0) rfl rfl rfl)) fun a hf => ?_
    refine pi_one ?_
    obtain ⟨y14, hz15, h8⟩ := bind_some h8
    refine pi_l hf rfl rfl rfl rfl (w_call hf Tryz.call82 rfl (r_spec_l11Size ⟨_, Sh C _ _, none_, hM.sh_lt, none_not, C.G, hM.g_lt, g_none, hM.tabs⟩ b1.Size hv11 _ hz15) ?_)
    rintro _ w16 ⟨rfl, hM2⟩
    obtain ⟨hM, hx17, hup18⟩ := hM.back hM2
    dsimp only [List.cons_append, List.nil_append] at hM hup18
    clear hM2
    refine ⟨_, rfl, Ext w16, fun _ h => Ext.trans hx17 h, Ext.refl _, fun a hf => ?_⟩
    refine pi_q hf rfl rfl rfl rfl (Ext.refl _) (e_not hf rfl) fun a hf => ?_
    refine pi_q hf rfl rfl rfl rfl (Ext.refl _) (e_move hf rfl) fun a hf => ?_
    rcases cond_some h8 with ⟨hc19, h8⟩ | ⟨hc19, h8⟩
    · refine pi_gs hf rfl (wanted_f hf rfl rfl rfl rfl hc19) rfl rfl (Ext.refl _) fun a hf => ?_
      refine pi_gs hf rfl (wanted_f hf rfl rfl rfl rfl hc19) rfl rfl (Ext.refl _) fun a hf => ?_
      refine pi_gs hf rfl (wanted_f hf rfl rfl rfl rfl hc19) rfl rfl (Ext.refl _) fun a hf => ?_
      refine pi_gs hf rfl (wanted_f hf rfl rfl rfl rfl hc19) rfl rfl (Ext.refl _) fun a hf => ?_
      refine pi_gs hf rfl (wanted_f hf rfl rfl rfl rfl hc19) rfl rfl (Ext.refl _) fun a hf => ?_
      refine pi_gs hf rfl (wanted_f hf rfl rfl rfl rfl hc19) rfl rfl (Ext.refl _) fun a hf => ?_
      refine pi_gs hf rfl (wanted_f hf rfl rfl rfl rfl hc19) rfl rfl (Ext.refl _) fun a hf => ?_
      refine pi_gs hf rfl (wanted_f hf rfl rfl rfl rfl hc19) rfl rfl (Ext.refl _) fun a hf => ?_
      refine pi_gs hf rfl (wanted_f hf rfl rfl rfl rfl hc19) rfl rfl (Ext.refl _) fun a hf => ?_
      refine pi_gs hf rfl (wanted_f hf rfl rfl rfl rfl hc19) rfl rfl (Ext.refl _) fun a hf => ?_
      refine pi_gs hf rfl (wanted_f hf rfl rfl rfl rfl hc19) rfl rfl (Ext.refl _) fun a hf => ?_
      refine pi_gs hf rfl (wanted_f hf rfl rfl rfl rfl hc19) rfl rfl (Ext.refl _) fun a hf => ?_
      refine pi_gs hf rfl (wanted_f hf rfl rfl rfl rfl hc19) rfl rfl (Ext.refl _) fun a hf => ?_
      refine pi_gs hf rfl (wanted_f hf rfl rfl rfl rfl hc19) rfl rfl (Ext.refl _) fun a hf => ?_
      refine pi_gs hf rfl (wanted_f hf rfl rfl rfl rfl hc19) rfl rfl (Ext.refl _) fun a hf => ?_
      refine pi_q hf rfl rfl rfl rfl (Ext.refl _) (e_pick_t hf rfl hc19 rfl) fun a hf => ?_
      refine pi_q hf rfl rfl rfl rfl (Ext.refl _) (e_move hf rfl) fun a hf => ?_
      refine pi_gs hf rfl (wanted_f hf rfl rfl rfl rfl rfl) rfl rfl (Ext.refl _) fun a hf => ?_
      refine pi_gs hf rfl (wanted_f hf rfl rfl rfl rfl rfl) rfl rfl (Ext.refl _) fun a hf => ?_
      refine pi_gs hf rfl (wanted_f hf rfl rfl rfl rfl rfl) rfl rfl (Ext.refl _) fun a hf => ?_
      refine pi_gs hf rfl (wanted_f hf rfl rfl rfl rfl rfl) rfl rfl (Ext.refl _) fun a hf => ?_
      refine pi_gs hf rfl (wanted_f hf rfl rfl rfl rfl rfl) rfl rfl (Ext.refl _) fun a hf => ?_
      refine pi_gs hf rfl (wanted_f hf rfl rfl rfl rfl rfl) rfl rfl (Ext.refl _) fun a hf => ?_
      refine pi_gs hf rfl (wanted_f hf rfl rfl rfl rfl rfl) rfl rfl (Ext.refl _) fun a hf => ?_
      refine pi_gs hf rfl (wanted_f hf rfl rfl rfl rfl rfl) rfl rfl (Ext.refl _) fun a hf => ?_
      refine pi_gs hf rfl (wanted_f hf rfl rfl rfl rfl rfl) rfl rfl (Ext.refl _) fun a hf => ?_
      refine pi_gs hf rfl (wanted_f hf rfl rfl rfl rfl rfl) rfl rfl (Ext.refl _) fun a hf => ?_
      refine pi_gs hf rfl (wanted_f hf rfl rfl rfl rfl rfl) rfl rfl (Ext.refl _) fun a hf => ?_
      refine pi_gs hf rfl (wanted_f hf rfl rfl rfl rfl rfl) rfl rfl (Ext.refl _) fun a hf => ?_
      refine pi_gs hf rfl (wanted_f hf rfl rfl rfl rfl rfl) rfl rfl (Ext.refl _) fun a hf => ?_
      refine pi_gs hf rfl (wanted_f hf rfl rfl rfl rfl rfl) rfl rfl (Ext.refl _) fun a hf => ?_
      refine pi_gs hf rfl (wanted_f hf rfl rfl rfl rfl rfl) rfl rfl (Ext.refl _) fun a hf => ?_
      refine pi_q hf rfl rfl rfl rfl (Ext.refl _) (e_pick_t hf rfl rfl rfl) fun a hf => ?_
      refine pi_nil ?_
      obtain rfl := some_inj h8
      refine then_n ?_
      exact ⟨true, rfl, hf.keep ⟨rfl, rfl, trivial⟩, hM.pick [1] rfl⟩
    · refine pi_gq hf rfl (wanted_t hf rfl rfl rfl rfl hc19) rfl rfl (Ext.refl _) (e_move hf rfl) fun a hf => ?_
      refine pi_gq hf rfl (wanted_t hf rfl rfl rfl rfl hc19) rfl rfl (Ext.refl _) (e_nil hf rfl) fun a hf => ?_
      refine pi_gq hf rfl (wanted_t hf rfl rfl rfl rfl hc19) rfl rfl (Ext.refl _) (e_field hf rfl Tryz.underlying28 rfl Tryz.sizeOf9 (o' := o3 + 1) rfl) fun a hf => ?_
      refine pi_gq hf rfl (wanted_t hf rfl rfl rfl rfl hc19) rfl rfl (Ext.refl _) (e_load1 hf rfl Tryz.isAgg9 (hM.litCell (k := 0) (j := 1) rfl rfl rfl)) fun a hf => ?_
      refine pi_gq hf rfl (wanted_t hf rfl rfl rfl rfl hc19) rfl rfl (Ext.refl _) (e_lenS hf (x := b1.Premium) rfl Tryz.underlying9) fun a hf => ?_
      refine pi_gq hf rfl (wanted_t hf rfl rfl rfl rfl hc19) rfl rfl (Ext.refl _) (e_move hf rfl) fun a hf => ?_
      refine pi_gq hf rfl (wanted_t hf rfl rfl rfl rfl hc19) rfl rfl (Ext.refl _) (e_nil hf rfl) fun a hf => ?_
      refine pi_gq hf rfl (wanted_t hf rfl rfl rfl rfl hc19) rfl rfl (Ext.refl _) (e_field hf rfl Tryz.underlying28 rfl Tryz.sizeOf2 (o' := o3 + 0) rfl) fun a hf => ?_
      refine pi_gq hf rfl (wanted_t hf rfl rfl rfl rfl hc19) rfl rfl (Ext.refl _) (e_load1 hf rfl Tryz.isAgg2 (hM.litCell (k := 0) (j := 0) rfl rfl rfl)) fun a hf => ?_
      refine pi_gq hf rfl (wanted_t hf rfl rfl rfl rfl hc19) rfl rfl (Ext.refl _) (e_move hf rfl) fun a hf => ?_
      refine pi_gq hf rfl (wanted_t hf rfl rfl rfl rfl hc19) rfl rfl (Ext.refl _) (e_nil hf rfl) fun a hf => ?_
      refine pi_gq hf rfl (wanted_t hf rfl rfl rfl rfl hc19) rfl rfl (Ext.refl _) (e_field hf rfl Tryz.underlying28 rfl Tryz.sizeOf2 (o' := o3 + 0) rfl) fun a hf => ?_
      refine pi_gq hf rfl (wanted_t hf rfl rfl rfl rfl hc19) rfl rfl (Ext.refl _) (e_load1 hf rfl Tryz.isAgg2 (hM.litCell (k := 0) (j := 0) rfl rfl rfl)) fun a hf => ?_
      obtain ⟨z21, hz22, h8⟩ := bind_some h8
      refine pi_gq hf rfl (wanted_t hf rfl rfl rfl rfl hc19) rfl rfl (Ext.refl _) (e_mul hf rfl rfl hz22) fun a hf => ?_
      refine pi_gq hf rfl (wanted_t hf rfl rfl rfl rfl hc19) rfl rfl (Ext.refl _) (e_ne hf (x := (b1.Premium.length : Int)) (y := z21) rfl rfl) fun a hf => ?_
      refine pi_q hf rfl rfl rfl rfl (Ext.refl _) (e_pick_f hf rfl hc19 rfl) fun a hf => ?_
      refine pi_q hf rfl rfl rfl rfl (Ext.refl _) (e_move hf rfl) fun a hf => ?_
      rcases cond_some h8 with ⟨hc23, h8⟩ | ⟨hc23, h8⟩
      · refine pi_gs hf rfl (wanted_f hf rfl rfl rfl rfl hc23) rfl rfl (Ext.refl _) fun a hf => ?_
        refine pi_gs hf rfl (wanted_f hf rfl rfl rfl rfl hc23) rfl rfl (Ext.refl _) fun a hf => ?_
        refine pi_gs hf rfl (wanted_f hf rfl rfl rfl rfl hc23) rfl rfl (Ext.refl _) fun a hf => ?_
        refine pi_gs hf rfl (wanted_f hf rfl rfl rfl rfl hc23) rfl rfl (Ext.refl _) fun a hf => ?_
        refine pi_gs hf rfl (wanted_f hf rfl rfl rfl rfl hc23) rfl rfl (Ext.refl _) fun a hf => ?_
        refine pi_gs hf rfl (wanted_f hf rfl rfl rfl rfl hc23) rfl rfl (Ext.refl _) fun a hf => ?_
        refine pi_gs hf rfl (wanted_f hf rfl rfl rfl rfl hc23) rfl rfl (Ext.refl _) fun a hf => ?_
        refine pi_gs hf rfl (wanted_f hf rfl rfl rfl rfl hc23) rfl rfl (Ext.refl _) fun a hf => ?_
        refine pi_gs hf rfl (wanted_f hf rfl rfl rfl rfl hc23) rfl rfl (Ext.refl _) fun a hf => ?_
        refine pi_gs hf rfl (wanted_f hf rfl rfl rfl rfl hc23) rfl rfl (Ext.refl _) fun a hf => ?_
        refine pi_gs hf rfl (wanted_f hf rfl rfl rfl rfl hc23) rfl rfl (Ext.refl _) fun a hf => ?_
        refine pi_gs hf rfl (wanted_f hf rfl rfl rfl rfl hc23) rfl rfl (Ext.refl _) fun a hf => ?_
        refine pi_gs hf rfl (wanted_f hf rfl rfl rfl rfl hc23) rfl rfl (Ext.refl _) fun a hf => ?_
        refine pi_gs hf rfl (wanted_f hf rfl rfl rfl rfl hc23) rfl rfl (Ext.refl _) fun a hf => ?_
        refine pi_gs hf rfl (wanted_f hf rfl rfl rfl rfl hc23) rfl rfl (Ext.refl _) fun a hf => ?_
        refine pi_q hf rfl rfl rfl rfl (Ext.refl _) (e_pick_t hf rfl hc23 rfl) fun a hf => ?_
        refine pi_nil ?_
        obtain rfl := some_inj h8
        refine then_n ?_
        exact ⟨true, rfl, hf.keep ⟨rfl, rfl, trivial⟩, hM.pick [1] rfl⟩
      · refine pi_gq hf rfl (wanted_t hf rfl rfl rfl rfl hc23) rfl rfl (Ext.refl _) (e_move hf rfl) fun a hf => ?_
        refine pi_gq hf rfl (wanted_t hf rfl rfl rfl rfl hc23) rfl rfl (Ext.refl _) (e_nil hf rfl) fun a hf => ?_
        refine pi_gq hf rfl (wanted_t hf rfl rfl rfl rfl hc23) rfl rfl (Ext.refl _) (e_field hf rfl Tryz.underlying28 rfl Tryz.sizeOf9 (o' := o3 + 2) rfl) fun a hf => ?_
        refine pi_gq hf rfl (wanted_t hf rfl rfl rfl rfl hc23) rfl rfl (Ext.refl _) (e_load1 hf rfl Tryz.isAgg9 (hM.litCell (k := 0) (j := 2) rfl rfl rfl)) fun a hf => ?_
        refine pi_gq hf rfl (wanted_t hf rfl rfl rfl rfl hc23) rfl rfl (Ext.refl _) (e_lenS hf (x := b1.Cells) rfl Tryz.underlying9) fun a hf => ?_
        refine pi_gq hf rfl (wanted_t hf rfl rfl rfl rfl hc23) rfl rfl (Ext.refl _) (e_move hf rfl) fun a hf => ?_
        refine pi_gq hf rfl (wanted_t hf rfl rfl rfl rfl hc23) rfl rfl (Ext.refl _) (e_nil hf rfl) fun a hf => ?_
        refine pi_gq hf rfl (wanted_t hf rfl rfl rfl rfl hc23) rfl rfl (Ext.refl _) (e_field hf rfl Tryz.underlying28 rfl Tryz.sizeOf2 (o' := o3 + 0) rfl) fun a hf => ?_
        refine pi_gq hf rfl (wanted_t hf rfl rfl rfl rfl hc23) rfl rfl (Ext.refl _) (e_load1 hf rfl Tryz.isAgg2 (hM.litCell (k := 0) (j := 0) rfl rfl rfl)) fun a hf => ?_
        refine pi_gq hf rfl (wanted_t hf rfl rfl rfl rfl hc23) rfl rfl (Ext.refl _) (e_move hf rfl) fun a hf => ?_
        refine pi_gq hf rfl (wanted_t hf rfl rfl rfl rfl hc23) rfl rfl (Ext.refl _) (e_nil hf rfl) fun a hf => ?_
        refine pi_gq hf rfl (wanted_t hf rfl rfl rfl rfl hc23) rfl rfl (Ext.refl _) (e_field hf rfl Tryz.underlying28 rfl Tryz.sizeOf2 (o' := o3 + 0) rfl) fun a hf => ?_
        refine pi_gq hf rfl (wanted_t hf rfl rfl rfl rfl hc23) rfl rfl (Ext.refl _) (e_load1 hf rfl Tryz.isAgg2 (hM.litCell (k := 0) (j := 0) rfl rfl rfl)) fun a hf => ?_
        obtain ⟨z25, hz26, h8⟩ := bind_some h8
        refine pi_gq hf rfl (wanted_t hf rfl rfl rfl rfl hc23) rfl rfl (Ext.refl _) (e_mul hf rfl rfl hz26) fun a hf => ?_
        refine pi_gq hf rfl (wanted_t hf rfl rfl rfl rfl hc23) rfl rfl (Ext.refl _) (e_ne hf (x := (b1.Cells.length : Int)) (y := z25) rfl rfl) fun a hf => ?_
        refine pi_q hf rfl rfl rfl rfl (Ext.refl _) (e_pick_f hf rfl hc23 rfl) fun a hf => ?_
        refine pi_nil ?_
        obtain rfl := some_inj h8
        refine then_n ?_
        exact ⟨((b1.Cells.length : Int) != z25), rfl, hf.keep ⟨rfl, rfl, trivial⟩, hM.pick [1] rfl⟩
  · rintro a w28 ⟨t5, rfl, hf, hM⟩
    try dsimp only at h
    rcases cond_some h with ⟨hc29, h⟩ | ⟨hc29, h⟩
    · refine cond_t hf rfl hc29 ?_
      refine wp_seq ?_
      refine region_pl ?_
      refine q_ hf rfl rfl rfl (e_assign hf rfl) fun a hf => ?_
      refine pl_nil ?_
      refine then_n ?_
      refine wp_ret ?_
      refine then_r ?_
      obtain rfl := some_inj h
      exact leave1 hf rfl rfl ⟨rfl, hM.fin⟩
    · refine cond_f hf rfl hc29 ?_
      refine wp_skip ?_
      refine then_n ?_
      obtain ⟨x30, h31, h⟩ := bind_some h
      refine seq_join (fun a w => (.inl ()) = x30 ∧ Has 71 a [] ∧ Mem C w [] [.dat (ptrRep BoardRep) b1 [vP b2 o3]]) ?_ ?_
      · refine wp_seq ?_
        refine region_pl ?_
        refine q_ hf rfl rfl rfl (e_assign hf rfl) fun a hf => ?_
        refine pl_nil ?_
        refine then_n ?_
        refine wp_block ?_
        obtain ⟨x35, h36, h31⟩ := bind_some h31
        refine wp_loopM h36 (fun s a w => ∃ (n32 : Int), n32 = s ∧ Has 71 a [(0, vP b2 (o3)), (3, vI (n32))] ∧ Mem C w [] [.dat (ptrRep BoardRep) b1 [vP b2 o3]] ∧ R64 n32) ?_ ?_
        · exact ⟨0, rfl, hf.keep ⟨rfl, rfl, trivial⟩, hM.pick [0] rfl, (R64_lit rfl)⟩
        · rintro s o37 a w34 ⟨n32, rfl, hf, hM, hv33⟩ h38 hd39
          replace h38 : m_spec_l11Ok_l1 b1 n32 = some o37 := h38
          unfold m_spec_l11Ok_l1 at h38
          refine wp_seq ?_
          refine wp_seq ?_
          refine region_pl ?_
          refine q_ hf rfl rfl rfl (e_move hf rfl) fun a hf => ?_
          refine q_ hf rfl rfl rfl (e_move hf rfl) fun a hf => ?_
          refine q_ hf rfl rfl rfl (e_nil hf rfl) fun a hf => ?_
          obtain ⟨_, hr40, hM⟩ := hM.deref (hM.dat (k := 0) rfl)
          obtain ⟨rfl, hv41, hv42, hv43⟩ := BoardRep_open hr40
          refine q_ hf rfl rfl rfl (e_field hf rfl Tryz.underlying28 rfl Tryz.sizeOf9 (o' := o3 + 2) rfl) fun a hf => ?_
          refine q_ hf rfl rfl rfl (e_load1 hf rfl Tryz.isAgg9 (hM.litCell (k := 0) (j := 2) rfl rfl rfl)) fun a hf => ?_
          refine q_ hf rfl rfl rfl (e_lenS hf (x := b1.Cells) rfl Tryz.underlying9) fun a hf => ?_
          refine q_ hf rfl rfl rfl (e_lt hf (x := n32) (y := (b1.Cells.length : Int)) rfl rfl) fun a hf => ?_
          refine pl_nil ?_
          refine then_n ?_
          rcases cond_some h38 with ⟨hc44, h38⟩ | ⟨hc44, h38⟩
          · refine cond_t hf rfl hc44 ?_
            refine wp_skip ?_
            refine then_n ?_
            refine wp_seq ?_
            refine wp_block ?_
            obtain ⟨x47, h48, h38⟩ := bind_some h38
            refine seq_join (fun a w => ∃ (t45 : Bool), t45 = x47 ∧ Has 71 a [(0, vP b2 (o3)), (3, vI (n32)), (70, .bool (t45))] ∧ Mem C w [] [.lit b2 (o3) [vI (b1.Size), vS (b1.Premium), vS (b1.Cells)], .dat (ptrRep BoardRep) b1 [vP b2 o3]]) ?_ ?_
            · refine region_pl ?_
              refine q_ hf rfl rfl rfl (e_move hf rfl) fun a hf => ?_
              refine q_ hf rfl rfl rfl (e_nil hf rfl) fun a hf => ?_
              refine q_ hf rfl rfl rfl (e_field hf rfl Tryz.underlying28 rfl Tryz.sizeOf9 (o' := o3 + 2) rfl) fun a hf => ?_
              refine q_ hf rfl rfl rfl (e_load1 hf rfl Tryz.isAgg9 (hM.litCell (k := 0) (j := 2) rfl rfl rfl)) fun a hf => ?_
              refine q_ hf rfl rfl rfl (e_move hf rfl) fun a hf => ?_
              obtain ⟨c49, hz50, h48⟩ := bind_some h48
              refine q_ hf rfl rfl rfl (e_indexS hf (x := b1.Cells) rfl rfl Tryz.underlying9 hz50) fun a hf => ?_
              obtain ⟨y51, hz52, h48⟩ := bind_some h48
              refine pl_l hf rfl rfl rfl (w_call hf Tryz.call83 rfl (r_spec_l11Cell ⟨_, Sh C _ _, none_, hM.sh_lt, none_not, C.G, hM.g_lt, g_none, hM.tabs⟩ c49 _ hz52) ?_)
              rintro _ w53 ⟨rfl, hM2⟩
              obtain ⟨hM, hx54, hup55⟩ := hM.back hM2
              dsimp only [List.cons_append, List.nil_append] at hM hup55
              clear hM2
              refine ⟨_, rfl, fun a hf => ?_⟩
              refine q_ hf rfl rfl rfl (e_not hf rfl) fun a hf => ?_
              refine q_ hf rfl rfl rfl (e_move hf rfl) fun a hf => ?_
              rcases cond_some h48 with ⟨hc56, h48⟩ | ⟨hc56, h48⟩
              · refine pl_gs (wanted_f hf rfl rfl rfl rfl hc56) hf rfl rfl fun a hf => ?_
                refine pl_gs (wanted_f hf rfl rfl rfl rfl hc56) hf rfl rfl fun a hf => ?_
                refine pl_gs (wanted_f hf rfl rfl rfl rfl hc56) hf rfl rfl fun a hf => ?_
                refine pl_gs (wanted_f hf rfl rfl rfl rfl hc56) hf rfl rfl fun a hf => ?_
                refine pl_gs (wanted_f hf rfl rfl rfl rfl hc56) hf rfl rfl fun a hf => ?_
                refine pl_gs (wanted_f hf rfl rfl rfl rfl hc56) hf rfl rfl fun a hf => ?_
                refine pl_gs (wanted_f hf rfl rfl rfl rfl hc56) hf rfl rfl fun a hf => ?_
                refine pl_gs (wanted_f hf rfl rfl rfl rfl hc56) hf rfl rfl fun a hf => ?_
                refine q_ hf rfl rfl rfl (e_pick_t hf rfl hc56 rfl) fun a hf => ?_
                refine pl_nil ?_
                obtain rfl := some_inj h48
                refine then_n ?_
                exact ⟨true, rfl, hf.keep ⟨rfl, rfl, rfl, trivial⟩, hM.pick [0, 1] rfl⟩
              · refine gq (wanted_t hf rfl rfl rfl rfl hc56) hf rfl rfl (e_move hf rfl) fun a hf => ?_
                refine gq (wanted_t hf rfl rfl rfl rfl hc56) hf rfl rfl (e_nil hf rfl) fun a hf => ?_
                refine gq (wanted_t hf rfl rfl rfl rfl hc56) hf rfl rfl (e_field hf rfl Tryz.underlying28 rfl Tryz.sizeOf9 (o' := o3 + 1) rfl) fun a hf => ?_
                refine gq (wanted_t hf rfl rfl rfl rfl hc56) hf rfl rfl (e_load1 hf rfl Tryz.isAgg9 (hM.litCell (k := 0) (j := 1) rfl rfl rfl)) fun a hf => ?_
                refine gq (wanted_t hf rfl rfl rfl rfl hc56) hf rfl rfl (e_move hf rfl) fun a hf => ?_
                obtain ⟨c58, hz59, h48⟩ := bind_some h48
                refine gq (wanted_t hf rfl rfl rfl rfl hc56) hf rfl rfl (e_indexS hf (x := b1.Premium) rfl rfl Tryz.underlying9 hz59) fun a hf => ?_
                obtain ⟨y60, hz61, h48⟩ := bind_some h48
                refine pl_gl (wanted_t hf rfl rfl rfl rfl hc56) hf rfl rfl (w_call hf Tryz.call84 rfl (r_spec_l11Premium ⟨_, Sh C _ _, none_, hM.sh_lt, none_not, C.G, hM.g_lt, g_none, hM.tabs⟩ c58 _ hz61) ?_)
                rintro _ w62 ⟨rfl, hM2⟩
                obtain ⟨hM, hx63, hup64⟩ := hM.back hM2
                dsimp only [List.cons_append, List.nil_append] at hM hup64
                clear hM2
                refine ⟨_, rfl, fun a hf => ?_⟩
                refine gq (wanted_t hf rfl rfl rfl rfl hc56) hf rfl rfl (e_not hf rfl) fun a hf => ?_
                refine q_ hf rfl rfl rfl (e_pick_f hf rfl hc56 rfl) fun a hf => ?_
                refine pl_nil ?_
                obtain rfl := some_inj h48
                refine then_n ?_
                exact ⟨(!y60), rfl, hf.keep ⟨rfl, rfl, rfl, trivial⟩, hM.pick [0, 1] rfl⟩
            · rintro a w66 ⟨t45, rfl, hf, hM⟩
              try dsimp only at h38
              rcases cond_some h38 with ⟨hc67, h38⟩ | ⟨hc67, h38⟩
              · refine cond_t hf rfl hc67 ?_
                refine wp_seq ?_
                refine region_pl ?_
                refine q_ hf rfl rfl rfl (e_assign hf rfl) fun a hf => ?_
                refine pl_nil ?_
                refine then_n ?_
                refine wp_ret ?_
                refine blk_r ?_
                refine then_r ?_
                obtain rfl := some_inj h38
                obtain rfl := hd39 _ rfl
                try dsimp only at h31
                refine then_r ?_
                refine blk_r ?_
                obtain rfl := some_inj h31
                try dsimp only at h
                refine then_r ?_
                obtain rfl := some_inj h
                exact leave1 hf rfl rfl ⟨rfl, hM.fin⟩
              · refine cond_f hf rfl hc67 ?_
                refine wp_skip ?_
                refine blk_n ?_
                refine then_n ?_
                refine region_pl ?_
                refine q_ hf rfl rfl rfl (e_move hf rfl) fun a hf => ?_
                obtain ⟨z68, hz69, h38⟩ := bind_some h38
                refine q_ hf rfl rfl rfl (e_add hf rfl rfl hz69) fun a hf => ?_
                refine q_ hf rfl rfl rfl (e_assign hf rfl) fun a hf => ?_
                refine pl_nil ?_
                obtain rfl := some_inj h38
                refine then_n ⟨_, rfl, ?_⟩
                exact ⟨z68, rfl, hf.keep ⟨rfl, rfl, trivial⟩, hM.pick [1] rfl, (chk_R hz69)⟩
          · refine cond_f hf rfl hc44 ?_
            refine wp_exit ?_
            refine then_x ?_
            obtain rfl := some_inj h38
            obtain rfl := hd39 _ rfl
            try dsimp only at h31
            refine then_x ?_
            refine exit_hit ?_
            obtain rfl := some_inj h31
            refine then_n ?_
            exact ⟨rfl, hf.keep trivial, hM.pick [1] rfl⟩
      · rintro a w76 ⟨rfl, hf, hM⟩
        try dsimp only at h
        refine wp_seq ?_
        refine region_pl ?_
        refine q_ hf rfl rfl rfl (e_assign hf rfl) fun a hf => ?_
        refine pl_nil ?_
        refine then_n ?_
        refine wp_ret ?_
        obtain rfl := some_inj h
        exact leave1 hf rfl rfl ⟨rfl, hM.fin⟩

set_option maxRecDepth 100000 in
set_option maxHeartbeats 4000000 in
theorem r_spec_l03Tile (C : Cx) (c1 : UInt8) (r : Bool) (h : m_spec_l03Tile c1 = some r) :
    Calls Tryz.prog 133 #[vB (c1)] C.w0 fun e w => e = .returned (.bool (r)) ∧ Mem C w [] [] := by
  have hM := Mem.begin C [] trivial
  refine enter Tryz.func133 rfl Tryz.ntmps133 rfl fun a hf => ?_
  unfold m_spec_l03Tile at h
  refine wp_seq ?_
  refine region_pl ?_
  refine q_ hf rfl rfl rfl (e_assign hf rfl) fun a hf => ?_
  refine pl_nil ?_
  refine then_n ?_
  obtain ⟨x4, h5, h⟩ := bind_some h
  refine seq_join (fun a w => ∃ (t2 : Bool), t2 = x4 ∧ Has 9 a [(2, .bool (t2))] ∧ Mem C w [] []) ?_ ?_
  · refine region_pl ?_
    refine q_ hf rfl rfl rfl (e_move hf rfl) fun a hf => ?_
    refine q_ hf rfl rfl rfl (e_eqB hf (x := c1) (y := 63) rfl rfl) fun a hf => ?_
    refine q_ hf rfl rfl rfl (e_move hf rfl) fun a hf => ?_
    rcases cond_some h5 with ⟨hc6, h5⟩ | ⟨hc6, h5⟩
    · refine pl_gs (wanted_f hf rfl rfl rfl rfl hc6) hf rfl rfl fun a hf => ?_
      refine pl_gs (wanted_f hf rfl rfl rfl rfl hc6) hf rfl rfl fun a hf => ?_
      refine q_ hf rfl rfl rfl (e_pick_t hf rfl hc6 rfl) fun a hf => ?_
      refine q_ hf rfl rfl rfl (e_assign hf rfl) fun a hf => ?_
      refine pl_nil ?_
      obtain rfl := some_inj h5
      refine then_n ?_
      exact ⟨true, rfl, hf.keep ⟨rfl, trivial⟩, hM.pick [] rfl⟩
    · refine gq (wanted_t hf rfl rfl rfl rfl hc6) hf rfl rfl (e_move hf rfl) fun a hf => ?_
      obtain ⟨y8, hz9, h5⟩ := bind_some h5
      refine pl_gl (wanted_t hf rfl rfl rfl rfl hc6) hf rfl rfl (w_call hf Tryz.call131 rfl (r_spec_l01Small ⟨_, Sh C _ _, none_, hM.sh_lt, none_not, C.G, hM.g_lt, g_none, hM.tabs⟩ c1 _ hz9) ?_)
      rintro _ w10 ⟨rfl, hM2⟩
      obtain ⟨hM, hx11, hup12⟩ := hM.back hM2
      dsimp only [List.cons_append, List.nil_append] at hM hup12
      clear hM2
      refine ⟨_, rfl, fun a hf => ?_⟩
      refine q_ hf rfl rfl rfl (e_pick_f hf rfl hc6 rfl) fun a hf => ?_
      refine q_ hf rfl rfl rfl (e_assign hf rfl) fun a hf => ?_
      refine pl_nil ?_
      obtain rfl := some_inj h5
      refine then_n ?_
      exact ⟨y8, rfl, hf.keep ⟨rfl, trivial⟩, hM.pick [] rfl⟩
  · rintro a w14 ⟨t2, rfl, hf, hM⟩
    try dsimp only at h
    refine wp_ret ?_
    obtain rfl := some_inj h
    exact leave1 hf rfl rfl ⟨rfl, hM.fin⟩

set_option maxRecDepth 100000 in
set_option maxHeartbeats 4000000 in
theorem r_spec_l03Pile (C : Cx) (s1 : Str) (hp2 : s1.length ≤ maxLen) (r : Bool) (h : m_spec_l03Pile s1 = some r) :
    Calls Tryz.prog 85 #[vS (s1)] C.w0 fun e w => e = .returned (.bool (r)) ∧ Mem C w [] [] := by
  have hM := Mem.begin C [] trivial
  refine enter Tryz.func85 rfl Tryz.ntmps85 rfl fun a hf => ?_
  unfold m_spec_l03Pile at h
  refine wp_seq ?_
  refine region_pl ?_
  refine q_ hf rfl rfl rfl (e_assign hf rfl) fun a hf => ?_
  refine pl_nil ?_
  refine then_n ?_
  obtain ⟨x3, h4, h⟩ := bind_some h
  refine seq_join (fun a w => (.inl ()) = x3 ∧ Has 32 a [(0, vS (s1))] ∧ Mem C w [] []) ?_ ?_
  · refine wp_seq ?_
    refine region_pl ?_
    refine q_ hf rfl rfl rfl (e_assign hf rfl) fun a hf => ?_
    refine pl_nil ?_
    refine then_n ?_
    refine wp_block ?_
    obtain ⟨x8, h9, h4⟩ := bind_some h4
    refine wp_loopM h9 (fun s a w => ∃ (n5 : Int), n5 = s ∧ Has 32 a [(0, vS (s1)), (3, vI (n5))] ∧ Mem C w [] [] ∧ R64 n5) ?_ ?_
    · exact ⟨0, rfl, hf.keep ⟨rfl, rfl, trivial⟩, hM.pick [] rfl, (R64_lit rfl)⟩
    · rintro s o10 a w7 ⟨n5, rfl, hf, hM, hv6⟩ h11 hd12
      replace h11 : m_spec_l03Pile_l1 s1 n5 = some o10 := h11
      unfold m_spec_l03Pile_l1 at h11
      refine wp_seq ?_
      refine wp_seq ?_
      refine region_pl ?_
      refine q_ hf rfl rfl rfl (e_move hf rfl) fun a hf => ?_
      refine q_ hf rfl rfl rfl (e_move hf rfl) fun a hf => ?_
      refine q_ hf rfl rfl rfl (e_lenS hf (x := s1) rfl Tryz.underlying9) fun a hf => ?_
      refine q_ hf rfl rfl rfl (e_lt hf (x := n5) (y := (s1.length : Int)) rfl rfl) fun a hf => ?_
      refine pl_nil ?_
      refine then_n ?_
      rcases cond_some h11 with ⟨hc13, h11⟩ | ⟨hc13, h11⟩
      · refine cond_t hf rfl hc13 ?_
        refine wp_skip ?_
        refine then_n ?_
        refine wp_seq ?_
        refine wp_block ?_
        obtain ⟨x16, h17, h11⟩ := bind_some h11
        refine seq_join (fun a w => ∃ (t14 : Bool), t14 = x16 ∧ Has 32 a [(0, vS (s1)), (3, vI (n5)), (28, .bool (t14))] ∧ Mem C w [] []) ?_ ?_
        · obtain ⟨w18, hw⟩ : ∃ x, x = w7.drew := ⟨_, rfl⟩
          refine region_pi (.q 0 (.q 1 (.q 2 (.l 3 (.q 4 (.q 5 (.q 6 (.q 7 (.q 8 (.q 9 (.q 10 (.q 11 (.q 12 (.q 13 (.q 14 (.q 15 (.q 16 (.q 17 (.q 18 (.nil)))))))))))))))))))) (Ext w18) rfl (by kernel_rfl) ?_
          have hM := hM.drew
          rw [← hw] at hM ⊢
          clear hw
          refine pi_q hf rfl rfl rfl rfl (Ext.refl _) (e_move hf rfl) fun a hf => ?_
          refine pi_q hf rfl rfl rfl rfl (Ext.refl _) (e_move hf rfl) fun a hf => ?_
          obtain ⟨c19, hz20, h17⟩ := bind_some h17
          refine pi_q hf rfl rfl rfl rfl (Ext.refl _) (e_indexS hf (x := s1) rfl rfl Tryz.underlying9 hz20) fun a hf => ?_
          refine pi_one ?_
          obtain ⟨y21, hz22, h17⟩ := bind_some h17
          refine pi_l hf rfl rfl rfl rfl (w_call hf Tryz.call133 rfl (r_spec_l03Tile ⟨_, Sh C _ _, none_, hM.sh_lt, none_not, C.G, hM.g_lt, g_none, hM.tabs⟩ c19 _ hz22) ?_)
          rintro _ w23 ⟨rfl, hM2⟩
          obtain ⟨hM, hx24, hup25⟩ := hM.back hM2
          dsimp only [List.cons_append, List.nil_append] at hM hup25
          clear hM2
          refine ⟨_, rfl, Ext w23, fun _ h => Ext.trans hx24 h, Ext.refl _, fun a hf => ?_⟩
          refine pi_q hf rfl rfl rfl rfl (Ext.refl _) (e_not hf rfl) fun a hf => ?_
          refine pi_q hf rfl rfl rfl rfl (Ext.refl _) (e_move hf rfl) fun a hf => ?_
          rcases cond_some h17 with ⟨hc26, h17⟩ | ⟨hc26, h17⟩
          · refine pi_gs hf rfl (wanted_f hf rfl rfl rfl rfl hc26) rfl rfl (Ext.refl _) fun a hf => ?_
            refine pi_gs hf rfl (wanted_f hf rfl rfl rfl rfl hc26) rfl rfl (Ext.refl _) fun a hf => ?_
            refine pi_gs hf rfl (wanted_f hf rfl rfl rfl rfl hc26) rfl rfl (Ext.refl _) fun a hf => ?_
            refine pi_gs hf rfl (wanted_u hf rfl rfl rfl rfl) rfl rfl (Ext.refl _) fun a hf => ?_
            refine pi_gs hf rfl (wanted_u hf rfl rfl rfl rfl) rfl rfl (Ext.refl _) fun a hf => ?_
            refine pi_gs hf rfl (wanted_u hf rfl rfl rfl rfl) rfl rfl (Ext.refl _) fun a hf => ?_
            refine pi_gs hf rfl (wanted_u hf rfl rfl rfl rfl) rfl rfl (Ext.refl _) fun a hf => ?_
            refine pi_gs hf rfl (wanted_u hf rfl rfl rfl rfl) rfl rfl (Ext.refl _) fun a hf => ?_
            refine pi_gs hf rfl (wanted_u hf rfl rfl rfl rfl) rfl rfl (Ext.refl _) fun a hf => ?_
            refine pi_gs hf rfl (wanted_u hf rfl rfl rfl rfl) rfl rfl (Ext.refl _) fun a hf => ?_
            refine pi_gs hf rfl (wanted_u hf rfl rfl rfl rfl) rfl rfl (Ext.refl _) fun a hf => ?_
            refine pi_gs hf rfl (wanted_f hf rfl rfl rfl rfl hc26) rfl rfl (Ext.refl _) fun a hf => ?_
            refine pi_q hf rfl rfl rfl rfl (Ext.refl _) (e_pick_t hf rfl hc26 rfl) fun a hf => ?_
            refine pi_nil ?_
            obtain rfl := some_inj h17
            refine then_n ?_
            exact ⟨true, rfl, hf.keep ⟨rfl, rfl, rfl, trivial⟩, hM.pick [] rfl⟩
          · refine pi_gq hf rfl (wanted_t hf rfl rfl rfl rfl hc26) rfl rfl (Ext.refl _) (e_move hf rfl) fun a hf => ?_
            refine pi_gq hf rfl (wanted_t hf rfl rfl rfl rfl hc26) rfl rfl (Ext.refl _) (e_gt hf (x := n5) (y := 0) rfl rfl) fun a hf => ?_
            refine pi_gq hf rfl (wanted_t hf rfl rfl rfl rfl hc26) rfl rfl (Ext.refl _) (e_move hf rfl) fun a hf => ?_
            rcases cond_some h17 with ⟨hc28, h17⟩ | ⟨hc28, h17⟩
            · refine pi_gq hf rfl (wanted_t hf rfl rfl rfl rfl hc28) rfl rfl (Ext.refl _) (e_move hf rfl) fun a hf => ?_
              refine pi_gq hf rfl (wanted_t hf rfl rfl rfl rfl hc28) rfl rfl (Ext.refl _) (e_move hf rfl) fun a hf => ?_
              obtain ⟨c29, hz30, h17⟩ := bind_some h17
              refine pi_gq hf rfl (wanted_t hf rfl rfl rfl rfl hc28) rfl rfl (Ext.refl _) (e_indexS hf (x := s1) rfl rfl Tryz.underlying9 hz30) fun a hf => ?_
              refine pi_gq hf rfl (wanted_t hf rfl rfl rfl rfl hc28) rfl rfl (Ext.refl _) (e_move hf rfl) fun a hf => ?_
              refine pi_gq hf rfl (wanted_t hf rfl rfl rfl rfl hc28) rfl rfl (Ext.refl _) (e_move hf rfl) fun a hf => ?_
              obtain ⟨z31, hz32, h17⟩ := bind_some h17
              refine pi_gq hf rfl (wanted_t hf rfl rfl rfl rfl hc28) rfl rfl (Ext.refl _) (e_sub hf rfl rfl hz32) fun a hf => ?_
              obtain ⟨c33, hz34, h17⟩ := bind_some h17
              refine pi_gq hf rfl (wanted_t hf rfl rfl rfl rfl hc28) rfl rfl (Ext.refl _) (e_indexS hf (x := s1) rfl rfl Tryz.underlying9 hz34) fun a hf => ?_
              refine pi_gq hf rfl (wanted_t hf rfl rfl rfl rfl hc28) rfl rfl (Ext.refl _) (e_ltB hf (x := c29) (y := c33) rfl rfl) fun a hf => ?_
              refine pi_gq hf rfl (wanted_t hf rfl rfl rfl rfl hc26) rfl rfl (Ext.refl _) (e_pick_t hf rfl hc28 rfl) fun a hf => ?_
              refine pi_q hf rfl rfl rfl rfl (Ext.refl _) (e_pick_f hf rfl hc26 rfl) fun a hf => ?_
              refine pi_nil ?_
              obtain rfl := some_inj h17
              refine then_n ?_
              exact ⟨(decide (c29 < c33)), rfl, hf.keep ⟨rfl, rfl, rfl, trivial⟩, hM.pick [] rfl⟩
            · refine pi_gs hf rfl (wanted_f hf rfl rfl rfl rfl hc28) rfl rfl (Ext.refl _) fun a hf => ?_
              refine pi_gs hf rfl (wanted_f hf rfl rfl rfl rfl hc28) rfl rfl (Ext.refl _) fun a hf => ?_
              refine pi_gs hf rfl (wanted_f hf rfl rfl rfl rfl hc28) rfl rfl (Ext.refl _) fun a hf => ?_
              refine pi_gs hf rfl (wanted_f hf rfl rfl rfl rfl hc28) rfl rfl (Ext.refl _) fun a hf => ?_
              refine pi_gs hf rfl (wanted_f hf rfl rfl rfl rfl hc28) rfl rfl (Ext.refl _) fun a hf => ?_
              refine pi_gs hf rfl (wanted_f hf rfl rfl rfl rfl hc28) rfl rfl (Ext.refl _) fun a hf => ?_
              refine pi_gs hf rfl (wanted_f hf rfl rfl rfl rfl hc28) rfl rfl (Ext.refl _) fun a hf => ?_
              refine pi_gs hf rfl (wanted_f hf rfl rfl rfl rfl hc28) rfl rfl (Ext.refl _) fun a hf => ?_
              refine pi_gq hf rfl (wanted_t hf rfl rfl rfl rfl hc26) rfl rfl (Ext.refl _) (e_pick_f hf rfl hc28 rfl) fun a hf => ?_
              refine pi_q hf rfl rfl rfl rfl (Ext.refl _) (e_pick_f hf rfl hc26 rfl) fun a hf => ?_
              refine pi_nil ?_
              obtain rfl := some_inj h17
              refine then_n ?_
              exact ⟨false, rfl, hf.keep ⟨rfl, rfl, rfl, trivial⟩, hM.pick [] rfl⟩
        · rintro a w37 ⟨t14, rfl, hf, hM⟩
          try dsimp only at h11
          rcases cond_some h11 with ⟨hc38, h11⟩ | ⟨hc38, h11⟩
          · refine cond_t hf rfl hc38 ?_
            refine wp_seq ?_
            refine region_pl ?_
            refine q_ hf rfl rfl rfl (e_assign hf rfl) fun a hf => ?_
            refine pl_nil ?_
            refine then_n ?_
            refine wp_ret ?_
            refine blk_r ?_
            refine then_r ?_
            obtain rfl := some_inj h11
            obtain rfl := hd12 _ rfl
            try dsimp only at h4
            refine then_r ?_
            refine blk_r ?_
            obtain rfl := some_inj h4
            try dsimp only at h
            refine then_r ?_
            obtain rfl := some_inj h
            exact leave1 hf rfl rfl ⟨rfl, hM.fin⟩
          · refine cond_f hf rfl hc38 ?_
            refine wp_skip ?_
            refine blk_n ?_
            refine then_n ?_
            refine region_pl ?_
            refine q_ hf rfl rfl rfl (e_move hf rfl) fun a hf => ?_
            obtain ⟨z39, hz40, h11⟩ := bind_some h11
            refine q_ hf rfl rfl rfl (e_add hf rfl rfl hz40) fun a hf => ?_
            refine q_ hf rfl rfl rfl (e_assign hf rfl) fun a hf => ?_
            refine pl_nil ?_
            obtain rfl := some_inj h11
            refine then_n ⟨_, rfl, ?_⟩
            exact ⟨z39, rfl, hf.keep ⟨rfl, rfl, trivial⟩, hM.pick [] rfl, (chk_R hz40)⟩
      · refine cond_f hf rfl hc13 ?_
        refine wp_exit ?_
        refine then_x ?_
        obtain rfl := some_inj h11
        obtain rfl := hd12 _ rfl
        try dsimp only at h4
        refine then_x ?_
        refine exit_hit ?_
        obtain rfl := some_inj h4
        refine then_n ?_
        exact ⟨rfl, hf.keep ⟨rfl, trivial⟩, hM.pick [] rfl⟩
  · rintro a w47 ⟨rfl, hf, hM⟩
    try dsimp only at h
    refine wp_seq ?_
    refine region_pl ?_
    refine q_ hf rfl rfl rfl (e_move hf rfl) fun a hf => ?_
    refine q_ hf rfl rfl rfl (e_lenS hf (x := s1) rfl Tryz.underlying9) fun a hf => ?_
    refine q_ hf rfl rfl rfl (e_le hf (x := (s1.length : Int)) (y := 120) rfl rfl) fun a hf => ?_
    refine q_ hf rfl rfl rfl (e_assign hf rfl) fun a hf => ?_
    refine pl_nil ?_
    refine then_n ?_
    refine wp_ret ?_
    obtain rfl := some_inj h
    exact leave1 hf rfl rfl ⟨rfl, hM.fin⟩

set_option maxRecDepth 100000 in
set_option maxHeartbeats 4000000 in
theorem r_spec_l03Rack (C : Cx) (s1 : Str) (hp2 : s1.length ≤ maxLen) (r : Bool) (h : m_spec_l03Rack s1 = some r) :
    Calls Tryz.prog 40 #[vS (s1)] C.w0 fun e w => e = .returned (.bool (r)) ∧ Mem C w [] [] := by
  have hM := Mem.begin C [] trivial
  refine enter Tryz.func40 rfl Tryz.ntmps40 rfl fun a hf => ?_
  unfold m_spec_l03Rack at h
  refine wp_seq ?_
  refine region_pl ?_
  refine q_ hf rfl rfl rfl (e_assign hf rfl) fun a hf => ?_
  refine pl_nil ?_
  refine then_n ?_
  obtain ⟨x5, h6, h⟩ := bind_some h
  refine seq_join (fun a w => ∃ (t3 : Bool), t3 = x5 ∧ Has 10 a [(2, .bool (t3))] ∧ Mem C w [] []) ?_ ?_
  · refine region_pl ?_
    refine q_ hf rfl rfl rfl (e_move hf rfl) fun a hf => ?_
    obtain ⟨y7, hz8, h6⟩ := bind_some h6
    refine pl_l hf rfl rfl rfl (w_call hf Tryz.call85 rfl (r_spec_l03Pile ⟨_, Sh C _ _, none_, hM.sh_lt, none_not, C.G, hM.g_lt, g_none, hM.tabs⟩ s1 hp2 _ hz8) ?_)
    rintro _ w9 ⟨rfl, hM2⟩
    obtain ⟨hM, hx10, hup11⟩ := hM.back hM2
    dsimp only [List.cons_append, List.nil_append] at hM hup11
    clear hM2
    refine ⟨_, rfl, fun a hf => ?_⟩
    refine q_ hf rfl rfl rfl (e_move hf rfl) fun a hf => ?_
    rcases cond_some h6 with ⟨hc12, h6⟩ | ⟨hc12, h6⟩
    · refine gq (wanted_t hf rfl rfl rfl rfl hc12) hf rfl rfl (e_move hf rfl) fun a hf => ?_
      refine gq (wanted_t hf rfl rfl rfl rfl hc12) hf rfl rfl (e_lenS hf (x := s1) rfl Tryz.underlying9) fun a hf => ?_
      refine gq (wanted_t hf rfl rfl rfl rfl hc12) hf rfl rfl (e_le hf (x := (s1.length : Int)) (y := 7) rfl rfl) fun a hf => ?_
      refine q_ hf rfl rfl rfl (e_pick_t hf rfl hc12 rfl) fun a hf => ?_
      refine q_ hf rfl rfl rfl (e_assign hf rfl) fun a hf => ?_
      refine pl_nil ?_
      obtain rfl := some_inj h6
      refine then_n ?_
      exact ⟨(decide ((s1.length : Int) ≤ 7)), rfl, hf.keep ⟨rfl, trivial⟩, hM.pick [] rfl⟩
    · refine pl_gs (wanted_f hf rfl rfl rfl rfl hc12) hf rfl rfl fun a hf => ?_
      refine pl_gs (wanted_f hf rfl rfl rfl rfl hc12) hf rfl rfl fun a hf => ?_
      refine pl_gs (wanted_f hf rfl rfl rfl rfl hc12) hf rfl rfl fun a hf => ?_
      refine q_ hf rfl rfl rfl (e_pick_f hf rfl hc12 rfl) fun a hf => ?_
      refine q_ hf rfl rfl rfl (e_assign hf rfl) fun a hf => ?_
      refine pl_nil ?_
      obtain rfl := some_inj h6
      refine then_n ?_
      exact ⟨false, rfl, hf.keep ⟨rfl, trivial⟩, hM.pick [] rfl⟩
  · rintro a w15 ⟨t3, rfl, hf, hM⟩
    try dsimp only at h
    refine wp_ret ?_
    obtain rfl := some_inj h
    exact leave1 hf rfl rfl ⟨rfl, hM.fin⟩

set_option maxRecDepth 100000 in
set_option maxHeartbeats 4000000 in
theorem r_spec_l23Unseen (C : Cx) (s1 : Str) (hp2 : s1.length ≤ maxLen) (r : Bool) (h : m_spec_l23Unseen s1 = some r) :
    Calls Tryz.prog 41 #[vS (s1)] C.w0 fun e w => e = .returned (.bool (r)) ∧ Mem C w [] [] := by
  have hM := Mem.begin C [] trivial
  refine enter Tryz.func41 rfl Tryz.ntmps41 rfl fun a hf => ?_
  unfold m_spec_l23Unseen at h
  refine wp_seq ?_
  refine region_pl ?_
  refine q_ hf rfl rfl rfl (e_assign hf rfl) fun a hf => ?_
  refine pl_nil ?_
  refine then_n ?_
  obtain ⟨x5, h6, h⟩ := bind_some h
  refine seq_join (fun a w => ∃ (t3 : Bool), t3 = x5 ∧ Has 10 a [(2, .bool (t3))] ∧ Mem C w [] []) ?_ ?_
  · refine region_pl ?_
    refine q_ hf rfl rfl rfl (e_move hf rfl) fun a hf => ?_
    obtain ⟨y7, hz8, h6⟩ := bind_some h6
    refine pl_l hf rfl rfl rfl (w_call hf Tryz.call85 rfl (r_spec_l03Pile ⟨_, Sh C _ _, none_, hM.sh_lt, none_not, C.G, hM.g_lt, g_none, hM.tabs⟩ s1 hp2 _ hz8) ?_)
    rintro _ w9 ⟨rfl, hM2⟩
    obtain ⟨hM, hx10, hup11⟩ := hM.back hM2
    dsimp only [List.cons_append, List.nil_append] at hM hup11
    clear hM2
    refine ⟨_, rfl, fun a hf => ?_⟩
    refine q_ hf rfl rfl rfl (e_move hf rfl) fun a hf => ?_
    rcases cond_some h6 with ⟨hc12, h6⟩ | ⟨hc12, h6⟩
    · refine gq (wanted_t hf rfl rfl rfl rfl hc12) hf rfl rfl (e_move hf rfl) fun a hf => ?_
      refine gq (wanted_t hf rfl rfl rfl rfl hc12) hf rfl rfl (e_lenS hf (x := s1) rfl Tryz.underlying9) fun a hf => ?_
      obtain ⟨y13, hz14, h6⟩ := bind_some h6
      refine pl_gl (wanted_t hf rfl rfl rfl rfl hc12) hf rfl rfl (w_call hf Tryz.call86 rfl (r_spec_l00In ⟨_, Sh C _ _, none_, hM.sh_lt, none_not, C.G, hM.g_lt, g_none, hM.tabs⟩ (s1.length : Int) (R64_len hp2) 2 (R64_lit rfl) 8 (R64_lit rfl) _ hz14) ?_)
      rintro _ w15 ⟨rfl, hM2⟩
      obtain ⟨hM, hx16, hup17⟩ := hM.back hM2
      dsimp only [List.cons_append, List.nil_append] at hM hup17
      clear hM2
      refine ⟨_, rfl, fun a hf => ?_⟩
      refine q_ hf rfl rfl rfl (e_pick_t hf rfl hc12 rfl) fun a hf => ?_
      refine q_ hf rfl rfl rfl (e_assign hf rfl) fun a hf => ?_
      refine pl_nil ?_
      obtain rfl := some_inj h6
      refine then_n ?_
      exact ⟨y13, rfl, hf.keep ⟨rfl, trivial⟩, hM.pick [] rfl⟩
    · refine pl_gs (wanted_f hf rfl rfl rfl rfl hc12) hf rfl rfl fun a hf => ?_
      refine pl_gs (wanted_f hf rfl rfl rfl rfl hc12) hf rfl rfl fun a hf => ?_
      refine pl_gs (wanted_f hf rfl rfl rfl rfl hc12) hf rfl rfl fun a hf => ?_
      refine q_ hf rfl rfl rfl (e_pick_f hf rfl hc12 rfl) fun a hf => ?_
      refine q_ hf rfl rfl rfl (e_assign hf rfl) fun a hf => ?_
      refine pl_nil ?_
      obtain rfl := some_inj h6
      refine then_n ?_
      exact ⟨false, rfl, hf.keep ⟨rfl, trivial⟩, hM.pick [] rfl⟩
  · rintro a w20 ⟨t3, rfl, hf, hM⟩
    try dsimp only at h
    refine wp_ret ?_
    obtain rfl := some_inj h
    exact leave1 hf rfl rfl ⟨rfl, hM.fin⟩

set_option maxRecDepth 100000 in
set_option maxHeartbeats 4000000 in
theorem r_spec_l03Placed (C : Cx) (word1 : Str) (hp2 : word1.length ≤ maxLen) (r : Bool) (h : m_spec_l03Placed word1 = some r) :
    Calls Tryz.prog 134 #[vS (word1)] C.w0 fun e w => e = .returned (.bool (r)) ∧ Mem C w [] [] := by
  have hM := Mem.begin C [] trivial
  refine enter Tryz.func134 rfl Tryz.ntmps134 rfl fun a hf => ?_
  unfold m_spec_l03Placed at h
  refine wp_seq ?_
  refine region_pl ?_
  refine q_ hf rfl rfl rfl (e_assign hf rfl) fun a hf => ?_
  refine pl_nil ?_
  refine then_n ?_
  obtain ⟨x3, h4, h⟩ := bind_some h
  refine seq_join (fun a w => (.inl ()) = x3 ∧ Has 25 a [(0, vS (word1))] ∧ Mem C w [] []) ?_ ?_
  · refine wp_seq ?_
    refine region_pl ?_
    refine q_ hf rfl rfl rfl (e_assign hf rfl) fun a hf => ?_
    refine pl_nil ?_
    refine then_n ?_
    refine wp_block ?_
    obtain ⟨x8, h9, h4⟩ := bind_some h4
    refine wp_loopM h9 (fun s a w => ∃ (n5 : Int), n5 = s ∧ Has 25 a [(0, vS (word1)), (3, vI (n5))] ∧ Mem C w [] [] ∧ R64 n5) ?_ ?_
    · exact ⟨0, rfl, hf.keep ⟨rfl, rfl, trivial⟩, hM.pick [] rfl, (R64_lit rfl)⟩
    · rintro s o10 a w7 ⟨n5, rfl, hf, hM, hv6⟩ h11 hd12
      replace h11 : m_spec_l03Placed_l1 word1 n5 = some o10 := h11
      unfold m_spec_l03Placed_l1 at h11
      refine wp_seq ?_
      refine wp_seq ?_
      refine region_pl ?_
      refine q_ hf rfl rfl rfl (e_move hf rfl) fun a hf => ?_
      refine q_ hf rfl rfl rfl (e_move hf rfl) fun a hf => ?_
      refine q_ hf rfl rfl rfl (e_lenS hf (x := word1) rfl Tryz.underlying9) fun a hf => ?_
      refine q_ hf rfl rfl rfl (e_lt hf (x := n5) (y := (word1.length : Int)) rfl rfl) fun a hf => ?_
      refine pl_nil ?_
      refine then_n ?_
      rcases cond_some h11 with ⟨hc13, h11⟩ | ⟨hc13, h11⟩
      · refine cond_t hf rfl hc13 ?_
        refine wp_skip ?_
        refine then_n ?_
        refine wp_seq ?_
        refine wp_block ?_
        obtain ⟨x16, h17, h11⟩ := bind_some h11
        refine seq_join (fun a w => ∃ (t14 : Bool), t14 = x16 ∧ Has 25 a [(0, vS (word1)), (3, vI (n5)), (21, .bool (t14))] ∧ Mem C w [] []) ?_ ?_
        · refine region_pl ?_
          refine q_ hf rfl rfl rfl (e_move hf rfl) fun a hf => ?_
          refine q_ hf rfl rfl rfl (e_move hf rfl) fun a hf => ?_
          obtain ⟨c18, hz19, h17⟩ := bind_some h17
          refine q_ hf rfl rfl rfl (e_indexS hf (x := word1) rfl rfl Tryz.underlying9 hz19) fun a hf => ?_
          obtain ⟨y20, hz21, h17⟩ := bind_some h17
          refine pl_l hf rfl rfl rfl (w_call hf Tryz.call131 rfl (r_spec_l01Small ⟨_, Sh C _ _, none_, hM.sh_lt, none_not, C.G, hM.g_lt, g_none, hM.tabs⟩ c18 _ hz21) ?_)
          rintro _ w22 ⟨rfl, hM2⟩
          obtain ⟨hM, hx23, hup24⟩ := hM.back hM2
          dsimp only [List.cons_append, List.nil_append] at hM hup24
          clear hM2
          refine ⟨_, rfl, fun a hf => ?_⟩
          refine q_ hf rfl rfl rfl (e_not hf rfl) fun a hf => ?_
          refine q_ hf rfl rfl rfl (e_move hf rfl) fun a hf => ?_
          rcases cond_some h17 with ⟨hc25, h17⟩ | ⟨hc25, h17⟩
          · refine gq (wanted_t hf rfl rfl rfl rfl hc25) hf rfl rfl (e_move hf rfl) fun a hf => ?_
            refine gq (wanted_t hf rfl rfl rfl rfl hc25) hf rfl rfl (e_move hf rfl) fun a hf => ?_
            obtain ⟨c26, hz27, h17⟩ := bind_some h17
            refine gq (wanted_t hf rfl rfl rfl rfl hc25) hf rfl rfl (e_indexS hf (x := word1) rfl rfl Tryz.underlying9 hz27) fun a hf => ?_
            obtain ⟨y28, hz29, h17⟩ := bind_some h17
            refine pl_gl (wanted_t hf rfl rfl rfl rfl hc25) hf rfl rfl (w_call hf Tryz.call132 rfl (r_spec_l03Capital ⟨_, Sh C _ _, none_, hM.sh_lt, none_not, C.G, hM.g_lt, g_none, hM.tabs⟩ c26 _ hz29) ?_)
            rintro _ w30 ⟨rfl, hM2⟩
            obtain ⟨hM, hx31, hup32⟩ := hM.back hM2
            dsimp only [List.cons_append, List.nil_append] at hM hup32
            clear hM2
            refine ⟨_, rfl, fun a hf => ?_⟩
            refine gq (wanted_t hf rfl rfl rfl rfl hc25) hf rfl rfl (e_not hf rfl) fun a hf => ?_
            refine q_ hf rfl rfl rfl (e_pick_t hf rfl hc25 rfl) fun a hf => ?_
            refine pl_nil ?_
            obtain rfl := some_inj h17
            refine then_n ?_
            exact ⟨(!y28), rfl, hf.keep ⟨rfl, rfl, rfl, trivial⟩, hM.pick [] rfl⟩
          · refine pl_gs (wanted_f hf rfl rfl rfl rfl hc25) hf rfl rfl fun a hf => ?_
            refine pl_gs (wanted_f hf rfl rfl rfl rfl hc25) hf rfl rfl fun a hf => ?_
            refine pl_gs (wanted_f hf rfl rfl rfl rfl hc25) hf rfl rfl fun a hf => ?_
            refine pl_gs (wanted_f hf rfl rfl rfl rfl hc25) hf rfl rfl fun a hf => ?_
            refine pl_gs (wanted_f hf rfl rfl rfl rfl hc25) hf rfl rfl fun a hf => ?_
            refine q_ hf rfl rfl rfl (e_pick_f hf rfl hc25 rfl) fun a hf => ?_
            refine pl_nil ?_
            obtain rfl := some_inj h17
            refine then_n ?_
            exact ⟨false, rfl, hf.keep ⟨rfl, rfl, rfl, trivial⟩, hM.pick [] rfl⟩
        · rintro a w35 ⟨t14, rfl, hf, hM⟩
          try dsimp only at h11
          rcases cond_some h11 with ⟨hc36, h11⟩ | ⟨hc36, h11⟩
          · refine cond_t hf rfl hc36 ?_
            refine wp_seq ?_
            refine region_pl ?_
            refine q_ hf rfl rfl rfl (e_assign hf rfl) fun a hf => ?_
            refine pl_nil ?_
            refine then_n ?_
            refine wp_ret ?_
            refine blk_r ?_
            refine then_r ?_
            obtain rfl := some_inj h11
            obtain rfl := hd12 _ rfl
            try dsimp only at h4
            refine then_r ?_
            refine blk_r ?_
            obtain rfl := some_inj h4
            try dsimp only at h
            refine then_r ?_
            obtain rfl := some_inj h
            exact leave1 hf rfl rfl ⟨rfl, hM.fin⟩
          · refine cond_f hf rfl hc36 ?_
            refine wp_skip ?_
            refine blk_n ?_
            refine then_n ?_
            refine region_pl ?_
            refine q_ hf rfl rfl rfl (e_move hf rfl) fun a hf => ?_
            obtain ⟨z37, hz38, h11⟩ := bind_some h11
            refine q_ hf rfl rfl rfl (e_add hf rfl rfl hz38) fun a hf => ?_
            refine q_ hf rfl rfl rfl (e_assign hf rfl) fun a hf => ?_
            refine pl_nil ?_
            obtain rfl := some_inj h11
            refine then_n ⟨_, rfl, ?_⟩
            exact ⟨z37, rfl, hf.keep ⟨rfl, rfl, trivial⟩, hM.pick [] rfl, (chk_R hz38)⟩
      · refine cond_f hf rfl hc13 ?_
        refine wp_exit ?_
        refine then_x ?_
        obtain rfl := some_inj h11
        obtain rfl := hd12 _ rfl
        try dsimp only at h4
        refine then_x ?_
        refine exit_hit ?_
        obtain rfl := some_inj h4
        refine then_n ?_
        exact ⟨rfl, hf.keep ⟨rfl, trivial⟩, hM.pick [] rfl⟩
  · rintro a w45 ⟨rfl, hf, hM⟩
    try dsimp only at h
    refine wp_seq ?_
    refine region_pl ?_
    refine q_ hf rfl rfl rfl (e_move hf rfl) fun a hf => ?_
    refine q_ hf rfl rfl rfl (e_lenS hf (x := word1) rfl Tryz.underlying9) fun a hf => ?_
    obtain ⟨y46, hz47, h⟩ := bind_some h
    refine pl_l hf rfl rfl rfl (w_call hf Tryz.call86 rfl (r_spec_l00In ⟨_, Sh C _ _, none_, hM.sh_lt, none_not, C.G, hM.g_lt, g_none, hM.tabs⟩ (word1.length : Int) (R64_len hp2) 1 (R64_lit rfl) 12 (R64_lit rfl) _ hz47) ?_)
    rintro _ w48 ⟨rfl, hM2⟩
    obtain ⟨hM, hx49, hup50⟩ := hM.back hM2
    dsimp only [List.cons_append, List.nil_append] at hM hup50
    clear hM2
    refine ⟨_, rfl, fun a hf => ?_⟩
    refine q_ hf rfl rfl rfl (e_assign hf rfl) fun a hf => ?_
    refine pl_nil ?_
    refine then_n ?_
    refine wp_ret ?_
    obtain rfl := some_inj h
    exact leave1 hf rfl rfl ⟨rfl, hM.fin⟩

set_option maxRecDepth 100000 in
set_option maxHeartbeats 4000000 in
theorem r_spec_l12Word (C : Cx) (word1 : Str) (hp2 : word1.length ≤ maxLen) (r : Bool) (h : m_spec_l12Word word1 = some r) :
    Calls Tryz.prog 87 #[vS (word1)] C.w0 fun e w => e = .returned (.bool (r)) ∧ Mem C w [] [] := by
  have hM := Mem.begin C [] trivial
  refine enter Tryz.func87 rfl Tryz.ntmps87 rfl fun a hf => ?_
  unfold m_spec_l12Word at h
  refine wp_seq ?_
  refine region_pl ?_
  refine q_ hf rfl rfl rfl (e_assign hf rfl) fun a hf => ?_
  refine pl_nil ?_
  refine then_n ?_
  obtain ⟨x5, h6, h⟩ := bind_some h
  refine seq_join (fun a w => ∃ (t3 : Bool), t3 = x5 ∧ Has 10 a [(2, .bool (t3))] ∧ Mem C w [] []) ?_ ?_
  · refine region_pl ?_
    refine q_ hf rfl rfl rfl (e_move hf rfl) fun a hf => ?_
    refine q_ hf rfl rfl rfl (e_lenS hf (x := word1) rfl Tryz.underlying9) fun a hf => ?_
    refine q_ hf rfl rfl rfl (e_gt hf (x := (word1.length : Int)) (y := 1) rfl rfl) fun a hf => ?_
    refine q_ hf rfl rfl rfl (e_move hf rfl) fun a hf => ?_
    rcases cond_some h6 with ⟨hc7, h6⟩ | ⟨hc7, h6⟩
    · refine gq (wanted_t hf rfl rfl rfl rfl hc7) hf rfl rfl (e_move hf rfl) fun a hf => ?_
      obtain ⟨y8, hz9, h6⟩ := bind_some h6
      refine pl_gl (wanted_t hf rfl rfl rfl rfl hc7) hf rfl rfl (w_call hf Tryz.call134 rfl (r_spec_l03Placed ⟨_, Sh C _ _, none_, hM.sh_lt, none_not, C.G, hM.g_lt, g_none, hM.tabs⟩ word1 hp2 _ hz9) ?_)
      rintro _ w10 ⟨rfl, hM2⟩
      obtain ⟨hM, hx11, hup12⟩ := hM.back hM2
      dsimp only [List.cons_append, List.nil_append] at hM hup12
      clear hM2
      refine ⟨_, rfl, fun a hf => ?_⟩
      refine q_ hf rfl rfl rfl (e_pick_t hf rfl hc7 rfl) fun a hf => ?_
      refine q_ hf rfl rfl rfl (e_assign hf rfl) fun a hf => ?_
      refine pl_nil ?_
      obtain rfl := some_inj h6
      refine then_n ?_
      exact ⟨y8, rfl, hf.keep ⟨rfl, trivial⟩, hM.pick [] rfl⟩
    · refine pl_gs (wanted_f hf rfl rfl rfl rfl hc7) hf rfl rfl fun a hf => ?_
      refine pl_gs (wanted_f hf rfl rfl rfl rfl hc7) hf rfl rfl fun a hf => ?_
      refine q_ hf rfl rfl rfl (e_pick_f hf rfl hc7 rfl) fun a hf => ?_
      refine q_ hf rfl rfl rfl (e_assign hf rfl) fun a hf => ?_
      refine pl_nil ?_
      obtain rfl := some_inj h6
      refine then_n ?_
      exact ⟨false, rfl, hf.keep ⟨rfl, trivial⟩, hM.pick [] rfl⟩
  · rintro a w15 ⟨t3, rfl, hf, hM⟩
    try dsimp only at h
    refine wp_ret ?_
    obtain rfl := some_inj h
    exact leave1 hf rfl rfl ⟨rfl, hM.fin⟩

set_option maxRecDepth 100000 in
set_option maxHeartbeats 4000000 in
theorem r_spec_l11Turn (C : Cx) (size1 : Int) (hp2 : R64 size1) (s3 : Str) (hp4 : s3.length ≤ maxLen) (r : Str) (h : m_spec_l11Turn size1 s3 = some r) :
    Calls Tryz.prog 161 #[vI (size1), vS (s3)] C.w0 fun e w => e = .returned (vS (r)) ∧ Mem C w [] [] ∧ r.length ≤ maxLen := by
  have hM := Mem.begin C [] trivial
  refine enter Tryz.func161 rfl Tryz.ntmps161 rfl fun a hf => ?_
  unfold m_spec_l11Turn at h
  refine wp_seq ?_
  refine region_pl ?_
  refine q_ hf rfl rfl rfl (e_assign hf rfl) fun a hf => ?_
  refine pl_nil ?_
  refine then_n ?_
  refine wp_seq ?_
  refine region_pl ?_
  refine pl_l hf rfl rfl rfl (w_slice0 (K := byteRep) hM Tryz.underlying138 ei_5 fun b5 w6 hx7 hM a hf => ?_)
  refine q_ hf rfl rfl rfl (e_assign hf rfl) fun a hf => ?_
  refine pl_nil ?_
  refine then_n ?_
  obtain ⟨x11, h12, h⟩ := bind_some h
  refine seq_join (fun a w => ∃ (xs8 : Str) (A9 : Option Addr) (c10 : Nat), xs8 = x11 ∧ Has 31 a [(5, vL A9 (xs8) c10)] ∧ Mem C w [.row byteRep A9 c10 5 xs8 true] []) ?_ ?_
  · refine wp_seq ?_
    refine region_pl ?_
    refine q_ hf rfl rfl rfl (e_assign hf rfl) fun a hf => ?_
    refine pl_nil ?_
    refine then_n ?_
    refine wp_block ?_
    obtain ⟨x22, h23, h12⟩ := bind_some h12
    refine wp_loopM h23 (fun s a w => ∃ (xs13 : Str) (n16 : Int) (A14 : Option Addr) (c15 : Nat), (xs13, n16) = s ∧ Has 31 a [(0, vI (size1)), (1, vS (s3)), (5, vL A14 (xs13) c15), (6, vI (n16))] ∧ Mem C w [.row byteRep A14 c15 5 xs13 true] [] ∧ R64 n16) ?_ ?_
    · exact ⟨([] : Str), 0, (some ⟨b5, 0, none⟩), 0, rfl, hf.keep ⟨rfl, rfl, rfl, rfl, trivial⟩, hM.pick [] rfl, (R64_lit rfl)⟩
    · rintro s o24 a w18 ⟨xs13, n16, A14, c15, rfl, hf, hM, hv17⟩ h25 hd26
      replace h25 : m_spec_l11Turn_l1 size1 s3 xs13 n16 = some o24 := h25
      unfold m_spec_l11Turn_l1 at h25
      refine wp_seq ?_
      refine wp_seq ?_
      refine region_pl ?_
      refine q_ hf rfl rfl rfl (e_move hf rfl) fun a hf => ?_
      refine q_ hf rfl rfl rfl (e_move hf rfl) fun a hf => ?_
      refine q_ hf rfl rfl rfl (e_lt hf (x := n16) (y := size1) rfl rfl) fun a hf => ?_
      refine pl_nil ?_
      refine then_n ?_
      rcases cond_some h25 with ⟨hc27, h25⟩ | ⟨hc27, h25⟩
      · refine cond_t hf rfl hc27 ?_
        refine wp_skip ?_
        refine then_n ?_
        obtain ⟨x31, h32, h25⟩ := bind_some h25
        refine seq_join (fun a w => ∃ (xs28 : Str) (A29 : Option Addr) (c30 : Nat), xs28 = x31 ∧ Has 31 a [(0, vI (size1)), (1, vS (s3)), (5, vL A29 (xs28) c30), (6, vI (n16))] ∧ Mem C w [.row byteRep A29 c30 5 xs28 true] []) ?_ ?_
        · refine wp_block ?_
          refine wp_seq ?_
          refine region_pl ?_
          refine q_ hf rfl rfl rfl (e_assign hf rfl) fun a hf => ?_
          refine pl_nil ?_
          refine then_n ?_
          refine wp_block ?_
          obtain ⟨x42, h43, h32⟩ := bind_some h32
          refine wp_loopM h43 (fun s a w => ∃ (xs33 : Str) (n36 : Int) (A34 : Option Addr) (c35 : Nat), (xs33, n36) = s ∧ Has 31 a [(0, vI (size1)), (1, vS (s3)), (5, vL A34 (xs33) c35), (6, vI (n16)), (7, vI (n36))] ∧ Mem C w [.row byteRep A34 c35 5 xs33 true] [] ∧ R64 n36) ?_ ?_
          · exact ⟨xs13, 0, A14, c15, rfl, hf.keep ⟨rfl, rfl, rfl, rfl, rfl, trivial⟩, hM.pick [] rfl, (R64_lit rfl)⟩
          · rintro s o44 a w38 ⟨xs33, n36, A34, c35, rfl, hf, hM, hv37⟩ h45 hd46
            replace h45 : m_spec_l11Turn_l2 size1 n16 s3 xs33 n36 = some o44 := h45
            unfold m_spec_l11Turn_l2 at h45
            refine wp_seq ?_
            refine wp_seq ?_
            refine region_pl ?_
            refine q_ hf rfl rfl rfl (e_move hf rfl) fun a hf => ?_
            refine q_ hf rfl rfl rfl (e_move hf rfl) fun a hf => ?_
            refine q_ hf rfl rfl rfl (e_lt hf (x := n36) (y := size1) rfl rfl) fun a hf => ?_
            refine pl_nil ?_
            refine then_n ?_
            rcases cond_some h45 with ⟨hc47, h45⟩ | ⟨hc47, h45⟩
            · refine cond_t hf rfl hc47 ?_
              refine wp_skip ?_
              refine then_n ?_
              refine wp_seq ?_
              refine wp_block ?_
              refine region_pl ?_
              refine q_ hf rfl rfl rfl (e_move hf rfl) fun a hf => ?_
              refine q_ hf rfl rfl rfl (e_move hf rfl) fun a hf => ?_
              refine q_ hf rfl rfl rfl (e_move hf rfl) fun a hf => ?_
              refine q_ hf rfl rfl rfl (e_move hf rfl) fun a hf => ?_
              obtain ⟨z48, hz49, h45⟩ := bind_some h45
              refine q_ hf rfl rfl rfl (e_mul hf rfl rfl hz49) fun a hf => ?_
              refine q_ hf rfl rfl rfl (e_move hf rfl) fun a hf => ?_
              obtain ⟨z50, hz51, h45⟩ := bind_some h45
              refine q_ hf rfl rfl rfl (e_add hf rfl rfl hz51) fun a hf => ?_
              obtain ⟨c52, hz53, h45⟩ := bind_some h45
              refine q_ hf rfl rfl rfl (e_indexS hf (x := s3) rfl rfl Tryz.underlying9 hz53) fun a hf => ?_
              refine pl_l hf rfl rfl rfl (w_slice hf hM (K := byteRep) (xs := ([c52] : Str)) (os := [.tmp 26]) Tryz.underlying138 ei_5 rfl rfl rfl rfl rfl ⟨⟨[vB (c52)], rfl, rfl⟩, trivial⟩ rfl fun b54 w55 hx56 hM a hf => ?_)
              obtain ⟨xs57, hz58, h45⟩ := bind_some h45
              refine pl_l hf rfl rfl rfl (w_append hf hM Tryz.underlying138 ei_5 rfl rfl rfl (k := 1) rfl (hM.srcRow (k := 0) rfl) hz58 fun A59 c60 w61 hM a hf => ?_)
              dsimp only [List.set] at hM
              refine q_ hf rfl rfl rfl (e_assign hf rfl) fun a hf => ?_
              refine pl_nil ?_
              refine blk_n ?_
              refine then_n ?_
              refine region_pl ?_
              refine q_ hf rfl rfl rfl (e_move hf rfl) fun a hf => ?_
              obtain ⟨z64, hz65, h45⟩ := bind_some h45
              refine q_ hf rfl rfl rfl (e_add hf rfl rfl hz65) fun a hf => ?_
              refine q_ hf rfl rfl rfl (e_assign hf rfl) fun a hf => ?_
              refine pl_nil ?_
              obtain rfl := some_inj h45
              refine then_n ⟨_, rfl, ?_⟩
              exact ⟨xs57, z64, A59, c60, rfl, hf.keep ⟨rfl, rfl, rfl, rfl, rfl, trivial⟩, (hM.drop (.cons _ (.cons_cons _ .slnil))).pick [] rfl, (chk_R hz65)⟩
            · refine cond_f hf rfl hc47 ?_
              refine wp_exit ?_
              refine then_x ?_
              obtain rfl := some_inj h45
              obtain rfl := hd46 _ rfl
              try dsimp only at h32
              refine then_x ?_
              refine exit_hit ?_
              refine blk_n ?_
              obtain rfl := some_inj h32
              refine then_n ?_
              exact ⟨xs33, A34, c35, rfl, hf.keep ⟨rfl, rfl, rfl, rfl, trivial⟩, hM.pick [] rfl⟩
        · rintro a w71 ⟨xs28, A29, c30, rfl, hf, hM⟩
          try dsimp only at h25
          refine region_pl ?_
          refine q_ hf rfl rfl rfl (e_move hf rfl) fun a hf => ?_
          obtain ⟨z72, hz73, h25⟩ := bind_some h25
          refine q_ hf rfl rfl rfl (e_add hf rfl rfl hz73) fun a hf => ?_
          refine q_ hf rfl rfl rfl (e_assign hf rfl) fun a hf => ?_
          refine pl_nil ?_
          obtain rfl := some_inj h25
          refine then_n ⟨_, rfl, ?_⟩
          exact ⟨xs28, z72, A29, c30, rfl, hf.keep ⟨rfl, rfl, rfl, rfl, trivial⟩, hM.pick [] rfl, (chk_R hz73)⟩
      · refine cond_f hf rfl hc27 ?_
        refine wp_exit ?_
        refine then_x ?_
        obtain rfl := some_inj h25
        obtain rfl := hd26 _ rfl
        try dsimp only at h12
        refine then_x ?_
        refine exit_hit ?_
        obtain rfl := some_inj h12
        refine then_n ?_
        exact ⟨xs13, A14, c15, rfl, hf.keep ⟨rfl, trivial⟩, hM.pick [] rfl⟩
  · rintro a w79 ⟨xs8, A9, c10, rfl, hf, hM⟩
    try dsimp only at h
    refine wp_seq ?_
    refine region_pl ?_
    refine q_ hf rfl rfl rfl (e_move hf rfl) fun a hf => ?_
    have hl80 := row_len (hM.ownAt (k := 0) rfl)
    refine q_ hf rfl rfl rfl (e_bytesStr hf (xs := xs8) rfl Tryz.underlying138 Tryz.underlying5 Tryz.underlying9 (hM.lendRow (k := 0) rfl)) fun a hf => ?_
    refine q_ hf rfl rfl rfl (e_assign hf rfl) fun a hf => ?_
    refine pl_nil ?_
    refine then_n ?_
    refine wp_ret ?_
    obtain rfl := some_inj h
    have hM := hM.outs (own' := []) 0 rfl
    exact leave1 hf rfl rfl ⟨rfl, hM.fin, hl80⟩

set_option maxRecDepth 100000 in
set_option maxHeartbeats 4000000 in
theorem r_spec_l11Transpose (C : Cx) (b1 : Board) (b2 : Nat) (o3 : Nat) (hp4 : (ptrRep BoardRep).R C.w0 C.S0 b1 [vP b2 o3]) (r : Board) (h : m_spec_l11Transpose b1 = some r) :
    Calls Tryz.prog 135 #[vP b2 (o3)] C.w0 fun e w => e = .returned (.agg #[vI (r.Size), vS (r.Premium), vS (r.Cells)]) ∧ Mem C w [] [] ∧ R64 r.Size ∧ r.Premium.length ≤ maxLen ∧ r.Cells.length ≤ maxLen := by
  have hM := Mem.begin C [.dat (ptrRep BoardRep) b1 [vP b2 o3]] ⟨hp4, trivial⟩
  refine enter Tryz.func135 rfl Tryz.ntmps135 rfl fun a hf => ?_
  unfold m_spec_l11Transpose at h
  refine wp_seq ?_
  refine region_pl ?_
  refine pl_l hf rfl rfl rfl (w_alloc hM (cs := [vI (0), vS (([] : Str)), vS (([] : Str))]) Tryz.zeroValue28 rfl fun b5 w6 hx7 hM a hf => ?_)
  refine pl_nil ?_
  refine then_n ?_
  refine wp_seq ?_
  obtain ⟨w9, hw⟩ : ∃ x, x = w6.drew := ⟨_, rfl⟩
  refine region_pi (.q 0 (.q 1 (.q 2 (.q 3 (.q 4 (.q 5 (.q 6 (.q 7 (.q 8 (.q 9 (.q 10 (.q 11 (.q 13 (.q 14 (.q 15 (.q 16 (.q 17 (.q 18 (.q 19 (.q 20 (.l 12 (.l 21 (.q 22 (.l 23 (.nil))))))))))))))))))))))))) (Ext w9) rfl (by kernel_rfl) ?_
  have hM := hM.drew
  rw [← hw] at hM ⊢
  clear hw
  refine pi_q hf rfl rfl rfl rfl (Ext.refl _) (e_move hf rfl) fun a hf => ?_
  refine pi_q hf rfl rfl rfl rfl (Ext.refl _) (e_nil hf rfl) fun a hf => ?_
  obtain ⟨_, hr10, hM⟩ := hM.deref (hM.dat (k := 0) rfl)
  obtain ⟨rfl, hv11, hv12, hv13⟩ := BoardRep_open hr10
  refine pi_q hf rfl rfl rfl rfl (Ext.refl _) (e_field hf rfl Tryz.underlying28 rfl Tryz.sizeOf2 (o' := o3 + 0) rfl) fun a hf => ?_
  refine pi_q hf rfl rfl rfl rfl (Ext.refl _) (e_load1 hf rfl Tryz.isAgg2 (hM.litCell (k := 0) (j := 0) rfl rfl rfl)) fun a hf => ?_
  refine pi_q hf rfl rfl rfl rfl (Ext.refl _) (e_move hf rfl) fun a hf => ?_
  refine pi_q hf rfl rfl rfl rfl (Ext.refl _) (e_nil hf rfl) fun a hf => ?_
  refine pi_q hf rfl rfl rfl rfl (Ext.refl _) (e_field hf rfl Tryz.underlying28 rfl Tryz.sizeOf2 (o' := o3 + 0) rfl) fun a hf => ?_
  refine pi_q hf rfl rfl rfl rfl (Ext.refl _) (e_load1 hf rfl Tryz.isAgg2 (hM.litCell (k := 0) (j := 0) rfl rfl rfl)) fun a hf => ?_
  refine pi_q hf rfl rfl rfl rfl (Ext.refl _) (e_move hf rfl) fun a hf => ?_
  refine pi_q hf rfl rfl rfl rfl (Ext.refl _) (e_nil hf rfl) fun a hf => ?_
  refine pi_q hf rfl rfl rfl rfl (Ext.refl _) (e_field hf rfl Tryz.underlying28 rfl Tryz.sizeOf9 (o' := o3 + 1) rfl) fun a hf => ?_
  refine pi_q hf rfl rfl rfl rfl (Ext.refl _) (e_load1 hf rfl Tryz.isAgg9 (hM.litCell (k := 0) (j := 1) rfl rfl rfl)) fun a hf => ?_
  refine pi_q hf rfl rfl rfl rfl (Ext.refl _) (e_move hf rfl) fun a hf => ?_
  refine pi_q hf rfl rfl rfl rfl (Ext.refl _) (e_nil hf rfl) fun a hf => ?_
  refine pi_q hf rfl rfl rfl rfl (Ext.refl _) (e_field hf rfl Tryz.underlying28 rfl Tryz.sizeOf2 (o' := o3 + 0) rfl) fun a hf => ?_
  refine pi_q hf rfl rfl rfl rfl (Ext.refl _) (e_load1 hf rfl Tryz.isAgg2 (hM.litCell (k := 0) (j := 0) rfl rfl rfl)) fun a hf => ?_
  refine pi_q hf rfl rfl rfl rfl (Ext.refl _) (e_move hf rfl) fun a hf => ?_
  refine pi_q hf rfl rfl rfl rfl (Ext.refl _) (e_nil hf rfl) fun a hf => ?_
  refine pi_q hf rfl rfl rfl rfl (Ext.refl _) (e_field hf rfl Tryz.underlying28 rfl Tryz.sizeOf9 (o' := o3 + 2) rfl) fun a hf => ?_
  refine pi_q hf rfl rfl rfl rfl (Ext.refl _) (e_load1 hf rfl Tryz.isAgg9 (hM.litCell (k := 0) (j := 2) rfl rfl rfl)) fun a hf => ?_
  refine pi_one ?_
  obtain ⟨y14, hz15, h⟩ := bind_some h
  refine pi_l hf rfl rfl rfl rfl (w_call hf Tryz.call161 rfl (r_spec_l11Turn ⟨_, Sh C _ _, none_, hM.sh_lt, none_not, C.G, hM.g_lt, g_none, hM.tabs⟩ b1.Size hv11 b1.Premium hv12 _ hz15) ?_)
  rintro _ w17 ⟨rfl, hM2, hv16⟩
  obtain ⟨hM, hx18, hup19⟩ := hM.back hM2
  dsimp only [List.cons_append, List.nil_append] at hM hup19
  clear hM2
  refine ⟨_, rfl, Ext w17, fun _ h => Ext.trans hx18 h, Ext.refl _, fun a hf => ?_⟩
  refine pi_one ?_
  obtain ⟨y20, hz21, h⟩ := bind_some h
  refine pi_l hf rfl rfl rfl rfl (w_call hf Tryz.call161 rfl (r_spec_l11Turn ⟨_, Sh C _ _, none_, hM.sh_lt, none_not, C.G, hM.g_lt, g_none, hM.tabs⟩ b1.Size hv11 b1.Cells hv13 _ hz21) ?_)
  rintro _ w23 ⟨rfl, hM2, hv22⟩
  obtain ⟨hM, hx24, hup25⟩ := hM.back hM2
  dsimp only [List.cons_append, List.nil_append] at hM hup25
  clear hM2
  refine ⟨_, rfl, Ext w23, fun _ h => Ext.trans hx24 h, Ext.refl _, fun a hf => ?_⟩
  refine pi_q hf rfl rfl rfl rfl (Ext.refl _) (e_build hf Tryz.zeroValue28 Tryz.underlying28 (bp_28 _ Tryz.underlying28.symm) rfl (cs := #[vI (b1.Size), vS (y14), vS (y20)]) (by kernel_rfl)) fun a hf => ?_
  refine pi_one ?_
  refine pi_z0 hf rfl rfl rfl (by kernel_rfl) (w_store hf hM (us := [vI (b1.Size), vS (y14), vS (y20)]) (cs' := [vI (b1.Size), vS (y14), vS (y20)]) rfl rfl (k := 0) rfl rfl Tryz.sizeOf28 rfl rfl rfl fun w26 hM => ?_)
  dsimp only [List.set] at hM
  refine pi_nil ?_
  refine then_n ?_
  refine wp_ret ?_
  obtain rfl := some_inj h
  have hres29 := leaveV1 (P := Tryz.prog) Tryz.results135 (res_agg hf rfl ⟨Tryz.isAgg28, Tryz.sizeOf28⟩ (us := [vI (b1.Size), vS (y14), vS (y20)]) rfl (hM.boxSub (k := 0) (o := 0) rfl rfl))
  have hM := hM.outs (own' := []) 0 rfl
  exact bodyPost_ret hres29 hf.defers ⟨rfl, hM.fin, hv11, hv16, hv22⟩

set_option maxRecDepth 100000 in
set_option maxHeartbeats 4000000 in
theorem r_spec_l12Turn (C : Cx) (p1 : Play) (hp2 : R64 p1.Row) (hp3 : R64 p1.Col) (hp4 : p1.Word.length ≤ maxLen) (r : Play) (h : m_spec_l12Turn p1 = some r) :
    Calls Tryz.prog 136 #[.agg #[vI (p1.Row), vI (p1.Col), .bool (p1.Down), vS (p1.Word)]] C.w0 fun e w => e = .returned (.agg #[vI (r.Row), vI (r.Col), .bool (r.Down), vS (r.Word)]) ∧ Mem C w [] [] ∧ R64 r.Row ∧ R64 r.Col ∧ r.Word.length ≤ maxLen := by
  have hM := Mem.begin C [] trivial
  refine enter Tryz.func136 rfl Tryz.ntmps136 rfl fun a hf => ?_
  unfold m_spec_l12Turn at h
  refine wp_seq ?_
  refine region_pl ?_
  refine pl_l hf rfl rfl rfl (w_box hf hM (cs := [vI (p1.Row), vI (p1.Col), .bool (p1.Down), vS (p1.Word)]) rfl rfl fun b5 w6 hx7 hM a hf => ?_)
  refine pl_l hf rfl rfl rfl (w_alloc hM (cs := [vI (0), vI (0), .bool (false), vS (([] : Str))]) Tryz.zeroValue41 rfl fun b9 w10 hx11 hM a hf => ?_)
  refine pl_nil ?_
  refine then_n ?_
  refine wp_seq ?_
  refine region_pl ?_
  refine q_ hf rfl rfl rfl (e_field hf rfl Tryz.underlying41 rfl Tryz.sizeOf2 (o' := 1) rfl) fun a hf => ?_
  refine q_ hf rfl rfl rfl (e_load1 hf rfl Tryz.isAgg2 (hM.boxCell (k := 1) rfl rfl)) fun a hf => ?_
  refine q_ hf rfl rfl rfl (e_field hf rfl Tryz.underlying41 rfl Tryz.sizeOf2 (o' := 0) rfl) fun a hf => ?_
  refine q_ hf rfl rfl rfl (e_load1 hf rfl Tryz.isAgg2 (hM.boxCell (k := 1) rfl rfl)) fun a hf => ?_
  refine q_ hf rfl rfl rfl (e_field hf rfl Tryz.underlying41 rfl Tryz.sizeOf4 (o' := 2) rfl) fun a hf => ?_
  refine q_ hf rfl rfl rfl (e_load1 hf rfl Tryz.isAgg4 (hM.boxCell (k := 1) rfl rfl)) fun a hf => ?_
  refine q_ hf rfl rfl rfl (e_not hf rfl) fun a hf => ?_
  refine q_ hf rfl rfl rfl (e_field hf rfl Tryz.underlying41 rfl Tryz.sizeOf9 (o' := 3) rfl) fun a hf => ?_
  refine q_ hf rfl rfl rfl (e_load1 hf rfl Tryz.isAgg9 (hM.boxCell (k := 1) rfl rfl)) fun a hf => ?_
  refine q_ hf rfl rfl rfl (e_build hf Tryz.zeroValue41 Tryz.underlying41 (bp_41 _ Tryz.underlying41.symm) rfl (cs := #[vI (p1.Col), vI (p1.Row), .bool (!p1.Down), vS (p1.Word)]) (by kernel_rfl)) fun a hf => ?_
  refine pl_0 hf rfl rfl (w_store hf hM (us := [vI (p1.Col), vI (p1.Row), .bool (!p1.Down), vS (p1.Word)]) (cs' := [vI (p1.Col), vI (p1.Row), .bool (!p1.Down), vS (p1.Word)]) rfl rfl (k := 0) rfl rfl Tryz.sizeOf41 rfl rfl rfl fun w13 hM => ?_)
  dsimp only [List.set] at hM
  refine pl_nil ?_
  refine then_n ?_
  refine wp_ret ?_
  obtain rfl := some_inj h
  have hres16 := leaveV1 (P := Tryz.prog) Tryz.results136 (res_agg hf rfl ⟨Tryz.isAgg41, Tryz.sizeOf41⟩ (us := [vI (p1.Col), vI (p1.Row), .bool (!p1.Down), vS (p1.Word)]) rfl (hM.boxSub (k := 0) (o := 0) rfl rfl))
  have hM := hM.outs (own' := []) 0 rfl
  exact bodyPost_ret hres16 hf.defers ⟨rfl, hM.fin, hp3, hp2, hp4⟩

set_option maxRecDepth 100000 in
set_option maxHeartbeats 4000000 in
theorem r_spec_l12Flat (C : Cx) (b1 : Board) (b2 : Nat) (o3 : Nat) (hp4 : (ptrRep BoardRep).R C.w0 C.S0 b1 [vP b2 o3]) (p5 : Play) (hp6 : R64 p5.Row) (hp7 : R64 p5.Col) (hp8 : p5.Word.length ≤ maxLen) (r : (Board × Play)) (h : m_spec_l12Flat b1 p5 = some r) :
    Calls Tryz.prog 88 #[vP b2 (o3), .agg #[vI (p5.Row), vI (p5.Col), .bool (p5.Down), vS (p5.Word)]] C.w0 fun e w => e = .returned (.tuple #[.agg #[vI (r.1.Size), vS (r.1.Premium), vS (r.1.Cells)], .agg #[vI (r.2.Row), vI (r.2.Col), .bool (r.2.Down), vS (r.2.Word)]]) ∧ Mem C w [] [] ∧ R64 r.1.Size ∧ r.1.Premium.length ≤ maxLen ∧ r.1.Cells.length ≤ maxLen ∧ R64 r.2.Row ∧ R64 r.2.Col ∧ r.2.Word.length ≤ maxLen := by
  have hM := Mem.begin C [.dat (ptrRep BoardRep) b1 [vP b2 o3]] ⟨hp4, trivial⟩
  refine enter Tryz.func88 rfl Tryz.ntmps88 rfl fun a hf => ?_
  unfold m_spec_l12Flat at h
  refine wp_seq ?_
  refine region_pl ?_
  refine pl_l hf rfl rfl rfl (w_box hf hM (cs := [vI (p5.Row), vI (p5.Col), .bool (p5.Down), vS (p5.Word)]) rfl rfl fun b9 w10 hx11 hM a hf => ?_)
  refine pl_l hf rfl rfl rfl (w_alloc hM (cs := [vI (0), vS (([] : Str)), vS (([] : Str))]) Tryz.zeroValue28 rfl fun b13 w14 hx15 hM a hf => ?_)
  refine pl_l hf rfl rfl rfl (w_alloc hM (cs := [vI (0), vI (0), .bool (false), vS (([] : Str))]) Tryz.zeroValue41 rfl fun b17 w18 hx19 hM a hf => ?_)
  refine pl_nil ?_
  refine then_n ?_
  refine wp_seq ?_
  refine wp_seq ?_
  refine region_pl ?_
  refine q_ hf rfl rfl rfl (e_field hf rfl Tryz.underlying41 rfl Tryz.sizeOf4 (o' := 2) rfl) fun a hf => ?_
  refine q_ hf rfl rfl rfl (e_load1 hf rfl Tryz.isAgg4 (hM.boxCell (k := 2) rfl rfl)) fun a hf => ?_
  refine pl_nil ?_
  refine then_n ?_
  rcases cond_some h with ⟨hc21, h⟩ | ⟨hc21, h⟩
  · refine cond_t hf rfl hc21 ?_
    refine wp_seq ?_
    obtain ⟨w22, hw⟩ : ∃ x, x = w18.drew := ⟨_, rfl⟩
    refine region_pi (.q 0 (.q 2 (.l 1 (.l 3 (.l 4 (.l 5 (.nil))))))) (Ext w22) rfl (by kernel_rfl) ?_
    have hM := hM.drew
    rw [← hw] at hM ⊢
    clear hw
    refine pi_q hf rfl rfl rfl rfl (Ext.refl _) (e_move hf rfl) fun a hf => ?_
    refine pi_q hf rfl rfl rfl rfl (Ext.refl _) (e_loadA hf (us := [vI (p5.Row), vI (p5.Col), .bool (p5.Down), vS (p5.Word)]) rfl ⟨Tryz.isAgg41, Tryz.sizeOf41⟩ rfl (hM.boxSub (k := 2) (us := [vI (p5.Row), vI (p5.Col), .bool (p5.Down), vS (p5.Word)]) (o := 0) rfl rfl)) fun a hf => ?_
    refine pi_one ?_
    obtain ⟨y23, hz24, h⟩ := bind_some h
    refine pi_l hf rfl rfl rfl rfl (w_call hf Tryz.call135 rfl (r_spec_l11Transpose ⟨_, Sh C _ _, none_, hM.sh_lt, none_not, C.G, hM.g_lt, g_none, hM.tabs⟩ b1 _ _ (hM.dat (k := 0) rfl) _ hz24) ?_)
    rintro _ w28 ⟨rfl, hM2, hv25, hv26, hv27⟩
    obtain ⟨hM, hx29, hup30⟩ := hM.back hM2
    dsimp only [List.cons_append, List.nil_append] at hM hup30
    clear hM2
    refine ⟨_, rfl, Ext w28, fun _ h => Ext.trans hx29 h, Ext.refl _, fun a hf => ?_⟩
    refine pi_one ?_
    obtain ⟨y31, hz32, h⟩ := bind_some h
    refine pi_l hf rfl rfl rfl rfl (w_call hf Tryz.call136 rfl (r_spec_l12Turn ⟨_, Sh C _ _, none_, hM.sh_lt, none_not, C.G, hM.g_lt, g_none, hM.tabs⟩ p5 hp6 hp7 hp8 _ hz32) ?_)
    rintro _ w36 ⟨rfl, hM2, hv33, hv34, hv35⟩
    obtain ⟨hM, hx37, hup38⟩ := hM.back hM2
    dsimp only [List.cons_append, List.nil_append] at hM hup38
    clear hM2
    refine ⟨_, rfl, Ext w36, fun _ h => Ext.trans hx37 h, Ext.refl _, fun a hf => ?_⟩
    refine pi_one ?_
    refine pi_z0 hf rfl rfl rfl (by kernel_rfl) (w_store hf hM (us := [vI (y23.Size), vS (y23.Premium), vS (y23.Cells)]) (cs' := [vI (y23.Size), vS (y23.Premium), vS (y23.Cells)]) rfl rfl (k := 1) rfl rfl Tryz.sizeOf28 rfl rfl rfl fun w39 hM => ?_)
    dsimp only [List.set] at hM
    refine pi_one ?_
    refine pi_z0 hf rfl rfl rfl (by kernel_rfl) (w_store hf hM (us := [vI (y31.Row), vI (y31.Col), .bool (y31.Down), vS (y31.Word)]) (cs' := [vI (y31.Row), vI (y31.Col), .bool (y31.Down), vS (y31.Word)]) rfl rfl (k := 0) rfl rfl Tryz.sizeOf41 rfl rfl rfl fun w42 hM => ?_)
    dsimp only [List.set] at hM
    refine pi_nil ?_
    refine then_n ?_
    refine wp_ret ?_
    refine then_r ?_
    obtain rfl := some_inj h
    have hres45 := leaveV2 (P := Tryz.prog) Tryz.results88 (res_agg hf rfl ⟨Tryz.isAgg28, Tryz.sizeOf28⟩ (us := [vI (y23.Size), vS (y23.Premium), vS (y23.Cells)]) rfl (hM.boxSub (k := 1) (o := 0) rfl rfl)) (res_agg hf rfl ⟨Tryz.isAgg41, Tryz.sizeOf41⟩ (us := [vI (y31.Row), vI (y31.Col), .bool (y31.Down), vS (y31.Word)]) rfl (hM.boxSub (k := 0) (o := 0) rfl rfl))
    have hM := hM.outs (own' := []) 0 rfl
    exact bodyPost_ret hres45 hf.defers ⟨rfl, hM.fin, hv25, hv26, hv27, hv33, hv34, hv35⟩
  · refine cond_f hf rfl hc21 ?_
    refine wp_skip ?_
    refine then_n ?_
    refine wp_seq ?_
    obtain ⟨w46, hw⟩ : ∃ x, x = w18.drew := ⟨_, rfl⟩
    refine region_pi (.q 0 (.q 1 (.q 2 (.q 3 (.l 4 (.l 5 (.nil))))))) (ExtM [some b13] w46) rfl (by kernel_rfl) ?_
    have hM := hM.drew
    rw [← hw] at hM ⊢
    clear hw
    refine pi_q hf rfl rfl rfl rfl (ExtM.refl _ _) (e_move hf rfl) fun a hf => ?_
    refine pi_q hf rfl rfl rfl rfl (ExtM.refl _ _) (e_nil hf rfl) fun a hf => ?_
    obtain ⟨_, hr47, hM⟩ := hM.deref (hM.dat (k := 0) rfl)
    obtain ⟨rfl, hv48, hv49, hv50⟩ := BoardRep_open hr47
    refine pi_q hf rfl rfl rfl rfl (ExtM.refl _ _) (e_loadAM hf (us := [vI (b1.Size), vS (b1.Premium), vS (b1.Cells)]) rfl ⟨Tryz.isAgg28, Tryz.sizeOf28⟩ rfl (hM.litSub (k := 0) (d := 0) (us := [vI (b1.Size), vS (b1.Premium), vS (b1.Cells)]) rfl rfl rfl) (hM.apartS (js := [1]) rfl (hM.at_ (k := 0) rfl).1)) fun a hf => ?_
    refine pi_q hf rfl rfl rfl rfl (ExtM.refl _ _) (e_loadAM hf (us := [vI (p5.Row), vI (p5.Col), .bool (p5.Down), vS (p5.Word)]) rfl ⟨Tryz.isAgg41, Tryz.sizeOf41⟩ rfl (hM.boxSub (k := 2) (us := [vI (p5.Row), vI (p5.Col), .bool (p5.Down), vS (p5.Word)]) (o := 0) rfl rfl) (hM.apart (js := [1]) rfl (k := 2) rfl rfl rfl)) fun a hf => ?_
    refine pi_one ?_
    refine pi_l0 hf rfl rfl rfl (w_storeM hf (List.mem_of_getElem? (i := 0) rfl) hM (us := [vI (b1.Size), vS (b1.Premium), vS (b1.Cells)]) (cs' := [vI (b1.Size), vS (b1.Premium), vS (b1.Cells)]) rfl rfl (k := 1) rfl rfl Tryz.sizeOf28 rfl rfl rfl fun w51 hxm52 hsz53 hM => ⟨Ext w51, fun _ h => ExtM.last hxm52 hsz53 h, Ext.refl _, ?_⟩)
    dsimp only [List.set] at hM
    refine pi_one ?_
    refine pi_z0 hf rfl rfl rfl (by kernel_rfl) (w_store hf hM (us := [vI (p5.Row), vI (p5.Col), .bool (p5.Down), vS (p5.Word)]) (cs' := [vI (p5.Row), vI (p5.Col), .bool (p5.Down), vS (p5.Word)]) rfl rfl (k := 0) rfl rfl Tryz.sizeOf41 rfl rfl rfl fun w54 hM => ?_)
    dsimp only [List.set] at hM
    refine pi_nil ?_
    refine then_n ?_
    refine wp_ret ?_
    obtain rfl := some_inj h
    have hres57 := leaveV2 (P := Tryz.prog) Tryz.results88 (res_agg hf rfl ⟨Tryz.isAgg28, Tryz.sizeOf28⟩ (us := [vI (b1.Size), vS (b1.Premium), vS (b1.Cells)]) rfl (hM.boxSub (k := 1) (o := 0) rfl rfl)) (res_agg hf rfl ⟨Tryz.isAgg41, Tryz.sizeOf41⟩ (us := [vI (p5.Row), vI (p5.Col), .bool (p5.Down), vS (p5.Word)]) rfl (hM.boxSub (k := 0) (o := 0) rfl rfl))
    have hM := hM.outs (own' := []) 0 rfl
    exact bodyPost_ret hres57 hf.defers ⟨rfl, hM.fin, hv48, hv49, hv50, hp6, hp7, hp8⟩

set_option maxRecDepth 100000 in
set_option maxHeartbeats 4000000 in
theorem r_spec_l11In (C : Cx) (b1 : Board) (b2 : Nat) (o3 : Nat) (hp4 : (ptrRep BoardRep).R C.w0 C.S0 b1 [vP b2 o3]) (row5 : Int) (hp6 : R64 row5) (col7 : Int) (hp8 : R64 col7) (r : Bool) (h : m_spec_l11In b1 row5 col7 = some r) :
    Calls Tryz.prog 137 #[vP b2 (o3), vI (row5), vI (col7)] C.w0 fun e w => e = .returned (.bool (r)) ∧ Mem C w [] [] := by
  have hM := Mem.begin C [.dat (ptrRep BoardRep) b1 [vP b2 o3]] ⟨hp4, trivial⟩
  refine enter Tryz.func137 rfl Tryz.ntmps137 rfl fun a hf => ?_
  unfold m_spec_l11In at h
  refine wp_seq ?_
  refine region_pl ?_
  refine q_ hf rfl rfl rfl (e_assign hf rfl) fun a hf => ?_
  refine pl_nil ?_
  refine then_n ?_
  obtain ⟨x11, h12, h⟩ := bind_some h
  refine seq_join (fun a w => ∃ (t9 : Bool), t9 = x11 ∧ Has 23 a [(6, .bool (t9))] ∧ Mem C w [] [.dat (ptrRep BoardRep) b1 [vP b2 o3]]) ?_ ?_
  · refine region_pl ?_
    refine q_ hf rfl rfl rfl (e_move hf rfl) fun a hf => ?_
    refine q_ hf rfl rfl rfl (e_move hf rfl) fun a hf => ?_
    refine q_ hf rfl rfl rfl (e_nil hf rfl) fun a hf => ?_
    obtain ⟨_, hr13, hM⟩ := hM.deref (hM.dat (k := 0) rfl)
    obtain ⟨rfl, hv14, hv15, hv16⟩ := BoardRep_open hr13
    refine q_ hf rfl rfl rfl (e_field hf rfl Tryz.underlying28 rfl Tryz.sizeOf2 (o' := o3 + 0) rfl) fun a hf => ?_
    refine q_ hf rfl rfl rfl (e_load1 hf rfl Tryz.isAgg2 (hM.litCell (k := 0) (j := 0) rfl rfl rfl)) fun a hf => ?_
    obtain ⟨z17, hz18, h12⟩ := bind_some h12
    refine q_ hf rfl rfl rfl (e_sub hf rfl rfl hz18) fun a hf => ?_
    obtain ⟨y19, hz20, h12⟩ := bind_some h12
    refine pl_l hf rfl rfl rfl (w_call hf Tryz.call86 rfl (r_spec_l00In ⟨_, Sh C _ _, none_, hM.sh_lt, none_not, C.G, hM.g_lt, g_none, hM.tabs⟩ row5 hp6 0 (R64_lit rfl) z17 (chk_R hz18) _ hz20) ?_)
    rintro _ w21 ⟨rfl, hM2⟩
    obtain ⟨hM, hx22, hup23⟩ := hM.back hM2
    dsimp only [List.cons_append, List.nil_append] at hM hup23
    clear hM2
    refine ⟨_, rfl, fun a hf => ?_⟩
    refine q_ hf rfl rfl rfl (e_move hf rfl) fun a hf => ?_
    rcases cond_some h12 with ⟨hc24, h12⟩ | ⟨hc24, h12⟩
    · refine gq (wanted_t hf rfl rfl rfl rfl hc24) hf rfl rfl (e_move hf rfl) fun a hf => ?_
      refine gq (wanted_t hf rfl rfl rfl rfl hc24) hf rfl rfl (e_move hf rfl) fun a hf => ?_
      refine gq (wanted_t hf rfl rfl rfl rfl hc24) hf rfl rfl (e_nil hf rfl) fun a hf => ?_
      refine gq (wanted_t hf rfl rfl rfl rfl hc24) hf rfl rfl (e_field hf rfl Tryz.underlying28 rfl Tryz.sizeOf2 (o' := o3 + 0) rfl) fun a hf => ?_
      refine gq (wanted_t hf rfl rfl rfl rfl hc24) hf rfl rfl (e_load1 hf rfl Tryz.isAgg2 (hM.litCell (k := 0) (j := 0) rfl rfl rfl)) fun a hf => ?_
      obtain ⟨z25, hz26, h12⟩ := bind_some h12
      refine gq (wanted_t hf rfl rfl rfl rfl hc24) hf rfl rfl (e_sub hf rfl rfl hz26) fun a hf => ?_
      obtain ⟨y27, hz28, h12⟩ := bind_some h12
      refine pl_gl (wanted_t hf rfl rfl rfl rfl hc24) hf rfl rfl (w_call hf Tryz.call86 rfl (r_spec_l00In ⟨_, Sh C _ _, none_, hM.sh_lt, none_not, C.G, hM.g_lt, g_none, hM.tabs⟩ col7 hp8 0 (R64_lit rfl) z25 (chk_R hz26) _ hz28) ?_)
      rintro _ w29 ⟨rfl, hM2⟩
      obtain ⟨hM, hx30, hup31⟩ := hM.back hM2
      dsimp only [List.cons_append, List.nil_append] at hM hup31
      clear hM2
      refine ⟨_, rfl, fun a hf => ?_⟩
      refine q_ hf rfl rfl rfl (e_pick_t hf rfl hc24 rfl) fun a hf => ?_
      refine q_ hf rfl rfl rfl (e_assign hf rfl) fun a hf => ?_
      refine pl_nil ?_
      obtain rfl := some_inj h12
      refine then_n ?_
      exact ⟨y27, rfl, hf.keep ⟨rfl, trivial⟩, hM.pick [1] rfl⟩
    · refine pl_gs (wanted_f hf rfl rfl rfl rfl hc24) hf rfl rfl fun a hf => ?_
      refine pl_gs (wanted_f hf rfl rfl rfl rfl hc24) hf rfl rfl fun a hf => ?_
      refine pl_gs (wanted_f hf rfl rfl rfl rfl hc24) hf rfl rfl fun a hf => ?_
      refine pl_gs (wanted_f hf rfl rfl rfl rfl hc24) hf rfl rfl fun a hf => ?_
      refine pl_gs (wanted_f hf rfl rfl rfl rfl hc24) hf rfl rfl fun a hf => ?_
      refine pl_gs (wanted_f hf rfl rfl rfl rfl hc24) hf rfl rfl fun a hf => ?_
      refine pl_gs (wanted_f hf rfl rfl rfl rfl hc24) hf rfl rfl fun a hf => ?_
      refine q_ hf rfl rfl rfl (e_pick_f hf rfl hc24 rfl) fun a hf => ?_
      refine q_ hf rfl rfl rfl (e_assign hf rfl) fun a hf => ?_
      refine pl_nil ?_
      obtain rfl := some_inj h12
      refine then_n ?_
      exact ⟨false, rfl, hf.keep ⟨rfl, trivial⟩, hM.pick [1] rfl⟩
  · rintro a w34 ⟨t9, rfl, hf, hM⟩
    try dsimp only at h
    refine wp_ret ?_
    obtain rfl := some_inj h
    exact leave1 hf rfl rfl ⟨rfl, hM.fin⟩

set_option maxRecDepth 100000 in
set_option maxHeartbeats 4000000 in
theorem r_spec_l11At (C : Cx) (b1 : Board) (b2 : Nat) (o3 : Nat) (hp4 : (ptrRep BoardRep).R C.w0 C.S0 b1 [vP b2 o3]) (row5 : Int) (hp6 : R64 row5) (col7 : Int) (hp8 : R64 col7) (r : UInt8) (h : m_spec_l11At b1 row5 col7 = some r) :
    Calls Tryz.prog 139 #[vP b2 (o3), vI (row5), vI (col7)] C.w0 fun e w => e = .returned (vB (r)) ∧ Mem C w [] [] := by
  have hM := Mem.begin C [.dat (ptrRep BoardRep) b1 [vP b2 o3]] ⟨hp4, trivial⟩
  refine enter Tryz.func139 rfl Tryz.ntmps139 rfl fun a hf => ?_
  unfold m_spec_l11At at h
  refine wp_seq ?_
  refine region_pl ?_
  refine q_ hf rfl rfl rfl (e_assign hf rfl) fun a hf => ?_
  refine pl_nil ?_
  refine then_n ?_
  refine wp_seq ?_
  obtain ⟨w9, hw⟩ : ∃ x, x = C.w0.drew := ⟨_, rfl⟩
  refine region_pi (.q 0 (.q 1 (.q 2 (.q 3 (.q 4 (.q 5 (.q 6 (.q 7 (.q 8 (.q 9 (.q 10 (.q 11 (.q 12 (.q 13 (.nil))))))))))))))) (Ext w9) rfl (by kernel_rfl) ?_
  have hM := hM.drew
  rw [← hw] at hM ⊢
  clear hw
  refine pi_q hf rfl rfl rfl rfl (Ext.refl _) (e_move hf rfl) fun a hf => ?_
  refine pi_q hf rfl rfl rfl rfl (Ext.refl _) (e_nil hf rfl) fun a hf => ?_
  obtain ⟨_, hr10, hM⟩ := hM.deref (hM.dat (k := 0) rfl)
  obtain ⟨rfl, hv11, hv12, hv13⟩ := BoardRep_open hr10
  refine pi_q hf rfl rfl rfl rfl (Ext.refl _) (e_field hf rfl Tryz.underlying28 rfl Tryz.sizeOf9 (o' := o3 + 2) rfl) fun a hf => ?_
  refine pi_q hf rfl rfl rfl rfl (Ext.refl _) (e_load1 hf rfl Tryz.isAgg9 (hM.litCell (k := 0) (j := 2) rfl rfl rfl)) fun a hf => ?_
  refine pi_q hf rfl rfl rfl rfl (Ext.refl _) (e_move hf rfl) fun a hf => ?_
  refine pi_q hf rfl rfl rfl rfl (Ext.refl _) (e_move hf rfl) fun a hf => ?_
  refine pi_q hf rfl rfl rfl rfl (Ext.refl _) (e_nil hf rfl) fun a hf => ?_
  refine pi_q hf rfl rfl rfl rfl (Ext.refl _) (e_field hf rfl Tryz.underlying28 rfl Tryz.sizeOf2 (o' := o3 + 0) rfl) fun a hf => ?_
  refine pi_q hf rfl rfl rfl rfl (Ext.refl _) (e_load1 hf rfl Tryz.isAgg2 (hM.litCell (k := 0) (j := 0) rfl rfl rfl)) fun a hf => ?_
  obtain ⟨z14, hz15, h⟩ := bind_some h
  refine pi_q hf rfl rfl rfl rfl (Ext.refl _) (e_mul hf rfl rfl hz15) fun a hf => ?_
  refine pi_q hf rfl rfl rfl rfl (Ext.refl _) (e_move hf rfl) fun a hf => ?_
  obtain ⟨z16, hz17, h⟩ := bind_some h
  refine pi_q hf rfl rfl rfl rfl (Ext.refl _) (e_add hf rfl rfl hz17) fun a hf => ?_
  obtain ⟨c18, hz19, h⟩ := bind_some h
  refine pi_q hf rfl rfl rfl rfl (Ext.refl _) (e_indexS hf (x := b1.Cells) rfl rfl Tryz.underlying9 hz19) fun a hf => ?_
  refine pi_q hf rfl rfl rfl rfl (Ext.refl _) (e_assign hf rfl) fun a hf => ?_
  refine pi_nil ?_
  refine then_n ?_
  refine wp_ret ?_
  obtain rfl := some_inj h
  exact leave1 hf rfl rfl ⟨rfl, hM.fin⟩

set_option maxRecDepth 100000 in
set_option maxHeartbeats 4000000 in
theorem r_spec_l11Full (C : Cx) (b1 : Board) (b2 : Nat) (o3 : Nat) (hp4 : (ptrRep BoardRep).R C.w0 C.S0 b1 [vP b2 o3]) (row5 : Int) (hp6 : R64 row5) (col7 : Int) (hp8 : R64 col7) (r : Bool) (h : m_spec_l11Full b1 row5 col7 = some r) :
    Calls Tryz.prog 138 #[vP b2 (o3), vI (row5), vI (col7)] C.w0 fun e w => e = .returned (.bool (r)) ∧ Mem C w [] [] := by
  have hM := Mem.begin C [.dat (ptrRep BoardRep) b1 [vP b2 o3]] ⟨hp4, trivial⟩
  refine enter Tryz.func138 rfl Tryz.ntmps138 rfl fun a hf => ?_
  unfold m_spec_l11Full at h
  refine wp_seq ?_
  refine region_pl ?_
  refine q_ hf rfl rfl rfl (e_assign hf rfl) fun a hf => ?_
  refine pl_nil ?_
  refine then_n ?_
  obtain ⟨x11, h12, h⟩ := bind_some h
  refine seq_join (fun a w => ∃ (t9 : Bool), t9 = x11 ∧ Has 18 a [(6, .bool (t9))] ∧ Mem C w [] [.dat (ptrRep BoardRep) b1 [vP b2 o3]]) ?_ ?_
  · refine region_pl ?_
    refine q_ hf rfl rfl rfl (e_move hf rfl) fun a hf => ?_
    refine q_ hf rfl rfl rfl (e_move hf rfl) fun a hf => ?_
    refine q_ hf rfl rfl rfl (e_move hf rfl) fun a hf => ?_
    obtain ⟨y13, hz14, h12⟩ := bind_some h12
    refine pl_l hf rfl rfl rfl (w_call hf Tryz.call137 rfl (r_spec_l11In ⟨_, Sh C _ _, none_, hM.sh_lt, none_not, C.G, hM.g_lt, g_none, hM.tabs⟩ b1 _ _ (hM.dat (k := 0) rfl) row5 hp6 col7 hp8 _ hz14) ?_)
    rintro _ w15 ⟨rfl, hM2⟩
    obtain ⟨hM, hx16, hup17⟩ := hM.back hM2
    dsimp only [List.cons_append, List.nil_append] at hM hup17
    clear hM2
    refine ⟨_, rfl, fun a hf => ?_⟩
    refine q_ hf rfl rfl rfl (e_move hf rfl) fun a hf => ?_
    rcases cond_some h12 with ⟨hc18, h12⟩ | ⟨hc18, h12⟩
    · refine gq (wanted_t hf rfl rfl rfl rfl hc18) hf rfl rfl (e_move hf rfl) fun a hf => ?_
      refine gq (wanted_t hf rfl rfl rfl rfl hc18) hf rfl rfl (e_move hf rfl) fun a hf => ?_
      refine gq (wanted_t hf rfl rfl rfl rfl hc18) hf rfl rfl (e_move hf rfl) fun a hf => ?_
      obtain ⟨y19, hz20, h12⟩ := bind_some h12
      refine pl_gl (wanted_t hf rfl rfl rfl rfl hc18) hf rfl rfl (w_call hf Tryz.call139 rfl (r_spec_l11At ⟨_, Sh C _ _, none_, hM.sh_lt, none_not, C.G, hM.g_lt, g_none, hM.tabs⟩ b1 _ _ (hM.dat (k := 0) rfl) row5 hp6 col7 hp8 _ hz20) ?_)
      rintro _ w21 ⟨rfl, hM2⟩
      obtain ⟨hM, hx22, hup23⟩ := hM.back hM2
      dsimp only [List.cons_append, List.nil_append] at hM hup23
      clear hM2
      refine ⟨_, rfl, fun a hf => ?_⟩
      refine gq (wanted_t hf rfl rfl rfl rfl hc18) hf rfl rfl (e_neB hf (x := y19) (y := 46) rfl rfl) fun a hf => ?_
      refine q_ hf rfl rfl rfl (e_pick_t hf rfl hc18 rfl) fun a hf => ?_
      refine q_ hf rfl rfl rfl (e_assign hf rfl) fun a hf => ?_
      refine pl_nil ?_
      obtain rfl := some_inj h12
      refine then_n ?_
      exact ⟨(y19 != 46), rfl, hf.keep ⟨rfl, trivial⟩, hM.pick [0] rfl⟩
    · refine pl_gs (wanted_f hf rfl rfl rfl rfl hc18) hf rfl rfl fun a hf => ?_
      refine pl_gs (wanted_f hf rfl rfl rfl rfl hc18) hf rfl rfl fun a hf => ?_
      refine pl_gs (wanted_f hf rfl rfl rfl rfl hc18) hf rfl rfl fun a hf => ?_
      refine pl_gs (wanted_f hf rfl rfl rfl rfl hc18) hf rfl rfl fun a hf => ?_
      refine pl_gs (wanted_f hf rfl rfl rfl rfl hc18) hf rfl rfl fun a hf => ?_
      refine q_ hf rfl rfl rfl (e_pick_f hf rfl hc18 rfl) fun a hf => ?_
      refine q_ hf rfl rfl rfl (e_assign hf rfl) fun a hf => ?_
      refine pl_nil ?_
      obtain rfl := some_inj h12
      refine then_n ?_
      exact ⟨false, rfl, hf.keep ⟨rfl, trivial⟩, hM.pick [0] rfl⟩
  · rintro a w26 ⟨t9, rfl, hf, hM⟩
    try dsimp only at h
    refine wp_ret ?_
    obtain rfl := some_inj h
    exact leave1 hf rfl rfl ⟨rfl, hM.fin⟩

set_option maxRecDepth 100000 in
set_option maxHeartbeats 4000000 in
theorem r_spec_l12Fits (C : Cx) (b1 : Board) (b2 : Nat) (o3 : Nat) (hp4 : (ptrRep BoardRep).R C.w0 C.S0 b1 [vP b2 o3]) (p5 : Play) (hp6 : R64 p5.Row) (hp7 : R64 p5.Col) (hp8 : p5.Word.length ≤ maxLen) (r : Bool) (h : m_spec_l12Fits b1 p5 = some r) :
    Calls Tryz.prog 89 #[vP b2 (o3), .agg #[vI (p5.Row), vI (p5.Col), .bool (p5.Down), vS (p5.Word)]] C.w0 fun e w => e = .returned (.bool (r)) ∧ Mem C w [] [] := by
  have hM := Mem.begin C [.dat (ptrRep BoardRep) b1 [vP b2 o3]] ⟨hp4, trivial⟩
  refine enter Tryz.func89 rfl Tryz.ntmps89 rfl fun a hf => ?_
  unfold m_spec_l12Fits at h
  refine wp_seq ?_
  refine region_pl ?_
  refine pl_l hf rfl rfl rfl (w_box hf hM (cs := [vI (p5.Row), vI (p5.Col), .bool (p5.Down), vS (p5.Word)]) rfl rfl fun b9 w10 hx11 hM a hf => ?_)
  refine q_ hf rfl rfl rfl (e_assign hf rfl) fun a hf => ?_
  refine pl_nil ?_
  refine then_n ?_
  refine wp_seq ?_
  refine region_pl ?_
  refine q_ hf rfl rfl rfl (e_field hf rfl Tryz.underlying41 rfl Tryz.sizeOf9 (o' := 3) rfl) fun a hf => ?_
  refine q_ hf rfl rfl rfl (e_load1 hf rfl Tryz.isAgg9 (hM.boxCell (k := 0) rfl rfl)) fun a hf => ?_
  refine q_ hf rfl rfl rfl (e_lenS hf (x := p5.Word) rfl Tryz.underlying9) fun a hf => ?_
  refine q_ hf rfl rfl rfl (e_assign hf rfl) fun a hf => ?_
  refine pl_nil ?_
  refine then_n ?_
  refine wp_seq ?_
  obtain ⟨x15, h16, h⟩ := bind_some h
  refine seq_join (fun a w => ∃ (t13 : Bool), t13 = x15 ∧ Has 71 a [(0, vP b2 (o3)), (3, vP b9 (0)), (5, vI ((p5.Word.length : Int))), (48, .bool (t13))] ∧ Mem C w [.box b9 [vI (p5.Row), vI (p5.Col), .bool (p5.Down), vS (p5.Word)] 41] [.dat (ptrRep BoardRep) b1 [vP b2 o3]]) ?_ ?_
  · obtain ⟨w17, hw⟩ : ∃ x, x = w10.drew := ⟨_, rfl⟩
    refine region_pi (.q 0 (.q 1 (.q 2 (.q 3 (.q 4 (.l 5 (.q 6 (.q 7 (.q 8 (.q 9 (.q 10 (.q 11 (.q 12 (.q 13 (.q 14 (.q 15 (.q 16 (.q 17 (.q 18 (.q 19 (.q 20 (.q 21 (.q 22 (.q 23 (.q 24 (.l 25 (.q 26 (.q 27 (.q 28 (.q 29 (.q 30 (.q 31 (.q 32 (.q 33 (.q 34 (.l 35 (.q 36 (.nil)))))))))))))))))))))))))))))))))))))) (Ext w17) rfl (by kernel_rfl) ?_
    have hM := hM.drew
    rw [← hw] at hM ⊢
    clear hw
    refine pi_q hf rfl rfl rfl rfl (Ext.refl _) (e_move hf rfl) fun a hf => ?_
    refine pi_q hf rfl rfl rfl rfl (Ext.refl _) (e_field hf rfl Tryz.underlying41 rfl Tryz.sizeOf2 (o' := 0) rfl) fun a hf => ?_
    refine pi_q hf rfl rfl rfl rfl (Ext.refl _) (e_load1 hf rfl Tryz.isAgg2 (hM.boxCell (k := 0) rfl rfl)) fun a hf => ?_
    refine pi_q hf rfl rfl rfl rfl (Ext.refl _) (e_field hf rfl Tryz.underlying41 rfl Tryz.sizeOf2 (o' := 1) rfl) fun a hf => ?_
    refine pi_q hf rfl rfl rfl rfl (Ext.refl _) (e_load1 hf rfl Tryz.isAgg2 (hM.boxCell (k := 0) rfl rfl)) fun a hf => ?_
    refine pi_one ?_
    obtain ⟨y18, hz19, h16⟩ := bind_some h16
    refine pi_l hf rfl rfl rfl rfl (w_call hf Tryz.call137 rfl (r_spec_l11In ⟨_, Sh C _ _, none_, hM.sh_lt, none_not, C.G, hM.g_lt, g_none, hM.tabs⟩ b1 _ _ (hM.dat (k := 0) rfl) p5.Row hp6 p5.Col hp7 _ hz19) ?_)
    rintro _ w20 ⟨rfl, hM2⟩
    obtain ⟨hM, hx21, hup22⟩ := hM.back hM2
    dsimp only [List.cons_append, List.nil_append] at hM hup22
    clear hM2
    refine ⟨_, rfl, Ext w20, fun _ h => Ext.trans hx21 h, Ext.refl _, fun a hf => ?_⟩
    refine pi_q hf rfl rfl rfl rfl (Ext.refl _) (e_not hf rfl) fun a hf => ?_
    refine pi_q hf rfl rfl rfl rfl (Ext.refl _) (e_move hf rfl) fun a hf => ?_
    rcases cond_some h16 with ⟨hc23, h16⟩ | ⟨hc23, h16⟩
    · refine pi_gs hf rfl (wanted_f hf rfl rfl rfl rfl hc23) rfl rfl (Ext.refl _) fun a hf => ?_
      refine pi_gs hf rfl (wanted_f hf rfl rfl rfl rfl hc23) rfl rfl (Ext.refl _) fun a hf => ?_
      refine pi_gs hf rfl (wanted_f hf rfl rfl rfl rfl hc23) rfl rfl (Ext.refl _) fun a hf => ?_
      refine pi_gs hf rfl (wanted_f hf rfl rfl rfl rfl hc23) rfl rfl (Ext.refl _) fun a hf => ?_
      refine pi_gs hf rfl (wanted_f hf rfl rfl rfl rfl hc23) rfl rfl (Ext.refl _) fun a hf => ?_
      refine pi_gs hf rfl (wanted_f hf rfl rfl rfl rfl hc23) rfl rfl (Ext.refl _) fun a hf => ?_
      refine pi_gs hf rfl (wanted_f hf rfl rfl rfl rfl hc23) rfl rfl (Ext.refl _) fun a hf => ?_
      refine pi_gs hf rfl (wanted_f hf rfl rfl rfl rfl hc23) rfl rfl (Ext.refl _) fun a hf => ?_
      refine pi_gs hf rfl (wanted_f hf rfl rfl rfl rfl hc23) rfl rfl (Ext.refl _) fun a hf => ?_
      refine pi_q hf rfl rfl rfl rfl (Ext.refl _) (e_pick_t hf rfl hc23 rfl) fun a hf => ?_
      refine pi_q hf rfl rfl rfl rfl (Ext.refl _) (e_move hf rfl) fun a hf => ?_
      refine pi_gs hf rfl (wanted_f hf rfl rfl rfl rfl rfl) rfl rfl (Ext.refl _) fun a hf => ?_
      refine pi_gs hf rfl (wanted_f hf rfl rfl rfl rfl rfl) rfl rfl (Ext.refl _) fun a hf => ?_
      refine pi_gs hf rfl (wanted_f hf rfl rfl rfl rfl rfl) rfl rfl (Ext.refl _) fun a hf => ?_
      refine pi_gs hf rfl (wanted_f hf rfl rfl rfl rfl rfl) rfl rfl (Ext.refl _) fun a hf => ?_
      refine pi_gs hf rfl (wanted_f hf rfl rfl rfl rfl rfl) rfl rfl (Ext.refl _) fun a hf => ?_
      refine pi_gs hf rfl (wanted_f hf rfl rfl rfl rfl rfl) rfl rfl (Ext.refl _) fun a hf => ?_
      refine pi_one ?_
      refine pi_ls hf rfl (wanted_f hf rfl rfl rfl rfl rfl) rfl rfl (Ext.refl _) fun a hf => ?_
      refine pi_q hf rfl rfl rfl rfl (Ext.refl _) (e_pick_t hf rfl rfl rfl) fun a hf => ?_
      refine pi_q hf rfl rfl rfl rfl (Ext.refl _) (e_move hf rfl) fun a hf => ?_
      refine pi_gs hf rfl (wanted_f hf rfl rfl rfl rfl rfl) rfl rfl (Ext.refl _) fun a hf => ?_
      refine pi_gs hf rfl (wanted_f hf rfl rfl rfl rfl rfl) rfl rfl (Ext.refl _) fun a hf => ?_
      refine pi_gs hf rfl (wanted_f hf rfl rfl rfl rfl rfl) rfl rfl (Ext.refl _) fun a hf => ?_
      refine pi_gs hf rfl (wanted_f hf rfl rfl rfl rfl rfl) rfl rfl (Ext.refl _) fun a hf => ?_
      refine pi_gs hf rfl (wanted_f hf rfl rfl rfl rfl rfl) rfl rfl (Ext.refl _) fun a hf => ?_
      refine pi_gs hf rfl (wanted_f hf rfl rfl rfl rfl rfl) rfl rfl (Ext.refl _) fun a hf => ?_
      refine pi_gs hf rfl (wanted_f hf rfl rfl rfl rfl rfl) rfl rfl (Ext.refl _) fun a hf => ?_
      refine pi_one ?_
      refine pi_ls hf rfl (wanted_f hf rfl rfl rfl rfl rfl) rfl rfl (Ext.refl _) fun a hf => ?_
      refine pi_q hf rfl rfl rfl rfl (Ext.refl _) (e_pick_t hf rfl rfl rfl) fun a hf => ?_
      refine pi_nil ?_
      obtain rfl := some_inj h16
      refine then_n ?_
      exact ⟨true, rfl, hf.keep ⟨rfl, rfl, rfl, rfl, trivial⟩, hM.pick [0] rfl⟩
    · refine pi_gq hf rfl (wanted_t hf rfl rfl rfl rfl hc23) rfl rfl (Ext.refl _) (e_field hf rfl Tryz.underlying41 rfl Tryz.sizeOf2 (o' := 1) rfl) fun a hf => ?_
      refine pi_gq hf rfl (wanted_t hf rfl rfl rfl rfl hc23) rfl rfl (Ext.refl _) (e_load1 hf rfl Tryz.isAgg2 (hM.boxCell (k := 0) rfl rfl)) fun a hf => ?_
      refine pi_gq hf rfl (wanted_t hf rfl rfl rfl rfl hc23) rfl rfl (Ext.refl _) (e_move hf rfl) fun a hf => ?_
      obtain ⟨z25, hz26, h16⟩ := bind_some h16
      refine pi_gq hf rfl (wanted_t hf rfl rfl rfl rfl hc23) rfl rfl (Ext.refl _) (e_add hf rfl rfl hz26) fun a hf => ?_
      refine pi_gq hf rfl (wanted_t hf rfl rfl rfl rfl hc23) rfl rfl (Ext.refl _) (e_move hf rfl) fun a hf => ?_
      refine pi_gq hf rfl (wanted_t hf rfl rfl rfl rfl hc23) rfl rfl (Ext.refl _) (e_nil hf rfl) fun a hf => ?_
      obtain ⟨_, hr27, hM⟩ := hM.deref (hM.dat (k := 0) rfl)
      obtain ⟨rfl, hv28, hv29, hv30⟩ := BoardRep_open hr27
      refine pi_gq hf rfl (wanted_t hf rfl rfl rfl rfl hc23) rfl rfl (Ext.refl _) (e_field hf rfl Tryz.underlying28 rfl Tryz.sizeOf2 (o' := o3 + 0) rfl) fun a hf => ?_
      refine pi_gq hf rfl (wanted_t hf rfl rfl rfl rfl hc23) rfl rfl (Ext.refl _) (e_load1 hf rfl Tryz.isAgg2 (hM.litCell (k := 0) (j := 0) rfl rfl rfl)) fun a hf => ?_
      refine pi_gq hf rfl (wanted_t hf rfl rfl rfl rfl hc23) rfl rfl (Ext.refl _) (e_gt hf (x := z25) (y := b1.Size) rfl rfl) fun a hf => ?_
      refine pi_q hf rfl rfl rfl rfl (Ext.refl _) (e_pick_f hf rfl hc23 rfl) fun a hf => ?_
      refine pi_q hf rfl rfl rfl rfl (Ext.refl _) (e_move hf rfl) fun a hf => ?_
      rcases cond_some h16 with ⟨hc31, h16⟩ | ⟨hc31, h16⟩
      · refine pi_gs hf rfl (wanted_f hf rfl rfl rfl rfl hc31) rfl rfl (Ext.refl _) fun a hf => ?_
        refine pi_gs hf rfl (wanted_f hf rfl rfl rfl rfl hc31) rfl rfl (Ext.refl _) fun a hf => ?_
        refine pi_gs hf rfl (wanted_f hf rfl rfl rfl rfl hc31) rfl rfl (Ext.refl _) fun a hf => ?_
        refine pi_gs hf rfl (wanted_f hf rfl rfl rfl rfl hc31) rfl rfl (Ext.refl _) fun a hf => ?_
        refine pi_gs hf rfl (wanted_f hf rfl rfl rfl rfl hc31) rfl rfl (Ext.refl _) fun a hf => ?_
        refine pi_gs hf rfl (wanted_f hf rfl rfl rfl rfl hc31) rfl rfl (Ext.refl _) fun a hf => ?_
        refine pi_one ?_
        refine pi_ls hf rfl (wanted_f hf rfl rfl rfl rfl hc31) rfl rfl (Ext.refl _) fun a hf => ?_
        refine pi_q hf rfl rfl rfl rfl (Ext.refl _) (e_pick_t hf rfl hc31 rfl) fun a hf => ?_
        refine pi_q hf rfl rfl rfl rfl (Ext.refl _) (e_move hf rfl) fun a hf => ?_
        refine pi_gs hf rfl (wanted_f hf rfl rfl rfl rfl rfl) rfl rfl (Ext.refl _) fun a hf => ?_
        refine pi_gs hf rfl (wanted_f hf rfl rfl rfl rfl rfl) rfl rfl (Ext.refl _) fun a hf => ?_
        refine pi_gs hf rfl (wanted_f hf rfl rfl rfl rfl rfl) rfl rfl (Ext.refl _) fun a hf => ?_
        refine pi_gs hf rfl (wanted_f hf rfl rfl rfl rfl rfl) rfl rfl (Ext.refl _) fun a hf => ?_
        refine pi_gs hf rfl (wanted_f hf rfl rfl rfl rfl rfl) rfl rfl (Ext.refl _) fun a hf => ?_
        refine pi_gs hf rfl (wanted_f hf rfl rfl rfl rfl rfl) rfl rfl (Ext.refl _) fun a hf => ?_
        refine pi_gs hf rfl (wanted_f hf rfl rfl rfl rfl rfl) rfl rfl (Ext.refl _) fun a hf => ?_
        refine pi_one ?_
        refine pi_ls hf rfl (wanted_f hf rfl rfl rfl rfl rfl) rfl rfl (Ext.refl _) fun a hf => ?_
        refine pi_q hf rfl rfl rfl rfl (Ext.refl _) (e_pick_t hf rfl rfl rfl) fun a hf => ?_
        refine pi_nil ?_
        obtain rfl := some_inj h16
        refine then_n ?_
        exact ⟨true, rfl, hf.keep ⟨rfl, rfl, rfl, rfl, trivial⟩, hM.pick [1] rfl⟩
      · refine pi_gq hf rfl (wanted_t hf rfl rfl rfl rfl hc31) rfl rfl (Ext.refl _) (e_move hf rfl) fun a hf => ?_
        refine pi_gq hf rfl (wanted_t hf rfl rfl rfl rfl hc31) rfl rfl (Ext.refl _) (e_field hf rfl Tryz.underlying41 rfl Tryz.sizeOf2 (o' := 0) rfl) fun a hf => ?_
        refine pi_gq hf rfl (wanted_t hf rfl rfl rfl rfl hc31) rfl rfl (Ext.refl _) (e_load1 hf rfl Tryz.isAgg2 (hM.boxCell (k := 0) rfl rfl)) fun a hf => ?_
        refine pi_gq hf rfl (wanted_t hf rfl rfl rfl rfl hc31) rfl rfl (Ext.refl _) (e_field hf rfl Tryz.underlying41 rfl Tryz.sizeOf2 (o' := 1) rfl) fun a hf => ?_
        refine pi_gq hf rfl (wanted_t hf rfl rfl rfl rfl hc31) rfl rfl (Ext.refl _) (e_load1 hf rfl Tryz.isAgg2 (hM.boxCell (k := 0) rfl rfl)) fun a hf => ?_
        obtain ⟨z33, hz34, h16⟩ := bind_some h16
        refine pi_gq hf rfl (wanted_t hf rfl rfl rfl rfl hc31) rfl rfl (Ext.refl _) (e_sub hf rfl rfl hz34) fun a hf => ?_
        refine pi_one ?_
        obtain ⟨y35, hz36, h16⟩ := bind_some h16
        refine pi_gl hf rfl (wanted_t hf rfl rfl rfl rfl hc31) rfl rfl (w_call hf Tryz.call138 rfl (r_spec_l11Full ⟨_, Sh C _ _, none_, hM.sh_lt, none_not, C.G, hM.g_lt, g_none, hM.tabs⟩ b1 _ _ (hM.dat (k := 1) rfl) p5.Row hp6 z33 (chk_R hz34) _ hz36) ?_)
        rintro _ w37 ⟨rfl, hM2⟩
        obtain ⟨hM, hx38, hup39⟩ := hM.back hM2
        dsimp only [List.cons_append, List.nil_append] at hM hup39
        clear hM2
        refine ⟨_, rfl, Ext w37, fun _ h => Ext.trans hx38 h, Ext.refl _, fun a hf => ?_⟩
        refine pi_q hf rfl rfl rfl rfl (Ext.refl _) (e_pick_f hf rfl hc31 rfl) fun a hf => ?_
        refine pi_q hf rfl rfl rfl rfl (Ext.refl _) (e_move hf rfl) fun a hf => ?_
        rcases cond_some h16 with ⟨hc40, h16⟩ | ⟨hc40, h16⟩
        · refine pi_gs hf rfl (wanted_f hf rfl rfl rfl rfl hc40) rfl rfl (Ext.refl _) fun a hf => ?_
          refine pi_gs hf rfl (wanted_f hf rfl rfl rfl rfl hc40) rfl rfl (Ext.refl _) fun a hf => ?_
          refine pi_gs hf rfl (wanted_f hf rfl rfl rfl rfl hc40) rfl rfl (Ext.refl _) fun a hf => ?_
          refine pi_gs hf rfl (wanted_f hf rfl rfl rfl rfl hc40) rfl rfl (Ext.refl _) fun a hf => ?_
          refine pi_gs hf rfl (wanted_f hf rfl rfl rfl rfl hc40) rfl rfl (Ext.refl _) fun a hf => ?_
          refine pi_gs hf rfl (wanted_f hf rfl rfl rfl rfl hc40) rfl rfl (Ext.refl _) fun a hf => ?_
          refine pi_gs hf rfl (wanted_f hf rfl rfl rfl rfl hc40) rfl rfl (Ext.refl _) fun a hf => ?_
          refine pi_one ?_
          refine pi_ls hf rfl (wanted_f hf rfl rfl rfl rfl hc40) rfl rfl (Ext.refl _) fun a hf => ?_
          refine pi_q hf rfl rfl rfl rfl (Ext.refl _) (e_pick_t hf rfl hc40 rfl) fun a hf => ?_
          refine pi_nil ?_
          obtain rfl := some_inj h16
          refine then_n ?_
          exact ⟨true, rfl, hf.keep ⟨rfl, rfl, rfl, rfl, trivial⟩, hM.pick [1] rfl⟩
        · refine pi_gq hf rfl (wanted_t hf rfl rfl rfl rfl hc40) rfl rfl (Ext.refl _) (e_move hf rfl) fun a hf => ?_
          refine pi_gq hf rfl (wanted_t hf rfl rfl rfl rfl hc40) rfl rfl (Ext.refl _) (e_field hf rfl Tryz.underlying41 rfl Tryz.sizeOf2 (o' := 0) rfl) fun a hf => ?_
          refine pi_gq hf rfl (wanted_t hf rfl rfl rfl rfl hc40) rfl rfl (Ext.refl _) (e_load1 hf rfl Tryz.isAgg2 (hM.boxCell (k := 0) rfl rfl)) fun a hf => ?_
          refine pi_gq hf rfl (wanted_t hf rfl rfl rfl rfl hc40) rfl rfl (Ext.refl _) (e_field hf rfl Tryz.underlying41 rfl Tryz.sizeOf2 (o' := 1) rfl) fun a hf => ?_
          refine pi_gq hf rfl (wanted_t hf rfl rfl rfl rfl hc40) rfl rfl (Ext.refl _) (e_load1 hf rfl Tryz.isAgg2 (hM.boxCell (k := 0) rfl rfl)) fun a hf => ?_
          refine pi_gq hf rfl (wanted_t hf rfl rfl rfl rfl hc40) rfl rfl (Ext.refl _) (e_move hf rfl) fun a hf => ?_
          obtain ⟨z42, hz43, h16⟩ := bind_some h16
          refine pi_gq hf rfl (wanted_t hf rfl rfl rfl rfl hc40) rfl rfl (Ext.refl _) (e_add hf rfl rfl hz43) fun a hf => ?_
          refine pi_one ?_
          obtain ⟨y44, hz45, h16⟩ := bind_some h16
          refine pi_gl hf rfl (wanted_t hf rfl rfl rfl rfl hc40) rfl rfl (w_call hf Tryz.call138 rfl (r_spec_l11Full ⟨_, Sh C _ _, none_, hM.sh_lt, none_not, C.G, hM.g_lt, g_none, hM.tabs⟩ b1 _ _ (hM.dat (k := 1) rfl) p5.Row hp6 z42 (chk_R hz43) _ hz45) ?_)
          rintro _ w46 ⟨rfl, hM2⟩
          obtain ⟨hM, hx47, hup48⟩ := hM.back hM2
          dsimp only [List.cons_append, List.nil_append] at hM hup48
          clear hM2
          refine ⟨_, rfl, Ext w46, fun _ h => Ext.trans hx47 h, Ext.refl _, fun a hf => ?_⟩
          refine pi_q hf rfl rfl rfl rfl (Ext.refl _) (e_pick_f hf rfl hc40 rfl) fun a hf => ?_
          refine pi_nil ?_
          obtain rfl := some_inj h16
          refine then_n ?_
          exact ⟨y44, rfl, hf.keep ⟨rfl, rfl, rfl, rfl, trivial⟩, hM.pick [1] rfl⟩
  · rintro a w50 ⟨t13, rfl, hf, hM⟩
    try dsimp only at h
    rcases cond_some h with ⟨hc51, h⟩ | ⟨hc51, h⟩
    · refine cond_t hf rfl hc51 ?_
      refine wp_seq ?_
      refine region_pl ?_
      refine q_ hf rfl rfl rfl (e_assign hf rfl) fun a hf => ?_
      refine pl_nil ?_
      refine then_n ?_
      refine wp_ret ?_
      refine then_r ?_
      obtain rfl := some_inj h
      have hM := hM.outs (own' := []) 0 rfl
      exact leave1 hf rfl rfl ⟨rfl, hM.fin⟩
    · refine cond_f hf rfl hc51 ?_
      refine wp_skip ?_
      refine then_n ?_
      refine wp_seq ?_
      refine region_pl ?_
      refine q_ hf rfl rfl rfl (e_assign hf rfl) fun a hf => ?_
      refine pl_nil ?_
      refine then_n ?_
      obtain ⟨x54, h55, h⟩ := bind_some h
      refine seq_join (fun a w => ∃ (c52 : Bool), (.inl c52) = x54 ∧ Has 71 a [(6, .bool (c52))] ∧ Mem C w [.box b9 [vI (p5.Row), vI (p5.Col), .bool (p5.Down), vS (p5.Word)] 41] [.dat (ptrRep BoardRep) b1 [vP b2 o3]]) ?_ ?_
      · refine wp_seq ?_
        refine region_pl ?_
        refine q_ hf rfl rfl rfl (e_assign hf rfl) fun a hf => ?_
        refine pl_nil ?_
        refine then_n ?_
        refine wp_block ?_
        obtain ⟨x63, h64, h55⟩ := bind_some h55
        refine wp_loopM h64 (fun s a w => ∃ (c56 : Bool) (n58 : Int), (c56, n58) = s ∧ Has 71 a [(0, vP b2 (o3)), (3, vP b9 (0)), (5, vI ((p5.Word.length : Int))), (6, .bool (c56)), (7, vI (n58))] ∧ Mem C w [.box b9 [vI (p5.Row), vI (p5.Col), .bool (p5.Down), vS (p5.Word)] 41] [.dat (ptrRep BoardRep) b1 [vP b2 o3]] ∧ R64 n58) ?_ ?_
        · exact ⟨false, 0, rfl, hf.keep ⟨rfl, rfl, rfl, rfl, rfl, trivial⟩, hM.pick [0] rfl, (R64_lit rfl)⟩
        · rintro s o65 a w60 ⟨c56, n58, rfl, hf, hM, hv59⟩ h66 hd67
          replace h66 : m_spec_l12Fits_l1 p5 b1 c56 n58 = some o65 := h66
          unfold m_spec_l12Fits_l1 at h66
          refine wp_seq ?_
          refine wp_seq ?_
          refine region_pl ?_
          refine q_ hf rfl rfl rfl (e_move hf rfl) fun a hf => ?_
          refine q_ hf rfl rfl rfl (e_move hf rfl) fun a hf => ?_
          refine q_ hf rfl rfl rfl (e_lt hf (x := n58) (y := (p5.Word.length : Int)) rfl rfl) fun a hf => ?_
          refine pl_nil ?_
          refine then_n ?_
          rcases cond_some h66 with ⟨hc68, h66⟩ | ⟨hc68, h66⟩
          · refine cond_t hf rfl hc68 ?_
            refine wp_skip ?_
            refine then_n ?_
            obtain ⟨x71, h72, h66⟩ := bind_some h66
            refine seq_join (fun a w => ∃ (c69 : Bool), (.inl c69) = x71 ∧ Has 71 a [(0, vP b2 (o3)), (3, vP b9 (0)), (5, vI ((p5.Word.length : Int))), (6, .bool (c69)), (7, vI (n58))] ∧ Mem C w [.box b9 [vI (p5.Row), vI (p5.Col), .bool (p5.Down), vS (p5.Word)] 41] [.dat (ptrRep BoardRep) b1 [vP b2 o3]]) ?_ ?_
            · refine wp_block ?_
              refine wp_seq ?_
              refine region_pl ?_
              refine q_ hf rfl rfl rfl (e_move hf rfl) fun a hf => ?_
              refine q_ hf rfl rfl rfl (e_field hf rfl Tryz.underlying41 rfl Tryz.sizeOf2 (o' := 0) rfl) fun a hf => ?_
              refine q_ hf rfl rfl rfl (e_load1 hf rfl Tryz.isAgg2 (hM.boxCell (k := 0) rfl rfl)) fun a hf => ?_
              refine q_ hf rfl rfl rfl (e_field hf rfl Tryz.underlying41 rfl Tryz.sizeOf2 (o' := 1) rfl) fun a hf => ?_
              refine q_ hf rfl rfl rfl (e_load1 hf rfl Tryz.isAgg2 (hM.boxCell (k := 0) rfl rfl)) fun a hf => ?_
              refine q_ hf rfl rfl rfl (e_move hf rfl) fun a hf => ?_
              obtain ⟨z73, hz74, h72⟩ := bind_some h72
              refine q_ hf rfl rfl rfl (e_add hf rfl rfl hz74) fun a hf => ?_
              obtain ⟨y75, hz76, h72⟩ := bind_some h72
              refine pl_l hf rfl rfl rfl (w_call hf Tryz.call139 rfl (r_spec_l11At ⟨_, Sh C _ _, none_, hM.sh_lt, none_not, C.G, hM.g_lt, g_none, hM.tabs⟩ b1 _ _ (hM.dat (k := 0) rfl) p5.Row hp6 z73 (chk_R hz74) _ hz76) ?_)
              rintro _ w77 ⟨rfl, hM2⟩
              obtain ⟨hM, hx78, hup79⟩ := hM.back hM2
              dsimp only [List.cons_append, List.nil_append] at hM hup79
              clear hM2
              refine ⟨_, rfl, fun a hf => ?_⟩
              refine q_ hf rfl rfl rfl (e_assign hf rfl) fun a hf => ?_
              refine pl_nil ?_
              refine then_n ?_
              refine wp_seq ?_
              refine region_pl ?_
              refine q_ hf rfl rfl rfl (e_move hf rfl) fun a hf => ?_
              refine q_ hf rfl rfl rfl (e_eqB hf (x := y75) (y := 46) rfl rfl) fun a hf => ?_
              refine pl_nil ?_
              refine then_n ?_
              rcases cond_some h72 with ⟨hc80, h72⟩ | ⟨hc80, h72⟩
              · refine cond_t hf rfl hc80 ?_
                refine region_pl ?_
                refine q_ hf rfl rfl rfl (e_assign hf rfl) fun a hf => ?_
                refine pl_nil ?_
                refine blk_n ?_
                obtain rfl := some_inj h72
                refine then_n ?_
                exact ⟨true, rfl, hf.keep ⟨rfl, rfl, rfl, rfl, rfl, trivial⟩, hM.pick [0] rfl⟩
              · refine cond_f hf rfl hc80 ?_
                refine wp_seq ?_
                refine region_pl ?_
                refine q_ hf rfl rfl rfl (e_move hf rfl) fun a hf => ?_
                refine q_ hf rfl rfl rfl (e_field hf rfl Tryz.underlying41 rfl Tryz.sizeOf9 (o' := 3) rfl) fun a hf => ?_
                refine q_ hf rfl rfl rfl (e_load1 hf rfl Tryz.isAgg9 (hM.boxCell (k := 0) rfl rfl)) fun a hf => ?_
                refine q_ hf rfl rfl rfl (e_move hf rfl) fun a hf => ?_
                obtain ⟨c82, hz83, h72⟩ := bind_some h72
                refine q_ hf rfl rfl rfl (e_indexS hf (x := p5.Word) rfl rfl Tryz.underlying9 hz83) fun a hf => ?_
                refine q_ hf rfl rfl rfl (e_neB hf (x := y75) (y := c82) rfl rfl) fun a hf => ?_
                refine pl_nil ?_
                refine then_n ?_
                rcases cond_some h72 with ⟨hc84, h72⟩ | ⟨hc84, h72⟩
                · refine cond_t hf rfl hc84 ?_
                  refine wp_seq ?_
                  refine region_pl ?_
                  refine q_ hf rfl rfl rfl (e_assign hf rfl) fun a hf => ?_
                  refine pl_nil ?_
                  refine then_n ?_
                  refine wp_ret ?_
                  refine blk_r ?_
                  obtain rfl := some_inj h72
                  try dsimp only at h66
                  refine then_r ?_
                  obtain rfl := some_inj h66
                  obtain rfl := hd67 _ rfl
                  try dsimp only at h55
                  refine then_r ?_
                  refine blk_r ?_
                  obtain rfl := some_inj h55
                  try dsimp only at h
                  refine then_r ?_
                  obtain rfl := some_inj h
                  have hM := hM.outs (own' := []) 0 rfl
                  exact leave1 hf rfl rfl ⟨rfl, hM.fin⟩
                · refine cond_f hf rfl hc84 ?_
                  refine wp_skip ?_
                  refine blk_n ?_
                  obtain rfl := some_inj h72
                  refine then_n ?_
                  exact ⟨c56, rfl, hf.keep ⟨rfl, rfl, rfl, rfl, rfl, trivial⟩, hM.pick [0] rfl⟩
            · rintro a w86 ⟨c69, rfl, hf, hM⟩
              try dsimp only at h66
              refine region_pl ?_
              refine q_ hf rfl rfl rfl (e_move hf rfl) fun a hf => ?_
              obtain ⟨z87, hz88, h66⟩ := bind_some h66
              refine q_ hf rfl rfl rfl (e_add hf rfl rfl hz88) fun a hf => ?_
              refine q_ hf rfl rfl rfl (e_assign hf rfl) fun a hf => ?_
              refine pl_nil ?_
              obtain rfl := some_inj h66
              refine then_n ⟨_, rfl, ?_⟩
              exact ⟨c69, z87, rfl, hf.keep ⟨rfl, rfl, rfl, rfl, rfl, trivial⟩, hM.pick [0] rfl, (chk_R hz88)⟩
          · refine cond_f hf rfl hc68 ?_
            refine wp_exit ?_
            refine then_x ?_
            obtain rfl := some_inj h66
            obtain rfl := hd67 _ rfl
            try dsimp only at h55
            refine then_x ?_
            refine exit_hit ?_
            obtain rfl := some_inj h55
            refine then_n ?_
            exact ⟨c56, rfl, hf.keep ⟨rfl, trivial⟩, hM.pick [0] rfl⟩
      · rintro a w96 ⟨c52, rfl, hf, hM⟩
        try dsimp only at h
        refine wp_seq ?_
        refine region_pl ?_
        refine q_ hf rfl rfl rfl (e_move hf rfl) fun a hf => ?_
        refine q_ hf rfl rfl rfl (e_assign hf rfl) fun a hf => ?_
        refine pl_nil ?_
        refine then_n ?_
        refine wp_ret ?_
        obtain rfl := some_inj h
        have hM := hM.outs (own' := []) 0 rfl
        exact leave1 hf rfl rfl ⟨rfl, hM.fin⟩

set_option maxRecDepth 100000 in
set_option maxHeartbeats 4000000 in
theorem r_spec_l12Ok (C : Cx) (b1 : Board) (b2 : Nat) (o3 : Nat) (hp4 : (ptrRep BoardRep).R C.w0 C.S0 b1 [vP b2 o3]) (p5 : Play) (hp6 : R64 p5.Row) (hp7 : R64 p5.Col) (hp8 : p5.Word.length ≤ maxLen) (r : Bool) (h : m_spec_l12Ok b1 p5 = some r) :
    Calls Tryz.prog 42 #[vP b2 (o3), .agg #[vI (p5.Row), vI (p5.Col), .bool (p5.Down), vS (p5.Word)]] C.w0 fun e w => e = .returned (.bool (r)) ∧ Mem C w [] [] := by
  have hM := Mem.begin C [.dat (ptrRep BoardRep) b1 [vP b2 o3]] ⟨hp4, trivial⟩
  refine enter Tryz.func42 rfl Tryz.ntmps42 rfl fun a hf => ?_
  unfold m_spec_l12Ok at h
  refine wp_seq ?_
  refine region_pl ?_
  refine pl_l hf rfl rfl rfl (w_box hf hM (cs := [vI (p5.Row), vI (p5.Col), .bool (p5.Down), vS (p5.Word)]) rfl rfl fun b9 w10 hx11 hM a hf => ?_)
  refine q_ hf rfl rfl rfl (e_assign hf rfl) fun a hf => ?_
  refine pl_nil ?_
  refine then_n ?_
  refine wp_seq ?_
  obtain ⟨x15, h16, h⟩ := bind_some h
  refine seq_join (fun a w => ∃ (t13 : Bool), t13 = x15 ∧ Has 24 a [(0, vP b2 (o3)), (3, vP b9 (0)), (15, .bool (t13))] ∧ Mem C w [.box b9 [vI (p5.Row), vI (p5.Col), .bool (p5.Down), vS (p5.Word)] 41] [.dat (ptrRep BoardRep) b1 [vP b2 o3]]) ?_ ?_
  · refine region_pl ?_
    refine q_ hf rfl rfl rfl (e_move hf rfl) fun a hf => ?_
    obtain ⟨y17, hz18, h16⟩ := bind_some h16
    refine pl_l hf rfl rfl rfl (w_call hf Tryz.call39 rfl (r_spec_l11Ok ⟨_, Sh C _ _, none_, hM.sh_lt, none_not, C.G, hM.g_lt, g_none, hM.tabs⟩ b1 _ _ (hM.dat (k := 0) rfl) _ hz18) ?_)
    rintro _ w19 ⟨rfl, hM2⟩
    obtain ⟨hM, hx20, hup21⟩ := hM.back hM2
    dsimp only [List.cons_append, List.nil_append] at hM hup21
    clear hM2
    refine ⟨_, rfl, fun a hf => ?_⟩
    refine q_ hf rfl rfl rfl (e_not hf rfl) fun a hf => ?_
    refine q_ hf rfl rfl rfl (e_move hf rfl) fun a hf => ?_
    rcases cond_some h16 with ⟨hc22, h16⟩ | ⟨hc22, h16⟩
    · refine pl_gs (wanted_f hf rfl rfl rfl rfl hc22) hf rfl rfl fun a hf => ?_
      refine pl_gs (wanted_f hf rfl rfl rfl rfl hc22) hf rfl rfl fun a hf => ?_
      refine pl_gs (wanted_f hf rfl rfl rfl rfl hc22) hf rfl rfl fun a hf => ?_
      refine pl_gs (wanted_f hf rfl rfl rfl rfl hc22) hf rfl rfl fun a hf => ?_
      refine q_ hf rfl rfl rfl (e_pick_t hf rfl hc22 rfl) fun a hf => ?_
      refine pl_nil ?_
      obtain rfl := some_inj h16
      refine then_n ?_
      exact ⟨true, rfl, hf.keep ⟨rfl, rfl, rfl, trivial⟩, hM.pick [0] rfl⟩
    · refine gq (wanted_t hf rfl rfl rfl rfl hc22) hf rfl rfl (e_field hf rfl Tryz.underlying41 rfl Tryz.sizeOf9 (o' := 3) rfl) fun a hf => ?_
      refine gq (wanted_t hf rfl rfl rfl rfl hc22) hf rfl rfl (e_load1 hf rfl Tryz.isAgg9 (hM.boxCell (k := 0) rfl rfl)) fun a hf => ?_
      obtain ⟨y24, hz25, h16⟩ := bind_some h16
      refine pl_gl (wanted_t hf rfl rfl rfl rfl hc22) hf rfl rfl (w_call hf Tryz.call87 rfl (r_spec_l12Word ⟨_, Sh C _ _, none_, hM.sh_lt, none_not, C.G, hM.g_lt, g_none, hM.tabs⟩ p5.Word hp8 _ hz25) ?_)
      rintro _ w26 ⟨rfl, hM2⟩
      obtain ⟨hM, hx27, hup28⟩ := hM.back hM2
      dsimp only [List.cons_append, List.nil_append] at hM hup28
      clear hM2
      refine ⟨_, rfl, fun a hf => ?_⟩
      refine gq (wanted_t hf rfl rfl rfl rfl hc22) hf rfl rfl (e_not hf rfl) fun a hf => ?_
      refine q_ hf rfl rfl rfl (e_pick_f hf rfl hc22 rfl) fun a hf => ?_
      refine pl_nil ?_
      obtain rfl := some_inj h16
      refine then_n ?_
      exact ⟨(!y24), rfl, hf.keep ⟨rfl, rfl, rfl, trivial⟩, hM.pick [0] rfl⟩
  · rintro a w30 ⟨t13, rfl, hf, hM⟩
    try dsimp only at h
    rcases cond_some h with ⟨hc31, h⟩ | ⟨hc31, h⟩
    · refine cond_t hf rfl hc31 ?_
      refine wp_seq ?_
      refine region_pl ?_
      refine q_ hf rfl rfl rfl (e_assign hf rfl) fun a hf => ?_
      refine pl_nil ?_
      refine then_n ?_
      refine wp_ret ?_
      refine then_r ?_
      obtain rfl := some_inj h
      have hM := hM.outs (own' := []) 0 rfl
      exact leave1 hf rfl rfl ⟨rfl, hM.fin⟩
    · refine cond_f hf rfl hc31 ?_
      refine wp_skip ?_
      refine then_n ?_
      refine wp_seq ?_
      refine region_pl ?_
      refine q_ hf rfl rfl rfl (e_move hf rfl) fun a hf => ?_
      refine q_ hf rfl rfl rfl (e_loadA hf (us := [vI (p5.Row), vI (p5.Col), .bool (p5.Down), vS (p5.Word)]) rfl ⟨Tryz.isAgg41, Tryz.sizeOf41⟩ rfl (hM.boxSub (k := 0) (us := [vI (p5.Row), vI (p5.Col), .bool (p5.Down), vS (p5.Word)]) (o := 0) rfl rfl)) fun a hf => ?_
      obtain ⟨y32, hz33, h⟩ := bind_some h
      refine pl_l hf rfl rfl rfl (w_call hf Tryz.call88 rfl (r_spec_l12Flat ⟨_, Sh C _ _, none_, hM.sh_lt, none_not, C.G, hM.g_lt, g_none, hM.tabs⟩ b1 _ _ (hM.dat (k := 0) rfl) p5 hp6 hp7 hp8 _ hz33) ?_)
      rintro _ w40 ⟨rfl, hM2, hv34, hv35, hv36, hv37, hv38, hv39⟩
      obtain ⟨hM, hx41, hup42⟩ := hM.back hM2
      dsimp only [List.cons_append, List.nil_append] at hM hup42
      clear hM2
      refine ⟨_, rfl, fun a hf => ?_⟩
      refine q_ hf rfl rfl rfl (e_move hf rfl) fun a hf => ?_
      refine q_ hf rfl rfl rfl (e_extract hf rfl rfl) fun a hf => ?_
      refine q_ hf rfl rfl rfl (e_extract hf rfl rfl) fun a hf => ?_
      refine pl_l hf rfl rfl rfl (w_alloc hM (cs := [vI (0), vS (([] : Str)), vS (([] : Str))]) Tryz.zeroValue28 rfl fun b43 w44 hx45 hM a hf => ?_)
      refine pl_l hf rfl rfl rfl (w_alloc hM (cs := [vI (0), vI (0), .bool (false), vS (([] : Str))]) Tryz.zeroValue41 rfl fun b47 w48 hx49 hM a hf => ?_)
      refine pl_0 hf rfl rfl (w_store hf hM (us := [vI (y32.1.Size), vS (y32.1.Premium), vS (y32.1.Cells)]) (cs' := [vI (y32.1.Size), vS (y32.1.Premium), vS (y32.1.Cells)]) rfl rfl (k := 1) rfl rfl Tryz.sizeOf28 rfl rfl rfl fun w51 hM => ?_)
      dsimp only [List.set] at hM
      refine pl_0 hf rfl rfl (w_store hf hM (us := [vI (y32.2.Row), vI (y32.2.Col), .bool (y32.2.Down), vS (y32.2.Word)]) (cs' := [vI (y32.2.Row), vI (y32.2.Col), .bool (y32.2.Down), vS (y32.2.Word)]) rfl rfl (k := 0) rfl rfl Tryz.sizeOf41 rfl rfl rfl fun w54 hM => ?_)
      dsimp only [List.set] at hM
      refine pl_nil ?_
      refine then_n ?_
      refine wp_seq ?_
      refine region_pl ?_
      refine q_ hf rfl rfl rfl (e_loadA hf (us := [vI (y32.2.Row), vI (y32.2.Col), .bool (y32.2.Down), vS (y32.2.Word)]) rfl ⟨Tryz.isAgg41, Tryz.sizeOf41⟩ rfl (hM.boxSub (k := 0) (us := [vI (y32.2.Row), vI (y32.2.Col), .bool (y32.2.Down), vS (y32.2.Word)]) (o := 0) rfl rfl)) fun a hf => ?_
      obtain ⟨y57, hz58, h⟩ := bind_some h
      refine pl_l hf rfl rfl rfl (w_call hf Tryz.call89 rfl (r_spec_l12Fits ⟨_, All C _ _, none_, hM.all_lt, none_not, C.G, hM.g_lt, g_none, hM.tabs⟩ y32.1 _ _ (hM.lendBox (k := 1) rfl (BoardRep_mk (x := y32.1) hv34 hv35 hv36)) y32.2 hv37 hv38 hv39 _ hz58) ?_)
      rintro _ w59 ⟨rfl, hM2⟩
      obtain ⟨hM, hx60⟩ := hM.backA hM2
      clear hM2
      refine ⟨_, rfl, fun a hf => ?_⟩
      refine q_ hf rfl rfl rfl (e_assign hf rfl) fun a hf => ?_
      refine pl_nil ?_
      refine then_n ?_
      refine wp_ret ?_
      obtain rfl := some_inj h
      have hM := hM.outs (own' := []) 0 rfl
      exact leave1 hf rfl rfl ⟨rfl, hM.fin⟩

set_option maxRecDepth 100000 in
set_option maxHeartbeats 4000000 in
theorem r_spec_l12Fresh (C : Cx) (b1 : Board) (b2 : Nat) (o3 : Nat) (hp4 : (ptrRep BoardRep).R C.w0 C.S0 b1 [vP b2 o3]) (p5 : Play) (hp6 : R64 p5.Row) (hp7 : R64 p5.Col) (hp8 : p5.Word.length ≤ maxLen) (r : (List Int)) (h : m_spec_l12Fresh b1 p5 = some r) :
    Calls Tryz.prog 162 #[vP b2 (o3), .agg #[vI (p5.Row), vI (p5.Col), .bool (p5.Down), vS (p5.Word)]] C.w0 fun e w => ∃ (A_1 : Option Addr), ∃ (c_1 : Nat), e = .returned (vL A_1 (r) c_1) ∧ Mem C w [.row intRep A_1 c_1 2 r true] [] := by
  have hM := Mem.begin C [.dat (ptrRep BoardRep) b1 [vP b2 o3]] ⟨hp4, trivial⟩
  refine enter Tryz.func162 rfl Tryz.ntmps162 rfl fun a hf => ?_
  unfold m_spec_l12Fresh at h
  refine wp_seq ?_
  refine region_pl ?_
  refine pl_l hf rfl rfl rfl (w_box hf hM (cs := [vI (p5.Row), vI (p5.Col), .bool (p5.Down), vS (p5.Word)]) rfl rfl fun b9 w10 hx11 hM a hf => ?_)
  refine q_ hf rfl rfl rfl (e_assign hf rfl) fun a hf => ?_
  refine pl_nil ?_
  refine then_n ?_
  refine wp_seq ?_
  refine region_pl ?_
  refine pl_l hf rfl rfl rfl (w_slice0 (K := intRep) hM Tryz.underlying177 ei_2 fun b13 w14 hx15 hM a hf => ?_)
  refine q_ hf rfl rfl rfl (e_assign hf rfl) fun a hf => ?_
  refine pl_nil ?_
  refine then_n ?_
  obtain ⟨x19, h20, h⟩ := bind_some h
  refine seq_join (fun a w => ∃ (xs16 : (List Int)) (A17 : Option Addr) (c18 : Nat), xs16 = x19 ∧ Has 29 a [(5, vL A17 (xs16) c18)] ∧ Mem C w [.row intRep A17 c18 2 xs16 true, .box b9 [vI (p5.Row), vI (p5.Col), .bool (p5.Down), vS (p5.Word)] 41] [.dat (ptrRep BoardRep) b1 [vP b2 o3]]) ?_ ?_
  · refine wp_seq ?_
    refine region_pl ?_
    refine q_ hf rfl rfl rfl (e_assign hf rfl) fun a hf => ?_
    refine pl_nil ?_
    refine then_n ?_
    refine wp_block ?_
    obtain ⟨x30, h31, h20⟩ := bind_some h20
    refine wp_loopM h31 (fun s a w => ∃ (xs21 : (List Int)) (n24 : Int) (A22 : Option Addr) (c23 : Nat), (xs21, n24) = s ∧ Has 29 a [(0, vP b2 (o3)), (3, vP b9 (0)), (5, vL A22 (xs21) c23), (6, vI (n24))] ∧ Mem C w [.row intRep A22 c23 2 xs21 true, .box b9 [vI (p5.Row), vI (p5.Col), .bool (p5.Down), vS (p5.Word)] 41] [.dat (ptrRep BoardRep) b1 [vP b2 o3]] ∧ R64 n24) ?_ ?_
    · exact ⟨([] : (List Int)), 0, (some ⟨b13, 0, none⟩), 0, rfl, hf.keep ⟨rfl, rfl, rfl, rfl, trivial⟩, hM.pick [0] rfl, (R64_lit rfl)⟩
    · rintro s o32 a w26 ⟨xs21, n24, A22, c23, rfl, hf, hM, hv25⟩ h33 hd34
      replace h33 : m_spec_l12Fresh_l1 p5 b1 xs21 n24 = some o32 := h33
      unfold m_spec_l12Fresh_l1 at h33
      refine wp_seq ?_
      refine wp_seq ?_
      refine region_pl ?_
      refine q_ hf rfl rfl rfl (e_move hf rfl) fun a hf => ?_
      refine q_ hf rfl rfl rfl (e_field hf rfl Tryz.underlying41 rfl Tryz.sizeOf9 (o' := 3) rfl) fun a hf => ?_
      refine q_ hf rfl rfl rfl (e_load1 hf rfl Tryz.isAgg9 (hM.boxCell (k := 1) rfl rfl)) fun a hf => ?_
      refine q_ hf rfl rfl rfl (e_lenS hf (x := p5.Word) rfl Tryz.underlying9) fun a hf => ?_
      refine q_ hf rfl rfl rfl (e_lt hf (x := n24) (y := (p5.Word.length : Int)) rfl rfl) fun a hf => ?_
      refine pl_nil ?_
      refine then_n ?_
      rcases cond_some h33 with ⟨hc35, h33⟩ | ⟨hc35, h33⟩
      · refine cond_t hf rfl hc35 ?_
        refine wp_skip ?_
        refine then_n ?_
        obtain ⟨x39, h40, h33⟩ := bind_some h33
        refine seq_join (fun a w => ∃ (xs36 : (List Int)) (A37 : Option Addr) (c38 : Nat), xs36 = x39 ∧ Has 29 a [(0, vP b2 (o3)), (3, vP b9 (0)), (5, vL A37 (xs36) c38), (6, vI (n24))] ∧ Mem C w [.row intRep A37 c38 2 xs36 true, .box b9 [vI (p5.Row), vI (p5.Col), .bool (p5.Down), vS (p5.Word)] 41] [.dat (ptrRep BoardRep) b1 [vP b2 o3]]) ?_ ?_
        · refine wp_block ?_
          refine wp_seq ?_
          refine region_pl ?_
          refine q_ hf rfl rfl rfl (e_move hf rfl) fun a hf => ?_
          refine q_ hf rfl rfl rfl (e_field hf rfl Tryz.underlying41 rfl Tryz.sizeOf2 (o' := 0) rfl) fun a hf => ?_
          refine q_ hf rfl rfl rfl (e_load1 hf rfl Tryz.isAgg2 (hM.boxCell (k := 1) rfl rfl)) fun a hf => ?_
          refine q_ hf rfl rfl rfl (e_field hf rfl Tryz.underlying41 rfl Tryz.sizeOf2 (o' := 1) rfl) fun a hf => ?_
          refine q_ hf rfl rfl rfl (e_load1 hf rfl Tryz.isAgg2 (hM.boxCell (k := 1) rfl rfl)) fun a hf => ?_
          refine q_ hf rfl rfl rfl (e_move hf rfl) fun a hf => ?_
          obtain ⟨z41, hz42, h40⟩ := bind_some h40
          refine q_ hf rfl rfl rfl (e_add hf rfl rfl hz42) fun a hf => ?_
          obtain ⟨y43, hz44, h40⟩ := bind_some h40
          refine pl_l hf rfl rfl rfl (w_call hf Tryz.call139 rfl (r_spec_l11At ⟨_, Sh C _ _, none_, hM.sh_lt, none_not, C.G, hM.g_lt, g_none, hM.tabs⟩ b1 _ _ (hM.dat (k := 0) rfl) p5.Row hp6 z41 (chk_R hz42) _ hz44) ?_)
          rintro _ w45 ⟨rfl, hM2⟩
          obtain ⟨hM, hx46, hup47⟩ := hM.back hM2
          dsimp only [List.cons_append, List.nil_append] at hM hup47
          clear hM2
          refine ⟨_, rfl, fun a hf => ?_⟩
          refine q_ hf rfl rfl rfl (e_eqB hf (x := y43) (y := 46) rfl rfl) fun a hf => ?_
          refine pl_nil ?_
          refine then_n ?_
          rcases cond_some h40 with ⟨hc48, h40⟩ | ⟨hc48, h40⟩
          · refine cond_t hf rfl hc48 ?_
            refine region_pl ?_
            refine q_ hf rfl rfl rfl (e_move hf rfl) fun a hf => ?_
            refine q_ hf rfl rfl rfl (e_move hf rfl) fun a hf => ?_
            refine pl_l hf rfl rfl rfl (w_slice hf hM (K := intRep) (xs := ([n24] : (List Int))) (os := [.tmp 25]) Tryz.underlying177 ei_2 rfl rfl rfl rfl rfl ⟨⟨[vI (n24)], rfl, ⟨rfl, hv25⟩⟩, trivial⟩ rfl fun b49 w50 hx51 hM a hf => ?_)
            obtain ⟨xs52, hz53, h40⟩ := bind_some h40
            refine pl_l hf rfl rfl rfl (w_append hf hM Tryz.underlying177 ei_2 rfl rfl rfl (k := 1) rfl (hM.srcRow (k := 0) rfl) hz53 fun A54 c55 w56 hM a hf => ?_)
            dsimp only [List.set] at hM
            refine q_ hf rfl rfl rfl (e_assign hf rfl) fun a hf => ?_
            refine pl_nil ?_
            refine blk_n ?_
            obtain rfl := some_inj h40
            refine then_n ?_
            exact ⟨xs52, A54, c55, rfl, hf.keep ⟨rfl, rfl, rfl, rfl, trivial⟩, (hM.drop (.cons _ (.cons_cons _ (.cons_cons _ .slnil)))).pick [0] rfl⟩
          · refine cond_f hf rfl hc48 ?_
            refine wp_skip ?_
            refine blk_n ?_
            obtain rfl := some_inj h40
            refine then_n ?_
            exact ⟨xs21, A22, c23, rfl, hf.keep ⟨rfl, rfl, rfl, rfl, trivial⟩, hM.pick [0] rfl⟩
        · rintro a w61 ⟨xs36, A37, c38, rfl, hf, hM⟩
          try dsimp only at h33
          refine region_pl ?_
          refine q_ hf rfl rfl rfl (e_move hf rfl) fun a hf => ?_
          obtain ⟨z62, hz63, h33⟩ := bind_some h33
          refine q_ hf rfl rfl rfl (e_add hf rfl rfl hz63) fun a hf => ?_
          refine q_ hf rfl rfl rfl (e_assign hf rfl) fun a hf => ?_
          refine pl_nil ?_
          obtain rfl := some_inj h33
          refine then_n ⟨_, rfl, ?_⟩
          exact ⟨xs36, z62, A37, c38, rfl, hf.keep ⟨rfl, rfl, rfl, rfl, trivial⟩, hM.pick [0] rfl, (chk_R hz63)⟩
      · refine cond_f hf rfl hc35 ?_
        refine wp_exit ?_
        refine then_x ?_
        obtain rfl := some_inj h33
        obtain rfl := hd34 _ rfl
        try dsimp only at h20
        refine then_x ?_
        refine exit_hit ?_
        obtain rfl := some_inj h20
        refine then_n ?_
        exact ⟨xs21, A22, c23, rfl, hf.keep ⟨rfl, trivial⟩, hM.pick [0] rfl⟩
  · rintro a w69 ⟨xs16, A17, c18, rfl, hf, hM⟩
    try dsimp only at h
    refine wp_seq ?_
    refine region_pl ?_
    refine q_ hf rfl rfl rfl (e_move hf rfl) fun a hf => ?_
    refine q_ hf rfl rfl rfl (e_assign hf rfl) fun a hf => ?_
    refine pl_nil ?_
    refine then_n ?_
    refine wp_ret ?_
    obtain rfl := some_inj h
    have hM := hM.outs (own' := [.row intRep A17 c18 2 xs16 true]) 1 rfl
    exact leave1 hf rfl rfl ⟨A17, c18, rfl, hM.fin⟩

set_option maxRecDepth 100000 in
set_option maxHeartbeats 4000000 in
theorem r_spec_l12Placed (C : Cx) (b1 : Board) (b2 : Nat) (o3 : Nat) (hp4 : (ptrRep BoardRep).R C.w0 C.S0 b1 [vP b2 o3]) (p5 : Play) (hp6 : R64 p5.Row) (hp7 : R64 p5.Col) (hp8 : p5.Word.length ≤ maxLen) (r : Str) (h : m_spec_l12Placed b1 p5 = some r) :
    Calls Tryz.prog 141 #[vP b2 (o3), .agg #[vI (p5.Row), vI (p5.Col), .bool (p5.Down), vS (p5.Word)]] C.w0 fun e w => e = .returned (vS (r)) ∧ Mem C w [] [] ∧ r.length ≤ maxLen := by
  have hM := Mem.begin C [.dat (ptrRep BoardRep) b1 [vP b2 o3]] ⟨hp4, trivial⟩
  refine enter Tryz.func141 rfl Tryz.ntmps141 rfl fun a hf => ?_
  unfold m_spec_l12Placed at h
  refine wp_seq ?_
  refine region_pl ?_
  refine pl_l hf rfl rfl rfl (w_box hf hM (cs := [vI (p5.Row), vI (p5.Col), .bool (p5.Down), vS (p5.Word)]) rfl rfl fun b9 w10 hx11 hM a hf => ?_)
  refine q_ hf rfl rfl rfl (e_assign hf rfl) fun a hf => ?_
  refine pl_nil ?_
  refine then_n ?_
  refine wp_seq ?_
  refine region_pl ?_
  refine q_ hf rfl rfl rfl (e_move hf rfl) fun a hf => ?_
  refine q_ hf rfl rfl rfl (e_loadA hf (us := [vI (p5.Row), vI (p5.Col), .bool (p5.Down), vS (p5.Word)]) rfl ⟨Tryz.isAgg41, Tryz.sizeOf41⟩ rfl (hM.boxSub (k := 0) (us := [vI (p5.Row), vI (p5.Col), .bool (p5.Down), vS (p5.Word)]) (o := 0) rfl rfl)) fun a hf => ?_
  obtain ⟨y13, hz14, h⟩ := bind_some h
  refine pl_l hf rfl rfl rfl (w_call hf Tryz.call162 rfl (r_spec_l12Fresh ⟨_, Sh C _ _, none_, hM.sh_lt, none_not, C.G, hM.g_lt, g_none, hM.tabs⟩ b1 _ _ (hM.dat (k := 0) rfl) p5 hp6 hp7 hp8 _ hz14) ?_)
  rintro _ w17 ⟨A15, c16, rfl, hM2⟩
  obtain ⟨hM, hx18, hup19⟩ := hM.back hM2
  dsimp only [List.cons_append, List.nil_append] at hM hup19
  clear hM2
  refine ⟨_, rfl, fun a hf => ?_⟩
  refine q_ hf rfl rfl rfl (e_assign hf rfl) fun a hf => ?_
  refine pl_nil ?_
  refine then_n ?_
  refine wp_seq ?_
  refine region_pl ?_
  refine pl_l hf rfl rfl rfl (w_slice0 (K := byteRep) hM Tryz.underlying138 ei_5 fun b20 w21 hx22 hM a hf => ?_)
  refine q_ hf rfl rfl rfl (e_assign hf rfl) fun a hf => ?_
  refine pl_nil ?_
  refine then_n ?_
  obtain ⟨x26, h27, h⟩ := bind_some h
  refine seq_join (fun a w => ∃ (xs23 : Str) (A24 : Option Addr) (c25 : Nat), xs23 = x26 ∧ Has 30 a [(6, vL A24 (xs23) c25)] ∧ Mem C w [.row byteRep A24 c25 5 xs23 true, .row intRep A15 c16 2 y13 true, .box b9 [vI (p5.Row), vI (p5.Col), .bool (p5.Down), vS (p5.Word)] 41] [.dat (ptrRep BoardRep) b1 [vP b2 o3]]) ?_ ?_
  · refine wp_seq ?_
    refine region_pl ?_
    refine q_ hf rfl rfl rfl (e_assign hf rfl) fun a hf => ?_
    refine pl_nil ?_
    refine then_n ?_
    refine wp_block ?_
    obtain ⟨x37, h38, h27⟩ := bind_some h27
    refine wp_loopM h38 (fun s a w => ∃ (xs28 : Str) (n31 : Int) (A29 : Option Addr) (c30 : Nat), (xs28, n31) = s ∧ Has 30 a [(3, vP b9 (0)), (5, vL A15 (y13) c16), (6, vL A29 (xs28) c30), (7, vI (n31))] ∧ Mem C w [.row byteRep A29 c30 5 xs28 true, .row intRep A15 c16 2 y13 true, .box b9 [vI (p5.Row), vI (p5.Col), .bool (p5.Down), vS (p5.Word)] 41] [.dat (ptrRep BoardRep) b1 [vP b2 o3]] ∧ R64 n31) ?_ ?_
    · exact ⟨([] : Str), 0, (some ⟨b20, 0, none⟩), 0, rfl, hf.keep ⟨rfl, rfl, rfl, rfl, trivial⟩, hM.pick [0] rfl, (R64_lit rfl)⟩
    · rintro s o39 a w33 ⟨xs28, n31, A29, c30, rfl, hf, hM, hv32⟩ h40 hd41
      replace h40 : m_spec_l12Placed_l1 y13 p5 xs28 n31 = some o39 := h40
      unfold m_spec_l12Placed_l1 at h40
      refine wp_seq ?_
      refine wp_seq ?_
      refine region_pl ?_
      refine q_ hf rfl rfl rfl (e_move hf rfl) fun a hf => ?_
      refine q_ hf rfl rfl rfl (e_move hf rfl) fun a hf => ?_
      have hl42 := row_len (hM.ownAt (k := 1) rfl)
      refine q_ hf rfl rfl rfl (e_lenL hf (x := y13) rfl Tryz.underlying177) fun a hf => ?_
      refine q_ hf rfl rfl rfl (e_lt hf (x := n31) (y := (y13.length : Int)) rfl rfl) fun a hf => ?_
      refine pl_nil ?_
      refine then_n ?_
      rcases cond_some h40 with ⟨hc43, h40⟩ | ⟨hc43, h40⟩
      · refine cond_t hf rfl hc43 ?_
        refine wp_skip ?_
        refine then_n ?_
        refine wp_seq ?_
        refine wp_block ?_
        obtain ⟨w44, hw⟩ : ∃ x, x = w33.drew := ⟨_, rfl⟩
        refine region_pi (.q 0 (.q 1 (.q 2 (.q 3 (.q 4 (.q 5 (.q 6 (.q 7 (.l 8 (.l 9 (.q 10 (.nil)))))))))))) (Ext w44) rfl (by kernel_rfl) ?_
        have hM := hM.drew
        rw [← hw] at hM ⊢
        clear hw
        refine pi_q hf rfl rfl rfl rfl (Ext.refl _) (e_move hf rfl) fun a hf => ?_
        refine pi_q hf rfl rfl rfl rfl (Ext.refl _) (e_field hf rfl Tryz.underlying41 rfl Tryz.sizeOf9 (o' := 3) rfl) fun a hf => ?_
        refine pi_q hf rfl rfl rfl rfl (Ext.refl _) (e_load1 hf rfl Tryz.isAgg9 (hM.boxCell (k := 2) rfl rfl)) fun a hf => ?_
        refine pi_q hf rfl rfl rfl rfl (Ext.refl _) (e_move hf rfl) fun a hf => ?_
        refine pi_q hf rfl rfl rfl rfl (Ext.refl _) (e_move hf rfl) fun a hf => ?_
        obtain ⟨e45, hz46, h40⟩ := bind_some h40
        obtain ⟨b51, _, hA52, h47, h48, hr49, hcell50⟩ := hM.rowElemN (k := 1) rfl (n := 1) rfl hz46
        obtain ⟨rfl, hv53⟩ := hr49
        refine pi_q hf rfl rfl rfl rfl (Ext.refl _) (e_indexAddr (A := A15) (b := b51) (o := 0) (xs := y13) (i := n31) hf hA52 rfl rfl Tryz.underlying177 Tryz.sizeOf2 h47 h48) fun a hf => ?_
        refine pi_q hf rfl rfl rfl rfl (Ext.refl _) (e_load1 hf rfl Tryz.isAgg2 (hcell50 0 _ rfl)) fun a hf => ?_
        obtain ⟨c54, hz55, h40⟩ := bind_some h40
        refine pi_q hf rfl rfl rfl rfl (Ext.refl _) (e_indexS hf (x := p5.Word) rfl rfl Tryz.underlying9 hz55) fun a hf => ?_
        refine pi_one ?_
        refine pi_l hf rfl rfl rfl rfl (w_slice hf hM (K := byteRep) (xs := ([c54] : Str)) (os := [.tmp 25]) Tryz.underlying138 ei_5 rfl rfl rfl rfl rfl ⟨⟨[vB (c54)], rfl, rfl⟩, trivial⟩ rfl fun b56 w57 hx58 hM => ⟨Ext w57, fun _ h => Ext.trans hx58 h, Ext.refl _, fun a hf => ?_⟩)
        refine pi_one ?_
        obtain ⟨xs59, hz60, h40⟩ := bind_some h40
        refine pi_z hf rfl rfl rfl rfl (by kernel_rfl) (w_append hf hM Tryz.underlying138 ei_5 rfl rfl rfl (k := 1) rfl (hM.srcRow (k := 0) rfl) hz60 fun A61 c62 w63 hM a hf => ?_)
        dsimp only [List.set] at hM
        refine pi_q hf rfl rfl rfl rfl (Ext.refl _) (e_assign hf rfl) fun a hf => ?_
        refine pi_nil ?_
        refine blk_n ?_
        refine then_n ?_
        refine region_pl ?_
        refine q_ hf rfl rfl rfl (e_move hf rfl) fun a hf => ?_
        obtain ⟨z66, hz67, h40⟩ := bind_some h40
        refine q_ hf rfl rfl rfl (e_add hf rfl rfl hz67) fun a hf => ?_
        refine q_ hf rfl rfl rfl (e_assign hf rfl) fun a hf => ?_
        refine pl_nil ?_
        obtain rfl := some_inj h40
        refine then_n ⟨_, rfl, ?_⟩
        exact ⟨xs59, z66, A61, c62, rfl, hf.keep ⟨rfl, rfl, rfl, rfl, trivial⟩, (hM.drop (.cons _ (.cons_cons _ (.cons_cons _ (.cons_cons _ .slnil))))).pick [0] rfl, (chk_R hz67)⟩
      · refine cond_f hf rfl hc43 ?_
        refine wp_exit ?_
        refine then_x ?_
        obtain rfl := some_inj h40
        obtain rfl := hd41 _ rfl
        try dsimp only at h27
        refine then_x ?_
        refine exit_hit ?_
        obtain rfl := some_inj h27
        refine then_n ?_
        exact ⟨xs28, A29, c30, rfl, hf.keep ⟨rfl, trivial⟩, hM.pick [0] rfl⟩
  · rintro a w73 ⟨xs23, A24, c25, rfl, hf, hM⟩
    try dsimp only at h
    refine wp_seq ?_
    refine region_pl ?_
    refine q_ hf rfl rfl rfl (e_move hf rfl) fun a hf => ?_
    have hl74 := row_len (hM.ownAt (k := 0) rfl)
    refine q_ hf rfl rfl rfl (e_bytesStr hf (xs := xs23) rfl Tryz.underlying138 Tryz.underlying5 Tryz.underlying9 (hM.lendRow (k := 0) rfl)) fun a hf => ?_
    refine q_ hf rfl rfl rfl (e_assign hf rfl) fun a hf => ?_
    refine pl_nil ?_
    refine then_n ?_
    refine wp_ret ?_
    obtain rfl := some_inj h
    have hM := hM.outs (own' := []) 0 rfl
    exact leave1 hf rfl rfl ⟨rfl, hM.fin, hl74⟩

set_option maxRecDepth 100000 in
set_option maxHeartbeats 4000000 in
theorem r_spec_l03Sort (C : Cx) (s1 : Str) (hp2 : s1.length ≤ maxLen) (r : Str) (h : m_spec_l03Sort s1 = some r) :
    Calls Tryz.prog 93 #[vS (s1)] C.w0 fun e w => e = .returned (vS (r)) ∧ Mem C w [] [] ∧ r.length ≤ maxLen := by
  have hM := Mem.begin C [] trivial
  refine enter Tryz.func93 rfl Tryz.ntmps93 rfl fun a hf => ?_
  unfold m_spec_l03Sort at h
  refine wp_seq ?_
  refine region_pl ?_
  refine q_ hf rfl rfl rfl (e_assign hf rfl) fun a hf => ?_
  refine pl_nil ?_
  refine then_n ?_
  refine wp_seq ?_
  refine region_pl ?_
  refine pl_l hf rfl rfl rfl (w_slice0 (K := byteRep) hM Tryz.underlying138 ei_5 fun b3 w4 hx5 hM a hf => ?_)
  refine q_ hf rfl rfl rfl (e_assign hf rfl) fun a hf => ?_
  refine pl_nil ?_
  refine then_n ?_
  obtain ⟨x9, h10, h⟩ := bind_some h
  refine seq_join (fun a w => ∃ (xs6 : Str) (A7 : Option Addr) (c8 : Nat), xs6 = x9 ∧ Has 52 a [(3, vL A7 (xs6) c8)] ∧ Mem C w [.row byteRep A7 c8 5 xs6 true] []) ?_ ?_
  · refine wp_seq ?_
    refine region_pl ?_
    refine q_ hf rfl rfl rfl (e_assign hf rfl) fun a hf => ?_
    refine pl_nil ?_
    refine then_n ?_
    refine wp_block ?_
    obtain ⟨x20, h21, h10⟩ := bind_some h10
    refine wp_loopM h21 (fun s a w => ∃ (xs11 : Str) (k14 : Int) (A12 : Option Addr) (c13 : Nat), (xs11, k14) = s ∧ Has 52 a [(0, vS (s1)), (3, vL A12 (xs11) c13), (4, vI (k14))] ∧ Mem C w [.row byteRep A12 c13 5 xs11 true] [] ∧ R64 k14) ?_ ?_
    · exact ⟨([] : Str), 0, (some ⟨b3, 0, none⟩), 0, rfl, hf.keep ⟨rfl, rfl, rfl, trivial⟩, hM.pick [] rfl, (R64_lit rfl)⟩
    · rintro s o22 a w16 ⟨xs11, k14, A12, c13, rfl, hf, hM, hv15⟩ h23 hd24
      replace h23 : m_spec_l03Sort_l1 s1 xs11 k14 = some o22 := h23
      unfold m_spec_l03Sort_l1 at h23
      refine wp_seq ?_
      refine wp_seq ?_
      refine region_pl ?_
      refine q_ hf rfl rfl rfl (e_move hf rfl) fun a hf => ?_
      refine q_ hf rfl rfl rfl (e_move hf rfl) fun a hf => ?_
      refine q_ hf rfl rfl rfl (e_lenS hf (x := s1) rfl Tryz.underlying9) fun a hf => ?_
      refine q_ hf rfl rfl rfl (e_lt hf (x := k14) (y := (s1.length : Int)) rfl rfl) fun a hf => ?_
      refine pl_nil ?_
      refine then_n ?_
      rcases cond_some h23 with ⟨hc25, h23⟩ | ⟨hc25, h23⟩
      · refine cond_t hf rfl hc25 ?_
        refine wp_skip ?_
        refine then_n ?_
        obtain ⟨x29, h30, h23⟩ := bind_some h23
        refine seq_join (fun a w => ∃ (xs26 : Str) (A27 : Option Addr) (c28 : Nat), xs26 = x29 ∧ Has 52 a [(0, vS (s1)), (3, vL A27 (xs26) c28), (4, vI (k14))] ∧ Mem C w [.row byteRep A27 c28 5 xs26 true] []) ?_ ?_
        · refine wp_block ?_
          refine wp_seq ?_
          refine region_pl ?_
          refine q_ hf rfl rfl rfl (e_move hf rfl) fun a hf => ?_
          have hl31 := row_len (hM.ownAt (k := 0) rfl)
          refine q_ hf rfl rfl rfl (e_lenL hf (x := xs11) rfl Tryz.underlying138) fun a hf => ?_
          refine q_ hf rfl rfl rfl (e_assign hf rfl) fun a hf => ?_
          refine pl_nil ?_
          refine then_n ?_
          refine wp_seq ?_
          refine region_pl ?_
          refine q_ hf rfl rfl rfl (e_move hf rfl) fun a hf => ?_
          refine q_ hf rfl rfl rfl (e_move hf rfl) fun a hf => ?_
          refine q_ hf rfl rfl rfl (e_move hf rfl) fun a hf => ?_
          obtain ⟨c32, hz33, h30⟩ := bind_some h30
          refine q_ hf rfl rfl rfl (e_indexS hf (x := s1) rfl rfl Tryz.underlying9 hz33) fun a hf => ?_
          refine pl_l hf rfl rfl rfl (w_slice hf hM (K := byteRep) (xs := ([c32] : Str)) (os := [.tmp 18]) Tryz.underlying138 ei_5 rfl rfl rfl rfl rfl ⟨⟨[vB (c32)], rfl, rfl⟩, trivial⟩ rfl fun b34 w35 hx36 hM a hf => ?_)
          obtain ⟨xs37, hz38, h30⟩ := bind_some h30
          refine pl_l hf rfl rfl rfl (w_append hf hM Tryz.underlying138 ei_5 rfl rfl rfl (k := 1) rfl (hM.srcRow (k := 0) rfl) hz38 fun A39 c40 w41 hM a hf => ?_)
          dsimp only [List.set] at hM
          refine q_ hf rfl rfl rfl (e_assign hf rfl) fun a hf => ?_
          refine pl_nil ?_
          refine then_n ?_
          obtain ⟨x47, h48, h30⟩ := bind_some h30
          refine seq_join (fun a w => ∃ (xs44 : Str) (n45 : Int), (xs44, n45) = x47 ∧ Has 52 a [(0, vS (s1)), (3, vL A39 (xs44) c40), (4, vI (k14)), (5, vI (n45))] ∧ Mem C w [.row byteRep (some ⟨b34, 0, none⟩) 1 5 ([c32] : Str) true, .row byteRep A39 c40 5 xs44 true] [] ∧ R64 n45) ?_ ?_
          · refine wp_block ?_
            obtain ⟨x56, h57, h48⟩ := bind_some h48
            refine wp_loopM h57 (fun s a w => ∃ (xs49 : Str) (n50 : Int), (xs49, n50) = s ∧ Has 52 a [(0, vS (s1)), (3, vL A39 (xs49) c40), (4, vI (k14)), (5, vI (n50))] ∧ Mem C w [.row byteRep (some ⟨b34, 0, none⟩) 1 5 ([c32] : Str) true, .row byteRep A39 c40 5 xs49 true] [] ∧ R64 n50) ?_ ?_
            · exact ⟨xs37, (xs11.length : Int), rfl, hf.keep ⟨rfl, rfl, rfl, rfl, trivial⟩, hM.pick [] rfl, (R64_len hl31)⟩
            · rintro s o58 a w52 ⟨xs49, n50, rfl, hf, hM, hv51⟩ h59 hd60
              replace h59 : m_spec_l03Sort_l2 s1 k14 xs49 n50 = some o58 := h59
              unfold m_spec_l03Sort_l2 at h59
              refine wp_seq ?_
              obtain ⟨x63, h64, h59⟩ := bind_some h59
              refine seq_join (fun a w => ∃ (t61 : Bool), t61 = x63 ∧ Has 52 a [(0, vS (s1)), (3, vL A39 (xs49) c40), (4, vI (k14)), (5, vI (n50)), (33, .bool (t61))] ∧ Mem C w [.row byteRep (some ⟨b34, 0, none⟩) 1 5 ([c32] : Str) true, .row byteRep A39 c40 5 xs49 true] []) ?_ ?_
              · obtain ⟨w65, hw⟩ : ∃ x, x = w52.drew := ⟨_, rfl⟩
                refine region_pi (.q 0 (.q 1 (.q 2 (.q 3 (.q 4 (.q 5 (.q 6 (.q 7 (.q 8 (.q 9 (.q 10 (.q 11 (.q 12 (.nil)))))))))))))) (Ext w65) rfl (by kernel_rfl) ?_
                have hM := hM.drew
                rw [← hw] at hM ⊢
                clear hw
                refine pi_q hf rfl rfl rfl rfl (Ext.refl _) (e_move hf rfl) fun a hf => ?_
                refine pi_q hf rfl rfl rfl rfl (Ext.refl _) (e_gt hf (x := n50) (y := 0) rfl rfl) fun a hf => ?_
                refine pi_q hf rfl rfl rfl rfl (Ext.refl _) (e_move hf rfl) fun a hf => ?_
                rcases cond_some h64 with ⟨hc66, h64⟩ | ⟨hc66, h64⟩
                · refine pi_gq hf rfl (wanted_t hf rfl rfl rfl rfl hc66) rfl rfl (Ext.refl _) (e_move hf rfl) fun a hf => ?_
                  refine pi_gq hf rfl (wanted_t hf rfl rfl rfl rfl hc66) rfl rfl (Ext.refl _) (e_move hf rfl) fun a hf => ?_
                  obtain ⟨z67, hz68, h64⟩ := bind_some h64
                  refine pi_gq hf rfl (wanted_t hf rfl rfl rfl rfl hc66) rfl rfl (Ext.refl _) (e_sub hf rfl rfl hz68) fun a hf => ?_
                  obtain ⟨e69, hz70, h64⟩ := bind_some h64
                  obtain ⟨b75, _, hA76, h71, h72, hr73, hcell74⟩ := hM.rowElemN (k := 1) rfl (n := 1) rfl hz70
                  obtain rfl : _ = _ := hr73
                  refine pi_gq hf rfl (wanted_t hf rfl rfl rfl rfl hc66) rfl rfl (Ext.refl _) (e_indexAddr (A := A39) (b := b75) (o := 0) (xs := xs49) (i := z67) hf hA76 rfl rfl Tryz.underlying138 Tryz.sizeOf5 h71 h72) fun a hf => ?_
                  refine pi_gq hf rfl (wanted_t hf rfl rfl rfl rfl hc66) rfl rfl (Ext.refl _) (e_load1 hf rfl Tryz.isAgg5 (hcell74 0 _ rfl)) fun a hf => ?_
                  refine pi_gq hf rfl (wanted_t hf rfl rfl rfl rfl hc66) rfl rfl (Ext.refl _) (e_move hf rfl) fun a hf => ?_
                  refine pi_gq hf rfl (wanted_t hf rfl rfl rfl rfl hc66) rfl rfl (Ext.refl _) (e_move hf rfl) fun a hf => ?_
                  obtain ⟨c77, hz78, h64⟩ := bind_some h64
                  refine pi_gq hf rfl (wanted_t hf rfl rfl rfl rfl hc66) rfl rfl (Ext.refl _) (e_indexS hf (x := s1) rfl rfl Tryz.underlying9 hz78) fun a hf => ?_
                  refine pi_gq hf rfl (wanted_t hf rfl rfl rfl rfl hc66) rfl rfl (Ext.refl _) (e_gtB hf (x := e69) (y := c77) rfl rfl) fun a hf => ?_
                  refine pi_q hf rfl rfl rfl rfl (Ext.refl _) (e_pick_t hf rfl hc66 rfl) fun a hf => ?_
                  refine pi_nil ?_
                  obtain rfl := some_inj h64
                  refine then_n ?_
                  exact ⟨(decide (c77 < e69)), rfl, hf.keep ⟨rfl, rfl, rfl, rfl, rfl, trivial⟩, hM.pick [] rfl⟩
                · refine pi_gs hf rfl (wanted_f hf rfl rfl rfl rfl hc66) rfl rfl (Ext.refl _) fun a hf => ?_
                  refine pi_gs hf rfl (wanted_f hf rfl rfl rfl rfl hc66) rfl rfl (Ext.refl _) fun a hf => ?_
                  refine pi_gs hf rfl (wanted_f hf rfl rfl rfl rfl hc66) rfl rfl (Ext.refl _) fun a hf => ?_
                  refine pi_gs hf rfl (wanted_f hf rfl rfl rfl rfl hc66) rfl rfl (Ext.refl _) fun a hf => ?_
                  refine pi_gs hf rfl (wanted_f hf rfl rfl rfl rfl hc66) rfl rfl (Ext.refl _) fun a hf => ?_
                  refine pi_gs hf rfl (wanted_f hf rfl rfl rfl rfl hc66) rfl rfl (Ext.refl _) fun a hf => ?_
                  refine pi_gs hf rfl (wanted_f hf rfl rfl rfl rfl hc66) rfl rfl (Ext.refl _) fun a hf => ?_
                  refine pi_gs hf rfl (wanted_f hf rfl rfl rfl rfl hc66) rfl rfl (Ext.refl _) fun a hf => ?_
                  refine pi_gs hf rfl (wanted_f hf rfl rfl rfl rfl hc66) rfl rfl (Ext.refl _) fun a hf => ?_
                  refine pi_q hf rfl rfl rfl rfl (Ext.refl _) (e_pick_f hf rfl hc66 rfl) fun a hf => ?_
                  refine pi_nil ?_
                  obtain rfl := some_inj h64
                  refine then_n ?_
                  exact ⟨false, rfl, hf.keep ⟨rfl, rfl, rfl, rfl, rfl, trivial⟩, hM.pick [] rfl⟩
              · rintro a w81 ⟨t61, rfl, hf, hM⟩
                try dsimp only at h59
                rcases cond_some h59 with ⟨hc82, h59⟩ | ⟨hc82, h59⟩
                · refine cond_t hf rfl hc82 ?_
                  refine wp_skip ?_
                  refine then_n ?_
                  refine wp_block ?_
                  refine wp_seq ?_
                  refine region_pl ?_
                  refine q_ hf rfl rfl rfl (e_move hf rfl) fun a hf => ?_
                  refine q_ hf rfl rfl rfl (e_move hf rfl) fun a hf => ?_
                  refine q_ hf rfl rfl rfl (e_move hf rfl) fun a hf => ?_
                  refine q_ hf rfl rfl rfl (e_move hf rfl) fun a hf => ?_
                  obtain ⟨z83, hz84, h59⟩ := bind_some h59
                  refine q_ hf rfl rfl rfl (e_sub hf rfl rfl hz84) fun a hf => ?_
                  obtain ⟨e85, hz86, h59⟩ := bind_some h59
                  obtain ⟨b91, _, hA92, h87, h88, hr89, hcell90⟩ := hM.rowElemN (k := 1) rfl (n := 1) rfl hz86
                  obtain rfl : _ = _ := hr89
                  refine q_ hf rfl rfl rfl (e_indexAddr (A := A39) (b := b91) (o := 0) (xs := xs49) (i := z83) hf hA92 rfl rfl Tryz.underlying138 Tryz.sizeOf5 h87 h88) fun a hf => ?_
                  refine q_ hf rfl rfl rfl (e_load1 hf rfl Tryz.isAgg5 (hcell90 0 _ rfl)) fun a hf => ?_
                  obtain ⟨e93, hz94, h59⟩ := bind_some h59
                  obtain ⟨b99, _, hA100, h95, h96, hr97, hcell98⟩ := hM.rowElemN (k := 1) rfl (n := 1) rfl hz94
                  obtain rfl : _ = _ := hr97
                  refine q_ hf rfl rfl rfl (e_indexAddr (A := A39) (b := b99) (o := 0) (xs := xs49) (i := n50) hf hA100 rfl rfl Tryz.underlying138 Tryz.sizeOf5 h95 h96) fun a hf => ?_
                  obtain ⟨xs102, hz103, h59⟩ := bind_some h59
                  refine pl_0 hf rfl rfl (w_storeElem hf hM (x := e85) (row := [vB (e85)]) (i := n50) rfl rfl rfl hA100 (k := 1) rfl rfl Tryz.sizeOf5 rfl hz103 fun w101 hM => ?_)
                  dsimp only [List.set] at hM
                  have hf := hf.alter (d := 3) (v := vL A39 (xs102) c40) rfl (vL_len (setL_len hz103))
                  have hf := hf.alter (d := 34) (v := vL A39 (xs102) c40) rfl (vL_len (setL_len hz103))
                  have hf := hf.alter (d := 36) (v := vL A39 (xs102) c40) rfl (vL_len (setL_len hz103))
                  refine pl_nil ?_
                  refine then_n ?_
                  refine region_pl ?_
                  refine q_ hf rfl rfl rfl (e_move hf rfl) fun a hf => ?_
                  obtain ⟨z104, hz105, h59⟩ := bind_some h59
                  refine q_ hf rfl rfl rfl (e_sub hf rfl rfl hz105) fun a hf => ?_
                  refine q_ hf rfl rfl rfl (e_assign hf rfl) fun a hf => ?_
                  refine pl_nil ?_
                  refine blk_n ?_
                  obtain rfl := some_inj h59
                  refine then_n ⟨_, rfl, ?_⟩
                  exact ⟨xs102, z104, rfl, hf.keep ⟨rfl, rfl, rfl, rfl, trivial⟩, hM.pick [] rfl, (chk_R hz105)⟩
                · refine cond_f hf rfl hc82 ?_
                  refine wp_exit ?_
                  refine then_x ?_
                  obtain rfl := some_inj h59
                  obtain rfl := hd60 _ rfl
                  try dsimp only at h48
                  refine then_x ?_
                  refine exit_hit ?_
                  obtain rfl := some_inj h48
                  refine then_n ?_
                  exact ⟨xs49, n50, rfl, hf.keep ⟨rfl, rfl, rfl, rfl, trivial⟩, hM.pick [] rfl, hv51⟩
          · rintro a w111 ⟨xs44, n45, rfl, hf, hM, hv46⟩
            try dsimp only at h30
            refine region_pl ?_
            refine q_ hf rfl rfl rfl (e_move hf rfl) fun a hf => ?_
            refine q_ hf rfl rfl rfl (e_move hf rfl) fun a hf => ?_
            refine q_ hf rfl rfl rfl (e_move hf rfl) fun a hf => ?_
            refine q_ hf rfl rfl rfl (e_move hf rfl) fun a hf => ?_
            obtain ⟨c112, hz113, h30⟩ := bind_some h30
            refine q_ hf rfl rfl rfl (e_indexS hf (x := s1) rfl rfl Tryz.underlying9 hz113) fun a hf => ?_
            obtain ⟨e114, hz115, h30⟩ := bind_some h30
            obtain ⟨b120, _, hA121, h116, h117, hr118, hcell119⟩ := hM.rowElemN (k := 1) rfl (n := 1) rfl hz115
            obtain rfl : _ = _ := hr118
            refine q_ hf rfl rfl rfl (e_indexAddr (A := A39) (b := b120) (o := 0) (xs := xs44) (i := n45) hf hA121 rfl rfl Tryz.underlying138 Tryz.sizeOf5 h116 h117) fun a hf => ?_
            obtain ⟨xs123, hz124, h30⟩ := bind_some h30
            refine pl_0 hf rfl rfl (w_storeElem hf hM (x := c112) (row := [vB (c112)]) (i := n45) rfl rfl rfl hA121 (k := 1) rfl rfl Tryz.sizeOf5 rfl hz124 fun w122 hM => ?_)
            dsimp only [List.set] at hM
            have hf := hf.alter (d := 3) (v := vL A39 (xs123) c40) rfl (vL_len (setL_len hz124))
            have hf := hf.alter (d := 44) (v := vL A39 (xs123) c40) rfl (vL_len (setL_len hz124))
            refine pl_nil ?_
            refine blk_n ?_
            obtain rfl := some_inj h30
            refine then_n ?_
            exact ⟨xs123, A39, c40, rfl, hf.keep ⟨rfl, rfl, rfl, trivial⟩, (hM.drop (.cons _ (.cons_cons _ .slnil))).pick [] rfl⟩
        · rintro a w126 ⟨xs26, A27, c28, rfl, hf, hM⟩
          try dsimp only at h23
          refine region_pl ?_
          refine q_ hf rfl rfl rfl (e_move hf rfl) fun a hf => ?_
          obtain ⟨z127, hz128, h23⟩ := bind_some h23
          refine q_ hf rfl rfl rfl (e_add hf rfl rfl hz128) fun a hf => ?_
          refine q_ hf rfl rfl rfl (e_assign hf rfl) fun a hf => ?_
          refine pl_nil ?_
          obtain rfl := some_inj h23
          refine then_n ⟨_, rfl, ?_⟩
          exact ⟨xs26, z127, A27, c28, rfl, hf.keep ⟨rfl, rfl, rfl, trivial⟩, hM.pick [] rfl, (chk_R hz128)⟩
      · refine cond_f hf rfl hc25 ?_
        refine wp_exit ?_
        refine then_x ?_
        obtain rfl := some_inj h23
        obtain rfl := hd24 _ rfl
        try dsimp only at h10
        refine then_x ?_
        refine exit_hit ?_
        obtain rfl := some_inj h10
        refine then_n ?_
        exact ⟨xs11, A12, c13, rfl, hf.keep ⟨rfl, trivial⟩, hM.pick [] rfl⟩
  · rintro a w134 ⟨xs6, A7, c8, rfl, hf, hM⟩
    try dsimp only at h
    refine wp_seq ?_
    refine region_pl ?_
    refine q_ hf rfl rfl rfl (e_move hf rfl) fun a hf => ?_
    have hl135 := row_len (hM.ownAt (k := 0) rfl)
    refine q_ hf rfl rfl rfl (e_bytesStr hf (xs := xs6) rfl Tryz.underlying138 Tryz.underlying5 Tryz.underlying9 (hM.lendRow (k := 0) rfl)) fun a hf => ?_
    refine q_ hf rfl rfl rfl (e_assign hf rfl) fun a hf => ?_
    refine pl_nil ?_
    refine then_n ?_
    refine wp_ret ?_
    obtain rfl := some_inj h
    have hM := hM.outs (own' := []) 0 rfl
    exact leave1 hf rfl rfl ⟨rfl, hM.fin, hl135⟩

set_option maxRecDepth 100000 in
set_option maxHeartbeats 4000000 in
theorem r_spec_l03Tiles (C : Cx) (word1 : Str) (hp2 : word1.length ≤ maxLen) (r : Str) (h : m_spec_l03Tiles word1 = some r) :
    Calls Tryz.prog 140 #[vS (word1)] C.w0 fun e w => e = .returned (vS (r)) ∧ Mem C w [] [] ∧ r.length ≤ maxLen := by
  have hM := Mem.begin C [] trivial
  refine enter Tryz.func140 rfl Tryz.ntmps140 rfl fun a hf => ?_
  unfold m_spec_l03Tiles at h
  refine wp_seq ?_
  refine region_pl ?_
  refine q_ hf rfl rfl rfl (e_assign hf rfl) fun a hf => ?_
  refine pl_nil ?_
  refine then_n ?_
  refine wp_seq ?_
  refine region_pl ?_
  refine q_ hf rfl rfl rfl (e_move hf rfl) fun a hf => ?_
  refine pl_l hf rfl rfl rfl (w_bytes hf hM (x := word1) rfl Tryz.underlying9 Tryz.underlying138 Tryz.underlying5 hp2 fun A3 c4 w5 hx6 hM a hf => ?_)
  refine q_ hf rfl rfl rfl (e_assign hf rfl) fun a hf => ?_
  refine pl_nil ?_
  refine then_n ?_
  obtain ⟨x8, h9, h⟩ := bind_some h
  refine seq_join (fun a w => ∃ (xs7 : Str), xs7 = x8 ∧ Has 24 a [(3, vL A3 (xs7) c4)] ∧ Mem C w [.row byteRep A3 c4 5 xs7 false] []) ?_ ?_
  · refine wp_seq ?_
    refine region_pl ?_
    refine q_ hf rfl rfl rfl (e_assign hf rfl) fun a hf => ?_
    refine pl_nil ?_
    refine then_n ?_
    refine wp_block ?_
    obtain ⟨x15, h16, h9⟩ := bind_some h9
    refine wp_loopM h16 (fun s a w => ∃ (xs10 : Str) (n11 : Int), (xs10, n11) = s ∧ Has 24 a [(3, vL A3 (xs10) c4), (4, vI (n11))] ∧ Mem C w [.row byteRep A3 c4 5 xs10 false] [] ∧ R64 n11) ?_ ?_
    · exact ⟨word1, 0, rfl, hf.keep ⟨rfl, rfl, trivial⟩, hM.pick [] rfl, (R64_lit rfl)⟩
    · rintro s o17 a w13 ⟨xs10, n11, rfl, hf, hM, hv12⟩ h18 hd19
      replace h18 : m_spec_l03Tiles_l1 xs10 n11 = some o17 := h18
      unfold m_spec_l03Tiles_l1 at h18
      refine wp_seq ?_
      refine wp_seq ?_
      refine region_pl ?_
      refine q_ hf rfl rfl rfl (e_move hf rfl) fun a hf => ?_
      refine q_ hf rfl rfl rfl (e_move hf rfl) fun a hf => ?_
      have hl20 := row_len (hM.ownAt (k := 0) rfl)
      refine q_ hf rfl rfl rfl (e_lenL hf (x := xs10) rfl Tryz.underlying138) fun a hf => ?_
      refine q_ hf rfl rfl rfl (e_lt hf (x := n11) (y := (xs10.length : Int)) rfl rfl) fun a hf => ?_
      refine pl_nil ?_
      refine then_n ?_
      rcases cond_some h18 with ⟨hc21, h18⟩ | ⟨hc21, h18⟩
      · refine cond_t hf rfl hc21 ?_
        refine wp_skip ?_
        refine then_n ?_
        obtain ⟨x23, h24, h18⟩ := bind_some h18
        refine seq_join (fun a w => ∃ (xs22 : Str), xs22 = x23 ∧ Has 24 a [(3, vL A3 (xs22) c4), (4, vI (n11))] ∧ Mem C w [.row byteRep A3 c4 5 xs22 false] []) ?_ ?_
        · refine wp_block ?_
          refine wp_seq ?_
          refine region_pl ?_
          refine q_ hf rfl rfl rfl (e_move hf rfl) fun a hf => ?_
          refine q_ hf rfl rfl rfl (e_move hf rfl) fun a hf => ?_
          obtain ⟨e25, hz26, h24⟩ := bind_some h24
          obtain ⟨b31, _, hA32, h27, h28, hr29, hcell30⟩ := hM.rowElemN (k := 0) rfl (n := 1) rfl hz26
          obtain rfl : _ = _ := hr29
          refine q_ hf rfl rfl rfl (e_indexAddr (A := A3) (b := b31) (o := 0) (xs := xs10) (i := n11) hf hA32 rfl rfl Tryz.underlying138 Tryz.sizeOf5 h27 h28) fun a hf => ?_
          refine q_ hf rfl rfl rfl (e_load1 hf rfl Tryz.isAgg5 (hcell30 0 _ rfl)) fun a hf => ?_
          obtain ⟨y33, hz34, h24⟩ := bind_some h24
          refine pl_l hf rfl rfl rfl (w_call hf Tryz.call132 rfl (r_spec_l03Capital ⟨_, Sh C _ _, none_, hM.sh_lt, none_not, C.G, hM.g_lt, g_none, hM.tabs⟩ e25 _ hz34) ?_)
          rintro _ w35 ⟨rfl, hM2⟩
          obtain ⟨hM, hx36, hup37⟩ := hM.back hM2
          dsimp only [List.cons_append, List.nil_append] at hM hup37
          clear hM2
          refine ⟨_, rfl, fun a hf => ?_⟩
          refine pl_nil ?_
          refine then_n ?_
          rcases cond_some h24 with ⟨hc38, h24⟩ | ⟨hc38, h24⟩
          · refine cond_t hf rfl hc38 ?_
            refine region_pl ?_
            refine q_ hf rfl rfl rfl (e_move hf rfl) fun a hf => ?_
            refine q_ hf rfl rfl rfl (e_move hf rfl) fun a hf => ?_
            obtain ⟨e39, hz40, h24⟩ := bind_some h24
            obtain ⟨b45, _, hA46, h41, h42, hr43, hcell44⟩ := hM.rowElemN (k := 0) rfl (n := 1) rfl hz40
            obtain rfl : _ = _ := hr43
            refine q_ hf rfl rfl rfl (e_indexAddr (A := A3) (b := b45) (o := 0) (xs := xs10) (i := n11) hf hA46 rfl rfl Tryz.underlying138 Tryz.sizeOf5 h41 h42) fun a hf => ?_
            obtain ⟨xs48, hz49, h24⟩ := bind_some h24
            refine pl_0 hf rfl rfl (w_storeElem hf hM (x := 63) (row := [vB (63)]) (i := n11) rfl rfl rfl hA46 (k := 0) rfl rfl Tryz.sizeOf5 rfl hz49 fun w47 hM => ?_)
            dsimp only [List.set] at hM
            have hf := hf.alter (d := 3) (v := vL A3 (xs48) c4) rfl (vL_len (setL_len hz49))
            have hf := hf.alter (d := 8) (v := vL A3 (xs48) c4) rfl (vL_len (setL_len hz49))
            have hf := hf.alter (d := 13) (v := vL A3 (xs48) c4) rfl (vL_len (setL_len hz49))
            have hf := hf.alter (d := 18) (v := vL A3 (xs48) c4) rfl (vL_len (setL_len hz49))
            refine pl_nil ?_
            refine blk_n ?_
            obtain rfl := some_inj h24
            refine then_n ?_
            exact ⟨xs48, rfl, hf.keep ⟨rfl, rfl, trivial⟩, hM.pick [] rfl⟩
          · refine cond_f hf rfl hc38 ?_
            refine wp_skip ?_
            refine blk_n ?_
            obtain rfl := some_inj h24
            refine then_n ?_
            exact ⟨xs10, rfl, hf.keep ⟨rfl, rfl, trivial⟩, hM.pick [] rfl⟩
        · rintro a w52 ⟨xs22, rfl, hf, hM⟩
          try dsimp only at h18
          refine region_pl ?_
          refine q_ hf rfl rfl rfl (e_move hf rfl) fun a hf => ?_
          obtain ⟨z53, hz54, h18⟩ := bind_some h18
          refine q_ hf rfl rfl rfl (e_add hf rfl rfl hz54) fun a hf => ?_
          refine q_ hf rfl rfl rfl (e_assign hf rfl) fun a hf => ?_
          refine pl_nil ?_
          obtain rfl := some_inj h18
          refine then_n ⟨_, rfl, ?_⟩
          exact ⟨xs22, z53, rfl, hf.keep ⟨rfl, rfl, trivial⟩, hM.pick [] rfl, (chk_R hz54)⟩
      · refine cond_f hf rfl hc21 ?_
        refine wp_exit ?_
        refine then_x ?_
        obtain rfl := some_inj h18
        obtain rfl := hd19 _ rfl
        try dsimp only at h9
        refine then_x ?_
        refine exit_hit ?_
        obtain rfl := some_inj h9
        refine then_n ?_
        exact ⟨xs10, rfl, hf.keep ⟨rfl, trivial⟩, hM.pick [] rfl⟩
  · rintro a w60 ⟨xs7, rfl, hf, hM⟩
    try dsimp only at h
    refine wp_seq ?_
    refine region_pl ?_
    refine q_ hf rfl rfl rfl (e_move hf rfl) fun a hf => ?_
    have hl61 := row_len (hM.ownAt (k := 0) rfl)
    refine q_ hf rfl rfl rfl (e_bytesStr hf (xs := xs7) rfl Tryz.underlying138 Tryz.underlying5 Tryz.underlying9 (hM.lendRow (k := 0) rfl)) fun a hf => ?_
    obtain ⟨y62, hz63, h⟩ := bind_some h
    refine pl_l hf rfl rfl rfl (w_call hf Tryz.call93 rfl (r_spec_l03Sort ⟨_, Sh C _ _, none_, hM.sh_lt, none_not, C.G, hM.g_lt, g_none, hM.tabs⟩ xs7 hl61 _ hz63) ?_)
    rintro _ w65 ⟨rfl, hM2, hv64⟩
    obtain ⟨hM, hx66, hup67⟩ := hM.back hM2
    dsimp only [List.cons_append, List.nil_append] at hM hup67
    clear hM2
    refine ⟨_, rfl, fun a hf => ?_⟩
    refine q_ hf rfl rfl rfl (e_assign hf rfl) fun a hf => ?_
    refine pl_nil ?_
    refine then_n ?_
    refine wp_ret ?_
    obtain rfl := some_inj h
    have hM := hM.outs (own' := []) 0 rfl
    exact leave1 hf rfl rfl ⟨rfl, hM.fin, hv64⟩

set_option maxRecDepth 100000 in
set_option maxHeartbeats 4000000 in
theorem r_spec_l03Take (C : Cx) (a1 : Str) (hp2 : a1.length ≤ maxLen) (b3 : Str) (hp4 : b3.length ≤ maxLen) (r : (Str × Bool)) (h : m_spec_l03Take a1 b3 = some r) :
    Calls Tryz.prog 91 #[vS (a1), vS (b3)] C.w0 fun e w => e = .returned (.tuple #[vS (r.1), .bool (r.2)]) ∧ Mem C w [] [] ∧ r.1.length ≤ maxLen := by
  have hM := Mem.begin C [] trivial
  refine enter Tryz.func91 rfl Tryz.ntmps91 rfl fun a hf => ?_
  unfold m_spec_l03Take at h
  refine wp_seq ?_
  refine region_pl ?_
  refine q_ hf rfl rfl rfl (e_assign hf rfl) fun a hf => ?_
  refine q_ hf rfl rfl rfl (e_assign hf rfl) fun a hf => ?_
  refine pl_nil ?_
  refine then_n ?_
  refine wp_seq ?_
  refine region_pl ?_
  refine pl_l hf rfl rfl rfl (w_slice0 (K := byteRep) hM Tryz.underlying138 ei_5 fun b5 w6 hx7 hM a hf => ?_)
  refine q_ hf rfl rfl rfl (e_assign hf rfl) fun a hf => ?_
  refine pl_nil ?_
  refine then_n ?_
  refine wp_seq ?_
  refine region_pl ?_
  refine q_ hf rfl rfl rfl (e_assign hf rfl) fun a hf => ?_
  refine pl_nil ?_
  refine then_n ?_
  obtain ⟨x13, h14, h⟩ := bind_some h
  refine seq_join (fun a w => ∃ (xs8 : Str) (n11 : Int) (A9 : Option Addr) (c10 : Nat), (xs8, n11) = x13 ∧ Has 43 a [(1, vS (b3)), (6, vL A9 (xs8) c10), (7, vI (n11))] ∧ Mem C w [.row byteRep A9 c10 5 xs8 true] [] ∧ R64 n11) ?_ ?_
  · refine wp_seq ?_
    refine region_pl ?_
    refine q_ hf rfl rfl rfl (e_assign hf rfl) fun a hf => ?_
    refine pl_nil ?_
    refine then_n ?_
    refine wp_block ?_
    obtain ⟨x28, h29, h14⟩ := bind_some h14
    refine wp_loopM h29 (fun s a w => ∃ (xs15 : Str) (n18 : Int) (n20 : Int) (A16 : Option Addr) (c17 : Nat), (xs15, n18, n20) = s ∧ Has 43 a [(0, vS (a1)), (1, vS (b3)), (6, vL A16 (xs15) c17), (7, vI (n18)), (8, vI (n20))] ∧ Mem C w [.row byteRep A16 c17 5 xs15 true] [] ∧ R64 n18 ∧ R64 n20) ?_ ?_
    · exact ⟨([] : Str), 0, 0, (some ⟨b5, 0, none⟩), 0, rfl, hf.keep ⟨rfl, rfl, rfl, rfl, rfl, trivial⟩, hM.pick [] rfl, (R64_lit rfl), (R64_lit rfl)⟩
    · rintro s o30 a w22 ⟨xs15, n18, n20, A16, c17, rfl, hf, hM, hv19, hv21⟩ h31 hd32
      replace h31 : m_spec_l03Take_l1 a1 b3 xs15 n18 n20 = some o30 := h31
      unfold m_spec_l03Take_l1 at h31
      refine wp_seq ?_
      refine wp_seq ?_
      refine region_pl ?_
      refine q_ hf rfl rfl rfl (e_move hf rfl) fun a hf => ?_
      refine q_ hf rfl rfl rfl (e_move hf rfl) fun a hf => ?_
      refine q_ hf rfl rfl rfl (e_lenS hf (x := a1) rfl Tryz.underlying9) fun a hf => ?_
      refine q_ hf rfl rfl rfl (e_lt hf (x := n20) (y := (a1.length : Int)) rfl rfl) fun a hf => ?_
      refine pl_nil ?_
      refine then_n ?_
      rcases cond_some h31 with ⟨hc33, h31⟩ | ⟨hc33, h31⟩
      · refine cond_t hf rfl hc33 ?_
        refine wp_skip ?_
        refine then_n ?_
        obtain ⟨x39, h40, h31⟩ := bind_some h31
        refine seq_join (fun a w => ∃ (xs34 : Str) (n37 : Int) (A35 : Option Addr) (c36 : Nat), (xs34, n37) = x39 ∧ Has 43 a [(0, vS (a1)), (1, vS (b3)), (6, vL A35 (xs34) c36), (7, vI (n37)), (8, vI (n20))] ∧ Mem C w [.row byteRep A35 c36 5 xs34 true] [] ∧ R64 n37) ?_ ?_
        · refine wp_block ?_
          refine wp_seq ?_
          obtain ⟨x43, h44, h40⟩ := bind_some h40
          refine seq_join (fun a w => ∃ (t41 : Bool), t41 = x43 ∧ Has 43 a [(0, vS (a1)), (1, vS (b3)), (6, vL A16 (xs15) c17), (7, vI (n18)), (8, vI (n20)), (28, .bool (t41))] ∧ Mem C w [.row byteRep A16 c17 5 xs15 true] []) ?_ ?_
          · obtain ⟨w45, hw⟩ : ∃ x, x = w22.drew := ⟨_, rfl⟩
            refine region_pi (.q 0 (.q 1 (.q 2 (.q 3 (.q 4 (.q 5 (.q 6 (.q 7 (.q 8 (.q 9 (.q 10 (.q 11 (.q 12 (.nil)))))))))))))) (Ext w45) rfl (by kernel_rfl) ?_
            have hM := hM.drew
            rw [← hw] at hM ⊢
            clear hw
            refine pi_q hf rfl rfl rfl rfl (Ext.refl _) (e_move hf rfl) fun a hf => ?_
            refine pi_q hf rfl rfl rfl rfl (Ext.refl _) (e_move hf rfl) fun a hf => ?_
            refine pi_q hf rfl rfl rfl rfl (Ext.refl _) (e_lenS hf (x := b3) rfl Tryz.underlying9) fun a hf => ?_
            refine pi_q hf rfl rfl rfl rfl (Ext.refl _) (e_lt hf (x := n18) (y := (b3.length : Int)) rfl rfl) fun a hf => ?_
            refine pi_q hf rfl rfl rfl rfl (Ext.refl _) (e_move hf rfl) fun a hf => ?_
            rcases cond_some h44 with ⟨hc46, h44⟩ | ⟨hc46, h44⟩
            · refine pi_gq hf rfl (wanted_t hf rfl rfl rfl rfl hc46) rfl rfl (Ext.refl _) (e_move hf rfl) fun a hf => ?_
              refine pi_gq hf rfl (wanted_t hf rfl rfl rfl rfl hc46) rfl rfl (Ext.refl _) (e_move hf rfl) fun a hf => ?_
              obtain ⟨c47, hz48, h44⟩ := bind_some h44
              refine pi_gq hf rfl (wanted_t hf rfl rfl rfl rfl hc46) rfl rfl (Ext.refl _) (e_indexS hf (x := b3) rfl rfl Tryz.underlying9 hz48) fun a hf => ?_
              refine pi_gq hf rfl (wanted_t hf rfl rfl rfl rfl hc46) rfl rfl (Ext.refl _) (e_move hf rfl) fun a hf => ?_
              refine pi_gq hf rfl (wanted_t hf rfl rfl rfl rfl hc46) rfl rfl (Ext.refl _) (e_move hf rfl) fun a hf => ?_
              obtain ⟨c49, hz50, h44⟩ := bind_some h44
              refine pi_gq hf rfl (wanted_t hf rfl rfl rfl rfl hc46) rfl rfl (Ext.refl _) (e_indexS hf (x := a1) rfl rfl Tryz.underlying9 hz50) fun a hf => ?_
              refine pi_gq hf rfl (wanted_t hf rfl rfl rfl rfl hc46) rfl rfl (Ext.refl _) (e_eqB hf (x := c47) (y := c49) rfl rfl) fun a hf => ?_
              refine pi_q hf rfl rfl rfl rfl (Ext.refl _) (e_pick_t hf rfl hc46 rfl) fun a hf => ?_
              refine pi_nil ?_
              obtain rfl := some_inj h44
              refine then_n ?_
              exact ⟨(c47 == c49), rfl, hf.keep ⟨rfl, rfl, rfl, rfl, rfl, rfl, trivial⟩, hM.pick [] rfl⟩
            · refine pi_gs hf rfl (wanted_f hf rfl rfl rfl rfl hc46) rfl rfl (Ext.refl _) fun a hf => ?_
              refine pi_gs hf rfl (wanted_f hf rfl rfl rfl rfl hc46) rfl rfl (Ext.refl _) fun a hf => ?_
              refine pi_gs hf rfl (wanted_f hf rfl rfl rfl rfl hc46) rfl rfl (Ext.refl _) fun a hf => ?_
              refine pi_gs hf rfl (wanted_f hf rfl rfl rfl rfl hc46) rfl rfl (Ext.refl _) fun a hf => ?_
              refine pi_gs hf rfl (wanted_f hf rfl rfl rfl rfl hc46) rfl rfl (Ext.refl _) fun a hf => ?_
              refine pi_gs hf rfl (wanted_f hf rfl rfl rfl rfl hc46) rfl rfl (Ext.refl _) fun a hf => ?_
              refine pi_gs hf rfl (wanted_f hf rfl rfl rfl rfl hc46) rfl rfl (Ext.refl _) fun a hf => ?_
              refine pi_q hf rfl rfl rfl rfl (Ext.refl _) (e_pick_f hf rfl hc46 rfl) fun a hf => ?_
              refine pi_nil ?_
              obtain rfl := some_inj h44
              refine then_n ?_
              exact ⟨false, rfl, hf.keep ⟨rfl, rfl, rfl, rfl, rfl, rfl, trivial⟩, hM.pick [] rfl⟩
          · rintro a w53 ⟨t41, rfl, hf, hM⟩
            try dsimp only at h40
            rcases cond_some h40 with ⟨hc54, h40⟩ | ⟨hc54, h40⟩
            · refine cond_t hf rfl hc54 ?_
              refine wp_seq ?_
              refine region_pl ?_
              refine q_ hf rfl rfl rfl (e_move hf rfl) fun a hf => ?_
              obtain ⟨z55, hz56, h40⟩ := bind_some h40
              refine q_ hf rfl rfl rfl (e_add hf rfl rfl hz56) fun a hf => ?_
              refine q_ hf rfl rfl rfl (e_assign hf rfl) fun a hf => ?_
              refine pl_nil ?_
              refine then_n ?_
              refine wp_exit ?_
              refine then_x ?_
              refine exit_hit ?_
              obtain rfl := some_inj h40
              refine then_n ?_
              exact ⟨xs15, z55, A16, c17, rfl, hf.keep ⟨rfl, rfl, rfl, rfl, rfl, trivial⟩, hM.pick [] rfl, (chk_R hz56)⟩
            · refine cond_f hf rfl hc54 ?_
              refine wp_skip ?_
              refine then_n ?_
              refine region_pl ?_
              refine q_ hf rfl rfl rfl (e_move hf rfl) fun a hf => ?_
              refine q_ hf rfl rfl rfl (e_move hf rfl) fun a hf => ?_
              refine q_ hf rfl rfl rfl (e_move hf rfl) fun a hf => ?_
              obtain ⟨c58, hz59, h40⟩ := bind_some h40
              refine q_ hf rfl rfl rfl (e_indexS hf (x := a1) rfl rfl Tryz.underlying9 hz59) fun a hf => ?_
              refine pl_l hf rfl rfl rfl (w_slice hf hM (K := byteRep) (xs := ([c58] : Str)) (os := [.tmp 34]) Tryz.underlying138 ei_5 rfl rfl rfl rfl rfl ⟨⟨[vB (c58)], rfl, rfl⟩, trivial⟩ rfl fun b60 w61 hx62 hM a hf => ?_)
              obtain ⟨xs63, hz64, h40⟩ := bind_some h40
              refine pl_l hf rfl rfl rfl (w_append hf hM Tryz.underlying138 ei_5 rfl rfl rfl (k := 1) rfl (hM.srcRow (k := 0) rfl) hz64 fun A65 c66 w67 hM a hf => ?_)
              dsimp only [List.set] at hM
              refine q_ hf rfl rfl rfl (e_assign hf rfl) fun a hf => ?_
              refine pl_nil ?_
              refine blk_n ?_
              obtain rfl := some_inj h40
              refine then_n ?_
              exact ⟨xs63, n18, A65, c66, rfl, hf.keep ⟨rfl, rfl, rfl, rfl, rfl, trivial⟩, (hM.drop (.cons _ (.cons_cons _ .slnil))).pick [] rfl, hv19⟩
        · rintro a w71 ⟨xs34, n37, A35, c36, rfl, hf, hM, hv38⟩
          try dsimp only at h31
          refine region_pl ?_
          refine q_ hf rfl rfl rfl (e_move hf rfl) fun a hf => ?_
          obtain ⟨z72, hz73, h31⟩ := bind_some h31
          refine q_ hf rfl rfl rfl (e_add hf rfl rfl hz73) fun a hf => ?_
          refine q_ hf rfl rfl rfl (e_assign hf rfl) fun a hf => ?_
          refine pl_nil ?_
          obtain rfl := some_inj h31
          refine then_n ⟨_, rfl, ?_⟩
          exact ⟨xs34, n37, z72, A35, c36, rfl, hf.keep ⟨rfl, rfl, rfl, rfl, rfl, trivial⟩, hM.pick [] rfl, hv38, (chk_R hz73)⟩
      · refine cond_f hf rfl hc33 ?_
        refine wp_exit ?_
        refine then_x ?_
        obtain rfl := some_inj h31
        obtain rfl := hd32 _ rfl
        try dsimp only at h14
        refine then_x ?_
        refine exit_hit ?_
        obtain rfl := some_inj h14
        refine then_n ?_
        exact ⟨xs15, n18, A16, c17, rfl, hf.keep ⟨rfl, rfl, rfl, trivial⟩, hM.pick [] rfl, hv19⟩
  · rintro a w79 ⟨xs8, n11, A9, c10, rfl, hf, hM, hv12⟩
    try dsimp only at h
    refine wp_seq ?_
    refine region_pl ?_
    refine q_ hf rfl rfl rfl (e_move hf rfl) fun a hf => ?_
    have hl80 := row_len (hM.ownAt (k := 0) rfl)
    refine q_ hf rfl rfl rfl (e_bytesStr hf (xs := xs8) rfl Tryz.underlying138 Tryz.underlying5 Tryz.underlying9 (hM.lendRow (k := 0) rfl)) fun a hf => ?_
    refine q_ hf rfl rfl rfl (e_move hf rfl) fun a hf => ?_
    refine q_ hf rfl rfl rfl (e_move hf rfl) fun a hf => ?_
    refine q_ hf rfl rfl rfl (e_lenS hf (x := b3) rfl Tryz.underlying9) fun a hf => ?_
    refine q_ hf rfl rfl rfl (e_eq hf (x := n11) (y := (b3.length : Int)) rfl rfl) fun a hf => ?_
    refine q_ hf rfl rfl rfl (e_assign hf rfl) fun a hf => ?_
    refine q_ hf rfl rfl rfl (e_assign hf rfl) fun a hf => ?_
    refine pl_nil ?_
    refine then_n ?_
    refine wp_ret ?_
    obtain rfl := some_inj h
    have hM := hM.outs (own' := []) 0 rfl
    exact leave2 hf rfl rfl rfl ⟨rfl, hM.fin, hl80⟩

set_option maxRecDepth 100000 in
set_option maxHeartbeats 4000000 in
theorem r_spec_l15Rest (C : Cx) (b1 : Board) (b2 : Nat) (o3 : Nat) (hp4 : (ptrRep BoardRep).R C.w0 C.S0 b1 [vP b2 o3]) (rack5 : Str) (hp6 : rack5.length ≤ maxLen) (p7 : Play) (hp8 : R64 p7.Row) (hp9 : R64 p7.Col) (hp10 : p7.Word.length ≤ maxLen) (r : (Str × Bool)) (h : m_spec_l15Rest b1 rack5 p7 = some r) :
    Calls Tryz.prog 90 #[vP b2 (o3), vS (rack5), .agg #[vI (p7.Row), vI (p7.Col), .bool (p7.Down), vS (p7.Word)]] C.w0 fun e w => e = .returned (.tuple #[vS (r.1), .bool (r.2)]) ∧ Mem C w [] [] ∧ r.1.length ≤ maxLen := by
  have hM := Mem.begin C [.dat (ptrRep BoardRep) b1 [vP b2 o3]] ⟨hp4, trivial⟩
  refine enter Tryz.func90 rfl Tryz.ntmps90 rfl fun a hf => ?_
  unfold m_spec_l15Rest at h
  refine wp_seq ?_
  refine region_pl ?_
  refine pl_l hf rfl rfl rfl (w_box hf hM (cs := [vI (p7.Row), vI (p7.Col), .bool (p7.Down), vS (p7.Word)]) rfl rfl fun b11 w12 hx13 hM a hf => ?_)
  refine q_ hf rfl rfl rfl (e_assign hf rfl) fun a hf => ?_
  refine q_ hf rfl rfl rfl (e_assign hf rfl) fun a hf => ?_
  refine pl_nil ?_
  refine then_n ?_
  refine wp_seq ?_
  refine region_pl ?_
  refine q_ hf rfl rfl rfl (e_move hf rfl) fun a hf => ?_
  refine q_ hf rfl rfl rfl (e_loadA hf (us := [vI (p7.Row), vI (p7.Col), .bool (p7.Down), vS (p7.Word)]) rfl ⟨Tryz.isAgg41, Tryz.sizeOf41⟩ rfl (hM.boxSub (k := 0) (us := [vI (p7.Row), vI (p7.Col), .bool (p7.Down), vS (p7.Word)]) (o := 0) rfl rfl)) fun a hf => ?_
  obtain ⟨y15, hz16, h⟩ := bind_some h
  refine pl_l hf rfl rfl rfl (w_call hf Tryz.call88 rfl (r_spec_l12Flat ⟨_, Sh C _ _, none_, hM.sh_lt, none_not, C.G, hM.g_lt, g_none, hM.tabs⟩ b1 _ _ (hM.dat (k := 0) rfl) p7 hp8 hp9 hp10 _ hz16) ?_)
  rintro _ w23 ⟨rfl, hM2, hv17, hv18, hv19, hv20, hv21, hv22⟩
  obtain ⟨hM, hx24, hup25⟩ := hM.back hM2
  dsimp only [List.cons_append, List.nil_append] at hM hup25
  clear hM2
  refine ⟨_, rfl, fun a hf => ?_⟩
  refine q_ hf rfl rfl rfl (e_move hf rfl) fun a hf => ?_
  refine q_ hf rfl rfl rfl (e_extract hf rfl rfl) fun a hf => ?_
  refine q_ hf rfl rfl rfl (e_extract hf rfl rfl) fun a hf => ?_
  refine pl_l hf rfl rfl rfl (w_alloc hM (cs := [vI (0), vS (([] : Str)), vS (([] : Str))]) Tryz.zeroValue28 rfl fun b26 w27 hx28 hM a hf => ?_)
  refine pl_l hf rfl rfl rfl (w_alloc hM (cs := [vI (0), vI (0), .bool (false), vS (([] : Str))]) Tryz.zeroValue41 rfl fun b30 w31 hx32 hM a hf => ?_)
  refine pl_0 hf rfl rfl (w_store hf hM (us := [vI (y15.1.Size), vS (y15.1.Premium), vS (y15.1.Cells)]) (cs' := [vI (y15.1.Size), vS (y15.1.Premium), vS (y15.1.Cells)]) rfl rfl (k := 1) rfl rfl Tryz.sizeOf28 rfl rfl rfl fun w34 hM => ?_)
  dsimp only [List.set] at hM
  refine pl_0 hf rfl rfl (w_store hf hM (us := [vI (y15.2.Row), vI (y15.2.Col), .bool (y15.2.Down), vS (y15.2.Word)]) (cs' := [vI (y15.2.Row), vI (y15.2.Col), .bool (y15.2.Down), vS (y15.2.Word)]) rfl rfl (k := 0) rfl rfl Tryz.sizeOf41 rfl rfl rfl fun w37 hM => ?_)
  dsimp only [List.set] at hM
  refine pl_nil ?_
  refine then_n ?_
  refine wp_seq ?_
  refine region_pl ?_
  refine q_ hf rfl rfl rfl (e_move hf rfl) fun a hf => ?_
  refine q_ hf rfl rfl rfl (e_loadA hf (us := [vI (y15.2.Row), vI (y15.2.Col), .bool (y15.2.Down), vS (y15.2.Word)]) rfl ⟨Tryz.isAgg41, Tryz.sizeOf41⟩ rfl (hM.boxSub (k := 0) (us := [vI (y15.2.Row), vI (y15.2.Col), .bool (y15.2.Down), vS (y15.2.Word)]) (o := 0) rfl rfl)) fun a hf => ?_
  obtain ⟨y40, hz41, h⟩ := bind_some h
  refine pl_l hf rfl rfl rfl (w_call hf Tryz.call141 rfl (r_spec_l12Placed ⟨_, All C _ _, none_, hM.all_lt, none_not, C.G, hM.g_lt, g_none, hM.tabs⟩ y15.1 _ _ (hM.lendBox (k := 1) rfl (BoardRep_mk (x := y15.1) hv17 hv18 hv19)) y15.2 hv20 hv21 hv22 _ hz41) ?_)
  rintro _ w43 ⟨rfl, hM2, hv42⟩
  obtain ⟨hM, hx44⟩ := hM.backA hM2
  clear hM2
  refine ⟨_, rfl, fun a hf => ?_⟩
  obtain ⟨y46, hz47, h⟩ := bind_some h
  refine pl_l hf rfl rfl rfl (w_call hf Tryz.call140 rfl (r_spec_l03Tiles ⟨_, Sh C _ _, none_, hM.sh_lt, none_not, C.G, hM.g_lt, g_none, hM.tabs⟩ y40 hv42 _ hz47) ?_)
  rintro _ w49 ⟨rfl, hM2, hv48⟩
  obtain ⟨hM, hx50, hup51⟩ := hM.back hM2
  dsimp only [List.cons_append, List.nil_append] at hM hup51
  clear hM2
  refine ⟨_, rfl, fun a hf => ?_⟩
  obtain ⟨y52, hz53, h⟩ := bind_some h
  refine pl_l hf rfl rfl rfl (w_call hf Tryz.call91 rfl (r_spec_l03Take ⟨_, Sh C _ _, none_, hM.sh_lt, none_not, C.G, hM.g_lt, g_none, hM.tabs⟩ rack5 hp6 y46 hv48 _ hz53) ?_)
  rintro _ w55 ⟨rfl, hM2, hv54⟩
  obtain ⟨hM, hx56, hup57⟩ := hM.back hM2
  dsimp only [List.cons_append, List.nil_append] at hM hup57
  clear hM2
  refine ⟨_, rfl, fun a hf => ?_⟩
  refine q_ hf rfl rfl rfl (e_extract hf rfl rfl) fun a hf => ?_
  refine q_ hf rfl rfl rfl (e_extract hf rfl rfl) fun a hf => ?_
  refine q_ hf rfl rfl rfl (e_assign hf rfl) fun a hf => ?_
  refine q_ hf rfl rfl rfl (e_assign hf rfl) fun a hf => ?_
  refine pl_nil ?_
  refine then_n ?_
  refine wp_ret ?_
  obtain rfl := some_inj h
  have hM := hM.outs (own' := []) 0 rfl
  exact leave2 hf rfl rfl rfl ⟨rfl, hM.fin, hv54⟩

set_option maxRecDepth 100000 in
set_option maxHeartbeats 4000000 in
theorem r_spec_l12Make (C : Cx) (b1 : Board) (b2 : Nat) (o3 : Nat) (hp4 : (ptrRep BoardRep).R C.w0 C.S0 b1 [vP b2 o3]) (p5 : Play) (hp6 : R64 p5.Row) (hp7 : R64 p5.Col) (hp8 : p5.Word.length ≤ maxLen) (r : Board) (h : m_spec_l12Make b1 p5 = some r) :
    Calls Tryz.prog 92 #[vP b2 (o3), .agg #[vI (p5.Row), vI (p5.Col), .bool (p5.Down), vS (p5.Word)]] C.w0 fun e w => e = .returned (.agg #[vI (r.Size), vS (r.Premium), vS (r.Cells)]) ∧ Mem C w [] [] ∧ R64 r.Size ∧ r.Premium.length ≤ maxLen ∧ r.Cells.length ≤ maxLen := by
  have hM := Mem.begin C [.dat (ptrRep BoardRep) b1 [vP b2 o3]] ⟨hp4, trivial⟩
  refine enter Tryz.func92 rfl Tryz.ntmps92 rfl fun a hf => ?_
  unfold m_spec_l12Make at h
  refine wp_seq ?_
  refine region_pl ?_
  refine pl_l hf rfl rfl rfl (w_box hf hM (cs := [vI (p5.Row), vI (p5.Col), .bool (p5.Down), vS (p5.Word)]) rfl rfl fun b9 w10 hx11 hM a hf => ?_)
  refine pl_l hf rfl rfl rfl (w_alloc hM (cs := [vI (0), vS (([] : Str)), vS (([] : Str))]) Tryz.zeroValue28 rfl fun b13 w14 hx15 hM a hf => ?_)
  refine pl_nil ?_
  refine then_n ?_
  refine wp_seq ?_
  refine region_pl ?_
  refine q_ hf rfl rfl rfl (e_move hf rfl) fun a hf => ?_
  refine q_ hf rfl rfl rfl (e_loadA hf (us := [vI (p5.Row), vI (p5.Col), .bool (p5.Down), vS (p5.Word)]) rfl ⟨Tryz.isAgg41, Tryz.sizeOf41⟩ rfl (hM.boxSub (k := 1) (us := [vI (p5.Row), vI (p5.Col), .bool (p5.Down), vS (p5.Word)]) (o := 0) rfl rfl)) fun a hf => ?_
  obtain ⟨y17, hz18, h⟩ := bind_some h
  refine pl_l hf rfl rfl rfl (w_call hf Tryz.call88 rfl (r_spec_l12Flat ⟨_, Sh C _ _, none_, hM.sh_lt, none_not, C.G, hM.g_lt, g_none, hM.tabs⟩ b1 _ _ (hM.dat (k := 0) rfl) p5 hp6 hp7 hp8 _ hz18) ?_)
  rintro _ w25 ⟨rfl, hM2, hv19, hv20, hv21, hv22, hv23, hv24⟩
  obtain ⟨hM, hx26, hup27⟩ := hM.back hM2
  dsimp only [List.cons_append, List.nil_append] at hM hup27
  clear hM2
  refine ⟨_, rfl, fun a hf => ?_⟩
  refine q_ hf rfl rfl rfl (e_move hf rfl) fun a hf => ?_
  refine q_ hf rfl rfl rfl (e_extract hf rfl rfl) fun a hf => ?_
  refine q_ hf rfl rfl rfl (e_extract hf rfl rfl) fun a hf => ?_
  refine pl_l hf rfl rfl rfl (w_alloc hM (cs := [vI (0), vS (([] : Str)), vS (([] : Str))]) Tryz.zeroValue28 rfl fun b28 w29 hx30 hM a hf => ?_)
  refine pl_l hf rfl rfl rfl (w_alloc hM (cs := [vI (0), vI (0), .bool (false), vS (([] : Str))]) Tryz.zeroValue41 rfl fun b32 w33 hx34 hM a hf => ?_)
  refine pl_0 hf rfl rfl (w_store hf hM (us := [vI (y17.1.Size), vS (y17.1.Premium), vS (y17.1.Cells)]) (cs' := [vI (y17.1.Size), vS (y17.1.Premium), vS (y17.1.Cells)]) rfl rfl (k := 1) rfl rfl Tryz.sizeOf28 rfl rfl rfl fun w36 hM => ?_)
  dsimp only [List.set] at hM
  refine pl_0 hf rfl rfl (w_store hf hM (us := [vI (y17.2.Row), vI (y17.2.Col), .bool (y17.2.Down), vS (y17.2.Word)]) (cs' := [vI (y17.2.Row), vI (y17.2.Col), .bool (y17.2.Down), vS (y17.2.Word)]) rfl rfl (k := 0) rfl rfl Tryz.sizeOf41 rfl rfl rfl fun w39 hM => ?_)
  dsimp only [List.set] at hM
  refine pl_nil ?_
  refine then_n ?_
  refine wp_seq ?_
  refine region_pl ?_
  refine q_ hf rfl rfl rfl (e_field hf rfl Tryz.underlying28 rfl Tryz.sizeOf9 (o' := 2) rfl) fun a hf => ?_
  refine q_ hf rfl rfl rfl (e_load1 hf rfl Tryz.isAgg9 (hM.boxCell (k := 1) rfl rfl)) fun a hf => ?_
  refine pl_l hf rfl rfl rfl (w_bytes hf hM (x := y17.1.Cells) rfl Tryz.underlying9 Tryz.underlying138 Tryz.underlying5 hv21 fun A42 c43 w44 hx45 hM a hf => ?_)
  refine q_ hf rfl rfl rfl (e_assign hf rfl) fun a hf => ?_
  refine pl_nil ?_
  refine then_n ?_
  obtain ⟨x47, h48, h⟩ := bind_some h
  refine seq_join (fun a w => ∃ (xs46 : Str), xs46 = x47 ∧ Has 53 a [(3, vP b9 (0)), (4, vP b13 (0)), (5, vP b28 (0)), (7, vL A42 (xs46) c43)] ∧ Mem C w [.row byteRep A42 c43 5 xs46 false, .box b32 [vI (y17.2.Row), vI (y17.2.Col), .bool (y17.2.Down), vS (y17.2.Word)] 41, .box b28 [vI (y17.1.Size), vS (y17.1.Premium), vS (y17.1.Cells)] 28, .box b13 [vI (0), vS (([] : Str)), vS (([] : Str))] 28, .box b9 [vI (p5.Row), vI (p5.Col), .bool (p5.Down), vS (p5.Word)] 41] [.dat (ptrRep BoardRep) b1 [vP b2 o3]]) ?_ ?_
  · refine wp_seq ?_
    refine region_pl ?_
    refine q_ hf rfl rfl rfl (e_assign hf rfl) fun a hf => ?_
    refine pl_nil ?_
    refine then_n ?_
    refine wp_block ?_
    obtain ⟨x54, h55, h48⟩ := bind_some h48
    refine wp_loopM h55 (fun s a w => ∃ (xs49 : Str) (n50 : Int), (xs49, n50) = s ∧ Has 53 a [(3, vP b9 (0)), (4, vP b13 (0)), (5, vP b28 (0)), (6, vP b32 (0)), (7, vL A42 (xs49) c43), (8, vI (n50))] ∧ Mem C w [.row byteRep A42 c43 5 xs49 false, .box b32 [vI (y17.2.Row), vI (y17.2.Col), .bool (y17.2.Down), vS (y17.2.Word)] 41, .box b28 [vI (y17.1.Size), vS (y17.1.Premium), vS (y17.1.Cells)] 28, .box b13 [vI (0), vS (([] : Str)), vS (([] : Str))] 28, .box b9 [vI (p5.Row), vI (p5.Col), .bool (p5.Down), vS (p5.Word)] 41] [.dat (ptrRep BoardRep) b1 [vP b2 o3]] ∧ R64 n50) ?_ ?_
    · exact ⟨y17.1.Cells, 0, rfl, hf.keep ⟨rfl, rfl, rfl, rfl, rfl, rfl, trivial⟩, hM.pick [0] rfl, (R64_lit rfl)⟩
    · rintro s o56 a w52 ⟨xs49, n50, rfl, hf, hM, hv51⟩ h57 hd58
      replace h57 : m_spec_l12Make_l1 y17 xs49 n50 = some o56 := h57
      unfold m_spec_l12Make_l1 at h57
      refine wp_seq ?_
      refine wp_seq ?_
      refine region_pl ?_
      refine q_ hf rfl rfl rfl (e_move hf rfl) fun a hf => ?_
      refine q_ hf rfl rfl rfl (e_field hf rfl Tryz.underlying41 rfl Tryz.sizeOf9 (o' := 3) rfl) fun a hf => ?_
      refine q_ hf rfl rfl rfl (e_load1 hf rfl Tryz.isAgg9 (hM.boxCell (k := 1) rfl rfl)) fun a hf => ?_
      refine q_ hf rfl rfl rfl (e_lenS hf (x := y17.2.Word) rfl Tryz.underlying9) fun a hf => ?_
      refine q_ hf rfl rfl rfl (e_lt hf (x := n50) (y := (y17.2.Word.length : Int)) rfl rfl) fun a hf => ?_
      refine pl_nil ?_
      refine then_n ?_
      rcases cond_some h57 with ⟨hc59, h57⟩ | ⟨hc59, h57⟩
      · refine cond_t hf rfl hc59 ?_
        refine wp_skip ?_
        refine then_n ?_
        refine wp_seq ?_
        refine wp_block ?_
        obtain ⟨w60, hw⟩ : ∃ x, x = w52.drew := ⟨_, rfl⟩
        refine region_pi (.q 0 (.q 1 (.q 2 (.q 3 (.q 4 (.q 5 (.q 6 (.q 7 (.q 8 (.q 9 (.q 10 (.q 11 (.q 12 (.q 13 (.q 14 (.q 15 (.l 16 (.nil)))))))))))))))))) (Ext w60) rfl (by kernel_rfl) ?_
        have hM := hM.drew
        rw [← hw] at hM ⊢
        clear hw
        refine pi_q hf rfl rfl rfl rfl (Ext.refl _) (e_move hf rfl) fun a hf => ?_
        refine pi_q hf rfl rfl rfl rfl (Ext.refl _) (e_field hf rfl Tryz.underlying41 rfl Tryz.sizeOf2 (o' := 0) rfl) fun a hf => ?_
        refine pi_q hf rfl rfl rfl rfl (Ext.refl _) (e_load1 hf rfl Tryz.isAgg2 (hM.boxCell (k := 1) rfl rfl)) fun a hf => ?_
        refine pi_q hf rfl rfl rfl rfl (Ext.refl _) (e_field hf rfl Tryz.underlying28 rfl Tryz.sizeOf2 (o' := 0) rfl) fun a hf => ?_
        refine pi_q hf rfl rfl rfl rfl (Ext.refl _) (e_load1 hf rfl Tryz.isAgg2 (hM.boxCell (k := 2) rfl rfl)) fun a hf => ?_
        obtain ⟨z61, hz62, h57⟩ := bind_some h57
        refine pi_q hf rfl rfl rfl rfl (Ext.refl _) (e_mul hf rfl rfl hz62) fun a hf => ?_
        refine pi_q hf rfl rfl rfl rfl (Ext.refl _) (e_field hf rfl Tryz.underlying41 rfl Tryz.sizeOf2 (o' := 1) rfl) fun a hf => ?_
        refine pi_q hf rfl rfl rfl rfl (Ext.refl _) (e_load1 hf rfl Tryz.isAgg2 (hM.boxCell (k := 1) rfl rfl)) fun a hf => ?_
        obtain ⟨z63, hz64, h57⟩ := bind_some h57
        refine pi_q hf rfl rfl rfl rfl (Ext.refl _) (e_add hf rfl rfl hz64) fun a hf => ?_
        refine pi_q hf rfl rfl rfl rfl (Ext.refl _) (e_move hf rfl) fun a hf => ?_
        obtain ⟨z65, hz66, h57⟩ := bind_some h57
        refine pi_q hf rfl rfl rfl rfl (Ext.refl _) (e_add hf rfl rfl hz66) fun a hf => ?_
        refine pi_q hf rfl rfl rfl rfl (Ext.refl _) (e_field hf rfl Tryz.underlying41 rfl Tryz.sizeOf9 (o' := 3) rfl) fun a hf => ?_
        refine pi_q hf rfl rfl rfl rfl (Ext.refl _) (e_load1 hf rfl Tryz.isAgg9 (hM.boxCell (k := 1) rfl rfl)) fun a hf => ?_
        refine pi_q hf rfl rfl rfl rfl (Ext.refl _) (e_move hf rfl) fun a hf => ?_
        obtain ⟨c67, hz68, h57⟩ := bind_some h57
        refine pi_q hf rfl rfl rfl rfl (Ext.refl _) (e_indexS hf (x := y17.2.Word) rfl rfl Tryz.underlying9 hz68) fun a hf => ?_
        obtain ⟨e69, hz70, h57⟩ := bind_some h57
        obtain ⟨b75, _, hA76, h71, h72, hr73, hcell74⟩ := hM.rowElemN (k := 0) rfl (n := 1) rfl hz70
        obtain rfl : _ = _ := hr73
        refine pi_q hf rfl rfl rfl rfl (Ext.refl _) (e_indexAddr (A := A42) (b := b75) (o := 0) (xs := xs49) (i := z65) hf hA76 rfl rfl Tryz.underlying138 Tryz.sizeOf5 h71 h72) fun a hf => ?_
        refine pi_one ?_
        obtain ⟨xs78, hz79, h57⟩ := bind_some h57
        refine pi_z0 hf rfl rfl rfl (by kernel_rfl) (w_storeElem hf hM (x := c67) (row := [vB (c67)]) (i := z65) rfl rfl rfl hA76 (k := 0) rfl rfl Tryz.sizeOf5 rfl hz79 fun w77 hM => ?_)
        dsimp only [List.set] at hM
        have hf := hf.alter (d := 7) (v := vL A42 (xs78) c43) rfl (vL_len (setL_len hz79))
        have hf := hf.alter (d := 26) (v := vL A42 (xs78) c43) rfl (vL_len (setL_len hz79))
        refine pi_nil ?_
        refine blk_n ?_
        refine then_n ?_
        refine region_pl ?_
        refine q_ hf rfl rfl rfl (e_move hf rfl) fun a hf => ?_
        obtain ⟨z80, hz81, h57⟩ := bind_some h57
        refine q_ hf rfl rfl rfl (e_add hf rfl rfl hz81) fun a hf => ?_
        refine q_ hf rfl rfl rfl (e_assign hf rfl) fun a hf => ?_
        refine pl_nil ?_
        obtain rfl := some_inj h57
        refine then_n ⟨_, rfl, ?_⟩
        exact ⟨xs78, z80, rfl, hf.keep ⟨rfl, rfl, rfl, rfl, rfl, rfl, trivial⟩, hM.pick [0] rfl, (chk_R hz81)⟩
      · refine cond_f hf rfl hc59 ?_
        refine wp_exit ?_
        refine then_x ?_
        obtain rfl := some_inj h57
        obtain rfl := hd58 _ rfl
        try dsimp only at h48
        refine then_x ?_
        refine exit_hit ?_
        obtain rfl := some_inj h48
        refine then_n ?_
        exact ⟨xs49, rfl, hf.keep ⟨rfl, rfl, rfl, rfl, trivial⟩, hM.pick [0] rfl⟩
  · rintro a w87 ⟨xs46, rfl, hf, hM⟩
    try dsimp only at h
    refine wp_seq ?_
    refine region_pl ?_
    refine q_ hf rfl rfl rfl (e_field hf rfl Tryz.underlying28 rfl Tryz.sizeOf2 (o' := 0) rfl) fun a hf => ?_
    refine q_ hf rfl rfl rfl (e_load1 hf rfl Tryz.isAgg2 (hM.boxCell (k := 2) rfl rfl)) fun a hf => ?_
    refine q_ hf rfl rfl rfl (e_field hf rfl Tryz.underlying28 rfl Tryz.sizeOf9 (o' := 1) rfl) fun a hf => ?_
    refine q_ hf rfl rfl rfl (e_load1 hf rfl Tryz.isAgg9 (hM.boxCell (k := 2) rfl rfl)) fun a hf => ?_
    refine q_ hf rfl rfl rfl (e_move hf rfl) fun a hf => ?_
    have hl88 := row_len (hM.ownAt (k := 0) rfl)
    refine q_ hf rfl rfl rfl (e_bytesStr hf (xs := xs46) rfl Tryz.underlying138 Tryz.underlying5 Tryz.underlying9 (hM.lendRow (k := 0) rfl)) fun a hf => ?_
    refine q_ hf rfl rfl rfl (e_build hf Tryz.zeroValue28 Tryz.underlying28 (bp_28 _ Tryz.underlying28.symm) rfl (cs := #[vI (y17.1.Size), vS (y17.1.Premium), vS (xs46)]) (by kernel_rfl)) fun a hf => ?_
    refine pl_l hf rfl rfl rfl (w_alloc hM (cs := [vI (0), vS (([] : Str)), vS (([] : Str))]) Tryz.zeroValue28 rfl fun b89 w90 hx91 hM a hf => ?_)
    refine pl_0 hf rfl rfl (w_store hf hM (us := [vI (y17.1.Size), vS (y17.1.Premium), vS (xs46)]) (cs' := [vI (y17.1.Size), vS (y17.1.Premium), vS (xs46)]) rfl rfl (k := 0) rfl rfl Tryz.sizeOf28 rfl rfl rfl fun w93 hM => ?_)
    dsimp only [List.set] at hM
    refine pl_nil ?_
    refine then_n ?_
    refine wp_seq ?_
    refine wp_seq ?_
    refine region_pl ?_
    refine q_ hf rfl rfl rfl (e_field hf rfl Tryz.underlying41 rfl Tryz.sizeOf4 (o' := 2) rfl) fun a hf => ?_
    refine q_ hf rfl rfl rfl (e_load1 hf rfl Tryz.isAgg4 (hM.boxCell (k := 5) rfl rfl)) fun a hf => ?_
    refine pl_nil ?_
    refine then_n ?_
    rcases cond_some h with ⟨hc96, h⟩ | ⟨hc96, h⟩
    · refine cond_t hf rfl hc96 ?_
      refine wp_seq ?_
      refine region_pl ?_
      obtain ⟨y97, hz98, h⟩ := bind_some h
      refine pl_l hf rfl rfl rfl (w_call hf Tryz.call135 rfl (r_spec_l11Transpose ⟨_, All C _ _, none_, hM.all_lt, none_not, C.G, hM.g_lt, g_none, hM.tabs⟩ (⟨y17.1.Size, y17.1.Premium, xs46⟩ : Board) _ _ (hM.lendBox (k := 0) rfl (BoardRep_mk (x := (⟨y17.1.Size, y17.1.Premium, xs46⟩ : Board)) hv19 hv20 hl88)) _ hz98) ?_)
      rintro _ w102 ⟨rfl, hM2, hv99, hv100, hv101⟩
      obtain ⟨hM, hx103⟩ := hM.backA hM2
      clear hM2
      refine ⟨_, rfl, fun a hf => ?_⟩
      refine pl_0 hf rfl rfl (w_store hf hM (us := [vI (y97.Size), vS (y97.Premium), vS (y97.Cells)]) (cs' := [vI (y97.Size), vS (y97.Premium), vS (y97.Cells)]) rfl rfl (k := 4) rfl rfl Tryz.sizeOf28 rfl rfl rfl fun w105 hM => ?_)
      dsimp only [List.set] at hM
      refine pl_nil ?_
      refine then_n ?_
      refine wp_ret ?_
      refine then_r ?_
      obtain rfl := some_inj h
      have hres108 := leaveV1 (P := Tryz.prog) Tryz.results92 (res_agg hf rfl ⟨Tryz.isAgg28, Tryz.sizeOf28⟩ (us := [vI (y97.Size), vS (y97.Premium), vS (y97.Cells)]) rfl (hM.boxSub (k := 4) (o := 0) rfl rfl))
      have hM := hM.outs (own' := []) 0 rfl
      exact bodyPost_ret hres108 hf.defers ⟨rfl, hM.fin, hv99, hv100, hv101⟩
    · refine cond_f hf rfl hc96 ?_
      refine wp_skip ?_
      refine then_n ?_
      refine wp_seq ?_
      refine region_pl ?_
      refine q_ hf rfl rfl rfl (e_loadA hf (us := [vI (y17.1.Size), vS (y17.1.Premium), vS (xs46)]) rfl ⟨Tryz.isAgg28, Tryz.sizeOf28⟩ rfl (hM.boxSub (k := 0) (us := [vI (y17.1.Size), vS (y17.1.Premium), vS (xs46)]) (o := 0) rfl rfl)) fun a hf => ?_
      refine pl_0 hf rfl rfl (w_store hf hM (us := [vI (y17.1.Size), vS (y17.1.Premium), vS (xs46)]) (cs' := [vI (y17.1.Size), vS (y17.1.Premium), vS (xs46)]) rfl rfl (k := 4) rfl rfl Tryz.sizeOf28 rfl rfl rfl fun w109 hM => ?_)
      dsimp only [List.set] at hM
      refine pl_nil ?_
      refine then_n ?_
      refine wp_ret ?_
      obtain rfl := some_inj h
      have hres112 := leaveV1 (P := Tryz.prog) Tryz.results92 (res_agg hf rfl ⟨Tryz.isAgg28, Tryz.sizeOf28⟩ (us := [vI (y17.1.Size), vS (y17.1.Premium), vS (xs46)]) rfl (hM.boxSub (k := 4) (o := 0) rfl rfl))
      have hM := hM.outs (own' := []) 0 rfl
      exact bodyPost_ret hres112 hf.defers ⟨rfl, hM.fin, hv19, hv20, hl88⟩

set_option maxRecDepth 100000 in
set_option maxHeartbeats 4000000 in
theorem r_spec_l23End (C : Cx) (b1 : Board) (b2 : Nat) (o3 : Nat) (hp4 : (ptrRep BoardRep).R C.w0 C.S0 b1 [vP b2 o3]) (mine5 : Str) (hp6 : mine5.length ≤ maxLen) (unseen7 : Str) (hp8 : unseen7.length ≤ maxLen) (p9 : Play) (hp10 : R64 p9.Row) (hp11 : R64 p9.Col) (hp12 : p9.Word.length ≤ maxLen) (tile13 : Str) (hp14 : tile13.length ≤ maxLen) (r : (End × Bool)) (h : m_spec_l23End b1 mine5 unseen7 p9 tile13 = some r) :
    Calls Tryz.prog 43 #[vP b2 (o3), vS (mine5), vS (unseen7), .agg #[vI (p9.Row), vI (p9.Col), .bool (p9.Down), vS (p9.Word)], vS (tile13)] C.w0 fun e w => e = .returned (.tuple #[.agg #[vI (r.1.Board.Size), vS (r.1.Board.Premium), vS (r.1.Board.Cells), vS (r.1.Mine), vS (r.1.Theirs), .bool (r.1.Passed)], .bool (r.2)]) ∧ Mem C w [] [] ∧ R64 r.1.Board.Size ∧ r.1.Board.Premium.length ≤ maxLen ∧ r.1.Board.Cells.length ≤ maxLen ∧ r.1.Mine.length ≤ maxLen ∧ r.1.Theirs.length ≤ maxLen := by
  have hM := Mem.begin C [.dat (ptrRep BoardRep) b1 [vP b2 o3]] ⟨hp4, trivial⟩
  refine enter Tryz.func43 rfl Tryz.ntmps43 rfl fun a hf => ?_
  unfold m_spec_l23End at h
  refine wp_seq ?_
  refine region_pl ?_
  refine pl_l hf rfl rfl rfl (w_box hf hM (cs := [vI (p9.Row), vI (p9.Col), .bool (p9.Down), vS (p9.Word)]) rfl rfl fun b15 w16 hx17 hM a hf => ?_)
  refine pl_l hf rfl rfl rfl (w_alloc hM (cs := [vI (0), vS (([] : Str)), vS (([] : Str)), vS (([] : Str)), vS (([] : Str)), .bool (false)]) Tryz.zeroValue38 rfl fun b19 w20 hx21 hM a hf => ?_)
  refine q_ hf rfl rfl rfl (e_assign hf rfl) fun a hf => ?_
  refine pl_nil ?_
  refine then_n ?_
  refine wp_seq ?_
  refine region_pl ?_
  refine q_ hf rfl rfl rfl (e_move hf rfl) fun a hf => ?_
  refine q_ hf rfl rfl rfl (e_move hf rfl) fun a hf => ?_
  refine q_ hf rfl rfl rfl (e_loadA hf (us := [vI (p9.Row), vI (p9.Col), .bool (p9.Down), vS (p9.Word)]) rfl ⟨Tryz.isAgg41, Tryz.sizeOf41⟩ rfl (hM.boxSub (k := 1) (us := [vI (p9.Row), vI (p9.Col), .bool (p9.Down), vS (p9.Word)]) (o := 0) rfl rfl)) fun a hf => ?_
  obtain ⟨y23, hz24, h⟩ := bind_some h
  refine pl_l hf rfl rfl rfl (w_call hf Tryz.call90 rfl (r_spec_l15Rest ⟨_, Sh C _ _, none_, hM.sh_lt, none_not, C.G, hM.g_lt, g_none, hM.tabs⟩ b1 _ _ (hM.dat (k := 0) rfl) mine5 hp6 p9 hp10 hp11 hp12 _ hz24) ?_)
  rintro _ w26 ⟨rfl, hM2, hv25⟩
  obtain ⟨hM, hx27, hup28⟩ := hM.back hM2
  dsimp only [List.cons_append, List.nil_append] at hM hup28
  clear hM2
  refine ⟨_, rfl, fun a hf => ?_⟩
  refine q_ hf rfl rfl rfl (e_move hf rfl) fun a hf => ?_
  refine q_ hf rfl rfl rfl (e_extract hf rfl rfl) fun a hf => ?_
  refine q_ hf rfl rfl rfl (e_extract hf rfl rfl) fun a hf => ?_
  refine q_ hf rfl rfl rfl (e_assign hf rfl) fun a hf => ?_
  refine q_ hf rfl rfl rfl (e_assign hf rfl) fun a hf => ?_
  refine pl_nil ?_
  refine then_n ?_
  refine wp_seq ?_
  refine region_pl ?_
  refine q_ hf rfl rfl rfl (e_move hf rfl) fun a hf => ?_
  refine q_ hf rfl rfl rfl (e_move hf rfl) fun a hf => ?_
  obtain ⟨y29, hz30, h⟩ := bind_some h
  refine pl_l hf rfl rfl rfl (w_call hf Tryz.call91 rfl (r_spec_l03Take ⟨_, Sh C _ _, none_, hM.sh_lt, none_not, C.G, hM.g_lt, g_none, hM.tabs⟩ unseen7 hp8 tile13 hp14 _ hz30) ?_)
  rintro _ w32 ⟨rfl, hM2, hv31⟩
  obtain ⟨hM, hx33, hup34⟩ := hM.back hM2
  dsimp only [List.cons_append, List.nil_append] at hM hup34
  clear hM2
  refine ⟨_, rfl, fun a hf => ?_⟩
  refine q_ hf rfl rfl rfl (e_move hf rfl) fun a hf => ?_
  refine q_ hf rfl rfl rfl (e_extract hf rfl rfl) fun a hf => ?_
  refine q_ hf rfl rfl rfl (e_extract hf rfl rfl) fun a hf => ?_
  refine q_ hf rfl rfl rfl (e_assign hf rfl) fun a hf => ?_
  refine q_ hf rfl rfl rfl (e_assign hf rfl) fun a hf => ?_
  refine pl_nil ?_
  refine then_n ?_
  refine wp_seq ?_
  obtain ⟨x37, h38, h⟩ := bind_some h
  refine seq_join (fun a w => ∃ (t35 : Bool), t35 = x37 ∧ Has 50 a [(0, vP b2 (o3)), (4, vS (tile13)), (8, vP b15 (0)), (10, vP b19 (0)), (12, vS (y23.1)), (14, vS (y29.1)), (39, .bool (t35))] ∧ Mem C w [.box b19 [vI (0), vS (([] : Str)), vS (([] : Str)), vS (([] : Str)), vS (([] : Str)), .bool (false)] 38, .box b15 [vI (p9.Row), vI (p9.Col), .bool (p9.Down), vS (p9.Word)] 41] [.dat (ptrRep BoardRep) b1 [vP b2 o3]]) ?_ ?_
  · refine region_pl ?_
    refine q_ hf rfl rfl rfl (e_move hf rfl) fun a hf => ?_
    refine q_ hf rfl rfl rfl (e_not hf rfl) fun a hf => ?_
    refine q_ hf rfl rfl rfl (e_move hf rfl) fun a hf => ?_
    rcases cond_some h38 with ⟨hc39, h38⟩ | ⟨hc39, h38⟩
    · refine pl_gs (wanted_f hf rfl rfl rfl rfl hc39) hf rfl rfl fun a hf => ?_
      refine pl_gs (wanted_f hf rfl rfl rfl rfl hc39) hf rfl rfl fun a hf => ?_
      refine q_ hf rfl rfl rfl (e_pick_t hf rfl hc39 rfl) fun a hf => ?_
      refine q_ hf rfl rfl rfl (e_move hf rfl) fun a hf => ?_
      refine pl_gs (wanted_f hf rfl rfl rfl rfl rfl) hf rfl rfl fun a hf => ?_
      refine pl_gs (wanted_f hf rfl rfl rfl rfl rfl) hf rfl rfl fun a hf => ?_
      refine pl_gs (wanted_f hf rfl rfl rfl rfl rfl) hf rfl rfl fun a hf => ?_
      refine q_ hf rfl rfl rfl (e_pick_t hf rfl rfl rfl) fun a hf => ?_
      refine pl_nil ?_
      obtain rfl := some_inj h38
      refine then_n ?_
      exact ⟨true, rfl, hf.keep ⟨rfl, rfl, rfl, rfl, rfl, rfl, rfl, trivial⟩, hM.pick [0] rfl⟩
    · refine gq (wanted_t hf rfl rfl rfl rfl hc39) hf rfl rfl (e_move hf rfl) fun a hf => ?_
      refine gq (wanted_t hf rfl rfl rfl rfl hc39) hf rfl rfl (e_not hf rfl) fun a hf => ?_
      refine q_ hf rfl rfl rfl (e_pick_f hf rfl hc39 rfl) fun a hf => ?_
      refine q_ hf rfl rfl rfl (e_move hf rfl) fun a hf => ?_
      rcases cond_some h38 with ⟨hc41, h38⟩ | ⟨hc41, h38⟩
      · refine pl_gs (wanted_f hf rfl rfl rfl rfl hc41) hf rfl rfl fun a hf => ?_
        refine pl_gs (wanted_f hf rfl rfl rfl rfl hc41) hf rfl rfl fun a hf => ?_
        refine pl_gs (wanted_f hf rfl rfl rfl rfl hc41) hf rfl rfl fun a hf => ?_
        refine q_ hf rfl rfl rfl (e_pick_t hf rfl hc41 rfl) fun a hf => ?_
        refine pl_nil ?_
        obtain rfl := some_inj h38
        refine then_n ?_
        exact ⟨true, rfl, hf.keep ⟨rfl, rfl, rfl, rfl, rfl, rfl, rfl, trivial⟩, hM.pick [0] rfl⟩
      · refine gq (wanted_t hf rfl rfl rfl rfl hc41) hf rfl rfl (e_move hf rfl) fun a hf => ?_
        refine gq (wanted_t hf rfl rfl rfl rfl hc41) hf rfl rfl (e_lenS hf (x := tile13) rfl Tryz.underlying9) fun a hf => ?_
        refine gq (wanted_t hf rfl rfl rfl rfl hc41) hf rfl rfl (e_ne hf (x := (tile13.length : Int)) (y := 1) rfl rfl) fun a hf => ?_
        refine q_ hf rfl rfl rfl (e_pick_f hf rfl hc41 rfl) fun a hf => ?_
        refine pl_nil ?_
        obtain rfl := some_inj h38
        refine then_n ?_
        exact ⟨((tile13.length : Int) != 1), rfl, hf.keep ⟨rfl, rfl, rfl, rfl, rfl, rfl, rfl, trivial⟩, hM.pick [0] rfl⟩
  · rintro a w44 ⟨t35, rfl, hf, hM⟩
    try dsimp only at h
    rcases cond_some h with ⟨hc45, h⟩ | ⟨hc45, h⟩
    · refine cond_t hf rfl hc45 ?_
      refine wp_seq ?_
      refine region_pl ?_
      refine q_ hf rfl rfl rfl (e_build hf Tryz.zeroValue38 Tryz.underlying38 (bp_38 _ Tryz.underlying38.symm) rfl (cs := #[vI (0), vS (([] : Str)), vS (([] : Str)), vS (([] : Str)), vS (([] : Str)), .bool (false)]) (by kernel_rfl)) fun a hf => ?_
      refine pl_0 hf rfl rfl (w_store hf hM (us := [vI (0), vS (([] : Str)), vS (([] : Str)), vS (([] : Str)), vS (([] : Str)), .bool (false)]) (cs' := [vI (0), vS (([] : Str)), vS (([] : Str)), vS (([] : Str)), vS (([] : Str)), .bool (false)]) rfl rfl (k := 0) rfl rfl Tryz.sizeOf38 rfl rfl rfl fun w46 hM => ?_)
      dsimp only [List.set] at hM
      refine q_ hf rfl rfl rfl (e_assign hf rfl) fun a hf => ?_
      refine pl_nil ?_
      refine then_n ?_
      refine wp_ret ?_
      refine then_r ?_
      obtain rfl := some_inj h
      have hres49 := leaveV2 (P := Tryz.prog) Tryz.results43 (res_agg hf rfl ⟨Tryz.isAgg38, Tryz.sizeOf38⟩ (us := [vI (0), vS (([] : Str)), vS (([] : Str)), vS (([] : Str)), vS (([] : Str)), .bool (false)]) rfl (hM.boxSub (k := 0) (o := 0) rfl rfl)) (res_tmp hf rfl)
      have hM := hM.outs (own' := []) 0 rfl
      exact bodyPost_ret hres49 hf.defers ⟨rfl, hM.fin, (R64_lit rfl), (lit_len rfl), (lit_len rfl), (lit_len rfl), (lit_len rfl)⟩
    · refine cond_f hf rfl hc45 ?_
      refine wp_skip ?_
      refine then_n ?_
      refine wp_seq ?_
      refine region_pl ?_
      refine q_ hf rfl rfl rfl (e_move hf rfl) fun a hf => ?_
      refine q_ hf rfl rfl rfl (e_loadA hf (us := [vI (p9.Row), vI (p9.Col), .bool (p9.Down), vS (p9.Word)]) rfl ⟨Tryz.isAgg41, Tryz.sizeOf41⟩ rfl (hM.boxSub (k := 1) (us := [vI (p9.Row), vI (p9.Col), .bool (p9.Down), vS (p9.Word)]) (o := 0) rfl rfl)) fun a hf => ?_
      obtain ⟨y50, hz51, h⟩ := bind_some h
      refine pl_l hf rfl rfl rfl (w_call hf Tryz.call92 rfl (r_spec_l12Make ⟨_, Sh C _ _, none_, hM.sh_lt, none_not, C.G, hM.g_lt, g_none, hM.tabs⟩ b1 _ _ (hM.dat (k := 0) rfl) p9 hp10 hp11 hp12 _ hz51) ?_)
      rintro _ w55 ⟨rfl, hM2, hv52, hv53, hv54⟩
      obtain ⟨hM, hx56, hup57⟩ := hM.back hM2
      dsimp only [List.cons_append, List.nil_append] at hM hup57
      clear hM2
      refine ⟨_, rfl, fun a hf => ?_⟩
      refine q_ hf rfl rfl rfl (e_move hf rfl) fun a hf => ?_
      refine q_ hf rfl rfl rfl (e_move hf rfl) fun a hf => ?_
      refine q_ hf rfl rfl rfl (e_move hf rfl) fun a hf => ?_
      obtain ⟨s58, hz59, h⟩ := bind_some h
      refine q_ hf rfl rfl rfl (e_cat hf (x := y23.1) (y := tile13) rfl rfl hz59) fun a hf => ?_
      obtain ⟨y60, hz61, h⟩ := bind_some h
      refine pl_l hf rfl rfl rfl (w_call hf Tryz.call93 rfl (r_spec_l03Sort ⟨_, Sh C _ _, none_, hM.sh_lt, none_not, C.G, hM.g_lt, g_none, hM.tabs⟩ s58 (cat_len hz59) _ hz61) ?_)
      rintro _ w63 ⟨rfl, hM2, hv62⟩
      obtain ⟨hM, hx64, hup65⟩ := hM.back hM2
      dsimp only [List.cons_append, List.nil_append] at hM hup65
      clear hM2
      refine ⟨_, rfl, fun a hf => ?_⟩
      refine q_ hf rfl rfl rfl (e_build hf Tryz.zeroValue38 Tryz.underlying38 (bp_38 _ Tryz.underlying38.symm) rfl (cs := #[vI (y50.Size), vS (y50.Premium), vS (y50.Cells), vS (y29.1), vS (y60), .bool (false)]) (by kernel_rfl)) fun a hf => ?_
      refine pl_0 hf rfl rfl (w_store hf hM (us := [vI (y50.Size), vS (y50.Premium), vS (y50.Cells), vS (y29.1), vS (y60), .bool (false)]) (cs' := [vI (y50.Size), vS (y50.Premium), vS (y50.Cells), vS (y29.1), vS (y60), .bool (false)]) rfl rfl (k := 0) rfl rfl Tryz.sizeOf38 rfl rfl rfl fun w66 hM => ?_)
      dsimp only [List.set] at hM
      refine q_ hf rfl rfl rfl (e_assign hf rfl) fun a hf => ?_
      refine pl_nil ?_
      refine then_n ?_
      refine wp_ret ?_
      obtain rfl := some_inj h
      have hres69 := leaveV2 (P := Tryz.prog) Tryz.results43 (res_agg hf rfl ⟨Tryz.isAgg38, Tryz.sizeOf38⟩ (us := [vI (y50.Size), vS (y50.Premium), vS (y50.Cells), vS (y29.1), vS (y60), .bool (false)]) rfl (hM.boxSub (k := 0) (o := 0) rfl rfl)) (res_tmp hf rfl)
      have hM := hM.outs (own' := []) 0 rfl
      exact bodyPost_ret hres69 hf.defers ⟨rfl, hM.fin, hv52, hv53, hv54, hv31, hv62⟩

end Go.Proofs.YtbekokenomhgeaaGreatDoor
