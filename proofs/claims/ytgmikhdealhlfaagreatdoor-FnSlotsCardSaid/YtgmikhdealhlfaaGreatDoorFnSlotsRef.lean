/- The functions that this law reaches do what their models say. Printed by gen.py. -/
import Derived.Test.YtgmikhdealhlfaaGreatDoorMod
import Derived.Test.YtgmikhdealhlfaaGreatDoorLib
namespace Go.Proofs.YtgmikhdealhlfaaGreatDoor
open Go Go.RowKit
set_option linter.unusedSimpArgs false
set_option linter.unusedVariables false

def FnC_UInt8_to_Bool (fk : FuncId) (fc : List Value) (f : UInt8 → Option Bool) (C : Cx) : Prop := ∀ (x0 : UInt8) (r : Bool) (h : f x0 = some r),
    Calls Tryz.prog fk (([vB (x0)] : List Value) ++ fc).toArray C.w0 fun e w => e = .returned (.bool (r)) ∧ Mem C w [] []

def FnC_Str_to_Bool (fk : FuncId) (fc : List Value) (f : Str → Option Bool) (C : Cx) : Prop := ∀ (x0 : Str) (hp1 : x0.length ≤ maxLen) (r : Bool) (h : f x0 = some r),
    Calls Tryz.prog fk (([vS (x0)] : List Value) ++ fc).toArray C.w0 fun e w => e = .returned (.bool (r)) ∧ Mem C w [] []

set_option maxHeartbeats 1000000 in
theorem Grid_equal (x y : Grid) (w : World) : (Op.equalIn 10000 25 (Value.agg #[vI x.Rows, vI x.Cols, vS x.Cells]) (Value.agg #[vI y.Rows, vI y.Cols, vS y.Cells])).run Tryz.prog w = .ok (x == y) w := by
  have hS0 : Tryz.prog.underlying 25 = some (.struct (Tryz.prog.fieldsOf 25)) := by kernel_rfl
  have hp0 : Tryz.prog.stoodInHeld 25 = false := by kernel_rfl
  have u2 := Tryz.underlying2
  have u9 := Tryz.underlying9
  rw [show (10000 : Nat) = 9999 + 1 from rfl, run_equalIn_agg w 9999 25 _ _ hS0 hp0]
  simp only [Program.fieldsOf, Tryz.underlying25]
  go_simp
  obtain ⟨x0, x1, x2⟩ := x
  obtain ⟨y0, y1, y2⟩ := y
  simp only [Grid.mk.injEq]
  by_cases h0 : x0 = y0 <;> by_cases h1 : x1 = y1 <;> by_cases h2 : x2 = y2 <;> simp [h0, h1, h2]

theorem Grid_eql {S : World → Prop} {N : Nat} {a : Act} {L : List (Nat × Value)} {dst : Option Tmp} {ty U : TypeId} {pos : String} {aft : Array Edge} {g : Option (Nat × Bool)} {X Y : Operand} (hf : Has N a L) {x y : Grid} (hx : ev L X = some (Value.agg #[vI x.Rows, vI x.Cols, vS x.Cells])) (hy : ev L Y = some (Value.agg #[vI y.Rows, vI y.Cols, vS y.Cells])) : Yd Tryz.prog S a ⟨dst, .binOp .eql 25 X Y U, ty, pos, aft, g⟩ (.bool (x == y)) := by
  intro w _
  have hG : Tryz.prog.eqGuardType Tryz.prog.depth 25 = false := by kernel_rfl
  have h := Grid_equal x y w
  simp only [execOp, hf.ev hx, hf.ev hy, Sem.run_bind, run_eqGuard_agg _ _ _ _ _ _ _ hG, Result.andThen_ok, run_eql_struct, h, Sem.run_pure]
  all_goals rfl

theorem Grid_neq {S : World → Prop} {N : Nat} {a : Act} {L : List (Nat × Value)} {dst : Option Tmp} {ty U : TypeId} {pos : String} {aft : Array Edge} {g : Option (Nat × Bool)} {X Y : Operand} (hf : Has N a L) {x y : Grid} (hx : ev L X = some (Value.agg #[vI x.Rows, vI x.Cols, vS x.Cells])) (hy : ev L Y = some (Value.agg #[vI y.Rows, vI y.Cols, vS y.Cells])) : Yd Tryz.prog S a ⟨dst, .binOp .neq 25 X Y U, ty, pos, aft, g⟩ (.bool (x != y)) := by
  intro w _
  have hG : Tryz.prog.eqGuardType Tryz.prog.depth 25 = false := by kernel_rfl
  have h := Grid_equal x y w
  simp only [execOp, hf.ev hx, hf.ev hy, Sem.run_bind, run_eqGuard_agg _ _ _ _ _ _ _ hG, Result.andThen_ok, run_neq_struct, h, Sem.run_pure]
  all_goals rfl

set_option maxHeartbeats 1000000 in
theorem Slot_equal (x y : Slot) (w : World) : (Op.equalIn 10000 60 (Value.agg #[vI x.Row, vI x.Col, .bool x.Down, vI x.Length]) (Value.agg #[vI y.Row, vI y.Col, .bool y.Down, vI y.Length])).run Tryz.prog w = .ok (x == y) w := by
  have hS0 : Tryz.prog.underlying 60 = some (.struct (Tryz.prog.fieldsOf 60)) := by kernel_rfl
  have hp0 : Tryz.prog.stoodInHeld 60 = false := by kernel_rfl
  have u2 := Tryz.underlying2
  have u4 := Tryz.underlying4
  rw [show (10000 : Nat) = 9999 + 1 from rfl, run_equalIn_agg w 9999 60 _ _ hS0 hp0]
  simp only [Program.fieldsOf, Tryz.underlying60]
  go_simp
  obtain ⟨x0, x1, x2, x3⟩ := x
  obtain ⟨y0, y1, y2, y3⟩ := y
  simp only [Slot.mk.injEq]
  by_cases h0 : x0 = y0 <;> by_cases h1 : x1 = y1 <;> by_cases h2 : x2 = y2 <;> by_cases h3 : x3 = y3 <;> simp [h0, h1, h2, h3]

theorem Slot_eql {S : World → Prop} {N : Nat} {a : Act} {L : List (Nat × Value)} {dst : Option Tmp} {ty U : TypeId} {pos : String} {aft : Array Edge} {g : Option (Nat × Bool)} {X Y : Operand} (hf : Has N a L) {x y : Slot} (hx : ev L X = some (Value.agg #[vI x.Row, vI x.Col, .bool x.Down, vI x.Length])) (hy : ev L Y = some (Value.agg #[vI y.Row, vI y.Col, .bool y.Down, vI y.Length])) : Yd Tryz.prog S a ⟨dst, .binOp .eql 60 X Y U, ty, pos, aft, g⟩ (.bool (x == y)) := by
  intro w _
  have hG : Tryz.prog.eqGuardType Tryz.prog.depth 60 = false := by kernel_rfl
  have h := Slot_equal x y w
  simp only [execOp, hf.ev hx, hf.ev hy, Sem.run_bind, run_eqGuard_agg _ _ _ _ _ _ _ hG, Result.andThen_ok, run_eql_struct, h, Sem.run_pure]
  all_goals rfl

theorem Slot_neq {S : World → Prop} {N : Nat} {a : Act} {L : List (Nat × Value)} {dst : Option Tmp} {ty U : TypeId} {pos : String} {aft : Array Edge} {g : Option (Nat × Bool)} {X Y : Operand} (hf : Has N a L) {x y : Slot} (hx : ev L X = some (Value.agg #[vI x.Row, vI x.Col, .bool x.Down, vI x.Length])) (hy : ev L Y = some (Value.agg #[vI y.Row, vI y.Col, .bool y.Down, vI y.Length])) : Yd Tryz.prog S a ⟨dst, .binOp .neq 60 X Y U, ty, pos, aft, g⟩ (.bool (x != y)) := by
  intro w _
  have hG : Tryz.prog.eqGuardType Tryz.prog.depth 60 = false := by kernel_rfl
  have h := Slot_equal x y w
  simp only [execOp, hf.ev hx, hf.ev hy, Sem.run_bind, run_eqGuard_agg _ _ _ _ _ _ _ hG, Result.andThen_ok, run_neq_struct, h, Sem.run_pure]
  all_goals rfl

theorem ei_2 : ElemInfo Tryz.prog 2 1 := elemInfo (by kernel_rfl)

theorem ei_5 : ElemInfo Tryz.prog 5 1 := elemInfo (by kernel_rfl)

theorem ei_9 : ElemInfo Tryz.prog 9 1 := elemInfo (by kernel_rfl)

theorem ei_60 : ElemInfo Tryz.prog 60 4 := elemInfo (by kernel_rfl)

theorem bp_25 : ∀ (fs : Array Field), some (TypeDesc.struct fs) = Tryz.prog.underlying 25 → ∀ w, (fs.mapM fun (f : Field) => do pure (f.offset, ← sizeOf f.type)).run Tryz.prog w = .ok #[(0, 1), (1, 1), (2, 1)] w := by
  intro fs h w
  rw [Tryz.underlying25] at h
  cases h
  simp

theorem bp_41 : ∀ (fs : Array Field), some (TypeDesc.struct fs) = Tryz.prog.underlying 41 → ∀ w, (fs.mapM fun (f : Field) => do pure (f.offset, ← sizeOf f.type)).run Tryz.prog w = .ok #[(0, 1)] w := by
  intro fs h w
  rw [Tryz.underlying41] at h
  cases h
  simp

theorem bp_60 : ∀ (fs : Array Field), some (TypeDesc.struct fs) = Tryz.prog.underlying 60 → ∀ w, (fs.mapM fun (f : Field) => do pure (f.offset, ← sizeOf f.type)).run Tryz.prog w = .ok #[(0, 1), (1, 1), (2, 1), (3, 1)] w := by
  intro fs h w
  rw [Tryz.underlying60] at h
  cases h
  simp

theorem bp_84 : ∀ (fs : Array Field), some (TypeDesc.struct fs) = Tryz.prog.underlying 84 → ∀ w, (fs.mapM fun (f : Field) => do pure (f.offset, ← sizeOf f.type)).run Tryz.prog w = .ok #[(0, 1), (1, 1), (2, 1)] w := by
  intro fs h w
  rw [Tryz.underlying84] at h
  cases h
  simp

set_option maxRecDepth 100000 in
set_option maxHeartbeats 4000000 in
theorem r_laws_f6big (C : Cx) (code1 : Str) (A2 : Option Addr) (c3 : Nat) (hp4 : (sliceRep byteRep).R C.w0 C.S0 code1 [vL A2 code1 c3]) (r : Bool) (h : m_laws_f6big code1 = some r) :
    Calls Tryz.prog 4 #[vL A2 (code1) c3] C.w0 fun e w => e = .returned (.bool (r)) ∧ Mem C w [] [] := by
  have hM := Mem.begin C [.dat (sliceRep byteRep) code1 [vL A2 code1 c3]] ⟨hp4, trivial⟩
  refine enter Tryz.func4 rfl Tryz.ntmps4 rfl fun a hf => ?_
  unfold m_laws_f6big at h
  refine wp_seq ?_
  refine region_pl ?_
  refine q_ hf rfl rfl rfl (e_assign hf rfl) fun a hf => ?_
  refine pl_nil ?_
  refine then_n ?_
  refine wp_seq ?_
  refine region_pl ?_
  refine q_ hf rfl rfl rfl (e_move hf rfl) fun a hf => ?_
  have hl5 := slice_len (hM.dat (k := 0) rfl)
  refine q_ hf rfl rfl rfl (e_lenL hf (x := code1) rfl Tryz.underlying22) fun a hf => ?_
  refine q_ hf rfl rfl rfl (e_gt hf (x := (code1.length : Int)) (y := 4096) rfl rfl) fun a hf => ?_
  refine q_ hf rfl rfl rfl (e_assign hf rfl) fun a hf => ?_
  refine pl_nil ?_
  refine then_n ?_
  refine wp_ret ?_
  obtain rfl := some_inj h
  exact leave1 hf rfl rfl ⟨rfl, hM.fin⟩

set_option maxRecDepth 100000 in
set_option maxHeartbeats 4000000 in
theorem r_spec_l00From (C : Cx) (code1 : Str) (A2 : Option Addr) (c3 : Nat) (hp4 : (sliceRep byteRep).R C.w0 C.S0 code1 [vL A2 code1 c3]) (r : l00Src) (h : m_spec_l00From code1 = some r) :
    Calls Tryz.prog 22 #[vL A2 (code1) c3] C.w0 fun e w => ∃ (b_1 : Nat), ∃ (A_1 : Option Addr), ∃ (c_1 : Nat), e = .returned (vP b_1 (0)) ∧ Mem C w [.box b_1 [vL A_1 (r.code) c_1, vI (r.at_), vW (r.seed)] 84] [] ∧ (sliceRep byteRep).R w (Sh C [.box b_1 [vL A_1 (r.code) c_1, vI (r.at_), vW (r.seed)] 84] w) r.code [vL A_1 r.code c_1] ∧ R64 r.at_ ∧ U64 r.seed := by
  have hM := Mem.begin C [.dat (sliceRep byteRep) code1 [vL A2 code1 c3]] ⟨hp4, trivial⟩
  refine enter Tryz.func22 rfl Tryz.ntmps22 rfl fun a hf => ?_
  unfold m_spec_l00From at h
  refine wp_seq ?_
  refine region_pl ?_
  refine q_ hf rfl rfl rfl (e_assign hf rfl) fun a hf => ?_
  refine pl_nil ?_
  refine then_n ?_
  refine wp_seq ?_
  refine region_pl ?_
  refine q_ hf rfl rfl rfl (e_move hf rfl) fun a hf => ?_
  refine q_ hf rfl rfl rfl (e_build hf Tryz.zeroValue84 Tryz.underlying84 (bp_84 _ Tryz.underlying84.symm) rfl (cs := #[vL A2 (code1) c3, vI (0), vW (0)]) (by kernel_rfl)) fun a hf => ?_
  refine pl_l hf rfl rfl rfl (w_box hf hM (cs := [vL A2 (code1) c3, vI (0), vW (0)]) rfl rfl fun b5 w6 hx7 hM a hf => ?_)
  refine q_ hf rfl rfl rfl (e_assign hf rfl) fun a hf => ?_
  refine pl_nil ?_
  refine then_n ?_
  refine wp_ret ?_
  obtain rfl := some_inj h
  exact leave1 hf rfl rfl ⟨b5, A2, c3, rfl, hM.fin, (hM.dat (k := 0) rfl), (R64_lit rfl), (U64_lit rfl)⟩

set_option maxRecDepth 100000 in
set_option maxHeartbeats 4000000 in
theorem r_spec_l00Src_next (C : Cx) (s1 : l00Src) (b2 : Nat) (A3 : Option Addr) (c4 : Nat) (hp5 : (sliceRep byteRep).R C.w0 C.S0 s1.code [vL A3 s1.code c4]) (hp6 : R64 s1.at_) (hp7 : U64 s1.seed) (hO : Mem C C.w0 [.box b2 [vL A3 (s1.code) c4, vI (s1.at_), vW (s1.seed)] 84] []) (hd : ∀ b, C.S0 b → ¬ ownB [.box b2 [vL A3 (s1.code) c4, vI (s1.at_), vW (s1.seed)] 84] b) (r : (Int × l00Src)) (h : m_spec_l00Src_next s1 = some r) :
    Calls Tryz.prog 79 #[vP b2 (0)] C.w0 fun e w => ∃ (A_1 : Option Addr), ∃ (c_1 : Nat), e = .returned (vI (r.1)) ∧ Mem C w [.box b2 [vL A_1 (r.2.code) c_1, vI (r.2.at_), vW (r.2.seed)] 84] [] ∧ (sliceRep byteRep).R w (Sh C [.box b2 [vL A_1 (r.2.code) c_1, vI (r.2.at_), vW (r.2.seed)] 84] w) r.2.code [vL A_1 r.2.code c_1] ∧ R64 r.2.at_ ∧ U64 r.2.seed ∧ R64 r.1 := by
  have hM := hO
  have hM := hM.addIn hd (y := .dat (sliceRep byteRep) s1.code [vL A3 s1.code c4]) hp5
  refine enter Tryz.func79 rfl Tryz.ntmps79 rfl fun a hf => ?_
  unfold m_spec_l00Src_next at h
  refine wp_seq ?_
  refine region_pl ?_
  refine q_ hf rfl rfl rfl (e_assign hf rfl) fun a hf => ?_
  refine pl_nil ?_
  refine then_n ?_
  refine wp_seq ?_
  refine region_pl ?_
  refine q_ hf rfl rfl rfl (e_assign hf rfl) fun a hf => ?_
  refine pl_nil ?_
  refine then_n ?_
  obtain ⟨x10, h11, h⟩ := bind_some h
  refine seq_join (fun a w => ∃ (n8 : Int), n8 = x10 ∧ Has 62 a [(0, vP b2 (0)), (3, vI (n8))] ∧ Mem C w [.box b2 [vL A3 (s1.code) c4, vI (s1.at_), vW (s1.seed)] 84] [.dat (sliceRep byteRep) s1.code [vL A3 s1.code c4]] ∧ R64 n8) ?_ ?_
  · refine wp_seq ?_
    obtain ⟨w12, hw⟩ : ∃ x, x = C.w0.drew := ⟨_, rfl⟩
    refine region_pi (.q 0 (.q 1 (.q 2 (.q 3 (.q 4 (.q 5 (.q 6 (.q 7 (.q 8 (.q 9 (.nil))))))))))) (Ext w12) rfl (by kernel_rfl) ?_
    have hM := hM.drew
    rw [← hw] at hM ⊢
    clear hw
    refine pi_q hf rfl rfl rfl rfl (Ext.refl _) (e_move hf rfl) fun a hf => ?_
    refine pi_q hf rfl rfl rfl rfl (Ext.refl _) (e_nil hf rfl) fun a hf => ?_
    refine pi_q hf rfl rfl rfl rfl (Ext.refl _) (e_field hf rfl Tryz.underlying84 rfl Tryz.sizeOf3 (o' := 1) rfl) fun a hf => ?_
    refine pi_q hf rfl rfl rfl rfl (Ext.refl _) (e_load1 hf rfl Tryz.isAgg3 (hM.boxCell (k := 0) rfl rfl)) fun a hf => ?_
    refine pi_q hf rfl rfl rfl rfl (Ext.refl _) (e_move hf rfl) fun a hf => ?_
    refine pi_q hf rfl rfl rfl rfl (Ext.refl _) (e_nil hf rfl) fun a hf => ?_
    refine pi_q hf rfl rfl rfl rfl (Ext.refl _) (e_field hf rfl Tryz.underlying84 rfl Tryz.sizeOf22 (o' := 0) rfl) fun a hf => ?_
    refine pi_q hf rfl rfl rfl rfl (Ext.refl _) (e_load1 hf rfl Tryz.isAgg22 (hM.boxCell (k := 0) rfl rfl)) fun a hf => ?_
    have hl13 := slice_len (hM.dat (k := 0) rfl)
    refine pi_q hf rfl rfl rfl rfl (Ext.refl _) (e_lenL hf (x := s1.code) rfl Tryz.underlying22) fun a hf => ?_
    refine pi_q hf rfl rfl rfl rfl (Ext.refl _) (e_lt hf (x := s1.at_) (y := (s1.code.length : Int)) rfl rfl) fun a hf => ?_
    refine pi_nil ?_
    refine then_n ?_
    rcases cond_some h11 with ⟨hc14, h11⟩ | ⟨hc14, h11⟩
    · refine cond_t hf rfl hc14 ?_
      obtain ⟨w15, hw⟩ : ∃ x, x = w12.drew := ⟨_, rfl⟩
      refine region_pi (.q 0 (.q 1 (.q 2 (.q 3 (.q 4 (.q 5 (.q 6 (.q 7 (.q 8 (.q 9 (.q 10 (.q 11 (.nil))))))))))))) (Ext w15) rfl (by kernel_rfl) ?_
      have hM := hM.drew
      rw [← hw] at hM ⊢
      clear hw
      refine pi_q hf rfl rfl rfl rfl (Ext.refl _) (e_move hf rfl) fun a hf => ?_
      refine pi_q hf rfl rfl rfl rfl (Ext.refl _) (e_nil hf rfl) fun a hf => ?_
      refine pi_q hf rfl rfl rfl rfl (Ext.refl _) (e_field hf rfl Tryz.underlying84 rfl Tryz.sizeOf22 (o' := 0) rfl) fun a hf => ?_
      refine pi_q hf rfl rfl rfl rfl (Ext.refl _) (e_load1 hf rfl Tryz.isAgg22 (hM.boxCell (k := 0) rfl rfl)) fun a hf => ?_
      refine pi_q hf rfl rfl rfl rfl (Ext.refl _) (e_move hf rfl) fun a hf => ?_
      refine pi_q hf rfl rfl rfl rfl (Ext.refl _) (e_nil hf rfl) fun a hf => ?_
      refine pi_q hf rfl rfl rfl rfl (Ext.refl _) (e_field hf rfl Tryz.underlying84 rfl Tryz.sizeOf3 (o' := 1) rfl) fun a hf => ?_
      refine pi_q hf rfl rfl rfl rfl (Ext.refl _) (e_load1 hf rfl Tryz.isAgg3 (hM.boxCell (k := 0) rfl rfl)) fun a hf => ?_
      obtain ⟨e16, hz17, h11⟩ := bind_some h11
      obtain ⟨b21, o22, _, hA23, h18, h19, hr20, hM⟩ := hM.elem (hM.dat (k := 0) rfl) (n := 1) rfl hz17
      obtain rfl : _ = _ := hr20
      refine pi_q hf rfl rfl rfl rfl (Ext.refl _) (e_indexAddr (A := A3) (b := b21) (o := o22) (xs := s1.code) (i := s1.at_) hf hA23 rfl rfl Tryz.underlying22 Tryz.sizeOf5 h18 h19) fun a hf => ?_
      refine pi_q hf rfl rfl rfl rfl (Ext.refl _) (e_load1 hf rfl Tryz.isAgg5 (hM.litCell (k := 0) (j := 0) rfl rfl rfl)) fun a hf => ?_
      refine pi_q hf rfl rfl rfl rfl (Ext.refl _) (e_convBI hf (x := e16) rfl Tryz.underlying5 Tryz.underlying3) fun a hf => ?_
      refine pi_q hf rfl rfl rfl rfl (Ext.refl _) (e_assign hf rfl) fun a hf => ?_
      refine pi_nil ?_
      obtain rfl := some_inj h11
      refine then_n ?_
      exact ⟨(e16.toNat : Int), rfl, hf.keep ⟨rfl, rfl, trivial⟩, hM.pick [1] rfl, (R64_byte _)⟩
    · refine cond_f hf rfl hc14 ?_
      refine wp_skip ?_
      obtain rfl := some_inj h11
      refine then_n ?_
      exact ⟨0, rfl, hf.keep ⟨rfl, rfl, trivial⟩, hM.pick [0] rfl, (R64_lit rfl)⟩
  · rintro a w26 ⟨n8, rfl, hf, hM, hv9⟩
    try dsimp only at h
    refine wp_seq ?_
    refine region_pl ?_
    refine q_ hf rfl rfl rfl (e_move hf rfl) fun a hf => ?_
    refine q_ hf rfl rfl rfl (e_nil hf rfl) fun a hf => ?_
    refine q_ hf rfl rfl rfl (e_field hf rfl Tryz.underlying84 rfl Tryz.sizeOf3 (o' := 1) rfl) fun a hf => ?_
    refine q_ hf rfl rfl rfl (e_load1 hf rfl Tryz.isAgg3 (hM.boxCell (k := 0) rfl rfl)) fun a hf => ?_
    obtain ⟨z27, hz28, h⟩ := bind_some h
    refine q_ hf rfl rfl rfl (e_add hf rfl rfl hz28) fun a hf => ?_
    refine q_ hf rfl rfl rfl (e_nil hf rfl) fun a hf => ?_
    refine q_ hf rfl rfl rfl (e_field hf rfl Tryz.underlying84 rfl Tryz.sizeOf3 (o' := 1) rfl) fun a hf => ?_
    refine pl_0 hf rfl rfl (w_store hf hM (us := [vI (z27)]) (cs' := [vL A3 (s1.code) c4, vI (z27), vW (s1.seed)]) rfl rfl (k := 0) rfl rfl Tryz.sizeOf3 rfl rfl rfl fun w29 hM => ?_)
    dsimp only [List.set] at hM
    refine pl_nil ?_
    refine then_n ?_
    refine wp_seq ?_
    refine region_pl ?_
    refine q_ hf rfl rfl rfl (e_move hf rfl) fun a hf => ?_
    refine q_ hf rfl rfl rfl (e_move hf rfl) fun a hf => ?_
    refine q_ hf rfl rfl rfl (e_nil hf rfl) fun a hf => ?_
    refine q_ hf rfl rfl rfl (e_field hf rfl Tryz.underlying84 rfl Tryz.sizeOf82 (o' := 2) rfl) fun a hf => ?_
    refine q_ hf rfl rfl rfl (e_load1 hf rfl Tryz.isAgg82 (hM.boxCell (k := 0) rfl rfl)) fun a hf => ?_
    refine q_ hf rfl rfl rfl (e_mulW hf rfl rfl) fun a hf => ?_
    refine q_ hf rfl rfl rfl (e_move hf rfl) fun a hf => ?_
    refine q_ hf rfl rfl rfl (e_convIW hf rfl Tryz.underlying3 Tryz.underlying82) fun a hf => ?_
    refine q_ hf rfl rfl rfl (e_addW hf rfl rfl) fun a hf => ?_
    refine q_ hf rfl rfl rfl (e_addW hf rfl rfl) fun a hf => ?_
    refine q_ hf rfl rfl rfl (e_nil hf rfl) fun a hf => ?_
    refine q_ hf rfl rfl rfl (e_field hf rfl Tryz.underlying84 rfl Tryz.sizeOf82 (o' := 2) rfl) fun a hf => ?_
    refine pl_0 hf rfl rfl (w_store hf hM (us := [vW ((((((s1.seed * 6364136223846793005) % 18446744073709551616) + (n8 % 18446744073709551616)) % 18446744073709551616) + 1442695040888963407) % 18446744073709551616)]) (cs' := [vL A3 (s1.code) c4, vI (z27), vW ((((((s1.seed * 6364136223846793005) % 18446744073709551616) + (n8 % 18446744073709551616)) % 18446744073709551616) + 1442695040888963407) % 18446744073709551616)]) rfl rfl (k := 0) rfl rfl Tryz.sizeOf82 rfl rfl rfl fun w32 hM => ?_)
    dsimp only [List.set] at hM
    refine pl_nil ?_
    refine then_n ?_
    refine wp_seq ?_
    refine wp_seq ?_
    obtain ⟨w35, hw⟩ : ∃ x, x = w32.drew := ⟨_, rfl⟩
    refine region_pi (.q 0 (.q 1 (.q 2 (.q 3 (.q 4 (.q 5 (.q 6 (.q 7 (.q 8 (.q 9 (.nil))))))))))) (Ext w35) rfl (by kernel_rfl) ?_
    have hM := hM.drew
    rw [← hw] at hM ⊢
    clear hw
    refine pi_q hf rfl rfl rfl rfl (Ext.refl _) (e_move hf rfl) fun a hf => ?_
    refine pi_q hf rfl rfl rfl rfl (Ext.refl _) (e_nil hf rfl) fun a hf => ?_
    refine pi_q hf rfl rfl rfl rfl (Ext.refl _) (e_field hf rfl Tryz.underlying84 rfl Tryz.sizeOf3 (o' := 1) rfl) fun a hf => ?_
    refine pi_q hf rfl rfl rfl rfl (Ext.refl _) (e_load1 hf rfl Tryz.isAgg3 (hM.boxCell (k := 0) rfl rfl)) fun a hf => ?_
    refine pi_q hf rfl rfl rfl rfl (Ext.refl _) (e_move hf rfl) fun a hf => ?_
    refine pi_q hf rfl rfl rfl rfl (Ext.refl _) (e_nil hf rfl) fun a hf => ?_
    refine pi_q hf rfl rfl rfl rfl (Ext.refl _) (e_field hf rfl Tryz.underlying84 rfl Tryz.sizeOf22 (o' := 0) rfl) fun a hf => ?_
    refine pi_q hf rfl rfl rfl rfl (Ext.refl _) (e_load1 hf rfl Tryz.isAgg22 (hM.boxCell (k := 0) rfl rfl)) fun a hf => ?_
    have hl36 := slice_len (hM.dat (k := 0) rfl)
    refine pi_q hf rfl rfl rfl rfl (Ext.refl _) (e_lenL hf (x := s1.code) rfl Tryz.underlying22) fun a hf => ?_
    refine pi_q hf rfl rfl rfl rfl (Ext.refl _) (e_le hf (x := z27) (y := (s1.code.length : Int)) rfl rfl) fun a hf => ?_
    refine pi_nil ?_
    refine then_n ?_
    rcases cond_some h with ⟨hc37, h⟩ | ⟨hc37, h⟩
    · refine cond_t hf rfl hc37 ?_
      refine wp_seq ?_
      refine region_pl ?_
      refine q_ hf rfl rfl rfl (e_move hf rfl) fun a hf => ?_
      refine q_ hf rfl rfl rfl (e_assign hf rfl) fun a hf => ?_
      refine pl_nil ?_
      refine then_n ?_
      refine wp_ret ?_
      refine then_r ?_
      obtain rfl := some_inj h
      exact leave1 hf rfl rfl ⟨A3, c4, rfl, hM.fin, (hM.dat (k := 0) rfl), (chk_R hz28), (U64_mod _), hv9⟩
    · refine cond_f hf rfl hc37 ?_
      refine wp_skip ?_
      refine then_n ?_
      refine wp_seq ?_
      refine region_pl ?_
      refine q_ hf rfl rfl rfl (e_move hf rfl) fun a hf => ?_
      refine q_ hf rfl rfl rfl (e_nil hf rfl) fun a hf => ?_
      refine q_ hf rfl rfl rfl (e_field hf rfl Tryz.underlying84 rfl Tryz.sizeOf82 (o' := 2) rfl) fun a hf => ?_
      refine q_ hf rfl rfl rfl (e_load1 hf rfl Tryz.isAgg82 (hM.boxCell (k := 0) rfl rfl)) fun a hf => ?_
      refine q_ hf rfl rfl rfl (e_shrW hf (k := 40) rfl rfl rfl rfl (m := 1099511627776) rfl (U64_mod _)) fun a hf => ?_
      refine q_ hf rfl rfl rfl (e_andW hf (k := 8) rfl rfl rfl rfl (m := 256) rfl (U64_div (U64_mod _) (by decide))) fun a hf => ?_
      obtain ⟨z38, hz39, h⟩ := bind_some h
      refine q_ hf rfl rfl rfl (e_convWI hf rfl Tryz.underlying82 Tryz.underlying2 hz39) fun a hf => ?_
      refine q_ hf rfl rfl rfl (e_assign hf rfl) fun a hf => ?_
      refine pl_nil ?_
      refine then_n ?_
      refine wp_ret ?_
      obtain rfl := some_inj h
      exact leave1 hf rfl rfl ⟨A3, c4, rfl, hM.fin, (hM.dat (k := 0) rfl), (chk_R hz28), (U64_mod _), (chk_R hz39)⟩

set_option maxRecDepth 100000 in
set_option maxHeartbeats 4000000 in
theorem r_spec_l00Src_pick (C : Cx) (s1 : l00Src) (b2 : Nat) (A3 : Option Addr) (c4 : Nat) (hp5 : (sliceRep byteRep).R C.w0 C.S0 s1.code [vL A3 s1.code c4]) (hp6 : R64 s1.at_) (hp7 : U64 s1.seed) (n8 : Int) (hp9 : R64 n8) (hO : Mem C C.w0 [.box b2 [vL A3 (s1.code) c4, vI (s1.at_), vW (s1.seed)] 84] []) (hd : ∀ b, C.S0 b → ¬ ownB [.box b2 [vL A3 (s1.code) c4, vI (s1.at_), vW (s1.seed)] 84] b) (r : (Int × l00Src)) (h : m_spec_l00Src_pick s1 n8 = some r) :
    Calls Tryz.prog 52 #[vP b2 (0), vI (n8)] C.w0 fun e w => ∃ (A_1 : Option Addr), ∃ (c_1 : Nat), e = .returned (vI (r.1)) ∧ Mem C w [.box b2 [vL A_1 (r.2.code) c_1, vI (r.2.at_), vW (r.2.seed)] 84] [] ∧ (sliceRep byteRep).R w (Sh C [.box b2 [vL A_1 (r.2.code) c_1, vI (r.2.at_), vW (r.2.seed)] 84] w) r.2.code [vL A_1 r.2.code c_1] ∧ R64 r.2.at_ ∧ U64 r.2.seed ∧ R64 r.1 := by
  have hM := hO
  have hM := hM.addIn hd (y := .dat (sliceRep byteRep) s1.code [vL A3 s1.code c4]) hp5
  refine enter Tryz.func52 rfl Tryz.ntmps52 rfl fun a hf => ?_
  unfold m_spec_l00Src_pick at h
  refine wp_seq ?_
  refine region_pl ?_
  refine q_ hf rfl rfl rfl (e_assign hf rfl) fun a hf => ?_
  refine pl_nil ?_
  refine then_n ?_
  refine wp_seq ?_
  refine wp_seq ?_
  refine region_pl ?_
  refine q_ hf rfl rfl rfl (e_move hf rfl) fun a hf => ?_
  refine q_ hf rfl rfl rfl (e_le hf (x := n8) (y := 1) rfl rfl) fun a hf => ?_
  refine pl_nil ?_
  refine then_n ?_
  rcases cond_some h with ⟨hc10, h⟩ | ⟨hc10, h⟩
  · refine cond_t hf rfl hc10 ?_
    refine wp_seq ?_
    refine region_pl ?_
    refine q_ hf rfl rfl rfl (e_assign hf rfl) fun a hf => ?_
    refine pl_nil ?_
    refine then_n ?_
    refine wp_ret ?_
    refine then_r ?_
    obtain rfl := some_inj h
    exact leave1 hf rfl rfl ⟨A3, c4, rfl, hM.fin, (hM.dat (k := 0) rfl), hp6, hp7, (R64_lit rfl)⟩
  · refine cond_f hf rfl hc10 ?_
    refine wp_skip ?_
    refine then_n ?_
    refine wp_seq ?_
    refine region_pl ?_
    refine q_ hf rfl rfl rfl (e_move hf rfl) fun a hf => ?_
    have hM : Mem C _ ([.box b2 [vL A3 (s1.code) c4, vI (s1.at_), vW (s1.seed)] 84] ++ []) _ := hM
    obtain ⟨y11, hz12, h⟩ := bind_some h
    refine pl_l hf rfl rfl rfl (w_call hf Tryz.call79 rfl (r_spec_l00Src_next ⟨_, Sh C _ _, ownB _, hM.sh_lt, sub_dis, C.G, hM.g_lt, hM.g_own, hM.tabs⟩ s1 _ _ _ (hM.dat (k := 0) rfl) hp6 hp7 hM.sub sub_dis _ hz12) ?_)
    rintro _ w19 ⟨A13, c14, rfl, hM2, hv15, hv16, hv17, hv18⟩
    obtain ⟨hM, hup21⟩ := hM.backG hM2
    dsimp only [List.cons_append, List.nil_append] at hM hup21
    clear hM2
    have hM := hM.add (y := .dat (sliceRep byteRep) y11.2.code [vL A13 y11.2.code c14]) (hup21 hv15)
    refine ⟨_, rfl, fun a hf => ?_⟩
    refine q_ hf rfl rfl rfl (e_assign hf rfl) fun a hf => ?_
    refine pl_nil ?_
    refine then_n ?_
    obtain ⟨x31, h32, h⟩ := bind_some h
    refine seq_join (fun a w => ∃ (l22 : Str) (n25 : Int) (n27 : Int) (n29 : Int) (A23 : Option Addr) (c24 : Nat), (l22, n25, n27, n29) = x31 ∧ Has 20 a [(1, vI (n8)), (5, vI (n29))] ∧ Mem C w [.box b2 [vL A23 (l22) c24, vI (n25), vW (n27)] 84] [.dat (sliceRep byteRep) l22 [vL A23 l22 c24], .dat (sliceRep byteRep) y11.2.code [vL A13 y11.2.code c14], .dat (sliceRep byteRep) s1.code [vL A3 s1.code c4]] ∧ R64 n25 ∧ U64 n27 ∧ R64 n29) ?_ ?_
    · refine wp_seq ?_
      refine region_pl ?_
      refine q_ hf rfl rfl rfl (e_move hf rfl) fun a hf => ?_
      refine q_ hf rfl rfl rfl (e_gt hf (x := n8) (y := 200) rfl rfl) fun a hf => ?_
      refine pl_nil ?_
      refine then_n ?_
      rcases cond_some h32 with ⟨hc33, h32⟩ | ⟨hc33, h32⟩
      · refine cond_t hf rfl hc33 ?_
        refine region_pl ?_
        refine q_ hf rfl rfl rfl (e_move hf rfl) fun a hf => ?_
        obtain ⟨z34, hz35, h32⟩ := bind_some h32
        refine q_ hf rfl rfl rfl (e_mul hf rfl rfl hz35) fun a hf => ?_
        refine q_ hf rfl rfl rfl (e_move hf rfl) fun a hf => ?_
        have hM : Mem C _ ([.box b2 [vL A13 (y11.2.code) c14, vI (y11.2.at_), vW (y11.2.seed)] 84] ++ []) _ := hM
        obtain ⟨y36, hz37, h32⟩ := bind_some h32
        refine pl_l hf rfl rfl rfl (w_call hf Tryz.call79 rfl (r_spec_l00Src_next ⟨_, Sh C _ _, ownB _, hM.sh_lt, sub_dis, C.G, hM.g_lt, hM.g_own, hM.tabs⟩ y11.2 _ _ _ (hM.dat (k := 0) rfl) hv16 hv17 hM.sub sub_dis _ hz37) ?_)
        rintro _ w44 ⟨A38, c39, rfl, hM2, hv40, hv41, hv42, hv43⟩
        obtain ⟨hM, hup46⟩ := hM.backG hM2
        dsimp only [List.cons_append, List.nil_append] at hM hup46
        clear hM2
        have hM := hM.add (y := .dat (sliceRep byteRep) y36.2.code [vL A38 y36.2.code c39]) (hup46 hv40)
        refine ⟨_, rfl, fun a hf => ?_⟩
        obtain ⟨z47, hz48, h32⟩ := bind_some h32
        refine q_ hf rfl rfl rfl (e_add hf rfl rfl hz48) fun a hf => ?_
        refine q_ hf rfl rfl rfl (e_assign hf rfl) fun a hf => ?_
        refine pl_nil ?_
        obtain rfl := some_inj h32
        refine then_n ?_
        exact ⟨y36.2.code, y36.2.at_, y36.2.seed, z47, A38, c39, rfl, hf.keep ⟨rfl, rfl, trivial⟩, hM.pick [0, 1, 2] rfl, hv41, hv42, (chk_R hz48)⟩
      · refine cond_f hf rfl hc33 ?_
        refine wp_skip ?_
        obtain rfl := some_inj h32
        refine then_n ?_
        exact ⟨y11.2.code, y11.2.at_, y11.2.seed, y11.1, A13, c14, rfl, hf.keep ⟨rfl, rfl, trivial⟩, hM.pick [0, 0, 1] rfl, hv16, hv17, hv18⟩
    · rintro a w51 ⟨l22, n25, n27, n29, A23, c24, rfl, hf, hM, hv26, hv28, hv30⟩
      try dsimp only at h
      refine wp_seq ?_
      refine region_pl ?_
      refine q_ hf rfl rfl rfl (e_move hf rfl) fun a hf => ?_
      refine q_ hf rfl rfl rfl (e_move hf rfl) fun a hf => ?_
      obtain ⟨z52, hz53, h⟩ := bind_some h
      refine q_ hf rfl rfl rfl (e_rem hf rfl rfl hz53) fun a hf => ?_
      refine q_ hf rfl rfl rfl (e_assign hf rfl) fun a hf => ?_
      refine pl_nil ?_
      refine then_n ?_
      refine wp_ret ?_
      obtain rfl := some_inj h
      exact leave1 hf rfl rfl ⟨A23, c24, rfl, hM.fin, (hM.dat (k := 0) rfl), hv26, hv28, (remI_R hz53 hv30)⟩

set_option maxRecDepth 100000 in
set_option maxHeartbeats 4000000 in
theorem r_spec_l00Src_text (C : Cx) (s1 : l00Src) (b2 : Nat) (A3 : Option Addr) (c4 : Nat) (hp5 : (sliceRep byteRep).R C.w0 C.S0 s1.code [vL A3 s1.code c4]) (hp6 : R64 s1.at_) (hp7 : U64 s1.seed) (list8 : (List Str)) (A9 : Option Addr) (c10 : Nat) (hp11 : (sliceRep strRep).R C.w0 C.S0 list8 [vL A9 list8 c10]) (hO : Mem C C.w0 [.box b2 [vL A3 (s1.code) c4, vI (s1.at_), vW (s1.seed)] 84] []) (hd : ∀ b, C.S0 b → ¬ ownB [.box b2 [vL A3 (s1.code) c4, vI (s1.at_), vW (s1.seed)] 84] b) (r : (Str × l00Src)) (h : m_spec_l00Src_text s1 list8 = some r) :
    Calls Tryz.prog 25 #[vP b2 (0), vL A9 (list8) c10] C.w0 fun e w => ∃ (A_1 : Option Addr), ∃ (c_1 : Nat), e = .returned (vS (r.1)) ∧ Mem C w [.box b2 [vL A_1 (r.2.code) c_1, vI (r.2.at_), vW (r.2.seed)] 84] [] ∧ (sliceRep byteRep).R w (Sh C [.box b2 [vL A_1 (r.2.code) c_1, vI (r.2.at_), vW (r.2.seed)] 84] w) r.2.code [vL A_1 r.2.code c_1] ∧ R64 r.2.at_ ∧ U64 r.2.seed ∧ r.1.length ≤ maxLen := by
  have hM := hO
  have hM := hM.addIn hd (y := .dat (sliceRep byteRep) s1.code [vL A3 s1.code c4]) hp5
  have hM := hM.addIn hd (y := .dat (sliceRep strRep) list8 [vL A9 list8 c10]) hp11
  refine enter Tryz.func25 rfl Tryz.ntmps25 rfl fun a hf => ?_
  unfold m_spec_l00Src_text at h
  refine wp_seq ?_
  refine region_pl ?_
  refine q_ hf rfl rfl rfl (e_assign hf rfl) fun a hf => ?_
  refine pl_nil ?_
  refine then_n ?_
  refine wp_seq ?_
  refine region_pl ?_
  refine q_ hf rfl rfl rfl (e_move hf rfl) fun a hf => ?_
  refine q_ hf rfl rfl rfl (e_move hf rfl) fun a hf => ?_
  refine q_ hf rfl rfl rfl (e_move hf rfl) fun a hf => ?_
  have hl12 := slice_len (hM.dat (k := 0) rfl)
  refine q_ hf rfl rfl rfl (e_lenL hf (x := list8) rfl Tryz.underlying39) fun a hf => ?_
  have hM : Mem C _ ([.box b2 [vL A3 (s1.code) c4, vI (s1.at_), vW (s1.seed)] 84] ++ []) _ := hM
  obtain ⟨y13, hz14, h⟩ := bind_some h
  refine pl_l hf rfl rfl rfl (w_call hf Tryz.call52 rfl (r_spec_l00Src_pick ⟨_, Sh C _ _, ownB _, hM.sh_lt, sub_dis, C.G, hM.g_lt, hM.g_own, hM.tabs⟩ s1 _ _ _ (hM.dat (k := 1) rfl) hp6 hp7 (list8.length : Int) (R64_len hl12) hM.sub sub_dis _ hz14) ?_)
  rintro _ w21 ⟨A15, c16, rfl, hM2, hv17, hv18, hv19, hv20⟩
  obtain ⟨hM, hup23⟩ := hM.backG hM2
  dsimp only [List.cons_append, List.nil_append] at hM hup23
  clear hM2
  have hM := hM.add (y := .dat (sliceRep byteRep) y13.2.code [vL A15 y13.2.code c16]) (hup23 hv17)
  refine ⟨_, rfl, fun a hf => ?_⟩
  obtain ⟨e24, hz25, h⟩ := bind_some h
  obtain ⟨b29, o30, _, hA31, h26, h27, hr28, hM⟩ := hM.elem (hM.dat (k := 1) rfl) (n := 1) rfl hz25
  obtain ⟨rfl, hv32⟩ := hr28
  refine q_ hf rfl rfl rfl (e_indexAddr (A := A9) (b := b29) (o := o30) (xs := list8) (i := y13.1) hf hA31 rfl rfl Tryz.underlying39 Tryz.sizeOf9 h26 h27) fun a hf => ?_
  refine q_ hf rfl rfl rfl (e_load1 hf rfl Tryz.isAgg9 (hM.litCell (k := 0) (j := 0) rfl rfl rfl)) fun a hf => ?_
  refine q_ hf rfl rfl rfl (e_assign hf rfl) fun a hf => ?_
  refine pl_nil ?_
  refine then_n ?_
  refine wp_ret ?_
  obtain rfl := some_inj h
  exact leave1 hf rfl rfl ⟨A15, c16, rfl, hM.fin, (hM.dat (k := 1) rfl), hv18, hv19, hv32⟩

set_option maxRecDepth 100000 in
set_option maxHeartbeats 4000000 in
theorem r_spec_l25Draw (C : Cx) (s1 : l00Src) (b2 : Nat) (A3 : Option Addr) (c4 : Nat) (hp5 : (sliceRep byteRep).R C.w0 C.S0 s1.code [vL A3 s1.code c4]) (hp6 : R64 s1.at_) (hp7 : U64 s1.seed) (hO : Mem C C.w0 [.box b2 [vL A3 (s1.code) c4, vI (s1.at_), vW (s1.seed)] 84] []) (hd : ∀ b, C.S0 b → ¬ ownB [.box b2 [vL A3 (s1.code) c4, vI (s1.at_), vW (s1.seed)] 84] b) (r : (Grid × l00Src)) (h : m_spec_l25Draw s1 = some r) :
    Calls Tryz.prog 43 #[vP b2 (0)] C.w0 fun e w => ∃ (A_1 : Option Addr), ∃ (c_1 : Nat), e = .returned (.agg #[vI (r.1.Rows), vI (r.1.Cols), vS (r.1.Cells)]) ∧ Mem C w [.box b2 [vL A_1 (r.2.code) c_1, vI (r.2.at_), vW (r.2.seed)] 84] [] ∧ (sliceRep byteRep).R w (Sh C [.box b2 [vL A_1 (r.2.code) c_1, vI (r.2.at_), vW (r.2.seed)] 84] w) r.2.code [vL A_1 r.2.code c_1] ∧ R64 r.2.at_ ∧ U64 r.2.seed ∧ R64 r.1.Rows ∧ R64 r.1.Cols ∧ r.1.Cells.length ≤ maxLen := by
  have hM := hO
  have hM := hM.addIn hd (y := .dat (sliceRep byteRep) s1.code [vL A3 s1.code c4]) hp5
  refine enter Tryz.func43 rfl Tryz.ntmps43 rfl fun a hf => ?_
  unfold m_spec_l25Draw at h
  refine wp_seq ?_
  refine region_pl ?_
  refine pl_l hf rfl rfl rfl (w_alloc hM (cs := [vI (0), vI (0), vS (([] : Str))]) Tryz.zeroValue25 rfl fun b8 w9 hx10 hM a hf => ?_)
  refine pl_nil ?_
  refine then_n ?_
  refine wp_seq ?_
  refine region_pl ?_
  refine q_ hf rfl rfl rfl (e_move hf rfl) fun a hf => ?_
  have hM := hM.front (k := 1) rfl
  dsimp only [List.eraseIdx] at hM
  have hM : Mem C _ ([.box b2 [vL A3 (s1.code) c4, vI (s1.at_), vW (s1.seed)] 84] ++ [.box b8 [vI (0), vI (0), vS (([] : Str))] 25]) _ := hM
  obtain ⟨y12, hz13, h⟩ := bind_some h
  refine pl_l hf rfl rfl rfl (w_call hf Tryz.call52 rfl (r_spec_l00Src_pick ⟨_, Sh C _ _, ownB _, hM.sh_lt, sub_dis, C.G, hM.g_lt, hM.g_own, hM.tabs⟩ s1 _ _ _ (hM.dat (k := 0) rfl) hp6 hp7 4 (R64_lit rfl) hM.sub sub_dis _ hz13) ?_)
  rintro _ w20 ⟨A14, c15, rfl, hM2, hv16, hv17, hv18, hv19⟩
  obtain ⟨hM, hup22⟩ := hM.backG hM2
  dsimp only [List.cons_append, List.nil_append] at hM hup22
  clear hM2
  have hM := hM.add (y := .dat (sliceRep byteRep) y12.2.code [vL A14 y12.2.code c15]) (hup22 hv16)
  refine ⟨_, rfl, fun a hf => ?_⟩
  obtain ⟨z23, hz24, h⟩ := bind_some h
  refine q_ hf rfl rfl rfl (e_add hf rfl rfl hz24) fun a hf => ?_
  refine q_ hf rfl rfl rfl (e_move hf rfl) fun a hf => ?_
  have hM : Mem C _ ([.box b2 [vL A14 (y12.2.code) c15, vI (y12.2.at_), vW (y12.2.seed)] 84] ++ [.box b8 [vI (0), vI (0), vS (([] : Str))] 25]) _ := hM
  obtain ⟨y25, hz26, h⟩ := bind_some h
  refine pl_l hf rfl rfl rfl (w_call hf Tryz.call52 rfl (r_spec_l00Src_pick ⟨_, Sh C _ _, ownB _, hM.sh_lt, sub_dis, C.G, hM.g_lt, hM.g_own, hM.tabs⟩ y12.2 _ _ _ (hM.dat (k := 0) rfl) hv17 hv18 3 (R64_lit rfl) hM.sub sub_dis _ hz26) ?_)
  rintro _ w33 ⟨A27, c28, rfl, hM2, hv29, hv30, hv31, hv32⟩
  obtain ⟨hM, hup35⟩ := hM.backG hM2
  dsimp only [List.cons_append, List.nil_append] at hM hup35
  clear hM2
  have hM := hM.add (y := .dat (sliceRep byteRep) y25.2.code [vL A27 y25.2.code c28]) (hup35 hv29)
  refine ⟨_, rfl, fun a hf => ?_⟩
  obtain ⟨z36, hz37, h⟩ := bind_some h
  refine q_ hf rfl rfl rfl (e_add hf rfl rfl hz37) fun a hf => ?_
  refine q_ hf rfl rfl rfl (e_build hf Tryz.zeroValue25 Tryz.underlying25 (bp_25 _ Tryz.underlying25.symm) rfl (cs := #[vI (z23), vI (z36), vS (([] : Str))]) (by kernel_rfl)) fun a hf => ?_
  refine pl_l hf rfl rfl rfl (w_alloc hM (cs := [vI (0), vI (0), vS (([] : Str))]) Tryz.zeroValue25 rfl fun b38 w39 hx40 hM a hf => ?_)
  refine pl_0 hf rfl rfl (w_store hf hM (us := [vI (z23), vI (z36), vS (([] : Str))]) (cs' := [vI (z23), vI (z36), vS (([] : Str))]) rfl rfl (k := 0) rfl rfl Tryz.sizeOf25 rfl rfl rfl fun w42 hM => ?_)
  dsimp only [List.set] at hM
  refine pl_nil ?_
  refine then_n ?_
  obtain ⟨x54, h55, h⟩ := bind_some h
  refine seq_join (fun a w => ∃ (l45 : Str) (n48 : Int) (n50 : Int) (s52 : Str) (A46 : Option Addr) (c47 : Nat), (l45, n48, n50, s52) = x54 ∧ Has 29 a [(2, vP b8 (0)), (3, vP b38 (0))] ∧ Mem C w [.box b38 [vI (z23), vI (z36), vS (s52)] 25, .box b2 [vL A46 (l45) c47, vI (n48), vW (n50)] 84, .box b8 [vI (0), vI (0), vS (([] : Str))] 25] [.dat (sliceRep byteRep) l45 [vL A46 l45 c47], .dat (sliceRep byteRep) y25.2.code [vL A27 y25.2.code c28], .dat (sliceRep byteRep) y12.2.code [vL A14 y12.2.code c15], .dat (sliceRep byteRep) s1.code [vL A3 s1.code c4]] ∧ R64 n48 ∧ U64 n50 ∧ s52.length ≤ maxLen) ?_ ?_
  · refine wp_seq ?_
    refine region_pl ?_
    refine q_ hf rfl rfl rfl (e_field hf rfl Tryz.underlying25 rfl Tryz.sizeOf2 (o' := 0) rfl) fun a hf => ?_
    refine q_ hf rfl rfl rfl (e_load1 hf rfl Tryz.isAgg2 (hM.boxCell (k := 0) rfl rfl)) fun a hf => ?_
    refine q_ hf rfl rfl rfl (e_field hf rfl Tryz.underlying25 rfl Tryz.sizeOf2 (o' := 1) rfl) fun a hf => ?_
    refine q_ hf rfl rfl rfl (e_load1 hf rfl Tryz.isAgg2 (hM.boxCell (k := 0) rfl rfl)) fun a hf => ?_
    obtain ⟨z56, hz57, h55⟩ := bind_some h55
    refine q_ hf rfl rfl rfl (e_mul hf rfl rfl hz57) fun a hf => ?_
    refine q_ hf rfl rfl rfl (e_assign hf rfl) fun a hf => ?_
    refine pl_nil ?_
    refine then_n ?_
    refine wp_block ?_
    obtain ⟨x79, h80, h55⟩ := bind_some h55
    refine wp_loopM h80 (fun s a w => ∃ (l58 : Str) (n61 : Int) (n63 : Int) (s65 : Str) (n67 : Int) (A59 : Option Addr) (c60 : Nat), (l58, n61, n63, s65, n67) = s ∧ Has 29 a [(0, vP b2 (0)), (2, vP b8 (0)), (3, vP b38 (0)), (4, vI (n67))] ∧ Mem C w [.box b38 [vI (z23), vI (z36), vS (s65)] 25, .box b2 [vL A59 (l58) c60, vI (n61), vW (n63)] 84, .box b8 [vI (0), vI (0), vS (([] : Str))] 25] [.dat (sliceRep byteRep) l58 [vL A59 l58 c60], .dat (sliceRep byteRep) y25.2.code [vL A27 y25.2.code c28], .dat (sliceRep byteRep) y12.2.code [vL A14 y12.2.code c15], .dat (sliceRep byteRep) s1.code [vL A3 s1.code c4]] ∧ R64 n61 ∧ U64 n63 ∧ s65.length ≤ maxLen ∧ R64 n67) ?_ ?_
    · exact ⟨y25.2.code, y25.2.at_, y25.2.seed, ([] : Str), z56, A27, c28, rfl, hf.keep ⟨rfl, rfl, rfl, rfl, trivial⟩, hM.pick [0, 0, 1, 2] rfl, hv30, hv31, (lit_len rfl), (chk_R hz57)⟩
    · rintro s o81 a w69 ⟨l58, n61, n63, s65, n67, A59, c60, rfl, hf, hM, hv62, hv64, hv66, hv68⟩ h82 hd83
      replace h82 : m_spec_l25Draw_l1 l58 n61 n63 s65 n67 = some o81 := h82
      unfold m_spec_l25Draw_l1 at h82
      refine wp_seq ?_
      refine wp_seq ?_
      refine region_pl ?_
      refine q_ hf rfl rfl rfl (e_move hf rfl) fun a hf => ?_
      refine q_ hf rfl rfl rfl (e_gt hf (x := n67) (y := 0) rfl rfl) fun a hf => ?_
      refine pl_nil ?_
      refine then_n ?_
      rcases cond_some h82 with ⟨hc84, h82⟩ | ⟨hc84, h82⟩
      · refine cond_t hf rfl hc84 ?_
        refine wp_skip ?_
        refine then_n ?_
        refine wp_seq ?_
        refine wp_block ?_
        obtain ⟨w85, hw⟩ : ∃ x, x = w69.drew := ⟨_, rfl⟩
        refine region_pi (.q 0 (.q 1 (.q 2 (.l 3 (.l 4 (.q 5 (.q 6 (.l 7 (.nil))))))))) (ExtM [some b2] w85) rfl (by kernel_rfl) ?_
        have hM := hM.drew
        rw [← hw] at hM ⊢
        clear hw
        refine pi_q hf rfl rfl rfl rfl (ExtM.refl _ _) (e_field hf rfl Tryz.underlying25 rfl Tryz.sizeOf9 (o' := 2) rfl) fun a hf => ?_
        refine pi_q hf rfl rfl rfl rfl (ExtM.refl _ _) (e_load1M hf rfl Tryz.isAgg9 (hM.boxCell (k := 0) rfl rfl) (hM.apart (js := [1]) rfl (k := 0) rfl rfl rfl)) fun a hf => ?_
        refine pi_q hf rfl rfl rfl rfl (ExtM.refl _ _) (e_move hf rfl) fun a hf => ?_
        refine pi_one ?_
        refine pi_l hf rfl rfl rfl rfl (w_slice hf hM (K := strRep) (xs := ([([46] : Str), ([46] : Str), ([46] : Str), ([46] : Str), ([46] : Str), ([46] : Str), ([35] : Str), ([35] : Str), ([116] : Str), ([101] : Str), ([97] : Str)] : (List Str))) (os := [.const (.string ⟨#[46]⟩), .const (.string ⟨#[46]⟩), .const (.string ⟨#[46]⟩), .const (.string ⟨#[46]⟩), .const (.string ⟨#[46]⟩), .const (.string ⟨#[46]⟩), .const (.string ⟨#[35]⟩), .const (.string ⟨#[35]⟩), .const (.string ⟨#[116]⟩), .const (.string ⟨#[101]⟩), .const (.string ⟨#[97]⟩)]) Tryz.underlying39 ei_9 rfl rfl rfl rfl rfl ⟨⟨[vS (([46] : Str))], rfl, ⟨rfl, (lit_len rfl)⟩⟩, ⟨[vS (([46] : Str))], rfl, ⟨rfl, (lit_len rfl)⟩⟩, ⟨[vS (([46] : Str))], rfl, ⟨rfl, (lit_len rfl)⟩⟩, ⟨[vS (([46] : Str))], rfl, ⟨rfl, (lit_len rfl)⟩⟩, ⟨[vS (([46] : Str))], rfl, ⟨rfl, (lit_len rfl)⟩⟩, ⟨[vS (([46] : Str))], rfl, ⟨rfl, (lit_len rfl)⟩⟩, ⟨[vS (([35] : Str))], rfl, ⟨rfl, (lit_len rfl)⟩⟩, ⟨[vS (([35] : Str))], rfl, ⟨rfl, (lit_len rfl)⟩⟩, ⟨[vS (([116] : Str))], rfl, ⟨rfl, (lit_len rfl)⟩⟩, ⟨[vS (([101] : Str))], rfl, ⟨rfl, (lit_len rfl)⟩⟩, ⟨[vS (([97] : Str))], rfl, ⟨rfl, (lit_len rfl)⟩⟩, trivial⟩ rfl fun b86 w87 hx88 hM => ⟨ExtM [some b2] w87, fun _ h => ExtM.trans hx88 h, ExtM.refl _ _, fun a hf => ?_⟩)
        refine pi_one ?_
        have hM := hM.freezeRow (k := 0) rfl rfl
        dsimp only [List.eraseIdx] at hM
        have hM := hM.front (k := 1) rfl
        dsimp only [List.eraseIdx] at hM
        have hM : Mem C _ ([.box b2 [vL A59 (l58) c60, vI (n61), vW (n63)] 84] ++ [.box b38 [vI (z23), vI (z36), vS (s65)] 25, .box b8 [vI (0), vI (0), vS (([] : Str))] 25]) _ := hM
        obtain ⟨y89, hz90, h82⟩ := bind_some h82
        refine pi_l hf rfl rfl rfl rfl (w_call hf Tryz.call25 rfl (r_spec_l00Src_text ⟨_, Sh C _ _, ownB _, hM.sh_lt, sub_dis, C.G, hM.g_lt, hM.g_own, hM.tabs⟩ (⟨l58, n61, n63⟩ : l00Src) _ _ _ (hM.dat (k := 1) rfl) hv62 hv64 ([([46] : Str), ([46] : Str), ([46] : Str), ([46] : Str), ([46] : Str), ([46] : Str), ([35] : Str), ([35] : Str), ([116] : Str), ([101] : Str), ([97] : Str)] : (List Str)) _ _ (hM.dat (k := 0) rfl) hM.sub sub_dis _ hz90) ?_)
        rintro _ w97 ⟨A91, c92, rfl, hM2, hv93, hv94, hv95, hv96⟩
        have hxm100 := ExtM.ofChg (bs := [some b2]) hM2.chg ⟨List.mem_of_getElem? (i := 0) rfl, trivial⟩
        have hsz101 := hM2.chg.size
        obtain ⟨hM, hup99⟩ := hM.backG hM2
        dsimp only [List.cons_append, List.nil_append] at hM hup99
        clear hM2
        have hM := hM.add (y := .dat (sliceRep byteRep) y89.2.code [vL A91 y89.2.code c92]) (hup99 hv93)
        refine ⟨_, rfl, Ext w97, fun _ h => ExtM.last hxm100 hsz101 h, Ext.refl _, fun a hf => ?_⟩
        obtain ⟨s102, hz103, h82⟩ := bind_some h82
        refine pi_q hf rfl rfl rfl rfl (Ext.refl _) (e_cat hf (x := s65) (y := y89.1) rfl rfl hz103) fun a hf => ?_
        refine pi_q hf rfl rfl rfl rfl (Ext.refl _) (e_field hf rfl Tryz.underlying25 rfl Tryz.sizeOf9 (o' := 2) rfl) fun a hf => ?_
        refine pi_one ?_
        refine pi_z0 hf rfl rfl rfl (by kernel_rfl) (w_store hf hM (us := [vS (s102)]) (cs' := [vI (z23), vI (z36), vS (s102)]) rfl rfl (k := 1) rfl rfl Tryz.sizeOf9 rfl rfl rfl fun w104 hM => ?_)
        dsimp only [List.set] at hM
        refine pi_nil ?_
        refine blk_n ?_
        refine then_n ?_
        refine region_pl ?_
        refine q_ hf rfl rfl rfl (e_move hf rfl) fun a hf => ?_
        obtain ⟨z107, hz108, h82⟩ := bind_some h82
        refine q_ hf rfl rfl rfl (e_sub hf rfl rfl hz108) fun a hf => ?_
        refine q_ hf rfl rfl rfl (e_assign hf rfl) fun a hf => ?_
        refine pl_nil ?_
        obtain rfl := some_inj h82
        refine then_n ⟨_, rfl, ?_⟩
        have hM := hM.front (k := 2) rfl
        dsimp only [List.eraseIdx] at hM
        have hM := hM.front (k := 1) rfl
        dsimp only [List.eraseIdx] at hM
        have hM := hM.front (k := 2) rfl
        dsimp only [List.eraseIdx] at hM
        exact ⟨y89.2.code, y89.2.at_, y89.2.seed, s102, z107, A91, c92, rfl, hf.keep ⟨rfl, rfl, rfl, rfl, trivial⟩, hM.pick [0, 3, 4, 5] rfl, hv94, hv95, (cat_len hz103), (chk_R hz108)⟩
      · refine cond_f hf rfl hc84 ?_
        refine wp_exit ?_
        refine then_x ?_
        obtain rfl := some_inj h82
        obtain rfl := hd83 _ rfl
        try dsimp only at h55
        refine then_x ?_
        refine exit_hit ?_
        obtain rfl := some_inj h55
        refine then_n ?_
        exact ⟨l58, n61, n63, s65, A59, c60, rfl, hf.keep ⟨rfl, rfl, trivial⟩, hM.pick [0, 1, 2, 3] rfl, hv62, hv64, hv66⟩
  · rintro a w114 ⟨l45, n48, n50, s52, A46, c47, rfl, hf, hM, hv49, hv51, hv53⟩
    try dsimp only at h
    refine wp_seq ?_
    refine region_pl ?_
    refine q_ hf rfl rfl rfl (e_loadA hf (us := [vI (z23), vI (z36), vS (s52)]) rfl ⟨Tryz.isAgg25, Tryz.sizeOf25⟩ rfl (hM.boxSub (k := 0) (us := [vI (z23), vI (z36), vS (s52)]) (o := 0) rfl rfl)) fun a hf => ?_
    refine pl_0 hf rfl rfl (w_store hf hM (us := [vI (z23), vI (z36), vS (s52)]) (cs' := [vI (z23), vI (z36), vS (s52)]) rfl rfl (k := 2) rfl rfl Tryz.sizeOf25 rfl rfl rfl fun w115 hM => ?_)
    dsimp only [List.set] at hM
    refine pl_nil ?_
    refine then_n ?_
    refine wp_ret ?_
    obtain rfl := some_inj h
    have hres118 := leaveV1 (P := Tryz.prog) Tryz.results43 (res_agg hf rfl ⟨Tryz.isAgg25, Tryz.sizeOf25⟩ (us := [vI (z23), vI (z36), vS (s52)]) rfl (hM.boxSub (k := 2) (o := 0) rfl rfl))
    have hM := hM.front (k := 1) rfl
    dsimp only [List.eraseIdx] at hM
    have hM := hM.outs (own' := [.box b2 [vL A46 (l45) c47, vI (n48), vW (n50)] 84]) 1 rfl
    exact bodyPost_ret hres118 hf.defers ⟨A46, c47, rfl, hM.fin, (hM.dat (k := 0) rfl), hv49, hv51, (chk_R hz24), (chk_R hz37), hv53⟩

set_option maxRecDepth 100000 in
set_option maxHeartbeats 4000000 in
theorem r_spec_l00Src_among (C : Cx) (s1 : l00Src) (b2 : Nat) (A3 : Option Addr) (c4 : Nat) (hp5 : (sliceRep byteRep).R C.w0 C.S0 s1.code [vL A3 s1.code c4]) (hp6 : R64 s1.at_) (hp7 : U64 s1.seed) (list8 : (List Int)) (A9 : Option Addr) (c10 : Nat) (hp11 : (sliceRep intRep).R C.w0 C.S0 list8 [vL A9 list8 c10]) (hO : Mem C C.w0 [.box b2 [vL A3 (s1.code) c4, vI (s1.at_), vW (s1.seed)] 84] []) (hd : ∀ b, C.S0 b → ¬ ownB [.box b2 [vL A3 (s1.code) c4, vI (s1.at_), vW (s1.seed)] 84] b) (r : (Int × l00Src)) (h : m_spec_l00Src_among s1 list8 = some r) :
    Calls Tryz.prog 53 #[vP b2 (0), vL A9 (list8) c10] C.w0 fun e w => ∃ (A_1 : Option Addr), ∃ (c_1 : Nat), e = .returned (vI (r.1)) ∧ Mem C w [.box b2 [vL A_1 (r.2.code) c_1, vI (r.2.at_), vW (r.2.seed)] 84] [] ∧ (sliceRep byteRep).R w (Sh C [.box b2 [vL A_1 (r.2.code) c_1, vI (r.2.at_), vW (r.2.seed)] 84] w) r.2.code [vL A_1 r.2.code c_1] ∧ R64 r.2.at_ ∧ U64 r.2.seed ∧ R64 r.1 := by
  have hM := hO
  have hM := hM.addIn hd (y := .dat (sliceRep byteRep) s1.code [vL A3 s1.code c4]) hp5
  have hM := hM.addIn hd (y := .dat (sliceRep intRep) list8 [vL A9 list8 c10]) hp11
  refine enter Tryz.func53 rfl Tryz.ntmps53 rfl fun a hf => ?_
  unfold m_spec_l00Src_among at h
  refine wp_seq ?_
  refine region_pl ?_
  refine q_ hf rfl rfl rfl (e_assign hf rfl) fun a hf => ?_
  refine pl_nil ?_
  refine then_n ?_
  refine wp_seq ?_
  refine region_pl ?_
  refine q_ hf rfl rfl rfl (e_move hf rfl) fun a hf => ?_
  refine q_ hf rfl rfl rfl (e_move hf rfl) fun a hf => ?_
  refine q_ hf rfl rfl rfl (e_move hf rfl) fun a hf => ?_
  have hl12 := slice_len (hM.dat (k := 0) rfl)
  refine q_ hf rfl rfl rfl (e_lenL hf (x := list8) rfl Tryz.underlying87) fun a hf => ?_
  have hM : Mem C _ ([.box b2 [vL A3 (s1.code) c4, vI (s1.at_), vW (s1.seed)] 84] ++ []) _ := hM
  obtain ⟨y13, hz14, h⟩ := bind_some h
  refine pl_l hf rfl rfl rfl (w_call hf Tryz.call52 rfl (r_spec_l00Src_pick ⟨_, Sh C _ _, ownB _, hM.sh_lt, sub_dis, C.G, hM.g_lt, hM.g_own, hM.tabs⟩ s1 _ _ _ (hM.dat (k := 1) rfl) hp6 hp7 (list8.length : Int) (R64_len hl12) hM.sub sub_dis _ hz14) ?_)
  rintro _ w21 ⟨A15, c16, rfl, hM2, hv17, hv18, hv19, hv20⟩
  obtain ⟨hM, hup23⟩ := hM.backG hM2
  dsimp only [List.cons_append, List.nil_append] at hM hup23
  clear hM2
  have hM := hM.add (y := .dat (sliceRep byteRep) y13.2.code [vL A15 y13.2.code c16]) (hup23 hv17)
  refine ⟨_, rfl, fun a hf => ?_⟩
  obtain ⟨e24, hz25, h⟩ := bind_some h
  obtain ⟨b29, o30, _, hA31, h26, h27, hr28, hM⟩ := hM.elem (hM.dat (k := 1) rfl) (n := 1) rfl hz25
  obtain ⟨rfl, hv32⟩ := hr28
  refine q_ hf rfl rfl rfl (e_indexAddr (A := A9) (b := b29) (o := o30) (xs := list8) (i := y13.1) hf hA31 rfl rfl Tryz.underlying87 Tryz.sizeOf2 h26 h27) fun a hf => ?_
  refine q_ hf rfl rfl rfl (e_load1 hf rfl Tryz.isAgg2 (hM.litCell (k := 0) (j := 0) rfl rfl rfl)) fun a hf => ?_
  refine q_ hf rfl rfl rfl (e_assign hf rfl) fun a hf => ?_
  refine pl_nil ?_
  refine then_n ?_
  refine wp_ret ?_
  obtain rfl := some_inj h
  exact leave1 hf rfl rfl ⟨A15, c16, rfl, hM.fin, (hM.dat (k := 1) rfl), hv18, hv19, hv32⟩

set_option maxRecDepth 100000 in
set_option maxHeartbeats 4000000 in
theorem r_spec_l02Repeat (C : Cx) (c1 : UInt8) (n2 : Int) (hp3 : R64 n2) (r : Str) (h : m_spec_l02Repeat c1 n2 = some r) :
    Calls Tryz.prog 54 #[vB (c1), vI (n2)] C.w0 fun e w => e = .returned (vS (r)) ∧ Mem C w [] [] ∧ r.length ≤ maxLen := by
  have hM := Mem.begin C [] trivial
  refine enter Tryz.func54 rfl Tryz.ntmps54 rfl fun a hf => ?_
  unfold m_spec_l02Repeat at h
  refine wp_seq ?_
  refine region_pl ?_
  refine q_ hf rfl rfl rfl (e_assign hf rfl) fun a hf => ?_
  refine pl_nil ?_
  refine then_n ?_
  refine wp_seq ?_
  refine region_pl ?_
  refine pl_l hf rfl rfl rfl (w_slice0 (K := byteRep) hM Tryz.underlying22 ei_5 fun b4 w5 hx6 hM a hf => ?_)
  refine q_ hf rfl rfl rfl (e_assign hf rfl) fun a hf => ?_
  refine pl_nil ?_
  refine then_n ?_
  obtain ⟨x10, h11, h⟩ := bind_some h
  refine seq_join (fun a w => ∃ (xs7 : Str) (A8 : Option Addr) (c9 : Nat), xs7 = x10 ∧ Has 17 a [(5, vL A8 (xs7) c9)] ∧ Mem C w [.row byteRep A8 c9 5 xs7 true] []) ?_ ?_
  · refine wp_block ?_
    obtain ⟨x21, h22, h11⟩ := bind_some h11
    refine wp_loopM h22 (fun s a w => ∃ (xs12 : Str) (n15 : Int) (A13 : Option Addr) (c14 : Nat), (xs12, n15) = s ∧ Has 17 a [(0, vB (c1)), (1, vI (n15)), (5, vL A13 (xs12) c14)] ∧ Mem C w [.row byteRep A13 c14 5 xs12 true] [] ∧ R64 n15) ?_ ?_
    · exact ⟨([] : Str), n2, (some ⟨b4, 0, none⟩), 0, rfl, hf.keep ⟨rfl, rfl, rfl, trivial⟩, hM.pick [] rfl, hp3⟩
    · rintro s o23 a w17 ⟨xs12, n15, A13, c14, rfl, hf, hM, hv16⟩ h24 hd25
      replace h24 : m_spec_l02Repeat_l1 c1 xs12 n15 = some o23 := h24
      unfold m_spec_l02Repeat_l1 at h24
      refine wp_seq ?_
      refine wp_seq ?_
      refine region_pl ?_
      refine q_ hf rfl rfl rfl (e_move hf rfl) fun a hf => ?_
      refine q_ hf rfl rfl rfl (e_gt hf (x := n15) (y := 0) rfl rfl) fun a hf => ?_
      refine pl_nil ?_
      refine then_n ?_
      rcases cond_some h24 with ⟨hc26, h24⟩ | ⟨hc26, h24⟩
      · refine cond_t hf rfl hc26 ?_
        refine wp_skip ?_
        refine then_n ?_
        refine wp_seq ?_
        refine wp_block ?_
        refine region_pl ?_
        refine q_ hf rfl rfl rfl (e_move hf rfl) fun a hf => ?_
        refine q_ hf rfl rfl rfl (e_move hf rfl) fun a hf => ?_
        refine pl_l hf rfl rfl rfl (w_slice hf hM (K := byteRep) (xs := ([c1] : Str)) (os := [.tmp 12]) Tryz.underlying22 ei_5 rfl rfl rfl rfl rfl ⟨⟨[vB (c1)], rfl, rfl⟩, trivial⟩ rfl fun b27 w28 hx29 hM a hf => ?_)
        obtain ⟨xs30, hz31, h24⟩ := bind_some h24
        refine pl_l hf rfl rfl rfl (w_append hf hM Tryz.underlying22 ei_5 rfl rfl rfl (k := 1) rfl (hM.srcRow (k := 0) rfl) hz31 fun A32 c33 w34 hM a hf => ?_)
        dsimp only [List.set] at hM
        refine q_ hf rfl rfl rfl (e_assign hf rfl) fun a hf => ?_
        refine pl_nil ?_
        refine blk_n ?_
        refine then_n ?_
        refine region_pl ?_
        refine q_ hf rfl rfl rfl (e_move hf rfl) fun a hf => ?_
        obtain ⟨z37, hz38, h24⟩ := bind_some h24
        refine q_ hf rfl rfl rfl (e_sub hf rfl rfl hz38) fun a hf => ?_
        refine q_ hf rfl rfl rfl (e_assign hf rfl) fun a hf => ?_
        refine pl_nil ?_
        obtain rfl := some_inj h24
        refine then_n ⟨_, rfl, ?_⟩
        exact ⟨xs30, z37, A32, c33, rfl, hf.keep ⟨rfl, rfl, rfl, trivial⟩, (hM.drop (.cons _ (.cons_cons _ .slnil))).pick [] rfl, (chk_R hz38)⟩
      · refine cond_f hf rfl hc26 ?_
        refine wp_exit ?_
        refine then_x ?_
        obtain rfl := some_inj h24
        obtain rfl := hd25 _ rfl
        try dsimp only at h11
        refine then_x ?_
        refine exit_hit ?_
        obtain rfl := some_inj h11
        refine then_n ?_
        exact ⟨xs12, A13, c14, rfl, hf.keep ⟨rfl, trivial⟩, hM.pick [] rfl⟩
  · rintro a w44 ⟨xs7, A8, c9, rfl, hf, hM⟩
    try dsimp only at h
    refine wp_seq ?_
    refine region_pl ?_
    refine q_ hf rfl rfl rfl (e_move hf rfl) fun a hf => ?_
    have hl45 := row_len (hM.ownAt (k := 0) rfl)
    refine q_ hf rfl rfl rfl (e_bytesStr hf (xs := xs7) rfl Tryz.underlying22 Tryz.underlying5 Tryz.underlying9 (hM.lendRow (k := 0) rfl)) fun a hf => ?_
    refine q_ hf rfl rfl rfl (e_assign hf rfl) fun a hf => ?_
    refine pl_nil ?_
    refine then_n ?_
    refine wp_ret ?_
    obtain rfl := some_inj h
    have hM := hM.outs (own' := []) 0 rfl
    exact leave1 hf rfl rfl ⟨rfl, hM.fin, hl45⟩

set_option maxRecDepth 100000 in
set_option maxHeartbeats 4000000 in
theorem r_spec_l25Bent (C : Cx) (s1 : l00Src) (b2 : Nat) (A3 : Option Addr) (c4 : Nat) (hp5 : (sliceRep byteRep).R C.w0 C.S0 s1.code [vL A3 s1.code c4]) (hp6 : R64 s1.at_) (hp7 : U64 s1.seed) (hO : Mem C C.w0 [.box b2 [vL A3 (s1.code) c4, vI (s1.at_), vW (s1.seed)] 84] []) (hd : ∀ b, C.S0 b → ¬ ownB [.box b2 [vL A3 (s1.code) c4, vI (s1.at_), vW (s1.seed)] 84] b) (r : (Grid × l00Src)) (h : m_spec_l25Bent s1 = some r) :
    Calls Tryz.prog 23 #[vP b2 (0)] C.w0 fun e w => ∃ (A_1 : Option Addr), ∃ (c_1 : Nat), e = .returned (.agg #[vI (r.1.Rows), vI (r.1.Cols), vS (r.1.Cells)]) ∧ Mem C w [.box b2 [vL A_1 (r.2.code) c_1, vI (r.2.at_), vW (r.2.seed)] 84] [] ∧ (sliceRep byteRep).R w (Sh C [.box b2 [vL A_1 (r.2.code) c_1, vI (r.2.at_), vW (r.2.seed)] 84] w) r.2.code [vL A_1 r.2.code c_1] ∧ R64 r.2.at_ ∧ U64 r.2.seed ∧ R64 r.1.Rows ∧ R64 r.1.Cols ∧ r.1.Cells.length ≤ maxLen := by
  have hM := hO
  have hM := hM.addIn hd (y := .dat (sliceRep byteRep) s1.code [vL A3 s1.code c4]) hp5
  refine enter Tryz.func23 rfl Tryz.ntmps23 rfl fun a hf => ?_
  unfold m_spec_l25Bent at h
  refine wp_seq ?_
  refine region_pl ?_
  refine pl_l hf rfl rfl rfl (w_alloc hM (cs := [vI (0), vI (0), vS (([] : Str))]) Tryz.zeroValue25 rfl fun b8 w9 hx10 hM a hf => ?_)
  refine pl_nil ?_
  refine then_n ?_
  refine wp_seq ?_
  refine region_pl ?_
  refine q_ hf rfl rfl rfl (e_move hf rfl) fun a hf => ?_
  have hM := hM.front (k := 1) rfl
  dsimp only [List.eraseIdx] at hM
  have hM : Mem C _ ([.box b2 [vL A3 (s1.code) c4, vI (s1.at_), vW (s1.seed)] 84] ++ [.box b8 [vI (0), vI (0), vS (([] : Str))] 25]) _ := hM
  obtain ⟨y12, hz13, h⟩ := bind_some h
  refine pl_l hf rfl rfl rfl (w_call hf Tryz.call43 rfl (r_spec_l25Draw ⟨_, Sh C _ _, ownB _, hM.sh_lt, sub_dis, C.G, hM.g_lt, hM.g_own, hM.tabs⟩ s1 _ _ _ (hM.dat (k := 0) rfl) hp6 hp7 hM.sub sub_dis _ hz13) ?_)
  rintro _ w22 ⟨A14, c15, rfl, hM2, hv16, hv17, hv18, hv19, hv20, hv21⟩
  obtain ⟨hM, hup24⟩ := hM.backG hM2
  dsimp only [List.cons_append, List.nil_append] at hM hup24
  clear hM2
  have hM := hM.add (y := .dat (sliceRep byteRep) y12.2.code [vL A14 y12.2.code c15]) (hup24 hv16)
  refine ⟨_, rfl, fun a hf => ?_⟩
  refine pl_l hf rfl rfl rfl (w_alloc hM (cs := [vI (0), vI (0), vS (([] : Str))]) Tryz.zeroValue25 rfl fun b25 w26 hx27 hM a hf => ?_)
  refine pl_0 hf rfl rfl (w_store hf hM (us := [vI (y12.1.Rows), vI (y12.1.Cols), vS (y12.1.Cells)]) (cs' := [vI (y12.1.Rows), vI (y12.1.Cols), vS (y12.1.Cells)]) rfl rfl (k := 0) rfl rfl Tryz.sizeOf25 rfl rfl rfl fun w29 hM => ?_)
  dsimp only [List.set] at hM
  refine pl_nil ?_
  refine then_n ?_
  obtain ⟨x45, h46, h⟩ := bind_some h
  refine seq_join (fun a w => ∃ (l32 : Str) (n35 : Int) (n37 : Int) (n39 : Int) (n41 : Int) (s43 : Str) (A33 : Option Addr) (c34 : Nat), (l32, n35, n37, n39, n41, s43) = x45 ∧ Has 41 a [(2, vP b8 (0)), (3, vP b25 (0))] ∧ Mem C w [.box b25 [vI (n39), vI (n41), vS (s43)] 25, .box b2 [vL A33 (l32) c34, vI (n35), vW (n37)] 84, .box b8 [vI (0), vI (0), vS (([] : Str))] 25] [.dat (sliceRep byteRep) l32 [vL A33 l32 c34], .dat (sliceRep byteRep) y12.2.code [vL A14 y12.2.code c15], .dat (sliceRep byteRep) s1.code [vL A3 s1.code c4]] ∧ R64 n35 ∧ U64 n37 ∧ R64 n39 ∧ R64 n41 ∧ s43.length ≤ maxLen) ?_ ?_
  · refine wp_seq ?_
    refine region_pl ?_
    refine q_ hf rfl rfl rfl (e_move hf rfl) fun a hf => ?_
    have hM := hM.front (k := 1) rfl
    dsimp only [List.eraseIdx] at hM
    have hM : Mem C _ ([.box b2 [vL A14 (y12.2.code) c15, vI (y12.2.at_), vW (y12.2.seed)] 84] ++ [.box b25 [vI (y12.1.Rows), vI (y12.1.Cols), vS (y12.1.Cells)] 25, .box b8 [vI (0), vI (0), vS (([] : Str))] 25]) _ := hM
    obtain ⟨y47, hz48, h46⟩ := bind_some h46
    refine pl_l hf rfl rfl rfl (w_call hf Tryz.call52 rfl (r_spec_l00Src_pick ⟨_, Sh C _ _, ownB _, hM.sh_lt, sub_dis, C.G, hM.g_lt, hM.g_own, hM.tabs⟩ y12.2 _ _ _ (hM.dat (k := 0) rfl) hv17 hv18 24 (R64_lit rfl) hM.sub sub_dis _ hz48) ?_)
    rintro _ w55 ⟨A49, c50, rfl, hM2, hv51, hv52, hv53, hv54⟩
    obtain ⟨hM, hup57⟩ := hM.backG hM2
    dsimp only [List.cons_append, List.nil_append] at hM hup57
    clear hM2
    have hM := hM.add (y := .dat (sliceRep byteRep) y47.2.code [vL A49 y47.2.code c50]) (hup57 hv51)
    refine ⟨_, rfl, fun a hf => ?_⟩
    refine pl_nil ?_
    refine then_n ?_
    refine wp_block ?_
    refine wp_seq ?_
    refine region_pl ?_
    refine q_ hf rfl rfl rfl (e_eq hf (x := y47.1) (y := 0) rfl rfl) fun a hf => ?_
    refine q_ hf rfl rfl rfl (e_assign hf rfl) fun a hf => ?_
    refine pl_nil ?_
    refine then_n ?_
    rcases cond_some h46 with ⟨hc58, h46⟩ | ⟨hc58, h46⟩
    · refine cond_t hf rfl hc58 ?_
      refine region_pl ?_
      refine q_ hf rfl rfl rfl (e_move hf rfl) fun a hf => ?_
      refine q_ hf rfl rfl rfl (e_field hf rfl Tryz.underlying25 rfl Tryz.sizeOf2 (o' := 0) rfl) fun a hf => ?_
      refine q_ hf rfl rfl rfl (e_load1 hf rfl Tryz.isAgg2 (hM.boxCell (k := 1) rfl rfl)) fun a hf => ?_
      obtain ⟨z59, hz60, h46⟩ := bind_some h46
      refine q_ hf rfl rfl rfl (e_add hf rfl rfl hz60) fun a hf => ?_
      refine pl_l hf rfl rfl rfl (w_slice hf hM (K := intRep) (xs := ([0, 6, z59] : (List Int))) (os := [.const (.int .i64 0), .const (.int .i64 6), .tmp 14]) Tryz.underlying87 ei_2 rfl rfl rfl rfl rfl ⟨⟨[vI (0)], rfl, ⟨rfl, (R64_lit rfl)⟩⟩, ⟨[vI (6)], rfl, ⟨rfl, (R64_lit rfl)⟩⟩, ⟨[vI (z59)], rfl, ⟨rfl, (chk_R hz60)⟩⟩, trivial⟩ rfl fun b61 w62 hx63 hM a hf => ?_)
      have hM := hM.freezeRow (k := 0) rfl rfl
      dsimp only [List.eraseIdx] at hM
      have hM : Mem C _ ([.box b2 [vL A49 (y47.2.code) c50, vI (y47.2.at_), vW (y47.2.seed)] 84] ++ [.box b25 [vI (y12.1.Rows), vI (y12.1.Cols), vS (y12.1.Cells)] 25, .box b8 [vI (0), vI (0), vS (([] : Str))] 25]) _ := hM
      obtain ⟨y64, hz65, h46⟩ := bind_some h46
      refine pl_l hf rfl rfl rfl (w_call hf Tryz.call53 rfl (r_spec_l00Src_among ⟨_, Sh C _ _, ownB _, hM.sh_lt, sub_dis, C.G, hM.g_lt, hM.g_own, hM.tabs⟩ y47.2 _ _ _ (hM.dat (k := 1) rfl) hv52 hv53 ([0, 6, z59] : (List Int)) _ _ (hM.dat (k := 0) rfl) hM.sub sub_dis _ hz65) ?_)
      rintro _ w72 ⟨A66, c67, rfl, hM2, hv68, hv69, hv70, hv71⟩
      obtain ⟨hM, hup74⟩ := hM.backG hM2
      dsimp only [List.cons_append, List.nil_append] at hM hup74
      clear hM2
      have hM := hM.add (y := .dat (sliceRep byteRep) y64.2.code [vL A66 y64.2.code c67]) (hup74 hv68)
      refine ⟨_, rfl, fun a hf => ?_⟩
      refine q_ hf rfl rfl rfl (e_field hf rfl Tryz.underlying25 rfl Tryz.sizeOf2 (o' := 0) rfl) fun a hf => ?_
      refine pl_0 hf rfl rfl (w_store hf hM (us := [vI (y64.1)]) (cs' := [vI (y64.1), vI (y12.1.Cols), vS (y12.1.Cells)]) rfl rfl (k := 1) rfl rfl Tryz.sizeOf2 rfl rfl rfl fun w75 hM => ?_)
      dsimp only [List.set] at hM
      refine pl_nil ?_
      refine blk_n ?_
      obtain rfl := some_inj h46
      refine then_n ?_
      have hM := hM.front (k := 2) rfl
      dsimp only [List.eraseIdx] at hM
      have hM := hM.front (k := 1) rfl
      dsimp only [List.eraseIdx] at hM
      have hM := hM.front (k := 2) rfl
      dsimp only [List.eraseIdx] at hM
      exact ⟨y64.2.code, y64.2.at_, y64.2.seed, y64.1, y12.1.Cols, y12.1.Cells, A66, c67, rfl, hf.keep ⟨rfl, rfl, trivial⟩, hM.pick [0, 3, 4] rfl, hv69, hv70, hv71, hv20, hv21⟩
    · refine cond_f hf rfl hc58 ?_
      refine wp_seq ?_
      refine region_pl ?_
      refine q_ hf rfl rfl rfl (e_eq hf (x := y47.1) (y := 1) rfl rfl) fun a hf => ?_
      refine q_ hf rfl rfl rfl (e_assign hf rfl) fun a hf => ?_
      refine pl_nil ?_
      refine then_n ?_
      rcases cond_some h46 with ⟨hc79, h46⟩ | ⟨hc79, h46⟩
      · refine cond_t hf rfl hc79 ?_
        obtain ⟨w80, hw⟩ : ∃ x, x = w55.drew := ⟨_, rfl⟩
        refine region_pi (.q 0 (.q 3 (.q 4 (.q 5 (.l 1 (.l 2 (.q 6 (.q 7 (.l 8 (.nil)))))))))) (ExtM [some b2] w80) rfl (by kernel_rfl) ?_
        have hM := hM.drew
        rw [← hw] at hM ⊢
        clear hw
        refine pi_q hf rfl rfl rfl rfl (ExtM.refl _ _) (e_move hf rfl) fun a hf => ?_
        refine pi_q hf rfl rfl rfl rfl (ExtM.refl _ _) (e_field hf rfl Tryz.underlying25 rfl Tryz.sizeOf9 (o' := 2) rfl) fun a hf => ?_
        refine pi_q hf rfl rfl rfl rfl (ExtM.refl _ _) (e_load1M hf rfl Tryz.isAgg9 (hM.boxCell (k := 1) rfl rfl) (hM.apart (js := [0]) rfl (k := 1) rfl rfl rfl)) fun a hf => ?_
        obtain ⟨s81, hz82, h46⟩ := bind_some h46
        refine pi_q hf rfl rfl rfl rfl (ExtM.refl _ _) (e_subSl hf (x := y12.1.Cells) rfl rfl Tryz.underlying9 hz82) fun a hf => ?_
        refine pi_one ?_
        refine pi_l hf rfl rfl rfl rfl (w_slice hf hM (K := strRep) (xs := ([([65] : Str), ([63] : Str), ([32] : Str)] : (List Str))) (os := [.const (.string ⟨#[65]⟩), .const (.string ⟨#[63]⟩), .const (.string ⟨#[32]⟩)]) Tryz.underlying39 ei_9 rfl rfl rfl rfl rfl ⟨⟨[vS (([65] : Str))], rfl, ⟨rfl, (lit_len rfl)⟩⟩, ⟨[vS (([63] : Str))], rfl, ⟨rfl, (lit_len rfl)⟩⟩, ⟨[vS (([32] : Str))], rfl, ⟨rfl, (lit_len rfl)⟩⟩, trivial⟩ rfl fun b83 w84 hx85 hM => ⟨ExtM [some b2] w84, fun _ h => ExtM.trans hx85 h, ExtM.refl _ _, fun a hf => ?_⟩)
        refine pi_one ?_
        have hM := hM.freezeRow (k := 0) rfl rfl
        dsimp only [List.eraseIdx] at hM
        have hM : Mem C _ ([.box b2 [vL A49 (y47.2.code) c50, vI (y47.2.at_), vW (y47.2.seed)] 84] ++ [.box b25 [vI (y12.1.Rows), vI (y12.1.Cols), vS (y12.1.Cells)] 25, .box b8 [vI (0), vI (0), vS (([] : Str))] 25]) _ := hM
        obtain ⟨y86, hz87, h46⟩ := bind_some h46
        refine pi_l hf rfl rfl rfl rfl (w_call hf Tryz.call25 rfl (r_spec_l00Src_text ⟨_, Sh C _ _, ownB _, hM.sh_lt, sub_dis, C.G, hM.g_lt, hM.g_own, hM.tabs⟩ y47.2 _ _ _ (hM.dat (k := 1) rfl) hv52 hv53 ([([65] : Str), ([63] : Str), ([32] : Str)] : (List Str)) _ _ (hM.dat (k := 0) rfl) hM.sub sub_dis _ hz87) ?_)
        rintro _ w94 ⟨A88, c89, rfl, hM2, hv90, hv91, hv92, hv93⟩
        have hxm97 := ExtM.ofChg (bs := [some b2]) hM2.chg ⟨List.mem_of_getElem? (i := 0) rfl, trivial⟩
        have hsz98 := hM2.chg.size
        obtain ⟨hM, hup96⟩ := hM.backG hM2
        dsimp only [List.cons_append, List.nil_append] at hM hup96
        clear hM2
        have hM := hM.add (y := .dat (sliceRep byteRep) y86.2.code [vL A88 y86.2.code c89]) (hup96 hv90)
        refine ⟨_, rfl, Ext w94, fun _ h => ExtM.last hxm97 hsz98 h, Ext.refl _, fun a hf => ?_⟩
        obtain ⟨s99, hz100, h46⟩ := bind_some h46
        refine pi_q hf rfl rfl rfl rfl (Ext.refl _) (e_cat hf (x := y86.1) (y := s81) rfl rfl hz100) fun a hf => ?_
        refine pi_q hf rfl rfl rfl rfl (Ext.refl _) (e_field hf rfl Tryz.underlying25 rfl Tryz.sizeOf9 (o' := 2) rfl) fun a hf => ?_
        refine pi_one ?_
        refine pi_z0 hf rfl rfl rfl (by kernel_rfl) (w_store hf hM (us := [vS (s99)]) (cs' := [vI (y12.1.Rows), vI (y12.1.Cols), vS (s99)]) rfl rfl (k := 1) rfl rfl Tryz.sizeOf9 rfl rfl rfl fun w101 hM => ?_)
        dsimp only [List.set] at hM
        refine pi_nil ?_
        refine blk_n ?_
        obtain rfl := some_inj h46
        refine then_n ?_
        have hM := hM.front (k := 2) rfl
        dsimp only [List.eraseIdx] at hM
        have hM := hM.front (k := 1) rfl
        dsimp only [List.eraseIdx] at hM
        have hM := hM.front (k := 2) rfl
        dsimp only [List.eraseIdx] at hM
        exact ⟨y86.2.code, y86.2.at_, y86.2.seed, y12.1.Rows, y12.1.Cols, s99, A88, c89, rfl, hf.keep ⟨rfl, rfl, trivial⟩, hM.pick [0, 3, 4] rfl, hv91, hv92, hv19, hv20, (cat_len hz100)⟩
      · refine cond_f hf rfl hc79 ?_
        refine wp_seq ?_
        refine region_pl ?_
        refine q_ hf rfl rfl rfl (e_eq hf (x := y47.1) (y := 2) rfl rfl) fun a hf => ?_
        refine q_ hf rfl rfl rfl (e_assign hf rfl) fun a hf => ?_
        refine pl_nil ?_
        refine then_n ?_
        rcases cond_some h46 with ⟨hc105, h46⟩ | ⟨hc105, h46⟩
        · refine cond_t hf rfl hc105 ?_
          refine wp_seq ?_
          refine region_pl ?_
          refine q_ hf rfl rfl rfl (e_move hf rfl) fun a hf => ?_
          have hM : Mem C _ ([.box b2 [vL A49 (y47.2.code) c50, vI (y47.2.at_), vW (y47.2.seed)] 84] ++ [.box b25 [vI (y12.1.Rows), vI (y12.1.Cols), vS (y12.1.Cells)] 25, .box b8 [vI (0), vI (0), vS (([] : Str))] 25]) _ := hM
          obtain ⟨y106, hz107, h46⟩ := bind_some h46
          refine pl_l hf rfl rfl rfl (w_call hf Tryz.call52 rfl (r_spec_l00Src_pick ⟨_, Sh C _ _, ownB _, hM.sh_lt, sub_dis, C.G, hM.g_lt, hM.g_own, hM.tabs⟩ y47.2 _ _ _ (hM.dat (k := 0) rfl) hv52 hv53 2 (R64_lit rfl) hM.sub sub_dis _ hz107) ?_)
          rintro _ w114 ⟨A108, c109, rfl, hM2, hv110, hv111, hv112, hv113⟩
          obtain ⟨hM, hup116⟩ := hM.backG hM2
          dsimp only [List.cons_append, List.nil_append] at hM hup116
          clear hM2
          have hM := hM.add (y := .dat (sliceRep byteRep) y106.2.code [vL A108 y106.2.code c109]) (hup116 hv110)
          refine ⟨_, rfl, fun a hf => ?_⟩
          obtain ⟨z117, hz118, h46⟩ := bind_some h46
          refine q_ hf rfl rfl rfl (e_add hf rfl rfl hz118) fun a hf => ?_
          refine q_ hf rfl rfl rfl (e_assign hf rfl) fun a hf => ?_
          refine pl_nil ?_
          refine then_n ?_
          refine region_pl ?_
          refine q_ hf rfl rfl rfl (e_move hf rfl) fun a hf => ?_
          refine q_ hf rfl rfl rfl (e_move hf rfl) fun a hf => ?_
          obtain ⟨y119, hz120, h46⟩ := bind_some h46
          refine pl_l hf rfl rfl rfl (w_call hf Tryz.call54 rfl (r_spec_l02Repeat ⟨_, Sh C _ _, none_, hM.sh_lt, none_not, C.G, hM.g_lt, g_none, hM.tabs⟩ 46 z117 (chk_R hz118) _ hz120) ?_)
          rintro _ w122 ⟨rfl, hM2, hv121⟩
          obtain ⟨hM, hx123, hup124⟩ := hM.back hM2
          dsimp only [List.cons_append, List.nil_append] at hM hup124
          clear hM2
          refine ⟨_, rfl, fun a hf => ?_⟩
          refine q_ hf rfl rfl rfl (e_build hf Tryz.zeroValue25 Tryz.underlying25 (bp_25 _ Tryz.underlying25.symm) rfl (cs := #[vI (1), vI (z117), vS (y119)]) (by kernel_rfl)) fun a hf => ?_
          refine pl_0 hf rfl rfl (w_store hf hM (us := [vI (1), vI (z117), vS (y119)]) (cs' := [vI (1), vI (z117), vS (y119)]) rfl rfl (k := 1) rfl rfl Tryz.sizeOf25 rfl rfl rfl fun w125 hM => ?_)
          dsimp only [List.set] at hM
          refine pl_nil ?_
          refine blk_n ?_
          obtain rfl := some_inj h46
          refine then_n ?_
          have hM := hM.front (k := 2) rfl
          dsimp only [List.eraseIdx] at hM
          have hM := hM.front (k := 1) rfl
          dsimp only [List.eraseIdx] at hM
          have hM := hM.front (k := 2) rfl
          dsimp only [List.eraseIdx] at hM
          exact ⟨y106.2.code, y106.2.at_, y106.2.seed, 1, z117, y119, A108, c109, rfl, hf.keep ⟨rfl, rfl, trivial⟩, hM.pick [0, 2, 3] rfl, hv111, hv112, (R64_lit rfl), (chk_R hz118), hv121⟩
        · refine cond_f hf rfl hc105 ?_
          refine wp_seq ?_
          refine region_pl ?_
          refine q_ hf rfl rfl rfl (e_eq hf (x := y47.1) (y := 3) rfl rfl) fun a hf => ?_
          refine q_ hf rfl rfl rfl (e_assign hf rfl) fun a hf => ?_
          refine pl_nil ?_
          refine then_n ?_
          rcases cond_some h46 with ⟨hc129, h46⟩ | ⟨hc129, h46⟩
          · refine cond_t hf rfl hc129 ?_
            refine region_pl ?_
            refine q_ hf rfl rfl rfl (e_build hf Tryz.zeroValue25 Tryz.underlying25 (bp_25 _ Tryz.underlying25.symm) rfl (cs := #[vI (5), vI (3), vS (([46, 35, 46, 46, 35, 46, 46, 35, 46, 46, 35, 46, 46, 35, 46] : Str))]) (by kernel_rfl)) fun a hf => ?_
            refine pl_0 hf rfl rfl (w_store hf hM (us := [vI (5), vI (3), vS (([46, 35, 46, 46, 35, 46, 46, 35, 46, 46, 35, 46, 46, 35, 46] : Str))]) (cs' := [vI (5), vI (3), vS (([46, 35, 46, 46, 35, 46, 46, 35, 46, 46, 35, 46, 46, 35, 46] : Str))]) rfl rfl (k := 1) rfl rfl Tryz.sizeOf25 rfl rfl rfl fun w130 hM => ?_)
            dsimp only [List.set] at hM
            refine pl_nil ?_
            refine blk_n ?_
            obtain rfl := some_inj h46
            refine then_n ?_
            have hM := hM.front (k := 2) rfl
            dsimp only [List.eraseIdx] at hM
            have hM := hM.front (k := 1) rfl
            dsimp only [List.eraseIdx] at hM
            have hM := hM.front (k := 2) rfl
            dsimp only [List.eraseIdx] at hM
            exact ⟨y47.2.code, y47.2.at_, y47.2.seed, 5, 3, ([46, 35, 46, 46, 35, 46, 46, 35, 46, 46, 35, 46, 46, 35, 46] : Str), A49, c50, rfl, hf.keep ⟨rfl, rfl, trivial⟩, hM.pick [0, 1, 2] rfl, hv52, hv53, (R64_lit rfl), (R64_lit rfl), (lit_len rfl)⟩
          · refine cond_f hf rfl hc129 ?_
            refine wp_skip ?_
            refine blk_n ?_
            obtain rfl := some_inj h46
            refine then_n ?_
            have hM := hM.front (k := 2) rfl
            dsimp only [List.eraseIdx] at hM
            have hM := hM.front (k := 1) rfl
            dsimp only [List.eraseIdx] at hM
            have hM := hM.front (k := 2) rfl
            dsimp only [List.eraseIdx] at hM
            exact ⟨y47.2.code, y47.2.at_, y47.2.seed, y12.1.Rows, y12.1.Cols, y12.1.Cells, A49, c50, rfl, hf.keep ⟨rfl, rfl, trivial⟩, hM.pick [0, 1, 2] rfl, hv52, hv53, hv19, hv20, hv21⟩
  · rintro a w135 ⟨l32, n35, n37, n39, n41, s43, A33, c34, rfl, hf, hM, hv36, hv38, hv40, hv42, hv44⟩
    try dsimp only at h
    refine wp_seq ?_
    refine region_pl ?_
    refine q_ hf rfl rfl rfl (e_loadA hf (us := [vI (n39), vI (n41), vS (s43)]) rfl ⟨Tryz.isAgg25, Tryz.sizeOf25⟩ rfl (hM.boxSub (k := 0) (us := [vI (n39), vI (n41), vS (s43)]) (o := 0) rfl rfl)) fun a hf => ?_
    refine pl_0 hf rfl rfl (w_store hf hM (us := [vI (n39), vI (n41), vS (s43)]) (cs' := [vI (n39), vI (n41), vS (s43)]) rfl rfl (k := 2) rfl rfl Tryz.sizeOf25 rfl rfl rfl fun w136 hM => ?_)
    dsimp only [List.set] at hM
    refine pl_nil ?_
    refine then_n ?_
    refine wp_ret ?_
    obtain rfl := some_inj h
    have hres139 := leaveV1 (P := Tryz.prog) Tryz.results23 (res_agg hf rfl ⟨Tryz.isAgg25, Tryz.sizeOf25⟩ (us := [vI (n39), vI (n41), vS (s43)]) rfl (hM.boxSub (k := 2) (o := 0) rfl rfl))
    have hM := hM.front (k := 1) rfl
    dsimp only [List.eraseIdx] at hM
    have hM := hM.outs (own' := [.box b2 [vL A33 (l32) c34, vI (n35), vW (n37)] 84]) 1 rfl
    exact bodyPost_ret hres139 hf.defers ⟨A33, c34, rfl, hM.fin, (hM.dat (k := 0) rfl), hv36, hv38, hv40, hv42, hv44⟩

set_option maxRecDepth 100000 in
set_option maxHeartbeats 4000000 in
theorem r_spec_l00In (C : Cx) (n1 : Int) (hp2 : R64 n1) (low3 : Int) (hp4 : R64 low3) (high5 : Int) (hp6 : R64 high5) (r : Bool) (h : m_spec_l00In n1 low3 high5 = some r) :
    Calls Tryz.prog 55 #[vI (n1), vI (low3), vI (high5)] C.w0 fun e w => e = .returned (.bool (r)) ∧ Mem C w [] [] := by
  have hM := Mem.begin C [] trivial
  refine enter Tryz.func55 rfl Tryz.ntmps55 rfl fun a hf => ?_
  unfold m_spec_l00In at h
  refine wp_seq ?_
  refine region_pl ?_
  refine q_ hf rfl rfl rfl (e_assign hf rfl) fun a hf => ?_
  refine pl_nil ?_
  refine then_n ?_
  obtain ⟨x9, h10, h⟩ := bind_some h
  refine seq_join (fun a w => ∃ (t7 : Bool), t7 = x9 ∧ Has 15 a [(6, .bool (t7))] ∧ Mem C w [] []) ?_ ?_
  · refine region_pl ?_
    refine q_ hf rfl rfl rfl (e_move hf rfl) fun a hf => ?_
    refine q_ hf rfl rfl rfl (e_move hf rfl) fun a hf => ?_
    refine q_ hf rfl rfl rfl (e_ge hf (x := n1) (y := low3) rfl rfl) fun a hf => ?_
    refine q_ hf rfl rfl rfl (e_move hf rfl) fun a hf => ?_
    rcases cond_some h10 with ⟨hc11, h10⟩ | ⟨hc11, h10⟩
    · refine gq (wanted_t hf rfl rfl rfl rfl hc11) hf rfl rfl (e_move hf rfl) fun a hf => ?_
      refine gq (wanted_t hf rfl rfl rfl rfl hc11) hf rfl rfl (e_move hf rfl) fun a hf => ?_
      refine gq (wanted_t hf rfl rfl rfl rfl hc11) hf rfl rfl (e_le hf (x := n1) (y := high5) rfl rfl) fun a hf => ?_
      refine q_ hf rfl rfl rfl (e_pick_t hf rfl hc11 rfl) fun a hf => ?_
      refine q_ hf rfl rfl rfl (e_assign hf rfl) fun a hf => ?_
      refine pl_nil ?_
      obtain rfl := some_inj h10
      refine then_n ?_
      exact ⟨(decide (n1 ≤ high5)), rfl, hf.keep ⟨rfl, trivial⟩, hM.pick [] rfl⟩
    · refine pl_gs (wanted_f hf rfl rfl rfl rfl hc11) hf rfl rfl fun a hf => ?_
      refine pl_gs (wanted_f hf rfl rfl rfl rfl hc11) hf rfl rfl fun a hf => ?_
      refine pl_gs (wanted_f hf rfl rfl rfl rfl hc11) hf rfl rfl fun a hf => ?_
      refine q_ hf rfl rfl rfl (e_pick_f hf rfl hc11 rfl) fun a hf => ?_
      refine q_ hf rfl rfl rfl (e_assign hf rfl) fun a hf => ?_
      refine pl_nil ?_
      obtain rfl := some_inj h10
      refine then_n ?_
      exact ⟨false, rfl, hf.keep ⟨rfl, trivial⟩, hM.pick [] rfl⟩
  · rintro a w14 ⟨t7, rfl, hf, hM⟩
    try dsimp only at h
    refine wp_ret ?_
    obtain rfl := some_inj h
    exact leave1 hf rfl rfl ⟨rfl, hM.fin⟩

set_option maxRecDepth 100000 in
set_option maxHeartbeats 4000000 in
theorem r_spec_l01Small (C : Cx) (c1 : UInt8) (r : Bool) (h : m_spec_l01Small c1 = some r) :
    Calls Tryz.prog 64 #[vB (c1)] C.w0 fun e w => e = .returned (.bool (r)) ∧ Mem C w [] [] := by
  have hM := Mem.begin C [] trivial
  refine enter Tryz.func64 rfl Tryz.ntmps64 rfl fun a hf => ?_
  unfold m_spec_l01Small at h
  refine wp_seq ?_
  refine region_pl ?_
  refine q_ hf rfl rfl rfl (e_assign hf rfl) fun a hf => ?_
  refine pl_nil ?_
  refine then_n ?_
  obtain ⟨x4, h5, h⟩ := bind_some h
  refine seq_join (fun a w => ∃ (t2 : Bool), t2 = x4 ∧ Has 9 a [(2, .bool (t2))] ∧ Mem C w [] []) ?_ ?_
  · refine region_pl ?_
    refine q_ hf rfl rfl rfl (e_move hf rfl) fun a hf => ?_
    refine q_ hf rfl rfl rfl (e_geB hf (x := c1) (y := 97) rfl rfl) fun a hf => ?_
    refine q_ hf rfl rfl rfl (e_move hf rfl) fun a hf => ?_
    rcases cond_some h5 with ⟨hc6, h5⟩ | ⟨hc6, h5⟩
    · refine gq (wanted_t hf rfl rfl rfl rfl hc6) hf rfl rfl (e_move hf rfl) fun a hf => ?_
      refine gq (wanted_t hf rfl rfl rfl rfl hc6) hf rfl rfl (e_leB hf (x := c1) (y := 122) rfl rfl) fun a hf => ?_
      refine q_ hf rfl rfl rfl (e_pick_t hf rfl hc6 rfl) fun a hf => ?_
      refine q_ hf rfl rfl rfl (e_assign hf rfl) fun a hf => ?_
      refine pl_nil ?_
      obtain rfl := some_inj h5
      refine then_n ?_
      exact ⟨(decide (c1 ≤ 122)), rfl, hf.keep ⟨rfl, trivial⟩, hM.pick [] rfl⟩
    · refine pl_gs (wanted_f hf rfl rfl rfl rfl hc6) hf rfl rfl fun a hf => ?_
      refine pl_gs (wanted_f hf rfl rfl rfl rfl hc6) hf rfl rfl fun a hf => ?_
      refine q_ hf rfl rfl rfl (e_pick_f hf rfl hc6 rfl) fun a hf => ?_
      refine q_ hf rfl rfl rfl (e_assign hf rfl) fun a hf => ?_
      refine pl_nil ?_
      obtain rfl := some_inj h5
      refine then_n ?_
      exact ⟨false, rfl, hf.keep ⟨rfl, trivial⟩, hM.pick [] rfl⟩
  · rintro a w9 ⟨t2, rfl, hf, hM⟩
    try dsimp only at h
    refine wp_ret ?_
    obtain rfl := some_inj h
    exact leave1 hf rfl rfl ⟨rfl, hM.fin⟩

set_option maxRecDepth 100000 in
set_option maxHeartbeats 4000000 in
theorem r_spec_l25Ok (C : Cx) (g1 : Grid) (b2 : Nat) (o3 : Nat) (hp4 : (ptrRep GridRep).R C.w0 C.S0 g1 [vP b2 o3]) (r : Bool) (h : m_spec_l25Ok g1 = some r) :
    Calls Tryz.prog 40 #[vP b2 (o3)] C.w0 fun e w => e = .returned (.bool (r)) ∧ Mem C w [] [] := by
  have hM := Mem.begin C [.dat (ptrRep GridRep) g1 [vP b2 o3]] ⟨hp4, trivial⟩
  refine enter Tryz.func40 rfl Tryz.ntmps40 rfl fun a hf => ?_
  unfold m_spec_l25Ok at h
  refine wp_seq ?_
  refine region_pl ?_
  refine q_ hf rfl rfl rfl (e_assign hf rfl) fun a hf => ?_
  refine pl_nil ?_
  refine then_n ?_
  refine wp_seq ?_
  obtain ⟨x7, h8, h⟩ := bind_some h
  refine seq_join (fun a w => ∃ (t5 : Bool), t5 = x7 ∧ Has 70 a [(0, vP b2 (o3)), (34, .bool (t5))] ∧ Mem C w [] [.dat (ptrRep GridRep) g1 [vP b2 o3]]) ?_ ?_
  · obtain ⟨w9, hw⟩ : ∃ x, x = C.w0.drew := ⟨_, rfl⟩
    refine region_pi (.q 0 (.q 1 (.q 2 (.q 3 (.l 4 (.q 5 (.q 6 (.q 7 (.q 8 (.q 9 (.q 10 (.l 11 (.q 12 (.q 13 (.q 14 (.q 15 (.q 16 (.q 17 (.q 18 (.q 19 (.q 20 (.q 21 (.q 22 (.q 23 (.q 24 (.q 25 (.q 26 (.q 27 (.q 28 (.q 29 (.q 30 (.nil)))))))))))))))))))))))))))))))) (Ext w9) rfl (by kernel_rfl) ?_
    have hM := hM.drew
    rw [← hw] at hM ⊢
    clear hw
    refine pi_q hf rfl rfl rfl rfl (Ext.refl _) (e_move hf rfl) fun a hf => ?_
    refine pi_q hf rfl rfl rfl rfl (Ext.refl _) (e_nil hf rfl) fun a hf => ?_
    obtain ⟨_, hr10, hM⟩ := hM.deref (hM.dat (k := 0) rfl)
    obtain ⟨rfl, hv11, hv12, hv13⟩ := GridRep_open hr10
    refine pi_q hf rfl rfl rfl rfl (Ext.refl _) (e_field hf rfl Tryz.underlying25 rfl Tryz.sizeOf2 (o' := o3 + 0) rfl) fun a hf => ?_
    refine pi_q hf rfl rfl rfl rfl (Ext.refl _) (e_load1 hf rfl Tryz.isAgg2 (hM.litCell (k := 0) (j := 0) rfl rfl rfl)) fun a hf => ?_
    refine pi_one ?_
    obtain ⟨y14, hz15, h8⟩ := bind_some h8
    refine pi_l hf rfl rfl rfl rfl (w_call hf Tryz.call55 rfl (r_spec_l00In ⟨_, Sh C _ _, none_, hM.sh_lt, none_not, C.G, hM.g_lt, g_none, hM.tabs⟩ g1.Rows hv11 1 (R64_lit rfl) 5 (R64_lit rfl) _ hz15) ?_)
    rintro _ w16 ⟨rfl, hM2⟩
    obtain ⟨hM, hx17, hup18⟩ := hM.back hM2
    dsimp only [List.cons_append, List.nil_append] at hM hup18
    clear hM2
    refine ⟨_, rfl, Ext w16, fun _ h => Ext.trans hx17 h, Ext.refl _, fun a hf => ?_⟩
    refine pi_q hf rfl rfl rfl rfl (Ext.refl _) (e_not hf rfl) fun a hf => ?_
    refine pi_q hf rfl rfl rfl rfl (Ext.refl _) (e_move hf rfl) fun a hf => ?_
    rcases cond_some h8 with ⟨hc19, h8⟩ | ⟨hc19, h8⟩
    · refine pi_gs hf rfl (wanted_f hf rfl rfl rfl rfl hc19) rfl rfl (Ext.refl _) fun a hf => ?_
      refine pi_gs hf rfl (wanted_f hf rfl rfl rfl rfl hc19) rfl rfl (Ext.refl _) fun a hf => ?_
      refine pi_gs hf rfl (wanted_f hf rfl rfl rfl rfl hc19) rfl rfl (Ext.refl _) fun a hf => ?_
      refine pi_gs hf rfl (wanted_f hf rfl rfl rfl rfl hc19) rfl rfl (Ext.refl _) fun a hf => ?_
      refine pi_one ?_
      refine pi_ls hf rfl (wanted_f hf rfl rfl rfl rfl hc19) rfl rfl (Ext.refl _) fun a hf => ?_
      refine pi_gs hf rfl (wanted_f hf rfl rfl rfl rfl hc19) rfl rfl (Ext.refl _) fun a hf => ?_
      refine pi_q hf rfl rfl rfl rfl (Ext.refl _) (e_pick_t hf rfl hc19 rfl) fun a hf => ?_
      refine pi_q hf rfl rfl rfl rfl (Ext.refl _) (e_move hf rfl) fun a hf => ?_
      refine pi_gs hf rfl (wanted_f hf rfl rfl rfl rfl rfl) rfl rfl (Ext.refl _) fun a hf => ?_
      refine pi_gs hf rfl (wanted_f hf rfl rfl rfl rfl rfl) rfl rfl (Ext.refl _) fun a hf => ?_
      refine pi_gs hf rfl (wanted_f hf rfl rfl rfl rfl rfl) rfl rfl (Ext.refl _) fun a hf => ?_
      refine pi_gs hf rfl (wanted_f hf rfl rfl rfl rfl rfl) rfl rfl (Ext.refl _) fun a hf => ?_
      refine pi_gs hf rfl (wanted_f hf rfl rfl rfl rfl rfl) rfl rfl (Ext.refl _) fun a hf => ?_
      refine pi_gs hf rfl (wanted_f hf rfl rfl rfl rfl rfl) rfl rfl (Ext.refl _) fun a hf => ?_
      refine pi_gs hf rfl (wanted_f hf rfl rfl rfl rfl rfl) rfl rfl (Ext.refl _) fun a hf => ?_
      refine pi_gs hf rfl (wanted_f hf rfl rfl rfl rfl rfl) rfl rfl (Ext.refl _) fun a hf => ?_
      refine pi_gs hf rfl (wanted_f hf rfl rfl rfl rfl rfl) rfl rfl (Ext.refl _) fun a hf => ?_
      refine pi_gs hf rfl (wanted_f hf rfl rfl rfl rfl rfl) rfl rfl (Ext.refl _) fun a hf => ?_
      refine pi_gs hf rfl (wanted_f hf rfl rfl rfl rfl rfl) rfl rfl (Ext.refl _) fun a hf => ?_
      refine pi_gs hf rfl (wanted_f hf rfl rfl rfl rfl rfl) rfl rfl (Ext.refl _) fun a hf => ?_
      refine pi_gs hf rfl (wanted_f hf rfl rfl rfl rfl rfl) rfl rfl (Ext.refl _) fun a hf => ?_
      refine pi_gs hf rfl (wanted_f hf rfl rfl rfl rfl rfl) rfl rfl (Ext.refl _) fun a hf => ?_
      refine pi_gs hf rfl (wanted_f hf rfl rfl rfl rfl rfl) rfl rfl (Ext.refl _) fun a hf => ?_
      refine pi_q hf rfl rfl rfl rfl (Ext.refl _) (e_pick_t hf rfl rfl rfl) fun a hf => ?_
      refine pi_nil ?_
      obtain rfl := some_inj h8
      refine then_n ?_
      exact ⟨true, rfl, hf.keep ⟨rfl, rfl, trivial⟩, hM.pick [1] rfl⟩
    · refine pi_gq hf rfl (wanted_t hf rfl rfl rfl rfl hc19) rfl rfl (Ext.refl _) (e_move hf rfl) fun a hf => ?_
      refine pi_gq hf rfl (wanted_t hf rfl rfl rfl rfl hc19) rfl rfl (Ext.refl _) (e_nil hf rfl) fun a hf => ?_
      refine pi_gq hf rfl (wanted_t hf rfl rfl rfl rfl hc19) rfl rfl (Ext.refl _) (e_field hf rfl Tryz.underlying25 rfl Tryz.sizeOf2 (o' := o3 + 1) rfl) fun a hf => ?_
      refine pi_gq hf rfl (wanted_t hf rfl rfl rfl rfl hc19) rfl rfl (Ext.refl _) (e_load1 hf rfl Tryz.isAgg2 (hM.litCell (k := 0) (j := 1) rfl rfl rfl)) fun a hf => ?_
      refine pi_one ?_
      obtain ⟨y21, hz22, h8⟩ := bind_some h8
      refine pi_gl hf rfl (wanted_t hf rfl rfl rfl rfl hc19) rfl rfl (w_call hf Tryz.call55 rfl (r_spec_l00In ⟨_, Sh C _ _, none_, hM.sh_lt, none_not, C.G, hM.g_lt, g_none, hM.tabs⟩ g1.Cols hv12 1 (R64_lit rfl) 5 (R64_lit rfl) _ hz22) ?_)
      rintro _ w23 ⟨rfl, hM2⟩
      obtain ⟨hM, hx24, hup25⟩ := hM.back hM2
      dsimp only [List.cons_append, List.nil_append] at hM hup25
      clear hM2
      refine ⟨_, rfl, Ext w23, fun _ h => Ext.trans hx24 h, Ext.refl _, fun a hf => ?_⟩
      refine pi_gq hf rfl (wanted_t hf rfl rfl rfl rfl hc19) rfl rfl (Ext.refl _) (e_not hf rfl) fun a hf => ?_
      refine pi_q hf rfl rfl rfl rfl (Ext.refl _) (e_pick_f hf rfl hc19 rfl) fun a hf => ?_
      refine pi_q hf rfl rfl rfl rfl (Ext.refl _) (e_move hf rfl) fun a hf => ?_
      rcases cond_some h8 with ⟨hc26, h8⟩ | ⟨hc26, h8⟩
      · refine pi_gs hf rfl (wanted_f hf rfl rfl rfl rfl hc26) rfl rfl (Ext.refl _) fun a hf => ?_
        refine pi_gs hf rfl (wanted_f hf rfl rfl rfl rfl hc26) rfl rfl (Ext.refl _) fun a hf => ?_
        refine pi_gs hf rfl (wanted_f hf rfl rfl rfl rfl hc26) rfl rfl (Ext.refl _) fun a hf => ?_
        refine pi_gs hf rfl (wanted_f hf rfl rfl rfl rfl hc26) rfl rfl (Ext.refl _) fun a hf => ?_
        refine pi_gs hf rfl (wanted_f hf rfl rfl rfl rfl hc26) rfl rfl (Ext.refl _) fun a hf => ?_
        refine pi_gs hf rfl (wanted_f hf rfl rfl rfl rfl hc26) rfl rfl (Ext.refl _) fun a hf => ?_
        refine pi_gs hf rfl (wanted_f hf rfl rfl rfl rfl hc26) rfl rfl (Ext.refl _) fun a hf => ?_
        refine pi_gs hf rfl (wanted_f hf rfl rfl rfl rfl hc26) rfl rfl (Ext.refl _) fun a hf => ?_
        refine pi_gs hf rfl (wanted_f hf rfl rfl rfl rfl hc26) rfl rfl (Ext.refl _) fun a hf => ?_
        refine pi_gs hf rfl (wanted_f hf rfl rfl rfl rfl hc26) rfl rfl (Ext.refl _) fun a hf => ?_
        refine pi_gs hf rfl (wanted_f hf rfl rfl rfl rfl hc26) rfl rfl (Ext.refl _) fun a hf => ?_
        refine pi_gs hf rfl (wanted_f hf rfl rfl rfl rfl hc26) rfl rfl (Ext.refl _) fun a hf => ?_
        refine pi_gs hf rfl (wanted_f hf rfl rfl rfl rfl hc26) rfl rfl (Ext.refl _) fun a hf => ?_
        refine pi_gs hf rfl (wanted_f hf rfl rfl rfl rfl hc26) rfl rfl (Ext.refl _) fun a hf => ?_
        refine pi_gs hf rfl (wanted_f hf rfl rfl rfl rfl hc26) rfl rfl (Ext.refl _) fun a hf => ?_
        refine pi_q hf rfl rfl rfl rfl (Ext.refl _) (e_pick_t hf rfl hc26 rfl) fun a hf => ?_
        refine pi_nil ?_
        obtain rfl := some_inj h8
        refine then_n ?_
        exact ⟨true, rfl, hf.keep ⟨rfl, rfl, trivial⟩, hM.pick [1] rfl⟩
      · refine pi_gq hf rfl (wanted_t hf rfl rfl rfl rfl hc26) rfl rfl (Ext.refl _) (e_move hf rfl) fun a hf => ?_
        refine pi_gq hf rfl (wanted_t hf rfl rfl rfl rfl hc26) rfl rfl (Ext.refl _) (e_nil hf rfl) fun a hf => ?_
        refine pi_gq hf rfl (wanted_t hf rfl rfl rfl rfl hc26) rfl rfl (Ext.refl _) (e_field hf rfl Tryz.underlying25 rfl Tryz.sizeOf9 (o' := o3 + 2) rfl) fun a hf => ?_
        refine pi_gq hf rfl (wanted_t hf rfl rfl rfl rfl hc26) rfl rfl (Ext.refl _) (e_load1 hf rfl Tryz.isAgg9 (hM.litCell (k := 0) (j := 2) rfl rfl rfl)) fun a hf => ?_
        refine pi_gq hf rfl (wanted_t hf rfl rfl rfl rfl hc26) rfl rfl (Ext.refl _) (e_lenS hf (x := g1.Cells) rfl Tryz.underlying9) fun a hf => ?_
        refine pi_gq hf rfl (wanted_t hf rfl rfl rfl rfl hc26) rfl rfl (Ext.refl _) (e_move hf rfl) fun a hf => ?_
        refine pi_gq hf rfl (wanted_t hf rfl rfl rfl rfl hc26) rfl rfl (Ext.refl _) (e_nil hf rfl) fun a hf => ?_
        refine pi_gq hf rfl (wanted_t hf rfl rfl rfl rfl hc26) rfl rfl (Ext.refl _) (e_field hf rfl Tryz.underlying25 rfl Tryz.sizeOf2 (o' := o3 + 0) rfl) fun a hf => ?_
        refine pi_gq hf rfl (wanted_t hf rfl rfl rfl rfl hc26) rfl rfl (Ext.refl _) (e_load1 hf rfl Tryz.isAgg2 (hM.litCell (k := 0) (j := 0) rfl rfl rfl)) fun a hf => ?_
        refine pi_gq hf rfl (wanted_t hf rfl rfl rfl rfl hc26) rfl rfl (Ext.refl _) (e_move hf rfl) fun a hf => ?_
        refine pi_gq hf rfl (wanted_t hf rfl rfl rfl rfl hc26) rfl rfl (Ext.refl _) (e_nil hf rfl) fun a hf => ?_
        refine pi_gq hf rfl (wanted_t hf rfl rfl rfl rfl hc26) rfl rfl (Ext.refl _) (e_field hf rfl Tryz.underlying25 rfl Tryz.sizeOf2 (o' := o3 + 1) rfl) fun a hf => ?_
        refine pi_gq hf rfl (wanted_t hf rfl rfl rfl rfl hc26) rfl rfl (Ext.refl _) (e_load1 hf rfl Tryz.isAgg2 (hM.litCell (k := 0) (j := 1) rfl rfl rfl)) fun a hf => ?_
        obtain ⟨z28, hz29, h8⟩ := bind_some h8
        refine pi_gq hf rfl (wanted_t hf rfl rfl rfl rfl hc26) rfl rfl (Ext.refl _) (e_mul hf rfl rfl hz29) fun a hf => ?_
        refine pi_gq hf rfl (wanted_t hf rfl rfl rfl rfl hc26) rfl rfl (Ext.refl _) (e_ne hf (x := (g1.Cells.length : Int)) (y := z28) rfl rfl) fun a hf => ?_
        refine pi_q hf rfl rfl rfl rfl (Ext.refl _) (e_pick_f hf rfl hc26 rfl) fun a hf => ?_
        refine pi_nil ?_
        obtain rfl := some_inj h8
        refine then_n ?_
        exact ⟨((g1.Cells.length : Int) != z28), rfl, hf.keep ⟨rfl, rfl, trivial⟩, hM.pick [1] rfl⟩
  · rintro a w31 ⟨t5, rfl, hf, hM⟩
    try dsimp only at h
    rcases cond_some h with ⟨hc32, h⟩ | ⟨hc32, h⟩
    · refine cond_t hf rfl hc32 ?_
      refine wp_seq ?_
      refine region_pl ?_
      refine q_ hf rfl rfl rfl (e_assign hf rfl) fun a hf => ?_
      refine pl_nil ?_
      refine then_n ?_
      refine wp_ret ?_
      refine then_r ?_
      obtain rfl := some_inj h
      exact leave1 hf rfl rfl ⟨rfl, hM.fin⟩
    · refine cond_f hf rfl hc32 ?_
      refine wp_skip ?_
      refine then_n ?_
      obtain ⟨x33, h34, h⟩ := bind_some h
      refine seq_join (fun a w => (.inl ()) = x33 ∧ Has 70 a [] ∧ Mem C w [] [.dat (ptrRep GridRep) g1 [vP b2 o3]]) ?_ ?_
      · refine wp_seq ?_
        refine region_pl ?_
        refine q_ hf rfl rfl rfl (e_assign hf rfl) fun a hf => ?_
        refine pl_nil ?_
        refine then_n ?_
        refine wp_block ?_
        obtain ⟨x38, h39, h34⟩ := bind_some h34
        refine wp_loopM h39 (fun s a w => ∃ (n35 : Int), n35 = s ∧ Has 70 a [(0, vP b2 (o3)), (3, vI (n35))] ∧ Mem C w [] [.dat (ptrRep GridRep) g1 [vP b2 o3]] ∧ R64 n35) ?_ ?_
        · exact ⟨0, rfl, hf.keep ⟨rfl, rfl, trivial⟩, hM.pick [0] rfl, (R64_lit rfl)⟩
        · rintro s o40 a w37 ⟨n35, rfl, hf, hM, hv36⟩ h41 hd42
          replace h41 : m_spec_l25Ok_l1 g1 n35 = some o40 := h41
          unfold m_spec_l25Ok_l1 at h41
          refine wp_seq ?_
          refine wp_seq ?_
          refine region_pl ?_
          refine q_ hf rfl rfl rfl (e_move hf rfl) fun a hf => ?_
          refine q_ hf rfl rfl rfl (e_move hf rfl) fun a hf => ?_
          refine q_ hf rfl rfl rfl (e_nil hf rfl) fun a hf => ?_
          obtain ⟨_, hr43, hM⟩ := hM.deref (hM.dat (k := 0) rfl)
          obtain ⟨rfl, hv44, hv45, hv46⟩ := GridRep_open hr43
          refine q_ hf rfl rfl rfl (e_field hf rfl Tryz.underlying25 rfl Tryz.sizeOf9 (o' := o3 + 2) rfl) fun a hf => ?_
          refine q_ hf rfl rfl rfl (e_load1 hf rfl Tryz.isAgg9 (hM.litCell (k := 0) (j := 2) rfl rfl rfl)) fun a hf => ?_
          refine q_ hf rfl rfl rfl (e_lenS hf (x := g1.Cells) rfl Tryz.underlying9) fun a hf => ?_
          refine q_ hf rfl rfl rfl (e_lt hf (x := n35) (y := (g1.Cells.length : Int)) rfl rfl) fun a hf => ?_
          refine pl_nil ?_
          refine then_n ?_
          rcases cond_some h41 with ⟨hc47, h41⟩ | ⟨hc47, h41⟩
          · refine cond_t hf rfl hc47 ?_
            refine wp_skip ?_
            refine then_n ?_
            refine wp_seq ?_
            refine wp_block ?_
            obtain ⟨x50, h51, h41⟩ := bind_some h41
            refine seq_join (fun a w => ∃ (t48 : Bool), t48 = x50 ∧ Has 70 a [(0, vP b2 (o3)), (3, vI (n35)), (69, .bool (t48))] ∧ Mem C w [] [.lit b2 (o3) [vI (g1.Rows), vI (g1.Cols), vS (g1.Cells)], .dat (ptrRep GridRep) g1 [vP b2 o3]]) ?_ ?_
            · refine region_pl ?_
              refine q_ hf rfl rfl rfl (e_move hf rfl) fun a hf => ?_
              refine q_ hf rfl rfl rfl (e_nil hf rfl) fun a hf => ?_
              refine q_ hf rfl rfl rfl (e_field hf rfl Tryz.underlying25 rfl Tryz.sizeOf9 (o' := o3 + 2) rfl) fun a hf => ?_
              refine q_ hf rfl rfl rfl (e_load1 hf rfl Tryz.isAgg9 (hM.litCell (k := 0) (j := 2) rfl rfl rfl)) fun a hf => ?_
              refine q_ hf rfl rfl rfl (e_move hf rfl) fun a hf => ?_
              obtain ⟨c52, hz53, h51⟩ := bind_some h51
              refine q_ hf rfl rfl rfl (e_indexS hf (x := g1.Cells) rfl rfl Tryz.underlying9 hz53) fun a hf => ?_
              refine q_ hf rfl rfl rfl (e_neB hf (x := c52) (y := 35) rfl rfl) fun a hf => ?_
              refine q_ hf rfl rfl rfl (e_move hf rfl) fun a hf => ?_
              rcases cond_some h51 with ⟨hc54, h51⟩ | ⟨hc54, h51⟩
              · refine gq (wanted_t hf rfl rfl rfl rfl hc54) hf rfl rfl (e_move hf rfl) fun a hf => ?_
                refine gq (wanted_t hf rfl rfl rfl rfl hc54) hf rfl rfl (e_nil hf rfl) fun a hf => ?_
                refine gq (wanted_t hf rfl rfl rfl rfl hc54) hf rfl rfl (e_field hf rfl Tryz.underlying25 rfl Tryz.sizeOf9 (o' := o3 + 2) rfl) fun a hf => ?_
                refine gq (wanted_t hf rfl rfl rfl rfl hc54) hf rfl rfl (e_load1 hf rfl Tryz.isAgg9 (hM.litCell (k := 0) (j := 2) rfl rfl rfl)) fun a hf => ?_
                refine gq (wanted_t hf rfl rfl rfl rfl hc54) hf rfl rfl (e_move hf rfl) fun a hf => ?_
                obtain ⟨c55, hz56, h51⟩ := bind_some h51
                refine gq (wanted_t hf rfl rfl rfl rfl hc54) hf rfl rfl (e_indexS hf (x := g1.Cells) rfl rfl Tryz.underlying9 hz56) fun a hf => ?_
                refine gq (wanted_t hf rfl rfl rfl rfl hc54) hf rfl rfl (e_neB hf (x := c55) (y := 46) rfl rfl) fun a hf => ?_
                refine q_ hf rfl rfl rfl (e_pick_t hf rfl hc54 rfl) fun a hf => ?_
                refine q_ hf rfl rfl rfl (e_move hf rfl) fun a hf => ?_
                rcases cond_some h51 with ⟨hc57, h51⟩ | ⟨hc57, h51⟩
                · refine gq (wanted_t hf rfl rfl rfl rfl hc57) hf rfl rfl (e_move hf rfl) fun a hf => ?_
                  refine gq (wanted_t hf rfl rfl rfl rfl hc57) hf rfl rfl (e_nil hf rfl) fun a hf => ?_
                  refine gq (wanted_t hf rfl rfl rfl rfl hc57) hf rfl rfl (e_field hf rfl Tryz.underlying25 rfl Tryz.sizeOf9 (o' := o3 + 2) rfl) fun a hf => ?_
                  refine gq (wanted_t hf rfl rfl rfl rfl hc57) hf rfl rfl (e_load1 hf rfl Tryz.isAgg9 (hM.litCell (k := 0) (j := 2) rfl rfl rfl)) fun a hf => ?_
                  refine gq (wanted_t hf rfl rfl rfl rfl hc57) hf rfl rfl (e_move hf rfl) fun a hf => ?_
                  obtain ⟨c58, hz59, h51⟩ := bind_some h51
                  refine gq (wanted_t hf rfl rfl rfl rfl hc57) hf rfl rfl (e_indexS hf (x := g1.Cells) rfl rfl Tryz.underlying9 hz59) fun a hf => ?_
                  obtain ⟨y60, hz61, h51⟩ := bind_some h51
                  refine pl_gl (wanted_t hf rfl rfl rfl rfl hc57) hf rfl rfl (w_call hf Tryz.call64 rfl (r_spec_l01Small ⟨_, Sh C _ _, none_, hM.sh_lt, none_not, C.G, hM.g_lt, g_none, hM.tabs⟩ c58 _ hz61) ?_)
                  rintro _ w62 ⟨rfl, hM2⟩
                  obtain ⟨hM, hx63, hup64⟩ := hM.back hM2
                  dsimp only [List.cons_append, List.nil_append] at hM hup64
                  clear hM2
                  refine ⟨_, rfl, fun a hf => ?_⟩
                  refine gq (wanted_t hf rfl rfl rfl rfl hc57) hf rfl rfl (e_not hf rfl) fun a hf => ?_
                  refine q_ hf rfl rfl rfl (e_pick_t hf rfl hc57 rfl) fun a hf => ?_
                  refine pl_nil ?_
                  obtain rfl := some_inj h51
                  refine then_n ?_
                  exact ⟨(!y60), rfl, hf.keep ⟨rfl, rfl, rfl, trivial⟩, hM.pick [0, 1] rfl⟩
                · refine pl_gs (wanted_f hf rfl rfl rfl rfl hc57) hf rfl rfl fun a hf => ?_
                  refine pl_gs (wanted_f hf rfl rfl rfl rfl hc57) hf rfl rfl fun a hf => ?_
                  refine pl_gs (wanted_f hf rfl rfl rfl rfl hc57) hf rfl rfl fun a hf => ?_
                  refine pl_gs (wanted_f hf rfl rfl rfl rfl hc57) hf rfl rfl fun a hf => ?_
                  refine pl_gs (wanted_f hf rfl rfl rfl rfl hc57) hf rfl rfl fun a hf => ?_
                  refine pl_gs (wanted_f hf rfl rfl rfl rfl hc57) hf rfl rfl fun a hf => ?_
                  refine pl_gs (wanted_f hf rfl rfl rfl rfl hc57) hf rfl rfl fun a hf => ?_
                  refine pl_gs (wanted_f hf rfl rfl rfl rfl hc57) hf rfl rfl fun a hf => ?_
                  refine q_ hf rfl rfl rfl (e_pick_f hf rfl hc57 rfl) fun a hf => ?_
                  refine pl_nil ?_
                  obtain rfl := some_inj h51
                  refine then_n ?_
                  exact ⟨false, rfl, hf.keep ⟨rfl, rfl, rfl, trivial⟩, hM.pick [0, 1] rfl⟩
              · refine pl_gs (wanted_f hf rfl rfl rfl rfl hc54) hf rfl rfl fun a hf => ?_
                refine pl_gs (wanted_f hf rfl rfl rfl rfl hc54) hf rfl rfl fun a hf => ?_
                refine pl_gs (wanted_f hf rfl rfl rfl rfl hc54) hf rfl rfl fun a hf => ?_
                refine pl_gs (wanted_f hf rfl rfl rfl rfl hc54) hf rfl rfl fun a hf => ?_
                refine pl_gs (wanted_f hf rfl rfl rfl rfl hc54) hf rfl rfl fun a hf => ?_
                refine pl_gs (wanted_f hf rfl rfl rfl rfl hc54) hf rfl rfl fun a hf => ?_
                refine pl_gs (wanted_f hf rfl rfl rfl rfl hc54) hf rfl rfl fun a hf => ?_
                refine q_ hf rfl rfl rfl (e_pick_f hf rfl hc54 rfl) fun a hf => ?_
                refine q_ hf rfl rfl rfl (e_move hf rfl) fun a hf => ?_
                refine pl_gs (wanted_f hf rfl rfl rfl rfl rfl) hf rfl rfl fun a hf => ?_
                refine pl_gs (wanted_f hf rfl rfl rfl rfl rfl) hf rfl rfl fun a hf => ?_
                refine pl_gs (wanted_f hf rfl rfl rfl rfl rfl) hf rfl rfl fun a hf => ?_
                refine pl_gs (wanted_f hf rfl rfl rfl rfl rfl) hf rfl rfl fun a hf => ?_
                refine pl_gs (wanted_f hf rfl rfl rfl rfl rfl) hf rfl rfl fun a hf => ?_
                refine pl_gs (wanted_f hf rfl rfl rfl rfl rfl) hf rfl rfl fun a hf => ?_
                refine pl_gs (wanted_f hf rfl rfl rfl rfl rfl) hf rfl rfl fun a hf => ?_
                refine pl_gs (wanted_f hf rfl rfl rfl rfl rfl) hf rfl rfl fun a hf => ?_
                refine q_ hf rfl rfl rfl (e_pick_f hf rfl rfl rfl) fun a hf => ?_
                refine pl_nil ?_
                obtain rfl := some_inj h51
                refine then_n ?_
                exact ⟨false, rfl, hf.keep ⟨rfl, rfl, rfl, trivial⟩, hM.pick [0, 1] rfl⟩
            · rintro a w68 ⟨t48, rfl, hf, hM⟩
              try dsimp only at h41
              rcases cond_some h41 with ⟨hc69, h41⟩ | ⟨hc69, h41⟩
              · refine cond_t hf rfl hc69 ?_
                refine wp_seq ?_
                refine region_pl ?_
                refine q_ hf rfl rfl rfl (e_assign hf rfl) fun a hf => ?_
                refine pl_nil ?_
                refine then_n ?_
                refine wp_ret ?_
                refine blk_r ?_
                refine then_r ?_
                obtain rfl := some_inj h41
                obtain rfl := hd42 _ rfl
                try dsimp only at h34
                refine then_r ?_
                refine blk_r ?_
                obtain rfl := some_inj h34
                try dsimp only at h
                refine then_r ?_
                obtain rfl := some_inj h
                exact leave1 hf rfl rfl ⟨rfl, hM.fin⟩
              · refine cond_f hf rfl hc69 ?_
                refine wp_skip ?_
                refine blk_n ?_
                refine then_n ?_
                refine region_pl ?_
                refine q_ hf rfl rfl rfl (e_move hf rfl) fun a hf => ?_
                obtain ⟨z70, hz71, h41⟩ := bind_some h41
                refine q_ hf rfl rfl rfl (e_add hf rfl rfl hz71) fun a hf => ?_
                refine q_ hf rfl rfl rfl (e_assign hf rfl) fun a hf => ?_
                refine pl_nil ?_
                obtain rfl := some_inj h41
                refine then_n ⟨_, rfl, ?_⟩
                exact ⟨z70, rfl, hf.keep ⟨rfl, rfl, trivial⟩, hM.pick [1] rfl, (chk_R hz71)⟩
          · refine cond_f hf rfl hc47 ?_
            refine wp_exit ?_
            refine then_x ?_
            obtain rfl := some_inj h41
            obtain rfl := hd42 _ rfl
            try dsimp only at h34
            refine then_x ?_
            refine exit_hit ?_
            obtain rfl := some_inj h34
            refine then_n ?_
            exact ⟨rfl, hf.keep trivial, hM.pick [1] rfl⟩
      · rintro a w78 ⟨rfl, hf, hM⟩
        try dsimp only at h
        refine wp_seq ?_
        refine region_pl ?_
        refine q_ hf rfl rfl rfl (e_assign hf rfl) fun a hf => ?_
        refine pl_nil ?_
        refine then_n ?_
        refine wp_ret ?_
        obtain rfl := some_inj h
        exact leave1 hf rfl rfl ⟨rfl, hM.fin⟩

set_option maxRecDepth 100000 in
set_option maxHeartbeats 4000000 in
theorem r_spec_l25At (C : Cx) (g1 : Grid) (b2 : Nat) (o3 : Nat) (hp4 : (ptrRep GridRep).R C.w0 C.S0 g1 [vP b2 o3]) (row5 : Int) (hp6 : R64 row5) (col7 : Int) (hp8 : R64 col7) (r : UInt8) (h : m_spec_l25At g1 row5 col7 = some r) :
    Calls Tryz.prog 80 #[vP b2 (o3), vI (row5), vI (col7)] C.w0 fun e w => e = .returned (vB (r)) ∧ Mem C w [] [] := by
  have hM := Mem.begin C [.dat (ptrRep GridRep) g1 [vP b2 o3]] ⟨hp4, trivial⟩
  refine enter Tryz.func80 rfl Tryz.ntmps80 rfl fun a hf => ?_
  unfold m_spec_l25At at h
  refine wp_seq ?_
  refine region_pl ?_
  refine q_ hf rfl rfl rfl (e_assign hf rfl) fun a hf => ?_
  refine pl_nil ?_
  refine then_n ?_
  refine wp_seq ?_
  obtain ⟨x11, h12, h⟩ := bind_some h
  refine seq_join (fun a w => ∃ (t9 : Bool), t9 = x11 ∧ Has 38 a [(0, vP b2 (o3)), (1, vI (row5)), (2, vI (col7)), (24, .bool (t9))] ∧ Mem C w [] [.dat (ptrRep GridRep) g1 [vP b2 o3]]) ?_ ?_
  · refine region_pl ?_
    refine q_ hf rfl rfl rfl (e_move hf rfl) fun a hf => ?_
    refine q_ hf rfl rfl rfl (e_move hf rfl) fun a hf => ?_
    refine q_ hf rfl rfl rfl (e_nil hf rfl) fun a hf => ?_
    obtain ⟨_, hr13, hM⟩ := hM.deref (hM.dat (k := 0) rfl)
    obtain ⟨rfl, hv14, hv15, hv16⟩ := GridRep_open hr13
    refine q_ hf rfl rfl rfl (e_field hf rfl Tryz.underlying25 rfl Tryz.sizeOf2 (o' := o3 + 0) rfl) fun a hf => ?_
    refine q_ hf rfl rfl rfl (e_load1 hf rfl Tryz.isAgg2 (hM.litCell (k := 0) (j := 0) rfl rfl rfl)) fun a hf => ?_
    obtain ⟨z17, hz18, h12⟩ := bind_some h12
    refine q_ hf rfl rfl rfl (e_sub hf rfl rfl hz18) fun a hf => ?_
    obtain ⟨y19, hz20, h12⟩ := bind_some h12
    refine pl_l hf rfl rfl rfl (w_call hf Tryz.call55 rfl (r_spec_l00In ⟨_, Sh C _ _, none_, hM.sh_lt, none_not, C.G, hM.g_lt, g_none, hM.tabs⟩ row5 hp6 0 (R64_lit rfl) z17 (chk_R hz18) _ hz20) ?_)
    rintro _ w21 ⟨rfl, hM2⟩
    obtain ⟨hM, hx22, hup23⟩ := hM.back hM2
    dsimp only [List.cons_append, List.nil_append] at hM hup23
    clear hM2
    refine ⟨_, rfl, fun a hf => ?_⟩
    refine q_ hf rfl rfl rfl (e_not hf rfl) fun a hf => ?_
    refine q_ hf rfl rfl rfl (e_move hf rfl) fun a hf => ?_
    rcases cond_some h12 with ⟨hc24, h12⟩ | ⟨hc24, h12⟩
    · refine pl_gs (wanted_f hf rfl rfl rfl rfl hc24) hf rfl rfl fun a hf => ?_
      refine pl_gs (wanted_f hf rfl rfl rfl rfl hc24) hf rfl rfl fun a hf => ?_
      refine pl_gs (wanted_f hf rfl rfl rfl rfl hc24) hf rfl rfl fun a hf => ?_
      refine pl_gs (wanted_f hf rfl rfl rfl rfl hc24) hf rfl rfl fun a hf => ?_
      refine pl_gs (wanted_f hf rfl rfl rfl rfl hc24) hf rfl rfl fun a hf => ?_
      refine pl_gs (wanted_f hf rfl rfl rfl rfl hc24) hf rfl rfl fun a hf => ?_
      refine pl_gs (wanted_f hf rfl rfl rfl rfl hc24) hf rfl rfl fun a hf => ?_
      refine pl_gs (wanted_f hf rfl rfl rfl rfl hc24) hf rfl rfl fun a hf => ?_
      refine q_ hf rfl rfl rfl (e_pick_t hf rfl hc24 rfl) fun a hf => ?_
      refine pl_nil ?_
      obtain rfl := some_inj h12
      refine then_n ?_
      exact ⟨true, rfl, hf.keep ⟨rfl, rfl, rfl, rfl, trivial⟩, hM.pick [1] rfl⟩
    · refine gq (wanted_t hf rfl rfl rfl rfl hc24) hf rfl rfl (e_move hf rfl) fun a hf => ?_
      refine gq (wanted_t hf rfl rfl rfl rfl hc24) hf rfl rfl (e_move hf rfl) fun a hf => ?_
      refine gq (wanted_t hf rfl rfl rfl rfl hc24) hf rfl rfl (e_nil hf rfl) fun a hf => ?_
      refine gq (wanted_t hf rfl rfl rfl rfl hc24) hf rfl rfl (e_field hf rfl Tryz.underlying25 rfl Tryz.sizeOf2 (o' := o3 + 1) rfl) fun a hf => ?_
      refine gq (wanted_t hf rfl rfl rfl rfl hc24) hf rfl rfl (e_load1 hf rfl Tryz.isAgg2 (hM.litCell (k := 0) (j := 1) rfl rfl rfl)) fun a hf => ?_
      obtain ⟨z26, hz27, h12⟩ := bind_some h12
      refine gq (wanted_t hf rfl rfl rfl rfl hc24) hf rfl rfl (e_sub hf rfl rfl hz27) fun a hf => ?_
      obtain ⟨y28, hz29, h12⟩ := bind_some h12
      refine pl_gl (wanted_t hf rfl rfl rfl rfl hc24) hf rfl rfl (w_call hf Tryz.call55 rfl (r_spec_l00In ⟨_, Sh C _ _, none_, hM.sh_lt, none_not, C.G, hM.g_lt, g_none, hM.tabs⟩ col7 hp8 0 (R64_lit rfl) z26 (chk_R hz27) _ hz29) ?_)
      rintro _ w30 ⟨rfl, hM2⟩
      obtain ⟨hM, hx31, hup32⟩ := hM.back hM2
      dsimp only [List.cons_append, List.nil_append] at hM hup32
      clear hM2
      refine ⟨_, rfl, fun a hf => ?_⟩
      refine gq (wanted_t hf rfl rfl rfl rfl hc24) hf rfl rfl (e_not hf rfl) fun a hf => ?_
      refine q_ hf rfl rfl rfl (e_pick_f hf rfl hc24 rfl) fun a hf => ?_
      refine pl_nil ?_
      obtain rfl := some_inj h12
      refine then_n ?_
      exact ⟨(!y28), rfl, hf.keep ⟨rfl, rfl, rfl, rfl, trivial⟩, hM.pick [1] rfl⟩
  · rintro a w34 ⟨t9, rfl, hf, hM⟩
    try dsimp only at h
    rcases cond_some h with ⟨hc35, h⟩ | ⟨hc35, h⟩
    · refine cond_t hf rfl hc35 ?_
      refine wp_seq ?_
      refine region_pl ?_
      refine q_ hf rfl rfl rfl (e_assign hf rfl) fun a hf => ?_
      refine pl_nil ?_
      refine then_n ?_
      refine wp_ret ?_
      refine then_r ?_
      obtain rfl := some_inj h
      exact leave1 hf rfl rfl ⟨rfl, hM.fin⟩
    · refine cond_f hf rfl hc35 ?_
      refine wp_skip ?_
      refine then_n ?_
      refine wp_seq ?_
      obtain ⟨w36, hw⟩ : ∃ x, x = w34.drew := ⟨_, rfl⟩
      refine region_pi (.q 0 (.q 1 (.q 2 (.q 3 (.q 4 (.q 5 (.q 6 (.q 7 (.q 8 (.q 9 (.q 10 (.q 11 (.q 12 (.q 13 (.nil))))))))))))))) (Ext w36) rfl (by kernel_rfl) ?_
      have hM := hM.drew
      rw [← hw] at hM ⊢
      clear hw
      refine pi_q hf rfl rfl rfl rfl (Ext.refl _) (e_move hf rfl) fun a hf => ?_
      refine pi_q hf rfl rfl rfl rfl (Ext.refl _) (e_nil hf rfl) fun a hf => ?_
      obtain ⟨_, hr37, hM⟩ := hM.deref (hM.dat (k := 0) rfl)
      obtain ⟨rfl, hv38, hv39, hv40⟩ := GridRep_open hr37
      refine pi_q hf rfl rfl rfl rfl (Ext.refl _) (e_field hf rfl Tryz.underlying25 rfl Tryz.sizeOf9 (o' := o3 + 2) rfl) fun a hf => ?_
      refine pi_q hf rfl rfl rfl rfl (Ext.refl _) (e_load1 hf rfl Tryz.isAgg9 (hM.litCell (k := 0) (j := 2) rfl rfl rfl)) fun a hf => ?_
      refine pi_q hf rfl rfl rfl rfl (Ext.refl _) (e_move hf rfl) fun a hf => ?_
      refine pi_q hf rfl rfl rfl rfl (Ext.refl _) (e_move hf rfl) fun a hf => ?_
      refine pi_q hf rfl rfl rfl rfl (Ext.refl _) (e_nil hf rfl) fun a hf => ?_
      refine pi_q hf rfl rfl rfl rfl (Ext.refl _) (e_field hf rfl Tryz.underlying25 rfl Tryz.sizeOf2 (o' := o3 + 1) rfl) fun a hf => ?_
      refine pi_q hf rfl rfl rfl rfl (Ext.refl _) (e_load1 hf rfl Tryz.isAgg2 (hM.litCell (k := 0) (j := 1) rfl rfl rfl)) fun a hf => ?_
      obtain ⟨z41, hz42, h⟩ := bind_some h
      refine pi_q hf rfl rfl rfl rfl (Ext.refl _) (e_mul hf rfl rfl hz42) fun a hf => ?_
      refine pi_q hf rfl rfl rfl rfl (Ext.refl _) (e_move hf rfl) fun a hf => ?_
      obtain ⟨z43, hz44, h⟩ := bind_some h
      refine pi_q hf rfl rfl rfl rfl (Ext.refl _) (e_add hf rfl rfl hz44) fun a hf => ?_
      obtain ⟨c45, hz46, h⟩ := bind_some h
      refine pi_q hf rfl rfl rfl rfl (Ext.refl _) (e_indexS hf (x := g1.Cells) rfl rfl Tryz.underlying9 hz46) fun a hf => ?_
      refine pi_q hf rfl rfl rfl rfl (Ext.refl _) (e_assign hf rfl) fun a hf => ?_
      refine pi_nil ?_
      refine then_n ?_
      refine wp_ret ?_
      obtain rfl := some_inj h
      exact leave1 hf rfl rfl ⟨rfl, hM.fin⟩

set_option maxRecDepth 100000 in
set_option maxHeartbeats 4000000 in
theorem r_spec_l25Across (C : Cx) (g1 : Grid) (b2 : Nat) (o3 : Nat) (hp4 : (ptrRep GridRep).R C.w0 C.S0 g1 [vP b2 o3]) (r : (List Slot)) (h : m_spec_l25Across g1 = some r) :
    Calls Tryz.prog 56 #[vP b2 (o3)] C.w0 fun e w => ∃ (A_1 : Option Addr), ∃ (c_1 : Nat), e = .returned (vL A_1 (r) c_1) ∧ Mem C w [.row SlotRep A_1 c_1 60 r true] [] := by
  have hM := Mem.begin C [.dat (ptrRep GridRep) g1 [vP b2 o3]] ⟨hp4, trivial⟩
  refine enter Tryz.func56 rfl Tryz.ntmps56 rfl fun a hf => ?_
  unfold m_spec_l25Across at h
  refine wp_seq ?_
  refine region_pl ?_
  refine q_ hf rfl rfl rfl (e_assign hf rfl) fun a hf => ?_
  refine pl_nil ?_
  refine then_n ?_
  refine wp_seq ?_
  refine region_pl ?_
  refine pl_l hf rfl rfl rfl (w_slice0 (K := SlotRep) hM Tryz.underlying30 ei_60 fun b5 w6 hx7 hM a hf => ?_)
  refine q_ hf rfl rfl rfl (e_assign hf rfl) fun a hf => ?_
  refine pl_nil ?_
  refine then_n ?_
  obtain ⟨x11, h12, h⟩ := bind_some h
  refine seq_join (fun a w => ∃ (xs8 : (List Slot)) (A9 : Option Addr) (c10 : Nat), xs8 = x11 ∧ Has 45 a [(3, vL A9 (xs8) c10)] ∧ Mem C w [.row SlotRep A9 c10 60 xs8 true] [.dat (ptrRep GridRep) g1 [vP b2 o3]]) ?_ ?_
  · refine wp_seq ?_
    refine region_pl ?_
    refine q_ hf rfl rfl rfl (e_assign hf rfl) fun a hf => ?_
    refine pl_nil ?_
    refine then_n ?_
    refine wp_block ?_
    obtain ⟨x22, h23, h12⟩ := bind_some h12
    refine wp_loopM h23 (fun s a w => ∃ (xs13 : (List Slot)) (c16 : Int) (A14 : Option Addr) (c15 : Nat), (xs13, c16) = s ∧ Has 45 a [(0, vP b2 (o3)), (3, vL A14 (xs13) c15), (4, vI (c16))] ∧ Mem C w [.row SlotRep A14 c15 60 xs13 true] [.dat (ptrRep GridRep) g1 [vP b2 o3]] ∧ R64 c16) ?_ ?_
    · exact ⟨([] : (List Slot)), 0, (some ⟨b5, 0, none⟩), 0, rfl, hf.keep ⟨rfl, rfl, rfl, trivial⟩, hM.pick [0] rfl, (R64_lit rfl)⟩
    · rintro s o24 a w18 ⟨xs13, c16, A14, c15, rfl, hf, hM, hv17⟩ h25 hd26
      replace h25 : m_spec_l25Across_l1 g1 xs13 c16 = some o24 := h25
      unfold m_spec_l25Across_l1 at h25
      refine wp_seq ?_
      refine wp_seq ?_
      refine region_pl ?_
      refine q_ hf rfl rfl rfl (e_move hf rfl) fun a hf => ?_
      refine q_ hf rfl rfl rfl (e_move hf rfl) fun a hf => ?_
      refine q_ hf rfl rfl rfl (e_nil hf rfl) fun a hf => ?_
      obtain ⟨_, hr27, hM⟩ := hM.deref (hM.dat (k := 0) rfl)
      obtain ⟨rfl, hv28, hv29, hv30⟩ := GridRep_open hr27
      refine q_ hf rfl rfl rfl (e_field hf rfl Tryz.underlying25 rfl Tryz.sizeOf2 (o' := o3 + 0) rfl) fun a hf => ?_
      refine q_ hf rfl rfl rfl (e_load1 hf rfl Tryz.isAgg2 (hM.litCell (k := 0) (j := 0) rfl rfl rfl)) fun a hf => ?_
      refine q_ hf rfl rfl rfl (e_lt hf (x := c16) (y := g1.Rows) rfl rfl) fun a hf => ?_
      refine pl_nil ?_
      refine then_n ?_
      rcases cond_some h25 with ⟨hc31, h25⟩ | ⟨hc31, h25⟩
      · refine cond_t hf rfl hc31 ?_
        refine wp_skip ?_
        refine then_n ?_
        obtain ⟨x35, h36, h25⟩ := bind_some h25
        refine seq_join (fun a w => ∃ (xs32 : (List Slot)) (A33 : Option Addr) (c34 : Nat), xs32 = x35 ∧ Has 45 a [(0, vP b2 (o3)), (3, vL A33 (xs32) c34), (4, vI (c16))] ∧ Mem C w [.row SlotRep A33 c34 60 xs32 true] [.lit b2 (o3) [vI (g1.Rows), vI (g1.Cols), vS (g1.Cells)], .dat (ptrRep GridRep) g1 [vP b2 o3]]) ?_ ?_
        · refine wp_block ?_
          refine wp_seq ?_
          refine region_pl ?_
          refine q_ hf rfl rfl rfl (e_assign hf rfl) fun a hf => ?_
          refine pl_nil ?_
          refine then_n ?_
          refine wp_block ?_
          obtain ⟨x46, h47, h36⟩ := bind_some h36
          refine wp_loopM h47 (fun s a w => ∃ (xs37 : (List Slot)) (n40 : Int) (A38 : Option Addr) (c39 : Nat), (xs37, n40) = s ∧ Has 45 a [(0, vP b2 (o3)), (3, vL A38 (xs37) c39), (4, vI (c16)), (5, vI (n40))] ∧ Mem C w [.row SlotRep A38 c39 60 xs37 true] [.lit b2 (o3) [vI (g1.Rows), vI (g1.Cols), vS (g1.Cells)], .dat (ptrRep GridRep) g1 [vP b2 o3]] ∧ R64 n40) ?_ ?_
          · exact ⟨xs13, 0, A14, c15, rfl, hf.keep ⟨rfl, rfl, rfl, rfl, trivial⟩, hM.pick [0, 1] rfl, (R64_lit rfl)⟩
          · rintro s o48 a w42 ⟨xs37, n40, A38, c39, rfl, hf, hM, hv41⟩ h49 hd50
            replace h49 : m_spec_l25Across_l2 g1 c16 xs37 n40 = some o48 := h49
            unfold m_spec_l25Across_l2 at h49
            refine wp_seq ?_
            refine wp_seq ?_
            refine region_pl ?_
            refine q_ hf rfl rfl rfl (e_move hf rfl) fun a hf => ?_
            refine q_ hf rfl rfl rfl (e_move hf rfl) fun a hf => ?_
            refine q_ hf rfl rfl rfl (e_nil hf rfl) fun a hf => ?_
            refine q_ hf rfl rfl rfl (e_field hf rfl Tryz.underlying25 rfl Tryz.sizeOf2 (o' := o3 + 1) rfl) fun a hf => ?_
            refine q_ hf rfl rfl rfl (e_load1 hf rfl Tryz.isAgg2 (hM.litCell (k := 0) (j := 1) rfl rfl rfl)) fun a hf => ?_
            refine q_ hf rfl rfl rfl (e_lt hf (x := n40) (y := g1.Cols) rfl rfl) fun a hf => ?_
            refine pl_nil ?_
            refine then_n ?_
            rcases cond_some h49 with ⟨hc51, h49⟩ | ⟨hc51, h49⟩
            · refine cond_t hf rfl hc51 ?_
              refine wp_skip ?_
              refine then_n ?_
              refine wp_block ?_
              refine wp_seq ?_
              refine region_pl ?_
              refine q_ hf rfl rfl rfl (e_assign hf rfl) fun a hf => ?_
              refine pl_nil ?_
              refine then_n ?_
              obtain ⟨x54, h55, h49⟩ := bind_some h49
              refine seq_join (fun a w => ∃ (n52 : Int), n52 = x54 ∧ Has 45 a [(0, vP b2 (o3)), (3, vL A38 (xs37) c39), (4, vI (c16)), (5, vI (n40)), (6, vI (n52))] ∧ Mem C w [.row SlotRep A38 c39 60 xs37 true] [.lit b2 (o3) [vI (g1.Rows), vI (g1.Cols), vS (g1.Cells)], .dat (ptrRep GridRep) g1 [vP b2 o3]] ∧ R64 n52) ?_ ?_
              · refine wp_block ?_
                obtain ⟨x61, h62, h55⟩ := bind_some h55
                refine wp_loopM h62 (fun s a w => ∃ (n56 : Int), n56 = s ∧ Has 45 a [(0, vP b2 (o3)), (3, vL A38 (xs37) c39), (4, vI (c16)), (5, vI (n40)), (6, vI (n56))] ∧ Mem C w [.row SlotRep A38 c39 60 xs37 true] [.lit b2 (o3) [vI (g1.Rows), vI (g1.Cols), vS (g1.Cells)], .dat (ptrRep GridRep) g1 [vP b2 o3]] ∧ R64 n56) ?_ ?_
                · exact ⟨0, rfl, hf.keep ⟨rfl, rfl, rfl, rfl, rfl, trivial⟩, hM.pick [0, 1] rfl, (R64_lit rfl)⟩
                · rintro s o63 a w58 ⟨n56, rfl, hf, hM, hv57⟩ h64 hd65
                  replace h64 : m_spec_l25Across_l3 n40 g1 c16 n56 = some o63 := h64
                  unfold m_spec_l25Across_l3 at h64
                  refine wp_seq ?_
                  refine wp_seq ?_
                  refine region_pl ?_
                  refine q_ hf rfl rfl rfl (e_move hf rfl) fun a hf => ?_
                  refine q_ hf rfl rfl rfl (e_move hf rfl) fun a hf => ?_
                  refine q_ hf rfl rfl rfl (e_move hf rfl) fun a hf => ?_
                  refine q_ hf rfl rfl rfl (e_move hf rfl) fun a hf => ?_
                  obtain ⟨z66, hz67, h64⟩ := bind_some h64
                  refine q_ hf rfl rfl rfl (e_add hf rfl rfl hz67) fun a hf => ?_
                  obtain ⟨y68, hz69, h64⟩ := bind_some h64
                  refine pl_l hf rfl rfl rfl (w_call hf Tryz.call80 rfl (r_spec_l25At ⟨_, Sh C _ _, none_, hM.sh_lt, none_not, C.G, hM.g_lt, g_none, hM.tabs⟩ g1 _ _ (hM.dat (k := 1) rfl) c16 hv17 z66 (chk_R hz67) _ hz69) ?_)
                  rintro _ w70 ⟨rfl, hM2⟩
                  obtain ⟨hM, hx71, hup72⟩ := hM.back hM2
                  dsimp only [List.cons_append, List.nil_append] at hM hup72
                  clear hM2
                  refine ⟨_, rfl, fun a hf => ?_⟩
                  refine q_ hf rfl rfl rfl (e_neB hf (x := y68) (y := 35) rfl rfl) fun a hf => ?_
                  refine pl_nil ?_
                  refine then_n ?_
                  rcases cond_some h64 with ⟨hc73, h64⟩ | ⟨hc73, h64⟩
                  · refine cond_t hf rfl hc73 ?_
                    refine wp_skip ?_
                    refine then_n ?_
                    refine wp_block ?_
                    refine region_pl ?_
                    refine q_ hf rfl rfl rfl (e_move hf rfl) fun a hf => ?_
                    obtain ⟨z74, hz75, h64⟩ := bind_some h64
                    refine q_ hf rfl rfl rfl (e_add hf rfl rfl hz75) fun a hf => ?_
                    refine q_ hf rfl rfl rfl (e_assign hf rfl) fun a hf => ?_
                    refine pl_nil ?_
                    refine blk_n ?_
                    obtain rfl := some_inj h64
                    refine then_n ⟨_, rfl, ?_⟩
                    exact ⟨z74, rfl, hf.keep ⟨rfl, rfl, rfl, rfl, rfl, trivial⟩, hM.pick [0, 1] rfl, (chk_R hz75)⟩
                  · refine cond_f hf rfl hc73 ?_
                    refine wp_exit ?_
                    refine then_x ?_
                    obtain rfl := some_inj h64
                    obtain rfl := hd65 _ rfl
                    try dsimp only at h55
                    refine then_x ?_
                    refine exit_hit ?_
                    obtain rfl := some_inj h55
                    refine then_n ?_
                    exact ⟨n56, rfl, hf.keep ⟨rfl, rfl, rfl, rfl, rfl, trivial⟩, hM.pick [0, 1] rfl, hv57⟩
              · rintro a w81 ⟨n52, rfl, hf, hM, hv53⟩
                try dsimp only at h49
                obtain ⟨x85, h86, h49⟩ := bind_some h49
                refine seq_join (fun a w => ∃ (xs82 : (List Slot)) (A83 : Option Addr) (c84 : Nat), xs82 = x85 ∧ Has 45 a [(0, vP b2 (o3)), (3, vL A83 (xs82) c84), (4, vI (c16)), (5, vI (n40)), (6, vI (n52))] ∧ Mem C w [.row SlotRep A83 c84 60 xs82 true] [.lit b2 (o3) [vI (g1.Rows), vI (g1.Cols), vS (g1.Cells)], .dat (ptrRep GridRep) g1 [vP b2 o3]]) ?_ ?_
                · refine wp_seq ?_
                  refine region_pl ?_
                  refine q_ hf rfl rfl rfl (e_move hf rfl) fun a hf => ?_
                  refine q_ hf rfl rfl rfl (e_ge hf (x := n52) (y := 2) rfl rfl) fun a hf => ?_
                  refine pl_nil ?_
                  refine then_n ?_
                  rcases cond_some h86 with ⟨hc87, h86⟩ | ⟨hc87, h86⟩
                  · refine cond_t hf rfl hc87 ?_
                    refine region_pl ?_
                    refine q_ hf rfl rfl rfl (e_move hf rfl) fun a hf => ?_
                    refine q_ hf rfl rfl rfl (e_move hf rfl) fun a hf => ?_
                    refine q_ hf rfl rfl rfl (e_move hf rfl) fun a hf => ?_
                    refine q_ hf rfl rfl rfl (e_move hf rfl) fun a hf => ?_
                    refine q_ hf rfl rfl rfl (e_build hf Tryz.zeroValue60 Tryz.underlying60 (bp_60 _ Tryz.underlying60.symm) rfl (cs := #[vI (c16), vI (n40), .bool (false), vI (n52)]) (by kernel_rfl)) fun a hf => ?_
                    refine pl_l hf rfl rfl rfl (w_slice hf hM (K := SlotRep) (xs := ([(⟨c16, n40, false, n52⟩ : Slot)] : (List Slot))) (os := [.tmp 37]) Tryz.underlying30 ei_60 rfl rfl rfl rfl rfl ⟨⟨[vI (c16), vI (n40), .bool (false), vI (n52)], rfl, (SlotRep_mk (x := (⟨c16, n40, false, n52⟩ : Slot)) hv17 hv41 hv53)⟩, trivial⟩ rfl fun b88 w89 hx90 hM a hf => ?_)
                    obtain ⟨xs91, hz92, h86⟩ := bind_some h86
                    refine pl_l hf rfl rfl rfl (w_append hf hM Tryz.underlying30 ei_60 rfl rfl rfl (k := 1) rfl (hM.srcRow (k := 0) rfl) hz92 fun A93 c94 w95 hM a hf => ?_)
                    dsimp only [List.set] at hM
                    refine q_ hf rfl rfl rfl (e_assign hf rfl) fun a hf => ?_
                    refine pl_nil ?_
                    obtain rfl := some_inj h86
                    refine then_n ?_
                    exact ⟨xs91, A93, c94, rfl, hf.keep ⟨rfl, rfl, rfl, rfl, rfl, trivial⟩, (hM.drop (.cons _ (.cons_cons _ .slnil))).pick [0, 1] rfl⟩
                  · refine cond_f hf rfl hc87 ?_
                    refine wp_skip ?_
                    obtain rfl := some_inj h86
                    refine then_n ?_
                    exact ⟨xs37, A38, c39, rfl, hf.keep ⟨rfl, rfl, rfl, rfl, rfl, trivial⟩, hM.pick [0, 1] rfl⟩
                · rintro a w100 ⟨xs82, A83, c84, rfl, hf, hM⟩
                  try dsimp only at h49
                  refine region_pl ?_
                  refine q_ hf rfl rfl rfl (e_move hf rfl) fun a hf => ?_
                  refine q_ hf rfl rfl rfl (e_move hf rfl) fun a hf => ?_
                  obtain ⟨z101, hz102, h49⟩ := bind_some h49
                  refine q_ hf rfl rfl rfl (e_add hf rfl rfl hz102) fun a hf => ?_
                  obtain ⟨z103, hz104, h49⟩ := bind_some h49
                  refine q_ hf rfl rfl rfl (e_add hf rfl rfl hz104) fun a hf => ?_
                  refine q_ hf rfl rfl rfl (e_assign hf rfl) fun a hf => ?_
                  refine pl_nil ?_
                  refine blk_n ?_
                  obtain rfl := some_inj h49
                  refine then_n ⟨_, rfl, ?_⟩
                  exact ⟨xs82, z103, A83, c84, rfl, hf.keep ⟨rfl, rfl, rfl, rfl, trivial⟩, hM.pick [0, 1] rfl, (chk_R hz104)⟩
            · refine cond_f hf rfl hc51 ?_
              refine wp_exit ?_
              refine then_x ?_
              obtain rfl := some_inj h49
              obtain rfl := hd50 _ rfl
              try dsimp only at h36
              refine then_x ?_
              refine exit_hit ?_
              refine blk_n ?_
              obtain rfl := some_inj h36
              refine then_n ?_
              exact ⟨xs37, A38, c39, rfl, hf.keep ⟨rfl, rfl, rfl, trivial⟩, hM.pick [0, 1] rfl⟩
        · rintro a w110 ⟨xs32, A33, c34, rfl, hf, hM⟩
          try dsimp only at h25
          refine region_pl ?_
          refine q_ hf rfl rfl rfl (e_move hf rfl) fun a hf => ?_
          obtain ⟨z111, hz112, h25⟩ := bind_some h25
          refine q_ hf rfl rfl rfl (e_add hf rfl rfl hz112) fun a hf => ?_
          refine q_ hf rfl rfl rfl (e_assign hf rfl) fun a hf => ?_
          refine pl_nil ?_
          obtain rfl := some_inj h25
          refine then_n ⟨_, rfl, ?_⟩
          exact ⟨xs32, z111, A33, c34, rfl, hf.keep ⟨rfl, rfl, rfl, trivial⟩, hM.pick [1] rfl, (chk_R hz112)⟩
      · refine cond_f hf rfl hc31 ?_
        refine wp_exit ?_
        refine then_x ?_
        obtain rfl := some_inj h25
        obtain rfl := hd26 _ rfl
        try dsimp only at h12
        refine then_x ?_
        refine exit_hit ?_
        obtain rfl := some_inj h12
        refine then_n ?_
        exact ⟨xs13, A14, c15, rfl, hf.keep ⟨rfl, trivial⟩, hM.pick [1] rfl⟩
  · rintro a w118 ⟨xs8, A9, c10, rfl, hf, hM⟩
    try dsimp only at h
    refine wp_seq ?_
    refine region_pl ?_
    refine q_ hf rfl rfl rfl (e_move hf rfl) fun a hf => ?_
    refine q_ hf rfl rfl rfl (e_assign hf rfl) fun a hf => ?_
    refine pl_nil ?_
    refine then_n ?_
    refine wp_ret ?_
    obtain rfl := some_inj h
    exact leave1 hf rfl rfl ⟨A9, c10, rfl, hM.fin⟩

set_option maxRecDepth 100000 in
set_option maxHeartbeats 4000000 in
theorem r_spec_l25Turn (C : Cx) (g1 : Grid) (b2 : Nat) (o3 : Nat) (hp4 : (ptrRep GridRep).R C.w0 C.S0 g1 [vP b2 o3]) (r : Grid) (h : m_spec_l25Turn g1 = some r) :
    Calls Tryz.prog 57 #[vP b2 (o3)] C.w0 fun e w => e = .returned (.agg #[vI (r.Rows), vI (r.Cols), vS (r.Cells)]) ∧ Mem C w [] [] ∧ R64 r.Rows ∧ R64 r.Cols ∧ r.Cells.length ≤ maxLen := by
  have hM := Mem.begin C [.dat (ptrRep GridRep) g1 [vP b2 o3]] ⟨hp4, trivial⟩
  refine enter Tryz.func57 rfl Tryz.ntmps57 rfl fun a hf => ?_
  unfold m_spec_l25Turn at h
  refine wp_seq ?_
  refine region_pl ?_
  refine pl_l hf rfl rfl rfl (w_alloc hM (cs := [vI (0), vI (0), vS (([] : Str))]) Tryz.zeroValue25 rfl fun b5 w6 hx7 hM a hf => ?_)
  refine pl_nil ?_
  refine then_n ?_
  refine wp_seq ?_
  refine region_pl ?_
  refine pl_l hf rfl rfl rfl (w_slice0 (K := byteRep) hM Tryz.underlying22 ei_5 fun b9 w10 hx11 hM a hf => ?_)
  refine q_ hf rfl rfl rfl (e_assign hf rfl) fun a hf => ?_
  refine pl_nil ?_
  refine then_n ?_
  obtain ⟨x15, h16, h⟩ := bind_some h
  refine seq_join (fun a w => ∃ (xs12 : Str) (A13 : Option Addr) (c14 : Nat), xs12 = x15 ∧ Has 41 a [(0, vP b2 (o3)), (2, vP b5 (0)), (3, vL A13 (xs12) c14)] ∧ Mem C w [.row byteRep A13 c14 5 xs12 true, .box b5 [vI (0), vI (0), vS (([] : Str))] 25] [.dat (ptrRep GridRep) g1 [vP b2 o3]]) ?_ ?_
  · refine wp_seq ?_
    refine region_pl ?_
    refine q_ hf rfl rfl rfl (e_assign hf rfl) fun a hf => ?_
    refine pl_nil ?_
    refine then_n ?_
    refine wp_block ?_
    obtain ⟨x26, h27, h16⟩ := bind_some h16
    refine wp_loopM h27 (fun s a w => ∃ (xs17 : Str) (r20 : Int) (A18 : Option Addr) (c19 : Nat), (xs17, r20) = s ∧ Has 41 a [(0, vP b2 (o3)), (2, vP b5 (0)), (3, vL A18 (xs17) c19), (4, vI (r20))] ∧ Mem C w [.row byteRep A18 c19 5 xs17 true, .box b5 [vI (0), vI (0), vS (([] : Str))] 25] [.dat (ptrRep GridRep) g1 [vP b2 o3]] ∧ R64 r20) ?_ ?_
    · exact ⟨([] : Str), 0, (some ⟨b9, 0, none⟩), 0, rfl, hf.keep ⟨rfl, rfl, rfl, rfl, trivial⟩, hM.pick [0] rfl, (R64_lit rfl)⟩
    · rintro s o28 a w22 ⟨xs17, r20, A18, c19, rfl, hf, hM, hv21⟩ h29 hd30
      replace h29 : m_spec_l25Turn_l1 g1 xs17 r20 = some o28 := h29
      unfold m_spec_l25Turn_l1 at h29
      refine wp_seq ?_
      refine wp_seq ?_
      refine region_pl ?_
      refine q_ hf rfl rfl rfl (e_move hf rfl) fun a hf => ?_
      refine q_ hf rfl rfl rfl (e_move hf rfl) fun a hf => ?_
      refine q_ hf rfl rfl rfl (e_nil hf rfl) fun a hf => ?_
      obtain ⟨_, hr31, hM⟩ := hM.deref (hM.dat (k := 0) rfl)
      obtain ⟨rfl, hv32, hv33, hv34⟩ := GridRep_open hr31
      refine q_ hf rfl rfl rfl (e_field hf rfl Tryz.underlying25 rfl Tryz.sizeOf2 (o' := o3 + 1) rfl) fun a hf => ?_
      refine q_ hf rfl rfl rfl (e_load1 hf rfl Tryz.isAgg2 (hM.litCell (k := 0) (j := 1) rfl rfl rfl)) fun a hf => ?_
      refine q_ hf rfl rfl rfl (e_lt hf (x := r20) (y := g1.Cols) rfl rfl) fun a hf => ?_
      refine pl_nil ?_
      refine then_n ?_
      rcases cond_some h29 with ⟨hc35, h29⟩ | ⟨hc35, h29⟩
      · refine cond_t hf rfl hc35 ?_
        refine wp_skip ?_
        refine then_n ?_
        obtain ⟨x39, h40, h29⟩ := bind_some h29
        refine seq_join (fun a w => ∃ (xs36 : Str) (A37 : Option Addr) (c38 : Nat), xs36 = x39 ∧ Has 41 a [(0, vP b2 (o3)), (2, vP b5 (0)), (3, vL A37 (xs36) c38), (4, vI (r20))] ∧ Mem C w [.row byteRep A37 c38 5 xs36 true, .box b5 [vI (0), vI (0), vS (([] : Str))] 25] [.lit b2 (o3) [vI (g1.Rows), vI (g1.Cols), vS (g1.Cells)], .dat (ptrRep GridRep) g1 [vP b2 o3]]) ?_ ?_
        · refine wp_block ?_
          refine wp_seq ?_
          refine region_pl ?_
          refine q_ hf rfl rfl rfl (e_assign hf rfl) fun a hf => ?_
          refine pl_nil ?_
          refine then_n ?_
          refine wp_block ?_
          obtain ⟨x50, h51, h40⟩ := bind_some h40
          refine wp_loopM h51 (fun s a w => ∃ (xs41 : Str) (n44 : Int) (A42 : Option Addr) (c43 : Nat), (xs41, n44) = s ∧ Has 41 a [(0, vP b2 (o3)), (2, vP b5 (0)), (3, vL A42 (xs41) c43), (4, vI (r20)), (5, vI (n44))] ∧ Mem C w [.row byteRep A42 c43 5 xs41 true, .box b5 [vI (0), vI (0), vS (([] : Str))] 25] [.lit b2 (o3) [vI (g1.Rows), vI (g1.Cols), vS (g1.Cells)], .dat (ptrRep GridRep) g1 [vP b2 o3]] ∧ R64 n44) ?_ ?_
          · exact ⟨xs17, 0, A18, c19, rfl, hf.keep ⟨rfl, rfl, rfl, rfl, rfl, trivial⟩, hM.pick [0, 1] rfl, (R64_lit rfl)⟩
          · rintro s o52 a w46 ⟨xs41, n44, A42, c43, rfl, hf, hM, hv45⟩ h53 hd54
            replace h53 : m_spec_l25Turn_l2 g1 r20 xs41 n44 = some o52 := h53
            unfold m_spec_l25Turn_l2 at h53
            refine wp_seq ?_
            refine wp_seq ?_
            refine region_pl ?_
            refine q_ hf rfl rfl rfl (e_move hf rfl) fun a hf => ?_
            refine q_ hf rfl rfl rfl (e_move hf rfl) fun a hf => ?_
            refine q_ hf rfl rfl rfl (e_nil hf rfl) fun a hf => ?_
            refine q_ hf rfl rfl rfl (e_field hf rfl Tryz.underlying25 rfl Tryz.sizeOf2 (o' := o3 + 0) rfl) fun a hf => ?_
            refine q_ hf rfl rfl rfl (e_load1 hf rfl Tryz.isAgg2 (hM.litCell (k := 0) (j := 0) rfl rfl rfl)) fun a hf => ?_
            refine q_ hf rfl rfl rfl (e_lt hf (x := n44) (y := g1.Rows) rfl rfl) fun a hf => ?_
            refine pl_nil ?_
            refine then_n ?_
            rcases cond_some h53 with ⟨hc55, h53⟩ | ⟨hc55, h53⟩
            · refine cond_t hf rfl hc55 ?_
              refine wp_skip ?_
              refine then_n ?_
              refine wp_seq ?_
              refine wp_block ?_
              refine region_pl ?_
              refine q_ hf rfl rfl rfl (e_move hf rfl) fun a hf => ?_
              refine q_ hf rfl rfl rfl (e_move hf rfl) fun a hf => ?_
              refine q_ hf rfl rfl rfl (e_move hf rfl) fun a hf => ?_
              refine q_ hf rfl rfl rfl (e_move hf rfl) fun a hf => ?_
              obtain ⟨y56, hz57, h53⟩ := bind_some h53
              refine pl_l hf rfl rfl rfl (w_call hf Tryz.call80 rfl (r_spec_l25At ⟨_, Sh C _ _, none_, hM.sh_lt, none_not, C.G, hM.g_lt, g_none, hM.tabs⟩ g1 _ _ (hM.dat (k := 1) rfl) n44 hv45 r20 hv21 _ hz57) ?_)
              rintro _ w58 ⟨rfl, hM2⟩
              obtain ⟨hM, hx59, hup60⟩ := hM.back hM2
              dsimp only [List.cons_append, List.nil_append] at hM hup60
              clear hM2
              refine ⟨_, rfl, fun a hf => ?_⟩
              refine pl_l hf rfl rfl rfl (w_slice hf hM (K := byteRep) (xs := ([y56] : Str)) (os := [.tmp 27]) Tryz.underlying22 ei_5 rfl rfl rfl rfl rfl ⟨⟨[vB (y56)], rfl, rfl⟩, trivial⟩ rfl fun b61 w62 hx63 hM a hf => ?_)
              obtain ⟨xs64, hz65, h53⟩ := bind_some h53
              refine pl_l hf rfl rfl rfl (w_append hf hM Tryz.underlying22 ei_5 rfl rfl rfl (k := 1) rfl (hM.srcRow (k := 0) rfl) hz65 fun A66 c67 w68 hM a hf => ?_)
              dsimp only [List.set] at hM
              refine q_ hf rfl rfl rfl (e_assign hf rfl) fun a hf => ?_
              refine pl_nil ?_
              refine blk_n ?_
              refine then_n ?_
              refine region_pl ?_
              refine q_ hf rfl rfl rfl (e_move hf rfl) fun a hf => ?_
              obtain ⟨z71, hz72, h53⟩ := bind_some h53
              refine q_ hf rfl rfl rfl (e_add hf rfl rfl hz72) fun a hf => ?_
              refine q_ hf rfl rfl rfl (e_assign hf rfl) fun a hf => ?_
              refine pl_nil ?_
              obtain rfl := some_inj h53
              refine then_n ⟨_, rfl, ?_⟩
              exact ⟨xs64, z71, A66, c67, rfl, hf.keep ⟨rfl, rfl, rfl, rfl, rfl, trivial⟩, (hM.drop (.cons _ (.cons_cons _ (.cons_cons _ .slnil)))).pick [0, 1] rfl, (chk_R hz72)⟩
            · refine cond_f hf rfl hc55 ?_
              refine wp_exit ?_
              refine then_x ?_
              obtain rfl := some_inj h53
              obtain rfl := hd54 _ rfl
              try dsimp only at h40
              refine then_x ?_
              refine exit_hit ?_
              refine blk_n ?_
              obtain rfl := some_inj h40
              refine then_n ?_
              exact ⟨xs41, A42, c43, rfl, hf.keep ⟨rfl, rfl, rfl, rfl, trivial⟩, hM.pick [0, 1] rfl⟩
        · rintro a w78 ⟨xs36, A37, c38, rfl, hf, hM⟩
          try dsimp only at h29
          refine region_pl ?_
          refine q_ hf rfl rfl rfl (e_move hf rfl) fun a hf => ?_
          obtain ⟨z79, hz80, h29⟩ := bind_some h29
          refine q_ hf rfl rfl rfl (e_add hf rfl rfl hz80) fun a hf => ?_
          refine q_ hf rfl rfl rfl (e_assign hf rfl) fun a hf => ?_
          refine pl_nil ?_
          obtain rfl := some_inj h29
          refine then_n ⟨_, rfl, ?_⟩
          exact ⟨xs36, z79, A37, c38, rfl, hf.keep ⟨rfl, rfl, rfl, rfl, trivial⟩, hM.pick [1] rfl, (chk_R hz80)⟩
      · refine cond_f hf rfl hc35 ?_
        refine wp_exit ?_
        refine then_x ?_
        obtain rfl := some_inj h29
        obtain rfl := hd30 _ rfl
        try dsimp only at h16
        refine then_x ?_
        refine exit_hit ?_
        obtain rfl := some_inj h16
        refine then_n ?_
        exact ⟨xs17, A18, c19, rfl, hf.keep ⟨rfl, rfl, rfl, trivial⟩, hM.pick [1] rfl⟩
  · rintro a w86 ⟨xs12, A13, c14, rfl, hf, hM⟩
    try dsimp only at h
    refine wp_seq ?_
    obtain ⟨w87, hw⟩ : ∃ x, x = w86.drew := ⟨_, rfl⟩
    refine region_pi (.q 0 (.q 1 (.q 2 (.q 3 (.q 4 (.q 5 (.q 6 (.q 7 (.q 8 (.q 9 (.q 10 (.l 11 (.nil))))))))))))) (Ext w87) rfl (by kernel_rfl) ?_
    have hM := hM.drew
    rw [← hw] at hM ⊢
    clear hw
    refine pi_q hf rfl rfl rfl rfl (Ext.refl _) (e_move hf rfl) fun a hf => ?_
    refine pi_q hf rfl rfl rfl rfl (Ext.refl _) (e_nil hf rfl) fun a hf => ?_
    obtain ⟨_, hr88, hM⟩ := hM.deref (hM.dat (k := 0) rfl)
    obtain ⟨rfl, hv89, hv90, hv91⟩ := GridRep_open hr88
    refine pi_q hf rfl rfl rfl rfl (Ext.refl _) (e_field hf rfl Tryz.underlying25 rfl Tryz.sizeOf2 (o' := o3 + 1) rfl) fun a hf => ?_
    refine pi_q hf rfl rfl rfl rfl (Ext.refl _) (e_load1 hf rfl Tryz.isAgg2 (hM.litCell (k := 0) (j := 1) rfl rfl rfl)) fun a hf => ?_
    refine pi_q hf rfl rfl rfl rfl (Ext.refl _) (e_move hf rfl) fun a hf => ?_
    refine pi_q hf rfl rfl rfl rfl (Ext.refl _) (e_nil hf rfl) fun a hf => ?_
    refine pi_q hf rfl rfl rfl rfl (Ext.refl _) (e_field hf rfl Tryz.underlying25 rfl Tryz.sizeOf2 (o' := o3 + 0) rfl) fun a hf => ?_
    refine pi_q hf rfl rfl rfl rfl (Ext.refl _) (e_load1 hf rfl Tryz.isAgg2 (hM.litCell (k := 0) (j := 0) rfl rfl rfl)) fun a hf => ?_
    refine pi_q hf rfl rfl rfl rfl (Ext.refl _) (e_move hf rfl) fun a hf => ?_
    have hl92 := row_len (hM.ownAt (k := 0) rfl)
    refine pi_q hf rfl rfl rfl rfl (Ext.refl _) (e_bytesStr hf (xs := xs12) rfl Tryz.underlying22 Tryz.underlying5 Tryz.underlying9 (hM.lendRow (k := 0) rfl)) fun a hf => ?_
    refine pi_q hf rfl rfl rfl rfl (Ext.refl _) (e_build hf Tryz.zeroValue25 Tryz.underlying25 (bp_25 _ Tryz.underlying25.symm) rfl (cs := #[vI (g1.Cols), vI (g1.Rows), vS (xs12)]) (by kernel_rfl)) fun a hf => ?_
    refine pi_one ?_
    refine pi_z0 hf rfl rfl rfl (by kernel_rfl) (w_store hf hM (us := [vI (g1.Cols), vI (g1.Rows), vS (xs12)]) (cs' := [vI (g1.Cols), vI (g1.Rows), vS (xs12)]) rfl rfl (k := 1) rfl rfl Tryz.sizeOf25 rfl rfl rfl fun w93 hM => ?_)
    dsimp only [List.set] at hM
    refine pi_nil ?_
    refine then_n ?_
    refine wp_ret ?_
    obtain rfl := some_inj h
    have hres96 := leaveV1 (P := Tryz.prog) Tryz.results57 (res_agg hf rfl ⟨Tryz.isAgg25, Tryz.sizeOf25⟩ (us := [vI (g1.Cols), vI (g1.Rows), vS (xs12)]) rfl (hM.boxSub (k := 1) (o := 0) rfl rfl))
    have hM := hM.outs (own' := []) 0 rfl
    exact bodyPost_ret hres96 hf.defers ⟨rfl, hM.fin, hv90, hv89, hl92⟩

set_option maxRecDepth 100000 in
set_option maxHeartbeats 4000000 in
theorem r_spec_l25Slots (C : Cx) (g1 : Grid) (b2 : Nat) (o3 : Nat) (hp4 : (ptrRep GridRep).R C.w0 C.S0 g1 [vP b2 o3]) (r : (List Slot)) (h : m_spec_l25Slots g1 = some r) :
    Calls Tryz.prog 28 #[vP b2 (o3)] C.w0 fun e w => ∃ (A_1 : Option Addr), ∃ (c_1 : Nat), e = .returned (vL A_1 (r) c_1) ∧ Mem C w [.row SlotRep A_1 c_1 60 r true] [] := by
  have hM := Mem.begin C [.dat (ptrRep GridRep) g1 [vP b2 o3]] ⟨hp4, trivial⟩
  refine enter Tryz.func28 rfl Tryz.ntmps28 rfl fun a hf => ?_
  unfold m_spec_l25Slots at h
  refine wp_seq ?_
  refine region_pl ?_
  refine q_ hf rfl rfl rfl (e_assign hf rfl) fun a hf => ?_
  refine pl_nil ?_
  refine then_n ?_
  refine wp_seq ?_
  refine region_pl ?_
  refine q_ hf rfl rfl rfl (e_move hf rfl) fun a hf => ?_
  obtain ⟨y5, hz6, h⟩ := bind_some h
  refine pl_l hf rfl rfl rfl (w_call hf Tryz.call56 rfl (r_spec_l25Across ⟨_, Sh C _ _, none_, hM.sh_lt, none_not, C.G, hM.g_lt, g_none, hM.tabs⟩ g1 _ _ (hM.dat (k := 0) rfl) _ hz6) ?_)
  rintro _ w9 ⟨A7, c8, rfl, hM2⟩
  obtain ⟨hM, hx10, hup11⟩ := hM.back hM2
  dsimp only [List.cons_append, List.nil_append] at hM hup11
  clear hM2
  refine ⟨_, rfl, fun a hf => ?_⟩
  refine q_ hf rfl rfl rfl (e_assign hf rfl) fun a hf => ?_
  refine pl_nil ?_
  refine then_n ?_
  refine wp_seq ?_
  refine region_pl ?_
  refine q_ hf rfl rfl rfl (e_move hf rfl) fun a hf => ?_
  obtain ⟨y12, hz13, h⟩ := bind_some h
  refine pl_l hf rfl rfl rfl (w_call hf Tryz.call57 rfl (r_spec_l25Turn ⟨_, Sh C _ _, none_, hM.sh_lt, none_not, C.G, hM.g_lt, g_none, hM.tabs⟩ g1 _ _ (hM.dat (k := 0) rfl) _ hz13) ?_)
  rintro _ w17 ⟨rfl, hM2, hv14, hv15, hv16⟩
  obtain ⟨hM, hx18, hup19⟩ := hM.back hM2
  dsimp only [List.cons_append, List.nil_append] at hM hup19
  clear hM2
  refine ⟨_, rfl, fun a hf => ?_⟩
  refine pl_l hf rfl rfl rfl (w_alloc hM (cs := [vI (0), vI (0), vS (([] : Str))]) Tryz.zeroValue25 rfl fun b20 w21 hx22 hM a hf => ?_)
  refine pl_0 hf rfl rfl (w_store hf hM (us := [vI (y12.Rows), vI (y12.Cols), vS (y12.Cells)]) (cs' := [vI (y12.Rows), vI (y12.Cols), vS (y12.Cells)]) rfl rfl (k := 0) rfl rfl Tryz.sizeOf25 rfl rfl rfl fun w24 hM => ?_)
  dsimp only [List.set] at hM
  refine pl_nil ?_
  refine then_n ?_
  refine wp_seq ?_
  refine region_pl ?_
  obtain ⟨y27, hz28, h⟩ := bind_some h
  refine pl_l hf rfl rfl rfl (w_call hf Tryz.call56 rfl (r_spec_l25Across ⟨_, All C _ _, none_, hM.all_lt, none_not, C.G, hM.g_lt, g_none, hM.tabs⟩ y12 _ _ (hM.lendBox (k := 0) rfl (GridRep_mk (x := y12) hv14 hv15 hv16)) _ hz28) ?_)
  rintro _ w31 ⟨A29, c30, rfl, hM2⟩
  obtain ⟨hM, hx32⟩ := hM.backAF SlotRep_flat hM2
  clear hM2
  refine ⟨_, rfl, fun a hf => ?_⟩
  refine q_ hf rfl rfl rfl (e_assign hf rfl) fun a hf => ?_
  refine pl_nil ?_
  refine then_n ?_
  obtain ⟨x37, h38, h⟩ := bind_some h
  refine seq_join (fun a w => ∃ (xs34 : (List Slot)) (A35 : Option Addr) (c36 : Nat), xs34 = x37 ∧ Has 38 a [(3, vL A35 (xs34) c36)] ∧ Mem C w [.row SlotRep A29 c30 60 y27 true, .box b20 [vI (y12.Rows), vI (y12.Cols), vS (y12.Cells)] 25, .row SlotRep A35 c36 60 xs34 true] [.dat (ptrRep GridRep) g1 [vP b2 o3]]) ?_ ?_
  · refine wp_seq ?_
    refine region_pl ?_
    refine q_ hf rfl rfl rfl (e_assign hf rfl) fun a hf => ?_
    refine pl_nil ?_
    refine then_n ?_
    refine wp_block ?_
    obtain ⟨x48, h49, h38⟩ := bind_some h38
    refine wp_loopM h49 (fun s a w => ∃ (xs39 : (List Slot)) (n42 : Int) (A40 : Option Addr) (c41 : Nat), (xs39, n42) = s ∧ Has 38 a [(3, vL A40 (xs39) c41), (5, vL A29 (y27) c30), (6, vI (n42))] ∧ Mem C w [.row SlotRep A29 c30 60 y27 true, .box b20 [vI (y12.Rows), vI (y12.Cols), vS (y12.Cells)] 25, .row SlotRep A40 c41 60 xs39 true] [.dat (ptrRep GridRep) g1 [vP b2 o3]] ∧ R64 n42) ?_ ?_
    · exact ⟨y5, 0, A7, c8, rfl, hf.keep ⟨rfl, rfl, rfl, trivial⟩, hM.pick [0] rfl, (R64_lit rfl)⟩
    · rintro s o50 a w44 ⟨xs39, n42, A40, c41, rfl, hf, hM, hv43⟩ h51 hd52
      replace h51 : m_spec_l25Slots_l1 y27 xs39 n42 = some o50 := h51
      unfold m_spec_l25Slots_l1 at h51
      refine wp_seq ?_
      refine wp_seq ?_
      refine region_pl ?_
      refine q_ hf rfl rfl rfl (e_move hf rfl) fun a hf => ?_
      refine q_ hf rfl rfl rfl (e_move hf rfl) fun a hf => ?_
      have hl53 := row_len (hM.ownAt (k := 0) rfl)
      refine q_ hf rfl rfl rfl (e_lenL hf (x := y27) rfl Tryz.underlying30) fun a hf => ?_
      refine q_ hf rfl rfl rfl (e_lt hf (x := n42) (y := (y27.length : Int)) rfl rfl) fun a hf => ?_
      refine pl_nil ?_
      refine then_n ?_
      rcases cond_some h51 with ⟨hc54, h51⟩ | ⟨hc54, h51⟩
      · refine cond_t hf rfl hc54 ?_
        refine wp_skip ?_
        refine then_n ?_
        refine wp_seq ?_
        refine wp_block ?_
        obtain ⟨w55, hw⟩ : ∃ x, x = w44.drew := ⟨_, rfl⟩
        refine region_pi (.q 0 (.q 1 (.q 2 (.q 3 (.q 4 (.q 5 (.q 6 (.q 7 (.q 8 (.q 9 (.q 10 (.q 11 (.q 12 (.q 13 (.q 14 (.q 15 (.q 16 (.l 17 (.l 18 (.q 19 (.nil))))))))))))))))))))) (Ext w55) rfl (by kernel_rfl) ?_
        have hM := hM.drew
        rw [← hw] at hM ⊢
        clear hw
        refine pi_q hf rfl rfl rfl rfl (Ext.refl _) (e_move hf rfl) fun a hf => ?_
        refine pi_q hf rfl rfl rfl rfl (Ext.refl _) (e_move hf rfl) fun a hf => ?_
        refine pi_q hf rfl rfl rfl rfl (Ext.refl _) (e_move hf rfl) fun a hf => ?_
        obtain ⟨e56, hz57, h51⟩ := bind_some h51
        obtain ⟨b62, _, hA63, h58, h59, hr60, hcell61⟩ := hM.rowElemN (k := 0) rfl (n := 4) rfl hz57
        obtain ⟨rfl, hv64, hv65, hv66⟩ := SlotRep_open hr60
        refine pi_q hf rfl rfl rfl rfl (Ext.refl _) (e_indexAddr (A := A29) (b := b62) (o := 0) (xs := y27) (i := n42) hf hA63 rfl rfl Tryz.underlying30 Tryz.sizeOf60 h58 h59) fun a hf => ?_
        refine pi_q hf rfl rfl rfl rfl (Ext.refl _) (e_field hf rfl Tryz.underlying60 rfl Tryz.sizeOf2 (o' := (0 + (n42 : Int).toNat * 4) + 1) rfl) fun a hf => ?_
        refine pi_q hf rfl rfl rfl rfl (Ext.refl _) (e_load1 hf rfl Tryz.isAgg2 (hcell61 1 _ rfl)) fun a hf => ?_
        refine pi_q hf rfl rfl rfl rfl (Ext.refl _) (e_move hf rfl) fun a hf => ?_
        refine pi_q hf rfl rfl rfl rfl (Ext.refl _) (e_move hf rfl) fun a hf => ?_
        obtain ⟨e67, hz68, h51⟩ := bind_some h51
        obtain ⟨b73, _, hA74, h69, h70, hr71, hcell72⟩ := hM.rowElemN (k := 0) rfl (n := 4) rfl hz68
        obtain ⟨rfl, hv75, hv76, hv77⟩ := SlotRep_open hr71
        refine pi_q hf rfl rfl rfl rfl (Ext.refl _) (e_indexAddr (A := A29) (b := b73) (o := 0) (xs := y27) (i := n42) hf hA74 rfl rfl Tryz.underlying30 Tryz.sizeOf60 h69 h70) fun a hf => ?_
        refine pi_q hf rfl rfl rfl rfl (Ext.refl _) (e_field hf rfl Tryz.underlying60 rfl Tryz.sizeOf2 (o' := (0 + (n42 : Int).toNat * 4) + 0) rfl) fun a hf => ?_
        refine pi_q hf rfl rfl rfl rfl (Ext.refl _) (e_load1 hf rfl Tryz.isAgg2 (hcell72 0 _ rfl)) fun a hf => ?_
        refine pi_q hf rfl rfl rfl rfl (Ext.refl _) (e_move hf rfl) fun a hf => ?_
        refine pi_q hf rfl rfl rfl rfl (Ext.refl _) (e_move hf rfl) fun a hf => ?_
        obtain ⟨e78, hz79, h51⟩ := bind_some h51
        obtain ⟨b84, _, hA85, h80, h81, hr82, hcell83⟩ := hM.rowElemN (k := 0) rfl (n := 4) rfl hz79
        obtain ⟨rfl, hv86, hv87, hv88⟩ := SlotRep_open hr82
        refine pi_q hf rfl rfl rfl rfl (Ext.refl _) (e_indexAddr (A := A29) (b := b84) (o := 0) (xs := y27) (i := n42) hf hA85 rfl rfl Tryz.underlying30 Tryz.sizeOf60 h80 h81) fun a hf => ?_
        refine pi_q hf rfl rfl rfl rfl (Ext.refl _) (e_field hf rfl Tryz.underlying60 rfl Tryz.sizeOf2 (o' := (0 + (n42 : Int).toNat * 4) + 3) rfl) fun a hf => ?_
        refine pi_q hf rfl rfl rfl rfl (Ext.refl _) (e_load1 hf rfl Tryz.isAgg2 (hcell83 3 _ rfl)) fun a hf => ?_
        refine pi_q hf rfl rfl rfl rfl (Ext.refl _) (e_build hf Tryz.zeroValue60 Tryz.underlying60 (bp_60 _ Tryz.underlying60.symm) rfl (cs := #[vI (e56.Col), vI (e67.Row), .bool (true), vI (e78.Length)]) (by kernel_rfl)) fun a hf => ?_
        refine pi_one ?_
        refine pi_l hf rfl rfl rfl rfl (w_slice hf hM (K := SlotRep) (xs := ([(⟨e56.Col, e67.Row, true, e78.Length⟩ : Slot)] : (List Slot))) (os := [.tmp 34]) Tryz.underlying30 ei_60 rfl rfl rfl rfl rfl ⟨⟨[vI (e56.Col), vI (e67.Row), .bool (true), vI (e78.Length)], rfl, (SlotRep_mk (x := (⟨e56.Col, e67.Row, true, e78.Length⟩ : Slot)) hv65 hv75 hv88)⟩, trivial⟩ rfl fun b89 w90 hx91 hM => ⟨Ext w90, fun _ h => Ext.trans hx91 h, Ext.refl _, fun a hf => ?_⟩)
        refine pi_one ?_
        obtain ⟨xs92, hz93, h51⟩ := bind_some h51
        refine pi_z hf rfl rfl rfl rfl (by kernel_rfl) (w_append hf hM Tryz.underlying30 ei_60 rfl rfl rfl (k := 3) rfl (hM.srcRow (k := 0) rfl) hz93 fun A94 c95 w96 hM a hf => ?_)
        dsimp only [List.set] at hM
        refine pi_q hf rfl rfl rfl rfl (Ext.refl _) (e_assign hf rfl) fun a hf => ?_
        refine pi_nil ?_
        refine blk_n ?_
        refine then_n ?_
        refine region_pl ?_
        refine q_ hf rfl rfl rfl (e_move hf rfl) fun a hf => ?_
        obtain ⟨z99, hz100, h51⟩ := bind_some h51
        refine q_ hf rfl rfl rfl (e_add hf rfl rfl hz100) fun a hf => ?_
        refine q_ hf rfl rfl rfl (e_assign hf rfl) fun a hf => ?_
        refine pl_nil ?_
        obtain rfl := some_inj h51
        refine then_n ⟨_, rfl, ?_⟩
        exact ⟨xs92, z99, A94, c95, rfl, hf.keep ⟨rfl, rfl, rfl, trivial⟩, (hM.drop (.cons _ (.cons_cons _ (.cons_cons _ (.cons_cons _ .slnil))))).pick [0] rfl, (chk_R hz100)⟩
      · refine cond_f hf rfl hc54 ?_
        refine wp_exit ?_
        refine then_x ?_
        obtain rfl := some_inj h51
        obtain rfl := hd52 _ rfl
        try dsimp only at h38
        refine then_x ?_
        refine exit_hit ?_
        obtain rfl := some_inj h38
        refine then_n ?_
        exact ⟨xs39, A40, c41, rfl, hf.keep ⟨rfl, trivial⟩, hM.pick [0] rfl⟩
  · rintro a w106 ⟨xs34, A35, c36, rfl, hf, hM⟩
    try dsimp only at h
    refine wp_seq ?_
    refine region_pl ?_
    refine q_ hf rfl rfl rfl (e_move hf rfl) fun a hf => ?_
    refine q_ hf rfl rfl rfl (e_assign hf rfl) fun a hf => ?_
    refine pl_nil ?_
    refine then_n ?_
    refine wp_ret ?_
    obtain rfl := some_inj h
    have hM := hM.front (k := 2) rfl
    dsimp only [List.eraseIdx] at hM
    have hM := hM.outs (own' := [.row SlotRep A35 c36 60 xs34 true]) 1 rfl
    exact leave1 hf rfl rfl ⟨A35, c36, rfl, hM.fin⟩

set_option maxRecDepth 100000 in
set_option maxHeartbeats 4000000 in
theorem r_spec_l00Src_one (C : Cx) (s1 : l00Src) (b2 : Nat) (A3 : Option Addr) (c4 : Nat) (hp5 : (sliceRep byteRep).R C.w0 C.S0 s1.code [vL A3 s1.code c4]) (hp6 : R64 s1.at_) (hp7 : U64 s1.seed) (n8 : Int) (hp9 : R64 n8) (hO : Mem C C.w0 [.box b2 [vL A3 (s1.code) c4, vI (s1.at_), vW (s1.seed)] 84] []) (hd : ∀ b, C.S0 b → ¬ ownB [.box b2 [vL A3 (s1.code) c4, vI (s1.at_), vW (s1.seed)] 84] b) (r : (Bool × l00Src)) (h : m_spec_l00Src_one s1 n8 = some r) :
    Calls Tryz.prog 26 #[vP b2 (0), vI (n8)] C.w0 fun e w => ∃ (A_1 : Option Addr), ∃ (c_1 : Nat), e = .returned (.bool (r.1)) ∧ Mem C w [.box b2 [vL A_1 (r.2.code) c_1, vI (r.2.at_), vW (r.2.seed)] 84] [] ∧ (sliceRep byteRep).R w (Sh C [.box b2 [vL A_1 (r.2.code) c_1, vI (r.2.at_), vW (r.2.seed)] 84] w) r.2.code [vL A_1 r.2.code c_1] ∧ R64 r.2.at_ ∧ U64 r.2.seed := by
  have hM := hO
  have hM := hM.addIn hd (y := .dat (sliceRep byteRep) s1.code [vL A3 s1.code c4]) hp5
  refine enter Tryz.func26 rfl Tryz.ntmps26 rfl fun a hf => ?_
  unfold m_spec_l00Src_one at h
  refine wp_seq ?_
  refine region_pl ?_
  refine q_ hf rfl rfl rfl (e_assign hf rfl) fun a hf => ?_
  refine pl_nil ?_
  refine then_n ?_
  refine wp_seq ?_
  refine region_pl ?_
  refine q_ hf rfl rfl rfl (e_move hf rfl) fun a hf => ?_
  refine q_ hf rfl rfl rfl (e_move hf rfl) fun a hf => ?_
  have hM : Mem C _ ([.box b2 [vL A3 (s1.code) c4, vI (s1.at_), vW (s1.seed)] 84] ++ []) _ := hM
  obtain ⟨y10, hz11, h⟩ := bind_some h
  refine pl_l hf rfl rfl rfl (w_call hf Tryz.call52 rfl (r_spec_l00Src_pick ⟨_, Sh C _ _, ownB _, hM.sh_lt, sub_dis, C.G, hM.g_lt, hM.g_own, hM.tabs⟩ s1 _ _ _ (hM.dat (k := 0) rfl) hp6 hp7 n8 hp9 hM.sub sub_dis _ hz11) ?_)
  rintro _ w18 ⟨A12, c13, rfl, hM2, hv14, hv15, hv16, hv17⟩
  obtain ⟨hM, hup20⟩ := hM.backG hM2
  dsimp only [List.cons_append, List.nil_append] at hM hup20
  clear hM2
  have hM := hM.add (y := .dat (sliceRep byteRep) y10.2.code [vL A12 y10.2.code c13]) (hup20 hv14)
  refine ⟨_, rfl, fun a hf => ?_⟩
  refine q_ hf rfl rfl rfl (e_eq hf (x := y10.1) (y := 0) rfl rfl) fun a hf => ?_
  refine q_ hf rfl rfl rfl (e_assign hf rfl) fun a hf => ?_
  refine pl_nil ?_
  refine then_n ?_
  refine wp_ret ?_
  obtain rfl := some_inj h
  exact leave1 hf rfl rfl ⟨A12, c13, rfl, hM.fin, (hM.dat (k := 0) rfl), hv15, hv16⟩

set_option maxRecDepth 100000 in
set_option maxHeartbeats 4000000 in
theorem r_spec_l25Slot (C : Cx) (s1 : l00Src) (b2 : Nat) (A3 : Option Addr) (c4 : Nat) (hp5 : (sliceRep byteRep).R C.w0 C.S0 s1.code [vL A3 s1.code c4]) (hp6 : R64 s1.at_) (hp7 : U64 s1.seed) (g8 : Grid) (b9 : Nat) (o10 : Nat) (hp11 : (ptrRep GridRep).R C.w0 C.S0 g8 [vP b9 o10]) (hO : Mem C C.w0 [.box b2 [vL A3 (s1.code) c4, vI (s1.at_), vW (s1.seed)] 84] []) (hd : ∀ b, C.S0 b → ¬ ownB [.box b2 [vL A3 (s1.code) c4, vI (s1.at_), vW (s1.seed)] 84] b) (r : (Int × l00Src)) (h : m_spec_l25Slot s1 g8 = some r) :
    Calls Tryz.prog 24 #[vP b2 (0), vP b9 (o10)] C.w0 fun e w => ∃ (A_1 : Option Addr), ∃ (c_1 : Nat), e = .returned (vI (r.1)) ∧ Mem C w [.box b2 [vL A_1 (r.2.code) c_1, vI (r.2.at_), vW (r.2.seed)] 84] [] ∧ (sliceRep byteRep).R w (Sh C [.box b2 [vL A_1 (r.2.code) c_1, vI (r.2.at_), vW (r.2.seed)] 84] w) r.2.code [vL A_1 r.2.code c_1] ∧ R64 r.2.at_ ∧ U64 r.2.seed ∧ R64 r.1 := by
  have hM := hO
  have hM := hM.addIn hd (y := .dat (sliceRep byteRep) s1.code [vL A3 s1.code c4]) hp5
  have hM := hM.addIn hd (y := .dat (ptrRep GridRep) g8 [vP b9 o10]) hp11
  refine enter Tryz.func24 rfl Tryz.ntmps24 rfl fun a hf => ?_
  unfold m_spec_l25Slot at h
  refine wp_seq ?_
  refine region_pl ?_
  refine q_ hf rfl rfl rfl (e_assign hf rfl) fun a hf => ?_
  refine pl_nil ?_
  refine then_n ?_
  refine wp_seq ?_
  refine region_pl ?_
  refine q_ hf rfl rfl rfl (e_assign hf rfl) fun a hf => ?_
  refine pl_nil ?_
  refine then_n ?_
  obtain ⟨x14, h15, h⟩ := bind_some h
  refine seq_join (fun a w => ∃ (n12 : Int), n12 = x14 ∧ Has 20 a [(0, vP b2 (0)), (5, vI (n12))] ∧ Mem C w [.box b2 [vL A3 (s1.code) c4, vI (s1.at_), vW (s1.seed)] 84] [.dat (ptrRep GridRep) g8 [vP b9 o10], .dat (sliceRep byteRep) s1.code [vL A3 s1.code c4]] ∧ R64 n12) ?_ ?_
  · refine wp_seq ?_
    refine region_pl ?_
    refine q_ hf rfl rfl rfl (e_move hf rfl) fun a hf => ?_
    obtain ⟨y16, hz17, h15⟩ := bind_some h15
    refine pl_l hf rfl rfl rfl (w_call hf Tryz.call40 rfl (r_spec_l25Ok ⟨_, Sh C _ _, none_, hM.sh_lt, none_not, C.G, hM.g_lt, g_none, hM.tabs⟩ g8 _ _ (hM.dat (k := 0) rfl) _ hz17) ?_)
    rintro _ w18 ⟨rfl, hM2⟩
    obtain ⟨hM, hx19, hup20⟩ := hM.back hM2
    dsimp only [List.cons_append, List.nil_append] at hM hup20
    clear hM2
    refine ⟨_, rfl, fun a hf => ?_⟩
    refine pl_nil ?_
    refine then_n ?_
    rcases cond_some h15 with ⟨hc21, h15⟩ | ⟨hc21, h15⟩
    · refine cond_t hf rfl hc21 ?_
      refine region_pl ?_
      refine q_ hf rfl rfl rfl (e_move hf rfl) fun a hf => ?_
      obtain ⟨y22, hz23, h15⟩ := bind_some h15
      refine pl_l hf rfl rfl rfl (w_call hf Tryz.call28 rfl (r_spec_l25Slots ⟨_, Sh C _ _, none_, hM.sh_lt, none_not, C.G, hM.g_lt, g_none, hM.tabs⟩ g8 _ _ (hM.dat (k := 0) rfl) _ hz23) ?_)
      rintro _ w26 ⟨A24, c25, rfl, hM2⟩
      obtain ⟨hM, hx27, hup28⟩ := hM.back hM2
      dsimp only [List.cons_append, List.nil_append] at hM hup28
      clear hM2
      refine ⟨_, rfl, fun a hf => ?_⟩
      have hl29 := row_len (hM.ownAt (k := 0) rfl)
      refine q_ hf rfl rfl rfl (e_lenL hf (x := y22) rfl Tryz.underlying30) fun a hf => ?_
      refine q_ hf rfl rfl rfl (e_assign hf rfl) fun a hf => ?_
      refine pl_nil ?_
      obtain rfl := some_inj h15
      refine then_n ?_
      exact ⟨(y22.length : Int), rfl, hf.keep ⟨rfl, rfl, trivial⟩, (hM.drop (.cons _ (.cons_cons _ .slnil))).pick [0, 1] rfl, (R64_len hl29)⟩
    · refine cond_f hf rfl hc21 ?_
      refine wp_skip ?_
      obtain rfl := some_inj h15
      refine then_n ?_
      exact ⟨0, rfl, hf.keep ⟨rfl, rfl, trivial⟩, hM.pick [0, 1] rfl, (R64_lit rfl)⟩
  · rintro a w32 ⟨n12, rfl, hf, hM, hv13⟩
    try dsimp only at h
    refine wp_seq ?_
    refine wp_seq ?_
    refine region_pl ?_
    refine q_ hf rfl rfl rfl (e_move hf rfl) fun a hf => ?_
    have hM : Mem C _ ([.box b2 [vL A3 (s1.code) c4, vI (s1.at_), vW (s1.seed)] 84] ++ []) _ := hM
    obtain ⟨y33, hz34, h⟩ := bind_some h
    refine pl_l hf rfl rfl rfl (w_call hf Tryz.call26 rfl (r_spec_l00Src_one ⟨_, Sh C _ _, ownB _, hM.sh_lt, sub_dis, C.G, hM.g_lt, hM.g_own, hM.tabs⟩ s1 _ _ _ (hM.dat (k := 1) rfl) hp6 hp7 12 (R64_lit rfl) hM.sub sub_dis _ hz34) ?_)
    rintro _ w40 ⟨A35, c36, rfl, hM2, hv37, hv38, hv39⟩
    obtain ⟨hM, hup42⟩ := hM.backG hM2
    dsimp only [List.cons_append, List.nil_append] at hM hup42
    clear hM2
    have hM := hM.add (y := .dat (sliceRep byteRep) y33.2.code [vL A35 y33.2.code c36]) (hup42 hv37)
    refine ⟨_, rfl, fun a hf => ?_⟩
    refine pl_nil ?_
    refine then_n ?_
    rcases cond_some h with ⟨hc43, h⟩ | ⟨hc43, h⟩
    · refine cond_t hf rfl hc43 ?_
      refine wp_seq ?_
      refine region_pl ?_
      refine q_ hf rfl rfl rfl (e_move hf rfl) fun a hf => ?_
      refine q_ hf rfl rfl rfl (e_move hf rfl) fun a hf => ?_
      refine pl_l hf rfl rfl rfl (w_slice hf hM (K := intRep) (xs := ([(-1), n12] : (List Int))) (os := [.const (.int .i64 (-1)), .tmp 14]) Tryz.underlying87 ei_2 rfl rfl rfl rfl rfl ⟨⟨[vI ((-1))], rfl, ⟨rfl, (R64_lit rfl)⟩⟩, ⟨[vI (n12)], rfl, ⟨rfl, hv13⟩⟩, trivial⟩ rfl fun b44 w45 hx46 hM a hf => ?_)
      have hM := hM.freezeRow (k := 0) rfl rfl
      dsimp only [List.eraseIdx] at hM
      have hM : Mem C _ ([.box b2 [vL A35 (y33.2.code) c36, vI (y33.2.at_), vW (y33.2.seed)] 84] ++ []) _ := hM
      obtain ⟨y47, hz48, h⟩ := bind_some h
      refine pl_l hf rfl rfl rfl (w_call hf Tryz.call53 rfl (r_spec_l00Src_among ⟨_, Sh C _ _, ownB _, hM.sh_lt, sub_dis, C.G, hM.g_lt, hM.g_own, hM.tabs⟩ y33.2 _ _ _ (hM.dat (k := 1) rfl) hv38 hv39 ([(-1), n12] : (List Int)) _ _ (hM.dat (k := 0) rfl) hM.sub sub_dis _ hz48) ?_)
      rintro _ w55 ⟨A49, c50, rfl, hM2, hv51, hv52, hv53, hv54⟩
      obtain ⟨hM, hup57⟩ := hM.backG hM2
      dsimp only [List.cons_append, List.nil_append] at hM hup57
      clear hM2
      have hM := hM.add (y := .dat (sliceRep byteRep) y47.2.code [vL A49 y47.2.code c50]) (hup57 hv51)
      refine ⟨_, rfl, fun a hf => ?_⟩
      refine q_ hf rfl rfl rfl (e_assign hf rfl) fun a hf => ?_
      refine pl_nil ?_
      refine then_n ?_
      refine wp_ret ?_
      refine then_r ?_
      obtain rfl := some_inj h
      exact leave1 hf rfl rfl ⟨A49, c50, rfl, hM.fin, (hM.dat (k := 0) rfl), hv52, hv53, hv54⟩
    · refine cond_f hf rfl hc43 ?_
      refine wp_skip ?_
      refine then_n ?_
      refine wp_seq ?_
      refine region_pl ?_
      refine q_ hf rfl rfl rfl (e_move hf rfl) fun a hf => ?_
      refine q_ hf rfl rfl rfl (e_move hf rfl) fun a hf => ?_
      have hM : Mem C _ ([.box b2 [vL A35 (y33.2.code) c36, vI (y33.2.at_), vW (y33.2.seed)] 84] ++ []) _ := hM
      obtain ⟨y58, hz59, h⟩ := bind_some h
      refine pl_l hf rfl rfl rfl (w_call hf Tryz.call52 rfl (r_spec_l00Src_pick ⟨_, Sh C _ _, ownB _, hM.sh_lt, sub_dis, C.G, hM.g_lt, hM.g_own, hM.tabs⟩ y33.2 _ _ _ (hM.dat (k := 0) rfl) hv38 hv39 n12 hv13 hM.sub sub_dis _ hz59) ?_)
      rintro _ w66 ⟨A60, c61, rfl, hM2, hv62, hv63, hv64, hv65⟩
      obtain ⟨hM, hup68⟩ := hM.backG hM2
      dsimp only [List.cons_append, List.nil_append] at hM hup68
      clear hM2
      have hM := hM.add (y := .dat (sliceRep byteRep) y58.2.code [vL A60 y58.2.code c61]) (hup68 hv62)
      refine ⟨_, rfl, fun a hf => ?_⟩
      refine q_ hf rfl rfl rfl (e_assign hf rfl) fun a hf => ?_
      refine pl_nil ?_
      refine then_n ?_
      refine wp_ret ?_
      obtain rfl := some_inj h
      exact leave1 hf rfl rfl ⟨A60, c61, rfl, hM.fin, (hM.dat (k := 0) rfl), hv63, hv64, hv65⟩

set_option maxRecDepth 100000 in
set_option maxHeartbeats 4000000 in
theorem r_spec_l25Code (C : Cx) (g1 : Grid) (b2 : Nat) (o3 : Nat) (hp4 : (ptrRep GridRep).R C.w0 C.S0 g1 [vP b2 o3]) (slot5 : Int) (hp6 : R64 slot5) (r : Int) (h : m_spec_l25Code g1 slot5 = some r) :
    Calls Tryz.prog 27 #[vP b2 (o3), vI (slot5)] C.w0 fun e w => e = .returned (vI (r)) ∧ Mem C w [] [] ∧ R64 r := by
  have hM := Mem.begin C [.dat (ptrRep GridRep) g1 [vP b2 o3]] ⟨hp4, trivial⟩
  refine enter Tryz.func27 rfl Tryz.ntmps27 rfl fun a hf => ?_
  unfold m_spec_l25Code at h
  refine wp_seq ?_
  refine region_pl ?_
  refine q_ hf rfl rfl rfl (e_assign hf rfl) fun a hf => ?_
  refine pl_nil ?_
  refine then_n ?_
  refine wp_seq ?_
  refine wp_seq ?_
  refine region_pl ?_
  refine q_ hf rfl rfl rfl (e_move hf rfl) fun a hf => ?_
  obtain ⟨y7, hz8, h⟩ := bind_some h
  refine pl_l hf rfl rfl rfl (w_call hf Tryz.call40 rfl (r_spec_l25Ok ⟨_, Sh C _ _, none_, hM.sh_lt, none_not, C.G, hM.g_lt, g_none, hM.tabs⟩ g1 _ _ (hM.dat (k := 0) rfl) _ hz8) ?_)
  rintro _ w9 ⟨rfl, hM2⟩
  obtain ⟨hM, hx10, hup11⟩ := hM.back hM2
  dsimp only [List.cons_append, List.nil_append] at hM hup11
  clear hM2
  refine ⟨_, rfl, fun a hf => ?_⟩
  refine q_ hf rfl rfl rfl (e_not hf rfl) fun a hf => ?_
  refine pl_nil ?_
  refine then_n ?_
  rcases cond_some h with ⟨hc12, h⟩ | ⟨hc12, h⟩
  · refine cond_t hf rfl hc12 ?_
    refine wp_seq ?_
    refine region_pl ?_
    refine q_ hf rfl rfl rfl (e_assign hf rfl) fun a hf => ?_
    refine pl_nil ?_
    refine then_n ?_
    refine wp_ret ?_
    refine then_r ?_
    obtain rfl := some_inj h
    exact leave1 hf rfl rfl ⟨rfl, hM.fin, (R64_lit rfl)⟩
  · refine cond_f hf rfl hc12 ?_
    refine wp_skip ?_
    refine then_n ?_
    refine wp_seq ?_
    refine wp_seq ?_
    refine region_pl ?_
    refine q_ hf rfl rfl rfl (e_move hf rfl) fun a hf => ?_
    refine q_ hf rfl rfl rfl (e_move hf rfl) fun a hf => ?_
    obtain ⟨y13, hz14, h⟩ := bind_some h
    refine pl_l hf rfl rfl rfl (w_call hf Tryz.call28 rfl (r_spec_l25Slots ⟨_, Sh C _ _, none_, hM.sh_lt, none_not, C.G, hM.g_lt, g_none, hM.tabs⟩ g1 _ _ (hM.dat (k := 0) rfl) _ hz14) ?_)
    rintro _ w17 ⟨A15, c16, rfl, hM2⟩
    obtain ⟨hM, hx18, hup19⟩ := hM.back hM2
    dsimp only [List.cons_append, List.nil_append] at hM hup19
    clear hM2
    refine ⟨_, rfl, fun a hf => ?_⟩
    have hl20 := row_len (hM.ownAt (k := 0) rfl)
    refine q_ hf rfl rfl rfl (e_lenL hf (x := y13) rfl Tryz.underlying30) fun a hf => ?_
    obtain ⟨z21, hz22, h⟩ := bind_some h
    refine q_ hf rfl rfl rfl (e_sub hf rfl rfl hz22) fun a hf => ?_
    obtain ⟨y23, hz24, h⟩ := bind_some h
    refine pl_l hf rfl rfl rfl (w_call hf Tryz.call55 rfl (r_spec_l00In ⟨_, Sh C _ _, none_, hM.sh_lt, none_not, C.G, hM.g_lt, g_none, hM.tabs⟩ slot5 hp6 0 (R64_lit rfl) z21 (chk_R hz22) _ hz24) ?_)
    rintro _ w25 ⟨rfl, hM2⟩
    obtain ⟨hM, hx26, hup27⟩ := hM.back hM2
    dsimp only [List.cons_append, List.nil_append] at hM hup27
    clear hM2
    refine ⟨_, rfl, fun a hf => ?_⟩
    refine q_ hf rfl rfl rfl (e_not hf rfl) fun a hf => ?_
    refine pl_nil ?_
    refine then_n ?_
    rcases cond_some h with ⟨hc28, h⟩ | ⟨hc28, h⟩
    · refine cond_t hf rfl hc28 ?_
      refine wp_seq ?_
      refine region_pl ?_
      refine q_ hf rfl rfl rfl (e_assign hf rfl) fun a hf => ?_
      refine pl_nil ?_
      refine then_n ?_
      refine wp_ret ?_
      refine then_r ?_
      obtain rfl := some_inj h
      have hM := hM.outs (own' := []) 0 rfl
      exact leave1 hf rfl rfl ⟨rfl, hM.fin, (R64_lit rfl)⟩
    · refine cond_f hf rfl hc28 ?_
      refine wp_skip ?_
      refine then_n ?_
      refine wp_seq ?_
      refine region_pl ?_
      refine q_ hf rfl rfl rfl (e_assign hf rfl) fun a hf => ?_
      refine pl_nil ?_
      refine then_n ?_
      refine wp_ret ?_
      obtain rfl := some_inj h
      have hM := hM.outs (own' := []) 0 rfl
      exact leave1 hf rfl rfl ⟨rfl, hM.fin, (R64_lit rfl)⟩

set_option maxRecDepth 100000 in
set_option maxHeartbeats 4000000 in
theorem r_spec_l25Square (C : Cx) (g1 : Grid) (b2 : Nat) (o3 : Nat) (hp4 : (ptrRep GridRep).R C.w0 C.S0 g1 [vP b2 o3]) (s5 : Slot) (b6 : Nat) (o7 : Nat) (hp8 : (ptrRep SlotRep).R C.w0 C.S0 s5 [vP b6 o7]) (k9 : Int) (hp10 : R64 k9) (r : Int) (h : m_spec_l25Square g1 s5 k9 = some r) :
    Calls Tryz.prog 58 #[vP b2 (o3), vP b6 (o7), vI (k9)] C.w0 fun e w => e = .returned (vI (r)) ∧ Mem C w [] [] ∧ R64 r := by
  have hM := Mem.begin C [.dat (ptrRep SlotRep) s5 [vP b6 o7], .dat (ptrRep GridRep) g1 [vP b2 o3]] ⟨hp8, hp4, trivial⟩
  refine enter Tryz.func58 rfl Tryz.ntmps58 rfl fun a hf => ?_
  unfold m_spec_l25Square at h
  refine wp_seq ?_
  refine region_pl ?_
  refine q_ hf rfl rfl rfl (e_assign hf rfl) fun a hf => ?_
  refine pl_nil ?_
  refine then_n ?_
  refine wp_seq ?_
  refine wp_seq ?_
  refine region_pl ?_
  refine q_ hf rfl rfl rfl (e_move hf rfl) fun a hf => ?_
  refine q_ hf rfl rfl rfl (e_nil hf rfl) fun a hf => ?_
  obtain ⟨_, hr11, hM⟩ := hM.deref (hM.dat (k := 0) rfl)
  obtain ⟨rfl, hv12, hv13, hv14⟩ := SlotRep_open hr11
  refine q_ hf rfl rfl rfl (e_field hf rfl Tryz.underlying60 rfl Tryz.sizeOf4 (o' := o7 + 2) rfl) fun a hf => ?_
  refine q_ hf rfl rfl rfl (e_load1 hf rfl Tryz.isAgg4 (hM.litCell (k := 0) (j := 2) rfl rfl rfl)) fun a hf => ?_
  refine pl_nil ?_
  refine then_n ?_
  rcases cond_some h with ⟨hc15, h⟩ | ⟨hc15, h⟩
  · refine cond_t hf rfl hc15 ?_
    refine wp_seq ?_
    obtain ⟨w16, hw⟩ : ∃ x, x = C.w0.drew := ⟨_, rfl⟩
    refine region_pi (.q 0 (.q 1 (.q 2 (.q 3 (.q 4 (.q 5 (.q 6 (.q 7 (.q 8 (.q 9 (.q 10 (.q 11 (.q 12 (.q 13 (.q 14 (.q 15 (.q 16 (.nil)))))))))))))))))) (Ext w16) rfl (by kernel_rfl) ?_
    have hM := hM.drew
    rw [← hw] at hM ⊢
    clear hw
    refine pi_q hf rfl rfl rfl rfl (Ext.refl _) (e_move hf rfl) fun a hf => ?_
    refine pi_q hf rfl rfl rfl rfl (Ext.refl _) (e_nil hf rfl) fun a hf => ?_
    refine pi_q hf rfl rfl rfl rfl (Ext.refl _) (e_field hf rfl Tryz.underlying60 rfl Tryz.sizeOf2 (o' := o7 + 0) rfl) fun a hf => ?_
    refine pi_q hf rfl rfl rfl rfl (Ext.refl _) (e_load1 hf rfl Tryz.isAgg2 (hM.litCell (k := 0) (j := 0) rfl rfl rfl)) fun a hf => ?_
    refine pi_q hf rfl rfl rfl rfl (Ext.refl _) (e_move hf rfl) fun a hf => ?_
    obtain ⟨z17, hz18, h⟩ := bind_some h
    refine pi_q hf rfl rfl rfl rfl (Ext.refl _) (e_add hf rfl rfl hz18) fun a hf => ?_
    refine pi_q hf rfl rfl rfl rfl (Ext.refl _) (e_move hf rfl) fun a hf => ?_
    refine pi_q hf rfl rfl rfl rfl (Ext.refl _) (e_nil hf rfl) fun a hf => ?_
    obtain ⟨_, hr19, hM⟩ := hM.deref (hM.dat (k := 2) rfl)
    obtain ⟨rfl, hv20, hv21, hv22⟩ := GridRep_open hr19
    refine pi_q hf rfl rfl rfl rfl (Ext.refl _) (e_field hf rfl Tryz.underlying25 rfl Tryz.sizeOf2 (o' := o3 + 1) rfl) fun a hf => ?_
    refine pi_q hf rfl rfl rfl rfl (Ext.refl _) (e_load1 hf rfl Tryz.isAgg2 (hM.litCell (k := 0) (j := 1) rfl rfl rfl)) fun a hf => ?_
    obtain ⟨z23, hz24, h⟩ := bind_some h
    refine pi_q hf rfl rfl rfl rfl (Ext.refl _) (e_mul hf rfl rfl hz24) fun a hf => ?_
    refine pi_q hf rfl rfl rfl rfl (Ext.refl _) (e_move hf rfl) fun a hf => ?_
    refine pi_q hf rfl rfl rfl rfl (Ext.refl _) (e_nil hf rfl) fun a hf => ?_
    refine pi_q hf rfl rfl rfl rfl (Ext.refl _) (e_field hf rfl Tryz.underlying60 rfl Tryz.sizeOf2 (o' := o7 + 1) rfl) fun a hf => ?_
    refine pi_q hf rfl rfl rfl rfl (Ext.refl _) (e_load1 hf rfl Tryz.isAgg2 (hM.litCell (k := 1) (j := 1) rfl rfl rfl)) fun a hf => ?_
    obtain ⟨z25, hz26, h⟩ := bind_some h
    refine pi_q hf rfl rfl rfl rfl (Ext.refl _) (e_add hf rfl rfl hz26) fun a hf => ?_
    refine pi_q hf rfl rfl rfl rfl (Ext.refl _) (e_assign hf rfl) fun a hf => ?_
    refine pi_nil ?_
    refine then_n ?_
    refine wp_ret ?_
    refine then_r ?_
    obtain rfl := some_inj h
    exact leave1 hf rfl rfl ⟨rfl, hM.fin, (chk_R hz26)⟩
  · refine cond_f hf rfl hc15 ?_
    refine wp_skip ?_
    refine then_n ?_
    refine wp_seq ?_
    obtain ⟨w27, hw⟩ : ∃ x, x = C.w0.drew := ⟨_, rfl⟩
    refine region_pi (.q 0 (.q 1 (.q 2 (.q 3 (.q 4 (.q 5 (.q 6 (.q 7 (.q 8 (.q 9 (.q 10 (.q 11 (.q 12 (.q 13 (.q 14 (.q 15 (.q 16 (.nil)))))))))))))))))) (Ext w27) rfl (by kernel_rfl) ?_
    have hM := hM.drew
    rw [← hw] at hM ⊢
    clear hw
    refine pi_q hf rfl rfl rfl rfl (Ext.refl _) (e_move hf rfl) fun a hf => ?_
    refine pi_q hf rfl rfl rfl rfl (Ext.refl _) (e_nil hf rfl) fun a hf => ?_
    refine pi_q hf rfl rfl rfl rfl (Ext.refl _) (e_field hf rfl Tryz.underlying60 rfl Tryz.sizeOf2 (o' := o7 + 0) rfl) fun a hf => ?_
    refine pi_q hf rfl rfl rfl rfl (Ext.refl _) (e_load1 hf rfl Tryz.isAgg2 (hM.litCell (k := 0) (j := 0) rfl rfl rfl)) fun a hf => ?_
    refine pi_q hf rfl rfl rfl rfl (Ext.refl _) (e_move hf rfl) fun a hf => ?_
    refine pi_q hf rfl rfl rfl rfl (Ext.refl _) (e_nil hf rfl) fun a hf => ?_
    obtain ⟨_, hr28, hM⟩ := hM.deref (hM.dat (k := 2) rfl)
    obtain ⟨rfl, hv29, hv30, hv31⟩ := GridRep_open hr28
    refine pi_q hf rfl rfl rfl rfl (Ext.refl _) (e_field hf rfl Tryz.underlying25 rfl Tryz.sizeOf2 (o' := o3 + 1) rfl) fun a hf => ?_
    refine pi_q hf rfl rfl rfl rfl (Ext.refl _) (e_load1 hf rfl Tryz.isAgg2 (hM.litCell (k := 0) (j := 1) rfl rfl rfl)) fun a hf => ?_
    obtain ⟨z32, hz33, h⟩ := bind_some h
    refine pi_q hf rfl rfl rfl rfl (Ext.refl _) (e_mul hf rfl rfl hz33) fun a hf => ?_
    refine pi_q hf rfl rfl rfl rfl (Ext.refl _) (e_move hf rfl) fun a hf => ?_
    refine pi_q hf rfl rfl rfl rfl (Ext.refl _) (e_nil hf rfl) fun a hf => ?_
    refine pi_q hf rfl rfl rfl rfl (Ext.refl _) (e_field hf rfl Tryz.underlying60 rfl Tryz.sizeOf2 (o' := o7 + 1) rfl) fun a hf => ?_
    refine pi_q hf rfl rfl rfl rfl (Ext.refl _) (e_load1 hf rfl Tryz.isAgg2 (hM.litCell (k := 1) (j := 1) rfl rfl rfl)) fun a hf => ?_
    obtain ⟨z34, hz35, h⟩ := bind_some h
    refine pi_q hf rfl rfl rfl rfl (Ext.refl _) (e_add hf rfl rfl hz35) fun a hf => ?_
    refine pi_q hf rfl rfl rfl rfl (Ext.refl _) (e_move hf rfl) fun a hf => ?_
    obtain ⟨z36, hz37, h⟩ := bind_some h
    refine pi_q hf rfl rfl rfl rfl (Ext.refl _) (e_add hf rfl rfl hz37) fun a hf => ?_
    refine pi_q hf rfl rfl rfl rfl (Ext.refl _) (e_assign hf rfl) fun a hf => ?_
    refine pi_nil ?_
    refine then_n ?_
    refine wp_ret ?_
    obtain rfl := some_inj h
    exact leave1 hf rfl rfl ⟨rfl, hM.fin, (chk_R hz37)⟩

set_option maxRecDepth 100000 in
set_option maxHeartbeats 4000000 in
theorem r_spec_l25Pattern (C : Cx) (g1 : Grid) (b2 : Nat) (o3 : Nat) (hp4 : (ptrRep GridRep).R C.w0 C.S0 g1 [vP b2 o3]) (s5 : Slot) (b6 : Nat) (o7 : Nat) (hp8 : (ptrRep SlotRep).R C.w0 C.S0 s5 [vP b6 o7]) (r : Str) (h : m_spec_l25Pattern g1 s5 = some r) :
    Calls Tryz.prog 29 #[vP b2 (o3), vP b6 (o7)] C.w0 fun e w => e = .returned (vS (r)) ∧ Mem C w [] [] ∧ r.length ≤ maxLen := by
  have hM := Mem.begin C [.dat (ptrRep SlotRep) s5 [vP b6 o7], .dat (ptrRep GridRep) g1 [vP b2 o3]] ⟨hp8, hp4, trivial⟩
  refine enter Tryz.func29 rfl Tryz.ntmps29 rfl fun a hf => ?_
  unfold m_spec_l25Pattern at h
  refine wp_seq ?_
  refine region_pl ?_
  refine q_ hf rfl rfl rfl (e_assign hf rfl) fun a hf => ?_
  refine pl_nil ?_
  refine then_n ?_
  refine wp_seq ?_
  refine region_pl ?_
  refine pl_l hf rfl rfl rfl (w_slice0 (K := byteRep) hM Tryz.underlying22 ei_5 fun b9 w10 hx11 hM a hf => ?_)
  refine q_ hf rfl rfl rfl (e_assign hf rfl) fun a hf => ?_
  refine pl_nil ?_
  refine then_n ?_
  obtain ⟨x15, h16, h⟩ := bind_some h
  refine seq_join (fun a w => ∃ (xs12 : Str) (A13 : Option Addr) (c14 : Nat), xs12 = x15 ∧ Has 30 a [(5, vL A13 (xs12) c14)] ∧ Mem C w [.row byteRep A13 c14 5 xs12 true] [.dat (ptrRep SlotRep) s5 [vP b6 o7], .dat (ptrRep GridRep) g1 [vP b2 o3]]) ?_ ?_
  · refine wp_seq ?_
    refine region_pl ?_
    refine q_ hf rfl rfl rfl (e_assign hf rfl) fun a hf => ?_
    refine pl_nil ?_
    refine then_n ?_
    refine wp_block ?_
    obtain ⟨x26, h27, h16⟩ := bind_some h16
    refine wp_loopM h27 (fun s a w => ∃ (xs17 : Str) (n20 : Int) (A18 : Option Addr) (c19 : Nat), (xs17, n20) = s ∧ Has 30 a [(0, vP b2 (o3)), (1, vP b6 (o7)), (5, vL A18 (xs17) c19), (6, vI (n20))] ∧ Mem C w [.row byteRep A18 c19 5 xs17 true] [.dat (ptrRep SlotRep) s5 [vP b6 o7], .dat (ptrRep GridRep) g1 [vP b2 o3]] ∧ R64 n20) ?_ ?_
    · exact ⟨([] : Str), 0, (some ⟨b9, 0, none⟩), 0, rfl, hf.keep ⟨rfl, rfl, rfl, rfl, trivial⟩, hM.pick [0, 1] rfl, (R64_lit rfl)⟩
    · rintro s o28 a w22 ⟨xs17, n20, A18, c19, rfl, hf, hM, hv21⟩ h29 hd30
      replace h29 : m_spec_l25Pattern_l1 s5 g1 xs17 n20 = some o28 := h29
      unfold m_spec_l25Pattern_l1 at h29
      refine wp_seq ?_
      refine wp_seq ?_
      refine region_pl ?_
      refine q_ hf rfl rfl rfl (e_move hf rfl) fun a hf => ?_
      refine q_ hf rfl rfl rfl (e_move hf rfl) fun a hf => ?_
      refine q_ hf rfl rfl rfl (e_nil hf rfl) fun a hf => ?_
      obtain ⟨_, hr31, hM⟩ := hM.deref (hM.dat (k := 0) rfl)
      obtain ⟨rfl, hv32, hv33, hv34⟩ := SlotRep_open hr31
      refine q_ hf rfl rfl rfl (e_field hf rfl Tryz.underlying60 rfl Tryz.sizeOf2 (o' := o7 + 3) rfl) fun a hf => ?_
      refine q_ hf rfl rfl rfl (e_load1 hf rfl Tryz.isAgg2 (hM.litCell (k := 0) (j := 3) rfl rfl rfl)) fun a hf => ?_
      refine q_ hf rfl rfl rfl (e_lt hf (x := n20) (y := s5.Length) rfl rfl) fun a hf => ?_
      refine pl_nil ?_
      refine then_n ?_
      rcases cond_some h29 with ⟨hc35, h29⟩ | ⟨hc35, h29⟩
      · refine cond_t hf rfl hc35 ?_
        refine wp_skip ?_
        refine then_n ?_
        refine wp_seq ?_
        refine wp_block ?_
        obtain ⟨w36, hw⟩ : ∃ x, x = w22.drew := ⟨_, rfl⟩
        refine region_pi (.q 0 (.q 1 (.q 2 (.q 3 (.q 4 (.q 5 (.q 6 (.q 7 (.l 8 (.q 9 (.l 10 (.l 11 (.q 12 (.nil)))))))))))))) (Ext w36) rfl (by kernel_rfl) ?_
        have hM := hM.drew
        rw [← hw] at hM ⊢
        clear hw
        refine pi_q hf rfl rfl rfl rfl (Ext.refl _) (e_move hf rfl) fun a hf => ?_
        refine pi_q hf rfl rfl rfl rfl (Ext.refl _) (e_move hf rfl) fun a hf => ?_
        refine pi_q hf rfl rfl rfl rfl (Ext.refl _) (e_nil hf rfl) fun a hf => ?_
        obtain ⟨_, hr37, hM⟩ := hM.deref (hM.dat (k := 2) rfl)
        obtain ⟨rfl, hv38, hv39, hv40⟩ := GridRep_open hr37
        refine pi_q hf rfl rfl rfl rfl (Ext.refl _) (e_field hf rfl Tryz.underlying25 rfl Tryz.sizeOf9 (o' := o3 + 2) rfl) fun a hf => ?_
        refine pi_q hf rfl rfl rfl rfl (Ext.refl _) (e_load1 hf rfl Tryz.isAgg9 (hM.litCell (k := 0) (j := 2) rfl rfl rfl)) fun a hf => ?_
        refine pi_q hf rfl rfl rfl rfl (Ext.refl _) (e_move hf rfl) fun a hf => ?_
        refine pi_q hf rfl rfl rfl rfl (Ext.refl _) (e_move hf rfl) fun a hf => ?_
        refine pi_q hf rfl rfl rfl rfl (Ext.refl _) (e_move hf rfl) fun a hf => ?_
        refine pi_one ?_
        obtain ⟨y41, hz42, h29⟩ := bind_some h29
        refine pi_l hf rfl rfl rfl rfl (w_call hf Tryz.call58 rfl (r_spec_l25Square ⟨_, Sh C _ _, none_, hM.sh_lt, none_not, C.G, hM.g_lt, g_none, hM.tabs⟩ g1 _ _ (hM.dat (k := 3) rfl) s5 _ _ (hM.dat (k := 2) rfl) n20 hv21 _ hz42) ?_)
        rintro _ w44 ⟨rfl, hM2, hv43⟩
        obtain ⟨hM, hx45, hup46⟩ := hM.back hM2
        dsimp only [List.cons_append, List.nil_append] at hM hup46
        clear hM2
        refine ⟨_, rfl, Ext w44, fun _ h => Ext.trans hx45 h, Ext.refl _, fun a hf => ?_⟩
        obtain ⟨c47, hz48, h29⟩ := bind_some h29
        refine pi_q hf rfl rfl rfl rfl (Ext.refl _) (e_indexS hf (x := g1.Cells) rfl rfl Tryz.underlying9 hz48) fun a hf => ?_
        refine pi_one ?_
        refine pi_l hf rfl rfl rfl rfl (w_slice hf hM (K := byteRep) (xs := ([c47] : Str)) (os := [.tmp 25]) Tryz.underlying22 ei_5 rfl rfl rfl rfl rfl ⟨⟨[vB (c47)], rfl, rfl⟩, trivial⟩ rfl fun b49 w50 hx51 hM => ⟨Ext w50, fun _ h => Ext.trans hx51 h, Ext.refl _, fun a hf => ?_⟩)
        refine pi_one ?_
        obtain ⟨xs52, hz53, h29⟩ := bind_some h29
        refine pi_z hf rfl rfl rfl rfl (by kernel_rfl) (w_append hf hM Tryz.underlying22 ei_5 rfl rfl rfl (k := 1) rfl (hM.srcRow (k := 0) rfl) hz53 fun A54 c55 w56 hM a hf => ?_)
        dsimp only [List.set] at hM
        refine pi_q hf rfl rfl rfl rfl (Ext.refl _) (e_assign hf rfl) fun a hf => ?_
        refine pi_nil ?_
        refine blk_n ?_
        refine then_n ?_
        refine region_pl ?_
        refine q_ hf rfl rfl rfl (e_move hf rfl) fun a hf => ?_
        obtain ⟨z59, hz60, h29⟩ := bind_some h29
        refine q_ hf rfl rfl rfl (e_add hf rfl rfl hz60) fun a hf => ?_
        refine q_ hf rfl rfl rfl (e_assign hf rfl) fun a hf => ?_
        refine pl_nil ?_
        obtain rfl := some_inj h29
        refine then_n ⟨_, rfl, ?_⟩
        exact ⟨xs52, z59, A54, c55, rfl, hf.keep ⟨rfl, rfl, rfl, rfl, trivial⟩, (hM.drop (.cons _ (.cons_cons _ .slnil))).pick [2, 3] rfl, (chk_R hz60)⟩
      · refine cond_f hf rfl hc35 ?_
        refine wp_exit ?_
        refine then_x ?_
        obtain rfl := some_inj h29
        obtain rfl := hd30 _ rfl
        try dsimp only at h16
        refine then_x ?_
        refine exit_hit ?_
        obtain rfl := some_inj h16
        refine then_n ?_
        exact ⟨xs17, A18, c19, rfl, hf.keep ⟨rfl, trivial⟩, hM.pick [1, 2] rfl⟩
  · rintro a w66 ⟨xs12, A13, c14, rfl, hf, hM⟩
    try dsimp only at h
    refine wp_seq ?_
    refine region_pl ?_
    refine q_ hf rfl rfl rfl (e_move hf rfl) fun a hf => ?_
    have hl67 := row_len (hM.ownAt (k := 0) rfl)
    refine q_ hf rfl rfl rfl (e_bytesStr hf (xs := xs12) rfl Tryz.underlying22 Tryz.underlying5 Tryz.underlying9 (hM.lendRow (k := 0) rfl)) fun a hf => ?_
    refine q_ hf rfl rfl rfl (e_assign hf rfl) fun a hf => ?_
    refine pl_nil ?_
    refine then_n ?_
    refine wp_ret ?_
    obtain rfl := some_inj h
    have hM := hM.outs (own' := []) 0 rfl
    exact leave1 hf rfl rfl ⟨rfl, hM.fin, hl67⟩

set_option maxRecDepth 100000 in
set_option maxHeartbeats 4000000 in
theorem r_spec_DrawPutWord (C : Cx) (code1 : Str) (A2 : Option Addr) (c3 : Nat) (hp4 : (sliceRep byteRep).R C.w0 C.S0 code1 [vL A2 code1 c3]) (r : (Grid × Int × Str)) (h : m_spec_DrawPutWord code1 = some r) :
    Calls Tryz.prog 5 #[vL A2 (code1) c3] C.w0 fun e w => e = .returned (.tuple #[.agg #[vI (r.1.Rows), vI (r.1.Cols), vS (r.1.Cells)], vI (r.2.1), vS (r.2.2)]) ∧ Mem C w [] [] ∧ R64 r.1.Rows ∧ R64 r.1.Cols ∧ r.1.Cells.length ≤ maxLen ∧ R64 r.2.1 ∧ r.2.2.length ≤ maxLen := by
  have hM := Mem.begin C [.dat (sliceRep byteRep) code1 [vL A2 code1 c3]] ⟨hp4, trivial⟩
  refine enter Tryz.func5 rfl Tryz.ntmps5 rfl fun a hf => ?_
  unfold m_spec_DrawPutWord at h
  refine wp_seq ?_
  refine region_pl ?_
  refine pl_l hf rfl rfl rfl (w_alloc hM (cs := [vI (0), vI (0), vS (([] : Str))]) Tryz.zeroValue25 rfl fun b5 w6 hx7 hM a hf => ?_)
  refine q_ hf rfl rfl rfl (e_assign hf rfl) fun a hf => ?_
  refine q_ hf rfl rfl rfl (e_assign hf rfl) fun a hf => ?_
  refine pl_nil ?_
  refine then_n ?_
  refine wp_seq ?_
  refine region_pl ?_
  refine q_ hf rfl rfl rfl (e_move hf rfl) fun a hf => ?_
  obtain ⟨y9, hz10, h⟩ := bind_some h
  refine pl_l hf rfl rfl rfl (w_call hf Tryz.call22 rfl (r_spec_l00From ⟨_, Sh C _ _, none_, hM.sh_lt, none_not, C.G, hM.g_lt, g_none, hM.tabs⟩ code1 _ _ (hM.dat (k := 0) rfl) _ hz10) ?_)
  rintro _ w17 ⟨b11, A12, c13, rfl, hM2, hv14, hv15, hv16⟩
  obtain ⟨hM, hx18, hup19⟩ := hM.back hM2
  dsimp only [List.cons_append, List.nil_append] at hM hup19
  clear hM2
  have hM := hM.add (y := .dat (sliceRep byteRep) y9.code [vL A12 y9.code c13]) (hup19 hv14)
  refine ⟨_, rfl, fun a hf => ?_⟩
  refine q_ hf rfl rfl rfl (e_assign hf rfl) fun a hf => ?_
  refine pl_nil ?_
  refine then_n ?_
  refine wp_seq ?_
  refine region_pl ?_
  refine q_ hf rfl rfl rfl (e_move hf rfl) fun a hf => ?_
  have hM : Mem C _ ([.box b11 [vL A12 (y9.code) c13, vI (y9.at_), vW (y9.seed)] 84] ++ [.box b5 [vI (0), vI (0), vS (([] : Str))] 25]) _ := hM
  obtain ⟨y20, hz21, h⟩ := bind_some h
  refine pl_l hf rfl rfl rfl (w_call hf Tryz.call23 rfl (r_spec_l25Bent ⟨_, Sh C _ _, ownB _, hM.sh_lt, sub_dis, C.G, hM.g_lt, hM.g_own, hM.tabs⟩ y9 _ _ _ (hM.dat (k := 0) rfl) hv15 hv16 hM.sub sub_dis _ hz21) ?_)
  rintro _ w30 ⟨A22, c23, rfl, hM2, hv24, hv25, hv26, hv27, hv28, hv29⟩
  obtain ⟨hM, hup32⟩ := hM.backG hM2
  dsimp only [List.cons_append, List.nil_append] at hM hup32
  clear hM2
  have hM := hM.add (y := .dat (sliceRep byteRep) y20.2.code [vL A22 y20.2.code c23]) (hup32 hv24)
  refine ⟨_, rfl, fun a hf => ?_⟩
  refine pl_l hf rfl rfl rfl (w_alloc hM (cs := [vI (0), vI (0), vS (([] : Str))]) Tryz.zeroValue25 rfl fun b33 w34 hx35 hM a hf => ?_)
  refine pl_0 hf rfl rfl (w_store hf hM (us := [vI (y20.1.Rows), vI (y20.1.Cols), vS (y20.1.Cells)]) (cs' := [vI (y20.1.Rows), vI (y20.1.Cols), vS (y20.1.Cells)]) rfl rfl (k := 0) rfl rfl Tryz.sizeOf25 rfl rfl rfl fun w37 hM => ?_)
  dsimp only [List.set] at hM
  refine pl_nil ?_
  refine then_n ?_
  refine wp_seq ?_
  refine region_pl ?_
  refine q_ hf rfl rfl rfl (e_move hf rfl) fun a hf => ?_
  have hM := hM.freezeBox (k := 0) rfl rfl
  dsimp only [List.eraseIdx] at hM
  have hM : Mem C _ ([.box b11 [vL A22 (y20.2.code) c23, vI (y20.2.at_), vW (y20.2.seed)] 84] ++ [.box b5 [vI (0), vI (0), vS (([] : Str))] 25]) _ := hM
  obtain ⟨y40, hz41, h⟩ := bind_some h
  refine pl_l hf rfl rfl rfl (w_call hf Tryz.call24 rfl (r_spec_l25Slot ⟨_, Sh C _ _, ownB _, hM.sh_lt, sub_dis, C.G, hM.g_lt, hM.g_own, hM.tabs⟩ y20.2 _ _ _ (hM.dat (k := 1) rfl) hv25 hv26 y20.1 _ _ (hM.litPtr (k := 0) (d := 0) (us := [vI (y20.1.Rows), vI (y20.1.Cols), vS (y20.1.Cells)]) rfl rfl rfl (GridRep_mk (x := y20.1) hv27 hv28 hv29)) hM.sub sub_dis _ hz41) ?_)
  rintro _ w48 ⟨A42, c43, rfl, hM2, hv44, hv45, hv46, hv47⟩
  obtain ⟨hM, hup50⟩ := hM.backG hM2
  dsimp only [List.cons_append, List.nil_append] at hM hup50
  clear hM2
  have hM := hM.add (y := .dat (sliceRep byteRep) y40.2.code [vL A42 y40.2.code c43]) (hup50 hv44)
  refine ⟨_, rfl, fun a hf => ?_⟩
  refine q_ hf rfl rfl rfl (e_assign hf rfl) fun a hf => ?_
  refine pl_nil ?_
  refine then_n ?_
  refine wp_seq ?_
  refine region_pl ?_
  refine q_ hf rfl rfl rfl (e_move hf rfl) fun a hf => ?_
  refine pl_l hf rfl rfl rfl (w_slice hf hM (K := strRep) (xs := ([([97, 110] : Str), ([97, 116, 101] : Str), ([116, 101, 116, 101] : Str), ([97, 116] : Str), ([101, 97, 116] : Str), ([] : Str), ([65] : Str), ([116, 101, 115, 116, 115] : Str)] : (List Str))) (os := [.const (.string ⟨#[97, 110]⟩), .const (.string ⟨#[97, 116, 101]⟩), .const (.string ⟨#[116, 101, 116, 101]⟩), .const (.string ⟨#[97, 116]⟩), .const (.string ⟨#[101, 97, 116]⟩), .const (.string ⟨#[]⟩), .const (.string ⟨#[65]⟩), .const (.string ⟨#[116, 101, 115, 116, 115]⟩)]) Tryz.underlying39 ei_9 rfl rfl rfl rfl rfl ⟨⟨[vS (([97, 110] : Str))], rfl, ⟨rfl, (lit_len rfl)⟩⟩, ⟨[vS (([97, 116, 101] : Str))], rfl, ⟨rfl, (lit_len rfl)⟩⟩, ⟨[vS (([116, 101, 116, 101] : Str))], rfl, ⟨rfl, (lit_len rfl)⟩⟩, ⟨[vS (([97, 116] : Str))], rfl, ⟨rfl, (lit_len rfl)⟩⟩, ⟨[vS (([101, 97, 116] : Str))], rfl, ⟨rfl, (lit_len rfl)⟩⟩, ⟨[vS (([] : Str))], rfl, ⟨rfl, (lit_len rfl)⟩⟩, ⟨[vS (([65] : Str))], rfl, ⟨rfl, (lit_len rfl)⟩⟩, ⟨[vS (([116, 101, 115, 116, 115] : Str))], rfl, ⟨rfl, (lit_len rfl)⟩⟩, trivial⟩ rfl fun b51 w52 hx53 hM a hf => ?_)
  have hM := hM.freezeRow (k := 0) rfl rfl
  dsimp only [List.eraseIdx] at hM
  have hM : Mem C _ ([.box b11 [vL A42 (y40.2.code) c43, vI (y40.2.at_), vW (y40.2.seed)] 84] ++ [.box b5 [vI (0), vI (0), vS (([] : Str))] 25]) _ := hM
  obtain ⟨y54, hz55, h⟩ := bind_some h
  refine pl_l hf rfl rfl rfl (w_call hf Tryz.call25 rfl (r_spec_l00Src_text ⟨_, Sh C _ _, ownB _, hM.sh_lt, sub_dis, C.G, hM.g_lt, hM.g_own, hM.tabs⟩ y40.2 _ _ _ (hM.dat (k := 1) rfl) hv45 hv46 ([([97, 110] : Str), ([97, 116, 101] : Str), ([116, 101, 116, 101] : Str), ([97, 116] : Str), ([101, 97, 116] : Str), ([] : Str), ([65] : Str), ([116, 101, 115, 116, 115] : Str)] : (List Str)) _ _ (hM.dat (k := 0) rfl) hM.sub sub_dis _ hz55) ?_)
  rintro _ w62 ⟨A56, c57, rfl, hM2, hv58, hv59, hv60, hv61⟩
  obtain ⟨hM, hup64⟩ := hM.backG hM2
  dsimp only [List.cons_append, List.nil_append] at hM hup64
  clear hM2
  have hM := hM.add (y := .dat (sliceRep byteRep) y54.2.code [vL A56 y54.2.code c57]) (hup64 hv58)
  refine ⟨_, rfl, fun a hf => ?_⟩
  refine q_ hf rfl rfl rfl (e_assign hf rfl) fun a hf => ?_
  refine pl_nil ?_
  refine then_n ?_
  obtain ⟨x74, h75, h⟩ := bind_some h
  refine seq_join (fun a w => ∃ (l65 : Str) (n68 : Int) (n70 : Int) (list72 : Str) (A66 : Option Addr) (c67 : Nat), (l65, n68, n70, list72) = x74 ∧ Has 53 a [(2, vP b5 (0)), (6, vP b33 (0)), (7, vI (y40.1)), (8, vS (list72))] ∧ Mem C w [.box b11 [vL A66 (l65) c67, vI (n68), vW (n70)] 84, .box b5 [vI (0), vI (0), vS (([] : Str))] 25] [.dat (sliceRep byteRep) l65 [vL A66 l65 c67], .dat (sliceRep byteRep) y54.2.code [vL A56 y54.2.code c57], .dat (sliceRep strRep) ([([97, 110] : Str), ([97, 116, 101] : Str), ([116, 101, 116, 101] : Str), ([97, 116] : Str), ([101, 97, 116] : Str), ([] : Str), ([65] : Str), ([116, 101, 115, 116, 115] : Str)] : (List Str)) [vL (some ⟨b51, 0, none⟩) ([([97, 110] : Str), ([97, 116, 101] : Str), ([116, 101, 116, 101] : Str), ([97, 116] : Str), ([101, 97, 116] : Str), ([] : Str), ([65] : Str), ([116, 101, 115, 116, 115] : Str)] : (List Str)) 8], .dat (sliceRep byteRep) y40.2.code [vL A42 y40.2.code c43], .lit b33 (0) [vI (y20.1.Rows), vI (y20.1.Cols), vS (y20.1.Cells)], .dat (sliceRep byteRep) y20.2.code [vL A22 y20.2.code c23], .dat (sliceRep byteRep) y9.code [vL A12 y9.code c13], .dat (sliceRep byteRep) code1 [vL A2 code1 c3]] ∧ R64 n68 ∧ U64 n70 ∧ list72.length ≤ maxLen) ?_ ?_
  · obtain ⟨x85, h86, h75⟩ := bind_some h75
    refine seq_join (fun a w => ∃ (l76 : Str) (n79 : Int) (n81 : Int) (t83 : Bool) (A77 : Option Addr) (c78 : Nat), (l76, n79, n81, t83) = x85 ∧ Has 53 a [(2, vP b5 (0)), (6, vP b33 (0)), (7, vI (y40.1)), (8, vS (y54.1)), (27, .bool (t83))] ∧ Mem C w [.box b11 [vL A77 (l76) c78, vI (n79), vW (n81)] 84, .box b5 [vI (0), vI (0), vS (([] : Str))] 25] [.dat (sliceRep byteRep) l76 [vL A77 l76 c78], .dat (sliceRep byteRep) y54.2.code [vL A56 y54.2.code c57], .dat (sliceRep strRep) ([([97, 110] : Str), ([97, 116, 101] : Str), ([116, 101, 116, 101] : Str), ([97, 116] : Str), ([101, 97, 116] : Str), ([] : Str), ([65] : Str), ([116, 101, 115, 116, 115] : Str)] : (List Str)) [vL (some ⟨b51, 0, none⟩) ([([97, 110] : Str), ([97, 116, 101] : Str), ([116, 101, 116, 101] : Str), ([97, 116] : Str), ([101, 97, 116] : Str), ([] : Str), ([65] : Str), ([116, 101, 115, 116, 115] : Str)] : (List Str)) 8], .dat (sliceRep byteRep) y40.2.code [vL A42 y40.2.code c43], .lit b33 (0) [vI (y20.1.Rows), vI (y20.1.Cols), vS (y20.1.Cells)], .dat (sliceRep byteRep) y20.2.code [vL A22 y20.2.code c23], .dat (sliceRep byteRep) y9.code [vL A12 y9.code c13], .dat (sliceRep byteRep) code1 [vL A2 code1 c3]] ∧ R64 n79 ∧ U64 n81) ?_ ?_
    · refine region_pl ?_
      refine q_ hf rfl rfl rfl (e_move hf rfl) fun a hf => ?_
      have hM : Mem C _ ([.box b11 [vL A56 (y54.2.code) c57, vI (y54.2.at_), vW (y54.2.seed)] 84] ++ [.box b5 [vI (0), vI (0), vS (([] : Str))] 25]) _ := hM
      obtain ⟨y87, hz88, h86⟩ := bind_some h86
      refine pl_l hf rfl rfl rfl (w_call hf Tryz.call26 rfl (r_spec_l00Src_one ⟨_, Sh C _ _, ownB _, hM.sh_lt, sub_dis, C.G, hM.g_lt, hM.g_own, hM.tabs⟩ y54.2 _ _ _ (hM.dat (k := 0) rfl) hv59 hv60 2 (R64_lit rfl) hM.sub sub_dis _ hz88) ?_)
      rintro _ w94 ⟨A89, c90, rfl, hM2, hv91, hv92, hv93⟩
      obtain ⟨hM, hup96⟩ := hM.backG hM2
      dsimp only [List.cons_append, List.nil_append] at hM hup96
      clear hM2
      have hM := hM.add (y := .dat (sliceRep byteRep) y87.2.code [vL A89 y87.2.code c90]) (hup96 hv91)
      refine ⟨_, rfl, fun a hf => ?_⟩
      refine q_ hf rfl rfl rfl (e_move hf rfl) fun a hf => ?_
      rcases cond_some h86 with ⟨hc97, h86⟩ | ⟨hc97, h86⟩
      · refine gq (wanted_t hf rfl rfl rfl rfl hc97) hf rfl rfl (e_move hf rfl) fun a hf => ?_
        obtain ⟨y98, hz99, h86⟩ := bind_some h86
        refine pl_gl (wanted_t hf rfl rfl rfl rfl hc97) hf rfl rfl (w_call hf Tryz.call27 rfl (r_spec_l25Code ⟨_, Sh C _ _, none_, hM.sh_lt, none_not, C.G, hM.g_lt, g_none, hM.tabs⟩ y20.1 _ _ (hM.litPtr (k := 4) (d := 0) (us := [vI (y20.1.Rows), vI (y20.1.Cols), vS (y20.1.Cells)]) rfl rfl rfl (GridRep_mk (x := y20.1) hv27 hv28 hv29)) y40.1 hv47 _ hz99) ?_)
        rintro _ w101 ⟨rfl, hM2, hv100⟩
        obtain ⟨hM, hx102, hup103⟩ := hM.back hM2
        dsimp only [List.cons_append, List.nil_append] at hM hup103
        clear hM2
        refine ⟨_, rfl, fun a hf => ?_⟩
        refine gq (wanted_t hf rfl rfl rfl rfl hc97) hf rfl rfl (e_eq hf (x := y98) (y := 0) rfl rfl) fun a hf => ?_
        refine q_ hf rfl rfl rfl (e_pick_t hf rfl hc97 rfl) fun a hf => ?_
        refine pl_nil ?_
        obtain rfl := some_inj h86
        refine then_n ?_
        exact ⟨y87.2.code, y87.2.at_, y87.2.seed, (y98 == 0), A89, c90, rfl, hf.keep ⟨rfl, rfl, rfl, rfl, rfl, trivial⟩, hM.pick [0, 1, 2, 3, 4, 5, 6, 7] rfl, hv92, hv93⟩
      · refine pl_gs (wanted_f hf rfl rfl rfl rfl hc97) hf rfl rfl fun a hf => ?_
        refine pl_gs (wanted_f hf rfl rfl rfl rfl hc97) hf rfl rfl fun a hf => ?_
        refine pl_gs (wanted_f hf rfl rfl rfl rfl hc97) hf rfl rfl fun a hf => ?_
        refine q_ hf rfl rfl rfl (e_pick_f hf rfl hc97 rfl) fun a hf => ?_
        refine pl_nil ?_
        obtain rfl := some_inj h86
        refine then_n ?_
        exact ⟨y87.2.code, y87.2.at_, y87.2.seed, false, A89, c90, rfl, hf.keep ⟨rfl, rfl, rfl, rfl, rfl, trivial⟩, hM.pick [0, 1, 2, 3, 4, 5, 6, 7] rfl, hv92, hv93⟩
    · rintro a w106 ⟨l76, n79, n81, t83, A77, c78, rfl, hf, hM, hv80, hv82⟩
      try dsimp only at h75
      rcases cond_some h75 with ⟨hc107, h75⟩ | ⟨hc107, h75⟩
      · refine cond_t hf rfl hc107 ?_
        refine wp_seq ?_
        refine region_pl ?_
        obtain ⟨y108, hz109, h75⟩ := bind_some h75
        refine pl_l hf rfl rfl rfl (w_call hf Tryz.call28 rfl (r_spec_l25Slots ⟨_, Sh C _ _, none_, hM.sh_lt, none_not, C.G, hM.g_lt, g_none, hM.tabs⟩ y20.1 _ _ (hM.litPtr (k := 4) (d := 0) (us := [vI (y20.1.Rows), vI (y20.1.Cols), vS (y20.1.Cells)]) rfl rfl rfl (GridRep_mk (x := y20.1) hv27 hv28 hv29)) _ hz109) ?_)
        rintro _ w112 ⟨A110, c111, rfl, hM2⟩
        obtain ⟨hM, hx113, hup114⟩ := hM.back hM2
        dsimp only [List.cons_append, List.nil_append] at hM hup114
        clear hM2
        refine ⟨_, rfl, fun a hf => ?_⟩
        refine q_ hf rfl rfl rfl (e_assign hf rfl) fun a hf => ?_
        refine pl_nil ?_
        refine then_n ?_
        refine wp_seq ?_
        refine region_pl ?_
        refine q_ hf rfl rfl rfl (e_move hf rfl) fun a hf => ?_
        refine q_ hf rfl rfl rfl (e_move hf rfl) fun a hf => ?_
        obtain ⟨e115, hz116, h75⟩ := bind_some h75
        obtain ⟨b121, _, hA122, h117, h118, hr119, hcell120⟩ := hM.rowElemN (k := 0) rfl (n := 4) rfl hz116
        obtain ⟨rfl, hv123, hv124, hv125⟩ := SlotRep_open hr119
        refine q_ hf rfl rfl rfl (e_indexAddr (A := A110) (b := b121) (o := 0) (xs := y108) (i := y40.1) hf hA122 rfl rfl Tryz.underlying30 Tryz.sizeOf60 h117 h118) fun a hf => ?_
        obtain ⟨y126, hz127, h75⟩ := bind_some h75
        refine pl_l hf rfl rfl rfl (w_call hf Tryz.call29 rfl (r_spec_l25Pattern ⟨_, All C _ _, none_, hM.all_lt, none_not, C.G, hM.g_lt, g_none, hM.tabs⟩ y20.1 _ _ (hM.litPtrA (k := 4) (d := 0) (us := [vI (y20.1.Rows), vI (y20.1.Cols), vS (y20.1.Cells)]) rfl rfl rfl (GridRep_mk (x := y20.1) hv27 hv28 hv29)) e115 _ _ (hM.lendElem hA122 (k := 0) rfl (n := 4) rfl hz116) _ hz127) ?_)
        rintro _ w129 ⟨rfl, hM2, hv128⟩
        obtain ⟨hM, hx130⟩ := hM.backA hM2
        clear hM2
        refine ⟨_, rfl, fun a hf => ?_⟩
        refine pl_l hf rfl rfl rfl (w_bytes hf hM (x := y126) rfl Tryz.underlying9 Tryz.underlying22 Tryz.underlying5 hv128 fun A132 c133 w134 hx135 hM a hf => ?_)
        refine q_ hf rfl rfl rfl (e_assign hf rfl) fun a hf => ?_
        refine pl_nil ?_
        refine then_n ?_
        obtain ⟨x137, h138, h75⟩ := bind_some h75
        refine seq_join (fun a w => ∃ (xs136 : Str), xs136 = x137 ∧ Has 53 a [(2, vP b5 (0)), (6, vP b33 (0)), (7, vI (y40.1)), (10, vL A132 (xs136) c133)] ∧ Mem C w [.row byteRep A132 c133 5 xs136 false, .row SlotRep A110 c111 60 y108 true, .box b11 [vL A77 (l76) c78, vI (n79), vW (n81)] 84, .box b5 [vI (0), vI (0), vS (([] : Str))] 25] [.dat (sliceRep byteRep) l76 [vL A77 l76 c78], .dat (sliceRep byteRep) y54.2.code [vL A56 y54.2.code c57], .dat (sliceRep strRep) ([([97, 110] : Str), ([97, 116, 101] : Str), ([116, 101, 116, 101] : Str), ([97, 116] : Str), ([101, 97, 116] : Str), ([] : Str), ([65] : Str), ([116, 101, 115, 116, 115] : Str)] : (List Str)) [vL (some ⟨b51, 0, none⟩) ([([97, 110] : Str), ([97, 116, 101] : Str), ([116, 101, 116, 101] : Str), ([97, 116] : Str), ([101, 97, 116] : Str), ([] : Str), ([65] : Str), ([116, 101, 115, 116, 115] : Str)] : (List Str)) 8], .dat (sliceRep byteRep) y40.2.code [vL A42 y40.2.code c43], .lit b33 (0) [vI (y20.1.Rows), vI (y20.1.Cols), vS (y20.1.Cells)], .dat (sliceRep byteRep) y20.2.code [vL A22 y20.2.code c23], .dat (sliceRep byteRep) y9.code [vL A12 y9.code c13], .dat (sliceRep byteRep) code1 [vL A2 code1 c3]]) ?_ ?_
        · refine wp_seq ?_
          refine region_pl ?_
          refine q_ hf rfl rfl rfl (e_assign hf rfl) fun a hf => ?_
          refine pl_nil ?_
          refine then_n ?_
          refine wp_block ?_
          obtain ⟨x144, h145, h138⟩ := bind_some h138
          refine wp_loopM h145 (fun s a w => ∃ (xs139 : Str) (n140 : Int), (xs139, n140) = s ∧ Has 53 a [(2, vP b5 (0)), (6, vP b33 (0)), (7, vI (y40.1)), (10, vL A132 (xs139) c133), (11, vI (n140))] ∧ Mem C w [.row byteRep A132 c133 5 xs139 false, .row SlotRep A110 c111 60 y108 true, .box b11 [vL A77 (l76) c78, vI (n79), vW (n81)] 84, .box b5 [vI (0), vI (0), vS (([] : Str))] 25] [.dat (sliceRep byteRep) l76 [vL A77 l76 c78], .dat (sliceRep byteRep) y54.2.code [vL A56 y54.2.code c57], .dat (sliceRep strRep) ([([97, 110] : Str), ([97, 116, 101] : Str), ([116, 101, 116, 101] : Str), ([97, 116] : Str), ([101, 97, 116] : Str), ([] : Str), ([65] : Str), ([116, 101, 115, 116, 115] : Str)] : (List Str)) [vL (some ⟨b51, 0, none⟩) ([([97, 110] : Str), ([97, 116, 101] : Str), ([116, 101, 116, 101] : Str), ([97, 116] : Str), ([101, 97, 116] : Str), ([] : Str), ([65] : Str), ([116, 101, 115, 116, 115] : Str)] : (List Str)) 8], .dat (sliceRep byteRep) y40.2.code [vL A42 y40.2.code c43], .lit b33 (0) [vI (y20.1.Rows), vI (y20.1.Cols), vS (y20.1.Cells)], .dat (sliceRep byteRep) y20.2.code [vL A22 y20.2.code c23], .dat (sliceRep byteRep) y9.code [vL A12 y9.code c13], .dat (sliceRep byteRep) code1 [vL A2 code1 c3]] ∧ R64 n140) ?_ ?_
          · exact ⟨y126, 0, rfl, hf.keep ⟨rfl, rfl, rfl, rfl, rfl, trivial⟩, hM.pick [0, 1, 2, 3, 4, 5, 6, 7] rfl, (R64_lit rfl)⟩
          · rintro s o146 a w142 ⟨xs139, n140, rfl, hf, hM, hv141⟩ h147 hd148
            replace h147 : m_spec_DrawPutWord_l1 xs139 n140 = some o146 := h147
            unfold m_spec_DrawPutWord_l1 at h147
            refine wp_seq ?_
            refine wp_seq ?_
            refine region_pl ?_
            refine q_ hf rfl rfl rfl (e_move hf rfl) fun a hf => ?_
            refine q_ hf rfl rfl rfl (e_move hf rfl) fun a hf => ?_
            have hl149 := row_len (hM.ownAt (k := 0) rfl)
            refine q_ hf rfl rfl rfl (e_lenL hf (x := xs139) rfl Tryz.underlying22) fun a hf => ?_
            refine q_ hf rfl rfl rfl (e_lt hf (x := n140) (y := (xs139.length : Int)) rfl rfl) fun a hf => ?_
            refine pl_nil ?_
            refine then_n ?_
            rcases cond_some h147 with ⟨hc150, h147⟩ | ⟨hc150, h147⟩
            · refine cond_t hf rfl hc150 ?_
              refine wp_skip ?_
              refine then_n ?_
              obtain ⟨x152, h153, h147⟩ := bind_some h147
              refine seq_join (fun a w => ∃ (xs151 : Str), xs151 = x152 ∧ Has 53 a [(2, vP b5 (0)), (6, vP b33 (0)), (7, vI (y40.1)), (10, vL A132 (xs151) c133), (11, vI (n140))] ∧ Mem C w [.row byteRep A132 c133 5 xs151 false, .row SlotRep A110 c111 60 y108 true, .box b11 [vL A77 (l76) c78, vI (n79), vW (n81)] 84, .box b5 [vI (0), vI (0), vS (([] : Str))] 25] [.dat (sliceRep byteRep) l76 [vL A77 l76 c78], .dat (sliceRep byteRep) y54.2.code [vL A56 y54.2.code c57], .dat (sliceRep strRep) ([([97, 110] : Str), ([97, 116, 101] : Str), ([116, 101, 116, 101] : Str), ([97, 116] : Str), ([101, 97, 116] : Str), ([] : Str), ([65] : Str), ([116, 101, 115, 116, 115] : Str)] : (List Str)) [vL (some ⟨b51, 0, none⟩) ([([97, 110] : Str), ([97, 116, 101] : Str), ([116, 101, 116, 101] : Str), ([97, 116] : Str), ([101, 97, 116] : Str), ([] : Str), ([65] : Str), ([116, 101, 115, 116, 115] : Str)] : (List Str)) 8], .dat (sliceRep byteRep) y40.2.code [vL A42 y40.2.code c43], .lit b33 (0) [vI (y20.1.Rows), vI (y20.1.Cols), vS (y20.1.Cells)], .dat (sliceRep byteRep) y20.2.code [vL A22 y20.2.code c23], .dat (sliceRep byteRep) y9.code [vL A12 y9.code c13], .dat (sliceRep byteRep) code1 [vL A2 code1 c3]]) ?_ ?_
              · refine wp_block ?_
                refine wp_seq ?_
                refine region_pl ?_
                refine q_ hf rfl rfl rfl (e_move hf rfl) fun a hf => ?_
                refine q_ hf rfl rfl rfl (e_move hf rfl) fun a hf => ?_
                obtain ⟨e154, hz155, h153⟩ := bind_some h153
                obtain ⟨b160, _, hA161, h156, h157, hr158, hcell159⟩ := hM.rowElemN (k := 0) rfl (n := 1) rfl hz155
                obtain rfl : _ = _ := hr158
                refine q_ hf rfl rfl rfl (e_indexAddr (A := A132) (b := b160) (o := 0) (xs := xs139) (i := n140) hf hA161 rfl rfl Tryz.underlying22 Tryz.sizeOf5 h156 h157) fun a hf => ?_
                refine q_ hf rfl rfl rfl (e_load1 hf rfl Tryz.isAgg5 (hcell159 0 _ rfl)) fun a hf => ?_
                refine q_ hf rfl rfl rfl (e_eqB hf (x := e154) (y := 46) rfl rfl) fun a hf => ?_
                refine pl_nil ?_
                refine then_n ?_
                rcases cond_some h153 with ⟨hc162, h153⟩ | ⟨hc162, h153⟩
                · refine cond_t hf rfl hc162 ?_
                  refine region_pl ?_
                  refine q_ hf rfl rfl rfl (e_move hf rfl) fun a hf => ?_
                  refine q_ hf rfl rfl rfl (e_move hf rfl) fun a hf => ?_
                  obtain ⟨e163, hz164, h153⟩ := bind_some h153
                  obtain ⟨b169, _, hA170, h165, h166, hr167, hcell168⟩ := hM.rowElemN (k := 0) rfl (n := 1) rfl hz164
                  obtain rfl : _ = _ := hr167
                  refine q_ hf rfl rfl rfl (e_indexAddr (A := A132) (b := b169) (o := 0) (xs := xs139) (i := n140) hf hA170 rfl rfl Tryz.underlying22 Tryz.sizeOf5 h165 h166) fun a hf => ?_
                  obtain ⟨xs172, hz173, h153⟩ := bind_some h153
                  refine pl_0 hf rfl rfl (w_storeElem hf hM (x := 101) (row := [vB (101)]) (i := n140) rfl rfl rfl hA170 (k := 0) rfl rfl Tryz.sizeOf5 rfl hz173 fun w171 hM => ?_)
                  dsimp only [List.set] at hM
                  have hf := hf.alter (d := 10) (v := vL A132 (xs172) c133) rfl (vL_len (setL_len hz173))
                  have hf := hf.alter (d := 35) (v := vL A132 (xs172) c133) rfl (vL_len (setL_len hz173))
                  have hf := hf.alter (d := 40) (v := vL A132 (xs172) c133) rfl (vL_len (setL_len hz173))
                  have hf := hf.alter (d := 45) (v := vL A132 (xs172) c133) rfl (vL_len (setL_len hz173))
                  refine pl_nil ?_
                  refine blk_n ?_
                  obtain rfl := some_inj h153
                  refine then_n ?_
                  exact ⟨xs172, rfl, hf.keep ⟨rfl, rfl, rfl, rfl, rfl, trivial⟩, hM.pick [0, 1, 2, 3, 4, 5, 6, 7] rfl⟩
                · refine cond_f hf rfl hc162 ?_
                  refine wp_skip ?_
                  refine blk_n ?_
                  obtain rfl := some_inj h153
                  refine then_n ?_
                  exact ⟨xs139, rfl, hf.keep ⟨rfl, rfl, rfl, rfl, rfl, trivial⟩, hM.pick [0, 1, 2, 3, 4, 5, 6, 7] rfl⟩
              · rintro a w176 ⟨xs151, rfl, hf, hM⟩
                try dsimp only at h147
                refine region_pl ?_
                refine q_ hf rfl rfl rfl (e_move hf rfl) fun a hf => ?_
                obtain ⟨z177, hz178, h147⟩ := bind_some h147
                refine q_ hf rfl rfl rfl (e_add hf rfl rfl hz178) fun a hf => ?_
                refine q_ hf rfl rfl rfl (e_assign hf rfl) fun a hf => ?_
                refine pl_nil ?_
                obtain rfl := some_inj h147
                refine then_n ⟨_, rfl, ?_⟩
                exact ⟨xs151, z177, rfl, hf.keep ⟨rfl, rfl, rfl, rfl, rfl, trivial⟩, hM.pick [0, 1, 2, 3, 4, 5, 6, 7] rfl, (chk_R hz178)⟩
            · refine cond_f hf rfl hc150 ?_
              refine wp_exit ?_
              refine then_x ?_
              obtain rfl := some_inj h147
              obtain rfl := hd148 _ rfl
              try dsimp only at h138
              refine then_x ?_
              refine exit_hit ?_
              obtain rfl := some_inj h138
              refine then_n ?_
              exact ⟨xs139, rfl, hf.keep ⟨rfl, rfl, rfl, rfl, trivial⟩, hM.pick [0, 1, 2, 3, 4, 5, 6, 7] rfl⟩
        · rintro a w184 ⟨xs136, rfl, hf, hM⟩
          try dsimp only at h75
          refine region_pl ?_
          refine q_ hf rfl rfl rfl (e_move hf rfl) fun a hf => ?_
          have hl185 := row_len (hM.ownAt (k := 0) rfl)
          refine q_ hf rfl rfl rfl (e_bytesStr hf (xs := xs136) rfl Tryz.underlying22 Tryz.underlying5 Tryz.underlying9 (hM.lendRow (k := 0) rfl)) fun a hf => ?_
          refine q_ hf rfl rfl rfl (e_assign hf rfl) fun a hf => ?_
          refine pl_nil ?_
          obtain rfl := some_inj h75
          refine then_n ?_
          exact ⟨l76, n79, n81, xs136, A77, c78, rfl, hf.keep ⟨rfl, rfl, rfl, rfl, trivial⟩, (hM.drop (.cons _ (.cons _ (.cons_cons _ (.cons_cons _ .slnil))))).pick [0, 1, 2, 3, 4, 5, 6, 7] rfl, hv80, hv82, hl185⟩
      · refine cond_f hf rfl hc107 ?_
        refine wp_skip ?_
        obtain rfl := some_inj h75
        refine then_n ?_
        exact ⟨l76, n79, n81, y54.1, A77, c78, rfl, hf.keep ⟨rfl, rfl, rfl, rfl, trivial⟩, hM.pick [0, 1, 2, 3, 4, 5, 6, 7] rfl, hv80, hv82, hv61⟩
  · rintro a w188 ⟨l65, n68, n70, list72, A66, c67, rfl, hf, hM, hv69, hv71, hv73⟩
    try dsimp only at h
    refine wp_seq ?_
    refine region_pl ?_
    refine q_ hf rfl rfl rfl (e_loadA hf (us := [vI (y20.1.Rows), vI (y20.1.Cols), vS (y20.1.Cells)]) rfl ⟨Tryz.isAgg25, Tryz.sizeOf25⟩ rfl (hM.litSub (k := 4) (d := 0) (us := [vI (y20.1.Rows), vI (y20.1.Cols), vS (y20.1.Cells)]) rfl rfl rfl)) fun a hf => ?_
    refine q_ hf rfl rfl rfl (e_move hf rfl) fun a hf => ?_
    refine q_ hf rfl rfl rfl (e_move hf rfl) fun a hf => ?_
    refine pl_0 hf rfl rfl (w_store hf hM (us := [vI (y20.1.Rows), vI (y20.1.Cols), vS (y20.1.Cells)]) (cs' := [vI (y20.1.Rows), vI (y20.1.Cols), vS (y20.1.Cells)]) rfl rfl (k := 1) rfl rfl Tryz.sizeOf25 rfl rfl rfl fun w189 hM => ?_)
    dsimp only [List.set] at hM
    refine q_ hf rfl rfl rfl (e_assign hf rfl) fun a hf => ?_
    refine q_ hf rfl rfl rfl (e_assign hf rfl) fun a hf => ?_
    refine pl_nil ?_
    refine then_n ?_
    refine wp_ret ?_
    obtain rfl := some_inj h
    have hres192 := leaveV3 (P := Tryz.prog) Tryz.results5 (res_agg hf rfl ⟨Tryz.isAgg25, Tryz.sizeOf25⟩ (us := [vI (y20.1.Rows), vI (y20.1.Cols), vS (y20.1.Cells)]) rfl (hM.boxSub (k := 1) (o := 0) rfl rfl)) (res_tmp hf rfl) (res_tmp hf rfl)
    have hM := hM.outs (own' := []) 0 rfl
    exact bodyPost_ret hres192 hf.defers ⟨rfl, hM.fin, hv27, hv28, hv29, hv47, hv73⟩

set_option maxRecDepth 100000 in
set_option maxHeartbeats 4000000 in
theorem r_impl_within (C : Cx) (x1 : Int) (hp2 : R64 x1) (low3 : Int) (hp4 : R64 low3) (high5 : Int) (hp6 : R64 high5) (r : Bool) (h : m_impl_within x1 low3 high5 = some r) :
    Calls Tryz.prog 59 #[vI (x1), vI (low3), vI (high5)] C.w0 fun e w => e = .returned (.bool (r)) ∧ Mem C w [] [] := by
  have hM := Mem.begin C [] trivial
  refine enter Tryz.func59 rfl Tryz.ntmps59 rfl fun a hf => ?_
  unfold m_impl_within at h
  refine wp_seq ?_
  refine region_pl ?_
  refine q_ hf rfl rfl rfl (e_assign hf rfl) fun a hf => ?_
  refine pl_nil ?_
  refine then_n ?_
  obtain ⟨x9, h10, h⟩ := bind_some h
  refine seq_join (fun a w => ∃ (t7 : Bool), t7 = x9 ∧ Has 15 a [(6, .bool (t7))] ∧ Mem C w [] []) ?_ ?_
  · refine region_pl ?_
    refine q_ hf rfl rfl rfl (e_move hf rfl) fun a hf => ?_
    refine q_ hf rfl rfl rfl (e_move hf rfl) fun a hf => ?_
    refine q_ hf rfl rfl rfl (e_le hf (x := low3) (y := x1) rfl rfl) fun a hf => ?_
    refine q_ hf rfl rfl rfl (e_move hf rfl) fun a hf => ?_
    rcases cond_some h10 with ⟨hc11, h10⟩ | ⟨hc11, h10⟩
    · refine gq (wanted_t hf rfl rfl rfl rfl hc11) hf rfl rfl (e_move hf rfl) fun a hf => ?_
      refine gq (wanted_t hf rfl rfl rfl rfl hc11) hf rfl rfl (e_move hf rfl) fun a hf => ?_
      refine gq (wanted_t hf rfl rfl rfl rfl hc11) hf rfl rfl (e_le hf (x := x1) (y := high5) rfl rfl) fun a hf => ?_
      refine q_ hf rfl rfl rfl (e_pick_t hf rfl hc11 rfl) fun a hf => ?_
      refine q_ hf rfl rfl rfl (e_assign hf rfl) fun a hf => ?_
      refine pl_nil ?_
      obtain rfl := some_inj h10
      refine then_n ?_
      exact ⟨(decide (x1 ≤ high5)), rfl, hf.keep ⟨rfl, trivial⟩, hM.pick [] rfl⟩
    · refine pl_gs (wanted_f hf rfl rfl rfl rfl hc11) hf rfl rfl fun a hf => ?_
      refine pl_gs (wanted_f hf rfl rfl rfl rfl hc11) hf rfl rfl fun a hf => ?_
      refine pl_gs (wanted_f hf rfl rfl rfl rfl hc11) hf rfl rfl fun a hf => ?_
      refine q_ hf rfl rfl rfl (e_pick_f hf rfl hc11 rfl) fun a hf => ?_
      refine q_ hf rfl rfl rfl (e_assign hf rfl) fun a hf => ?_
      refine pl_nil ?_
      obtain rfl := some_inj h10
      refine then_n ?_
      exact ⟨false, rfl, hf.keep ⟨rfl, trivial⟩, hM.pick [] rfl⟩
  · rintro a w14 ⟨t7, rfl, hf, hM⟩
    try dsimp only at h
    refine wp_ret ?_
    obtain rfl := some_inj h
    exact leave1 hf rfl rfl ⟨rfl, hM.fin⟩

set_option maxRecDepth 100000 in
set_option maxHeartbeats 4000000 in
theorem r_impl_allBytes (C : Cx) (s1 : Str) (hp2 : s1.length ≤ maxLen) (is3 : (UInt8 → Option Bool)) (fk4 : FuncId) (fc5 : List Value) (hfn6 : FnOk Tryz.prog C fk4 (FnC_UInt8_to_Bool fk4 fc5 is3)) (r : Bool) (h : m_impl_allBytes s1 is3 = some r) :
    Calls Tryz.prog 60 #[vS (s1), .func (.func fk4) #[] fc5.toArray] C.w0 fun e w => e = .returned (.bool (r)) ∧ Mem C w [] [] := by
  have hM := Mem.begin C [] trivial
  refine enter Tryz.func60 rfl Tryz.ntmps60 rfl fun a hf => ?_
  unfold m_impl_allBytes at h
  refine wp_seq ?_
  refine region_pl ?_
  refine q_ hf rfl rfl rfl (e_assign hf rfl) fun a hf => ?_
  refine pl_nil ?_
  refine then_n ?_
  obtain ⟨x7, h8, h⟩ := bind_some h
  refine seq_join (fun a w => (.inl ()) = x7 ∧ Has 18 a [] ∧ Mem C w [] []) ?_ ?_
  · refine wp_seq ?_
    refine region_pl ?_
    refine q_ hf rfl rfl rfl (e_assign hf rfl) fun a hf => ?_
    refine pl_nil ?_
    refine then_n ?_
    refine wp_block ?_
    obtain ⟨x12, h13, h8⟩ := bind_some h8
    refine wp_loopM h13 (fun s a w => ∃ (n9 : Int), n9 = s ∧ Has 18 a [(0, vS (s1)), (1, .func (.func fk4) #[] fc5.toArray), (5, vI (n9))] ∧ Mem C w [] [] ∧ R64 n9) ?_ ?_
    · exact ⟨0, rfl, hf.keep ⟨rfl, rfl, rfl, trivial⟩, hM.pick [] rfl, (R64_lit rfl)⟩
    · rintro s o14 a w11 ⟨n9, rfl, hf, hM, hv10⟩ h15 hd16
      replace h15 : m_impl_allBytes_l1 s1 is3 n9 = some o14 := h15
      unfold m_impl_allBytes_l1 at h15
      refine wp_seq ?_
      refine wp_seq ?_
      refine region_pl ?_
      refine q_ hf rfl rfl rfl (e_move hf rfl) fun a hf => ?_
      refine q_ hf rfl rfl rfl (e_move hf rfl) fun a hf => ?_
      refine q_ hf rfl rfl rfl (e_lenS hf (x := s1) rfl Tryz.underlying9) fun a hf => ?_
      refine q_ hf rfl rfl rfl (e_lt hf (x := n9) (y := (s1.length : Int)) rfl rfl) fun a hf => ?_
      refine pl_nil ?_
      refine then_n ?_
      rcases cond_some h15 with ⟨hc17, h15⟩ | ⟨hc17, h15⟩
      · refine cond_t hf rfl hc17 ?_
        refine wp_skip ?_
        refine then_n ?_
        refine wp_seq ?_
        refine wp_block ?_
        refine wp_seq ?_
        refine region_pl ?_
        refine q_ hf rfl rfl rfl (e_move hf rfl) fun a hf => ?_
        refine q_ hf rfl rfl rfl (e_move hf rfl) fun a hf => ?_
        refine q_ hf rfl rfl rfl (e_move hf rfl) fun a hf => ?_
        obtain ⟨c18, hz19, h15⟩ := bind_some h15
        refine q_ hf rfl rfl rfl (e_indexS hf (x := s1) rfl rfl Tryz.underlying9 hz19) fun a hf => ?_
        obtain ⟨y20, hz21, h15⟩ := bind_some h15
        refine pl_l hf rfl rfl rfl (w_callV hf rfl hfn6.1 rfl (hfn6.2 ⟨_, Sh C _ _, none_, hM.sh_lt, none_not, C.G, hM.g_lt, g_none, hM.tabs⟩ hM.sameS hM.s0sh c18 _ hz21) ?_)
        rintro _ w22 ⟨rfl, hM2⟩
        obtain ⟨hM, hx23, hup24⟩ := hM.back hM2
        dsimp only [List.cons_append, List.nil_append] at hM hup24
        clear hM2
        refine ⟨_, rfl, fun a hf => ?_⟩
        refine q_ hf rfl rfl rfl (e_not hf rfl) fun a hf => ?_
        refine pl_nil ?_
        refine then_n ?_
        rcases cond_some h15 with ⟨hc25, h15⟩ | ⟨hc25, h15⟩
        · refine cond_t hf rfl hc25 ?_
          refine wp_seq ?_
          refine region_pl ?_
          refine q_ hf rfl rfl rfl (e_assign hf rfl) fun a hf => ?_
          refine pl_nil ?_
          refine then_n ?_
          refine wp_ret ?_
          refine blk_r ?_
          refine then_r ?_
          obtain rfl := some_inj h15
          obtain rfl := hd16 _ rfl
          try dsimp only at h8
          refine then_r ?_
          refine blk_r ?_
          obtain rfl := some_inj h8
          try dsimp only at h
          refine then_r ?_
          obtain rfl := some_inj h
          exact leave1 hf rfl rfl ⟨rfl, hM.fin⟩
        · refine cond_f hf rfl hc25 ?_
          refine wp_skip ?_
          refine blk_n ?_
          refine then_n ?_
          refine region_pl ?_
          refine q_ hf rfl rfl rfl (e_move hf rfl) fun a hf => ?_
          obtain ⟨z26, hz27, h15⟩ := bind_some h15
          refine q_ hf rfl rfl rfl (e_add hf rfl rfl hz27) fun a hf => ?_
          refine q_ hf rfl rfl rfl (e_assign hf rfl) fun a hf => ?_
          refine pl_nil ?_
          obtain rfl := some_inj h15
          refine then_n ⟨_, rfl, ?_⟩
          exact ⟨z26, rfl, hf.keep ⟨rfl, rfl, rfl, trivial⟩, hM.pick [] rfl, (chk_R hz27)⟩
      · refine cond_f hf rfl hc17 ?_
        refine wp_exit ?_
        refine then_x ?_
        obtain rfl := some_inj h15
        obtain rfl := hd16 _ rfl
        try dsimp only at h8
        refine then_x ?_
        refine exit_hit ?_
        obtain rfl := some_inj h8
        refine then_n ?_
        exact ⟨rfl, hf.keep trivial, hM.pick [] rfl⟩
  · rintro a w34 ⟨rfl, hf, hM⟩
    try dsimp only at h
    refine wp_seq ?_
    refine region_pl ?_
    refine q_ hf rfl rfl rfl (e_assign hf rfl) fun a hf => ?_
    refine pl_nil ?_
    refine then_n ?_
    refine wp_ret ?_
    obtain rfl := some_inj h
    exact leave1 hf rfl rfl ⟨rfl, hM.fin⟩

set_option maxRecDepth 100000 in
set_option maxHeartbeats 4000000 in
theorem r_impl_small (C : Cx) (c1 : UInt8) (r : Bool) (h : m_impl_small c1 = some r) :
    Calls Tryz.prog 81 #[vB (c1)] C.w0 fun e w => e = .returned (.bool (r)) ∧ Mem C w [] [] := by
  have hM := Mem.begin C [] trivial
  refine enter Tryz.func81 rfl Tryz.ntmps81 rfl fun a hf => ?_
  unfold m_impl_small at h
  refine wp_seq ?_
  refine region_pl ?_
  refine q_ hf rfl rfl rfl (e_assign hf rfl) fun a hf => ?_
  refine pl_nil ?_
  refine then_n ?_
  obtain ⟨x4, h5, h⟩ := bind_some h
  refine seq_join (fun a w => ∃ (t2 : Bool), t2 = x4 ∧ Has 9 a [(2, .bool (t2))] ∧ Mem C w [] []) ?_ ?_
  · refine region_pl ?_
    refine q_ hf rfl rfl rfl (e_move hf rfl) fun a hf => ?_
    refine q_ hf rfl rfl rfl (e_leB hf (x := 97) (y := c1) rfl rfl) fun a hf => ?_
    refine q_ hf rfl rfl rfl (e_move hf rfl) fun a hf => ?_
    rcases cond_some h5 with ⟨hc6, h5⟩ | ⟨hc6, h5⟩
    · refine gq (wanted_t hf rfl rfl rfl rfl hc6) hf rfl rfl (e_move hf rfl) fun a hf => ?_
      refine gq (wanted_t hf rfl rfl rfl rfl hc6) hf rfl rfl (e_leB hf (x := c1) (y := 122) rfl rfl) fun a hf => ?_
      refine q_ hf rfl rfl rfl (e_pick_t hf rfl hc6 rfl) fun a hf => ?_
      refine q_ hf rfl rfl rfl (e_assign hf rfl) fun a hf => ?_
      refine pl_nil ?_
      obtain rfl := some_inj h5
      refine then_n ?_
      exact ⟨(decide (c1 ≤ 122)), rfl, hf.keep ⟨rfl, trivial⟩, hM.pick [] rfl⟩
    · refine pl_gs (wanted_f hf rfl rfl rfl rfl hc6) hf rfl rfl fun a hf => ?_
      refine pl_gs (wanted_f hf rfl rfl rfl rfl hc6) hf rfl rfl fun a hf => ?_
      refine q_ hf rfl rfl rfl (e_pick_f hf rfl hc6 rfl) fun a hf => ?_
      refine q_ hf rfl rfl rfl (e_assign hf rfl) fun a hf => ?_
      refine pl_nil ?_
      obtain rfl := some_inj h5
      refine then_n ?_
      exact ⟨false, rfl, hf.keep ⟨rfl, trivial⟩, hM.pick [] rfl⟩
  · rintro a w9 ⟨t2, rfl, hf, hM⟩
    try dsimp only at h
    refine wp_ret ?_
    obtain rfl := some_inj h
    exact leave1 hf rfl rfl ⟨rfl, hM.fin⟩

set_option maxRecDepth 100000 in
set_option maxHeartbeats 4000000 in
theorem r_impl_gridByte (C : Cx) (c1 : UInt8) (r : Bool) (h : m_impl_gridByte c1 = some r) :
    Calls Tryz.prog 61 #[vB (c1)] C.w0 fun e w => e = .returned (.bool (r)) ∧ Mem C w [] [] := by
  have hM := Mem.begin C [] trivial
  refine enter Tryz.func61 rfl Tryz.ntmps61 rfl fun a hf => ?_
  unfold m_impl_gridByte at h
  refine wp_seq ?_
  refine region_pl ?_
  refine q_ hf rfl rfl rfl (e_assign hf rfl) fun a hf => ?_
  refine pl_nil ?_
  refine then_n ?_
  obtain ⟨x4, h5, h⟩ := bind_some h
  refine seq_join (fun a w => ∃ (t2 : Bool), t2 = x4 ∧ Has 13 a [(2, .bool (t2))] ∧ Mem C w [] []) ?_ ?_
  · refine region_pl ?_
    refine q_ hf rfl rfl rfl (e_move hf rfl) fun a hf => ?_
    refine q_ hf rfl rfl rfl (e_eqB hf (x := c1) (y := 35) rfl rfl) fun a hf => ?_
    refine q_ hf rfl rfl rfl (e_move hf rfl) fun a hf => ?_
    rcases cond_some h5 with ⟨hc6, h5⟩ | ⟨hc6, h5⟩
    · refine pl_gs (wanted_f hf rfl rfl rfl rfl hc6) hf rfl rfl fun a hf => ?_
      refine pl_gs (wanted_f hf rfl rfl rfl rfl hc6) hf rfl rfl fun a hf => ?_
      refine q_ hf rfl rfl rfl (e_pick_t hf rfl hc6 rfl) fun a hf => ?_
      refine q_ hf rfl rfl rfl (e_move hf rfl) fun a hf => ?_
      refine pl_gs (wanted_f hf rfl rfl rfl rfl rfl) hf rfl rfl fun a hf => ?_
      refine pl_gs (wanted_f hf rfl rfl rfl rfl rfl) hf rfl rfl fun a hf => ?_
      refine q_ hf rfl rfl rfl (e_pick_t hf rfl rfl rfl) fun a hf => ?_
      refine q_ hf rfl rfl rfl (e_assign hf rfl) fun a hf => ?_
      refine pl_nil ?_
      obtain rfl := some_inj h5
      refine then_n ?_
      exact ⟨true, rfl, hf.keep ⟨rfl, trivial⟩, hM.pick [] rfl⟩
    · refine gq (wanted_t hf rfl rfl rfl rfl hc6) hf rfl rfl (e_move hf rfl) fun a hf => ?_
      refine gq (wanted_t hf rfl rfl rfl rfl hc6) hf rfl rfl (e_eqB hf (x := c1) (y := 46) rfl rfl) fun a hf => ?_
      refine q_ hf rfl rfl rfl (e_pick_f hf rfl hc6 rfl) fun a hf => ?_
      refine q_ hf rfl rfl rfl (e_move hf rfl) fun a hf => ?_
      rcases cond_some h5 with ⟨hc8, h5⟩ | ⟨hc8, h5⟩
      · refine pl_gs (wanted_f hf rfl rfl rfl rfl hc8) hf rfl rfl fun a hf => ?_
        refine pl_gs (wanted_f hf rfl rfl rfl rfl hc8) hf rfl rfl fun a hf => ?_
        refine q_ hf rfl rfl rfl (e_pick_t hf rfl hc8 rfl) fun a hf => ?_
        refine q_ hf rfl rfl rfl (e_assign hf rfl) fun a hf => ?_
        refine pl_nil ?_
        obtain rfl := some_inj h5
        refine then_n ?_
        exact ⟨true, rfl, hf.keep ⟨rfl, trivial⟩, hM.pick [] rfl⟩
      · refine gq (wanted_t hf rfl rfl rfl rfl hc8) hf rfl rfl (e_move hf rfl) fun a hf => ?_
        obtain ⟨y10, hz11, h5⟩ := bind_some h5
        refine pl_gl (wanted_t hf rfl rfl rfl rfl hc8) hf rfl rfl (w_call hf Tryz.call81 rfl (r_impl_small ⟨_, Sh C _ _, none_, hM.sh_lt, none_not, C.G, hM.g_lt, g_none, hM.tabs⟩ c1 _ hz11) ?_)
        rintro _ w12 ⟨rfl, hM2⟩
        obtain ⟨hM, hx13, hup14⟩ := hM.back hM2
        dsimp only [List.cons_append, List.nil_append] at hM hup14
        clear hM2
        refine ⟨_, rfl, fun a hf => ?_⟩
        refine q_ hf rfl rfl rfl (e_pick_f hf rfl hc8 rfl) fun a hf => ?_
        refine q_ hf rfl rfl rfl (e_assign hf rfl) fun a hf => ?_
        refine pl_nil ?_
        obtain rfl := some_inj h5
        refine then_n ?_
        exact ⟨y10, rfl, hf.keep ⟨rfl, trivial⟩, hM.pick [] rfl⟩
  · rintro a w16 ⟨t2, rfl, hf, hM⟩
    try dsimp only at h
    refine wp_ret ?_
    obtain rfl := some_inj h
    exact leave1 hf rfl rfl ⟨rfl, hM.fin⟩

set_option maxRecDepth 100000 in
set_option maxHeartbeats 4000000 in
theorem r_impl_ValidGrid (C : Cx) (g1 : Grid) (hp2 : R64 g1.Rows) (hp3 : R64 g1.Cols) (hp4 : g1.Cells.length ≤ maxLen) (r : Bool) (h : m_impl_ValidGrid g1 = some r) :
    Calls Tryz.prog 30 #[.agg #[vI (g1.Rows), vI (g1.Cols), vS (g1.Cells)]] C.w0 fun e w => e = .returned (.bool (r)) ∧ Mem C w [] [] := by
  have hM := Mem.begin C [] trivial
  refine enter Tryz.func30 rfl Tryz.ntmps30 rfl fun a hf => ?_
  unfold m_impl_ValidGrid at h
  refine wp_seq ?_
  refine region_pl ?_
  refine pl_l hf rfl rfl rfl (w_box hf hM (cs := [vI (g1.Rows), vI (g1.Cols), vS (g1.Cells)]) rfl rfl fun b5 w6 hx7 hM a hf => ?_)
  refine q_ hf rfl rfl rfl (e_assign hf rfl) fun a hf => ?_
  refine pl_nil ?_
  refine then_n ?_
  obtain ⟨x11, h12, h⟩ := bind_some h
  refine seq_join (fun a w => ∃ (t9 : Bool), t9 = x11 ∧ Has 27 a [(2, .bool (t9))] ∧ Mem C w [.box b5 [vI (g1.Rows), vI (g1.Cols), vS (g1.Cells)] 25] []) ?_ ?_
  · refine region_pl ?_
    refine q_ hf rfl rfl rfl (e_field hf rfl Tryz.underlying25 rfl Tryz.sizeOf2 (o' := 0) rfl) fun a hf => ?_
    refine q_ hf rfl rfl rfl (e_load1 hf rfl Tryz.isAgg2 (hM.boxCell (k := 0) rfl rfl)) fun a hf => ?_
    obtain ⟨y13, hz14, h12⟩ := bind_some h12
    refine pl_l hf rfl rfl rfl (w_call hf Tryz.call59 rfl (r_impl_within ⟨_, Sh C _ _, none_, hM.sh_lt, none_not, C.G, hM.g_lt, g_none, hM.tabs⟩ g1.Rows hp2 1 (R64_lit rfl) 5 (R64_lit rfl) _ hz14) ?_)
    rintro _ w15 ⟨rfl, hM2⟩
    obtain ⟨hM, hx16, hup17⟩ := hM.back hM2
    dsimp only [List.cons_append, List.nil_append] at hM hup17
    clear hM2
    refine ⟨_, rfl, fun a hf => ?_⟩
    refine q_ hf rfl rfl rfl (e_move hf rfl) fun a hf => ?_
    rcases cond_some h12 with ⟨hc18, h12⟩ | ⟨hc18, h12⟩
    · refine gq (wanted_t hf rfl rfl rfl rfl hc18) hf rfl rfl (e_field hf rfl Tryz.underlying25 rfl Tryz.sizeOf2 (o' := 1) rfl) fun a hf => ?_
      refine gq (wanted_t hf rfl rfl rfl rfl hc18) hf rfl rfl (e_load1 hf rfl Tryz.isAgg2 (hM.boxCell (k := 0) rfl rfl)) fun a hf => ?_
      obtain ⟨y19, hz20, h12⟩ := bind_some h12
      refine pl_gl (wanted_t hf rfl rfl rfl rfl hc18) hf rfl rfl (w_call hf Tryz.call59 rfl (r_impl_within ⟨_, Sh C _ _, none_, hM.sh_lt, none_not, C.G, hM.g_lt, g_none, hM.tabs⟩ g1.Cols hp3 1 (R64_lit rfl) 5 (R64_lit rfl) _ hz20) ?_)
      rintro _ w21 ⟨rfl, hM2⟩
      obtain ⟨hM, hx22, hup23⟩ := hM.back hM2
      dsimp only [List.cons_append, List.nil_append] at hM hup23
      clear hM2
      refine ⟨_, rfl, fun a hf => ?_⟩
      refine q_ hf rfl rfl rfl (e_pick_t hf rfl hc18 rfl) fun a hf => ?_
      refine q_ hf rfl rfl rfl (e_move hf rfl) fun a hf => ?_
      rcases cond_some h12 with ⟨hc24, h12⟩ | ⟨hc24, h12⟩
      · refine gq (wanted_t hf rfl rfl rfl rfl hc24) hf rfl rfl (e_field hf rfl Tryz.underlying25 rfl Tryz.sizeOf9 (o' := 2) rfl) fun a hf => ?_
        refine gq (wanted_t hf rfl rfl rfl rfl hc24) hf rfl rfl (e_load1 hf rfl Tryz.isAgg9 (hM.boxCell (k := 0) rfl rfl)) fun a hf => ?_
        refine gq (wanted_t hf rfl rfl rfl rfl hc24) hf rfl rfl (e_lenS hf (x := g1.Cells) rfl Tryz.underlying9) fun a hf => ?_
        refine gq (wanted_t hf rfl rfl rfl rfl hc24) hf rfl rfl (e_field hf rfl Tryz.underlying25 rfl Tryz.sizeOf2 (o' := 0) rfl) fun a hf => ?_
        refine gq (wanted_t hf rfl rfl rfl rfl hc24) hf rfl rfl (e_load1 hf rfl Tryz.isAgg2 (hM.boxCell (k := 0) rfl rfl)) fun a hf => ?_
        refine gq (wanted_t hf rfl rfl rfl rfl hc24) hf rfl rfl (e_field hf rfl Tryz.underlying25 rfl Tryz.sizeOf2 (o' := 1) rfl) fun a hf => ?_
        refine gq (wanted_t hf rfl rfl rfl rfl hc24) hf rfl rfl (e_load1 hf rfl Tryz.isAgg2 (hM.boxCell (k := 0) rfl rfl)) fun a hf => ?_
        obtain ⟨z25, hz26, h12⟩ := bind_some h12
        refine gq (wanted_t hf rfl rfl rfl rfl hc24) hf rfl rfl (e_mul hf rfl rfl hz26) fun a hf => ?_
        refine gq (wanted_t hf rfl rfl rfl rfl hc24) hf rfl rfl (e_eq hf (x := (g1.Cells.length : Int)) (y := z25) rfl rfl) fun a hf => ?_
        refine q_ hf rfl rfl rfl (e_pick_t hf rfl hc24 rfl) fun a hf => ?_
        refine q_ hf rfl rfl rfl (e_move hf rfl) fun a hf => ?_
        rcases cond_some h12 with ⟨hc27, h12⟩ | ⟨hc27, h12⟩
        · refine gq (wanted_t hf rfl rfl rfl rfl hc27) hf rfl rfl (e_field hf rfl Tryz.underlying25 rfl Tryz.sizeOf9 (o' := 2) rfl) fun a hf => ?_
          refine gq (wanted_t hf rfl rfl rfl rfl hc27) hf rfl rfl (e_load1 hf rfl Tryz.isAgg9 (hM.boxCell (k := 0) rfl rfl)) fun a hf => ?_
          obtain ⟨y28, hz29, h12⟩ := bind_some h12
          refine pl_gl (wanted_t hf rfl rfl rfl rfl hc27) hf rfl rfl (w_call hf Tryz.call60 rfl (r_impl_allBytes ⟨_, Sh C _ _, none_, hM.sh_lt, none_not, C.G, hM.g_lt, g_none, hM.tabs⟩ g1.Cells hp4 m_impl_gridByte 61 [] ⟨Tryz.call61, fun C1 _ _ => r_impl_gridByte C1⟩ _ hz29) ?_)
          rintro _ w30 ⟨rfl, hM2⟩
          obtain ⟨hM, hx31, hup32⟩ := hM.back hM2
          dsimp only [List.cons_append, List.nil_append] at hM hup32
          clear hM2
          refine ⟨_, rfl, fun a hf => ?_⟩
          refine q_ hf rfl rfl rfl (e_pick_t hf rfl hc27 rfl) fun a hf => ?_
          refine q_ hf rfl rfl rfl (e_assign hf rfl) fun a hf => ?_
          refine pl_nil ?_
          obtain rfl := some_inj h12
          refine then_n ?_
          exact ⟨y28, rfl, hf.keep ⟨rfl, trivial⟩, hM.pick [] rfl⟩
        · refine pl_gs (wanted_f hf rfl rfl rfl rfl hc27) hf rfl rfl fun a hf => ?_
          refine pl_gs (wanted_f hf rfl rfl rfl rfl hc27) hf rfl rfl fun a hf => ?_
          refine pl_gs (wanted_f hf rfl rfl rfl rfl hc27) hf rfl rfl fun a hf => ?_
          refine q_ hf rfl rfl rfl (e_pick_f hf rfl hc27 rfl) fun a hf => ?_
          refine q_ hf rfl rfl rfl (e_assign hf rfl) fun a hf => ?_
          refine pl_nil ?_
          obtain rfl := some_inj h12
          refine then_n ?_
          exact ⟨false, rfl, hf.keep ⟨rfl, trivial⟩, hM.pick [] rfl⟩
      · refine pl_gs (wanted_f hf rfl rfl rfl rfl hc24) hf rfl rfl fun a hf => ?_
        refine pl_gs (wanted_f hf rfl rfl rfl rfl hc24) hf rfl rfl fun a hf => ?_
        refine pl_gs (wanted_f hf rfl rfl rfl rfl hc24) hf rfl rfl fun a hf => ?_
        refine pl_gs (wanted_f hf rfl rfl rfl rfl hc24) hf rfl rfl fun a hf => ?_
        refine pl_gs (wanted_f hf rfl rfl rfl rfl hc24) hf rfl rfl fun a hf => ?_
        refine pl_gs (wanted_f hf rfl rfl rfl rfl hc24) hf rfl rfl fun a hf => ?_
        refine pl_gs (wanted_f hf rfl rfl rfl rfl hc24) hf rfl rfl fun a hf => ?_
        refine pl_gs (wanted_f hf rfl rfl rfl rfl hc24) hf rfl rfl fun a hf => ?_
        refine pl_gs (wanted_f hf rfl rfl rfl rfl hc24) hf rfl rfl fun a hf => ?_
        refine q_ hf rfl rfl rfl (e_pick_f hf rfl hc24 rfl) fun a hf => ?_
        refine q_ hf rfl rfl rfl (e_move hf rfl) fun a hf => ?_
        refine pl_gs (wanted_f hf rfl rfl rfl rfl rfl) hf rfl rfl fun a hf => ?_
        refine pl_gs (wanted_f hf rfl rfl rfl rfl rfl) hf rfl rfl fun a hf => ?_
        refine pl_gs (wanted_f hf rfl rfl rfl rfl rfl) hf rfl rfl fun a hf => ?_
        refine q_ hf rfl rfl rfl (e_pick_f hf rfl rfl rfl) fun a hf => ?_
        refine q_ hf rfl rfl rfl (e_assign hf rfl) fun a hf => ?_
        refine pl_nil ?_
        obtain rfl := some_inj h12
        refine then_n ?_
        exact ⟨false, rfl, hf.keep ⟨rfl, trivial⟩, hM.pick [] rfl⟩
    · refine pl_gs (wanted_f hf rfl rfl rfl rfl hc18) hf rfl rfl fun a hf => ?_
      refine pl_gs (wanted_f hf rfl rfl rfl rfl hc18) hf rfl rfl fun a hf => ?_
      refine pl_gs (wanted_f hf rfl rfl rfl rfl hc18) hf rfl rfl fun a hf => ?_
      refine q_ hf rfl rfl rfl (e_pick_f hf rfl hc18 rfl) fun a hf => ?_
      refine q_ hf rfl rfl rfl (e_move hf rfl) fun a hf => ?_
      refine pl_gs (wanted_f hf rfl rfl rfl rfl rfl) hf rfl rfl fun a hf => ?_
      refine pl_gs (wanted_f hf rfl rfl rfl rfl rfl) hf rfl rfl fun a hf => ?_
      refine pl_gs (wanted_f hf rfl rfl rfl rfl rfl) hf rfl rfl fun a hf => ?_
      refine pl_gs (wanted_f hf rfl rfl rfl rfl rfl) hf rfl rfl fun a hf => ?_
      refine pl_gs (wanted_f hf rfl rfl rfl rfl rfl) hf rfl rfl fun a hf => ?_
      refine pl_gs (wanted_f hf rfl rfl rfl rfl rfl) hf rfl rfl fun a hf => ?_
      refine pl_gs (wanted_f hf rfl rfl rfl rfl rfl) hf rfl rfl fun a hf => ?_
      refine pl_gs (wanted_f hf rfl rfl rfl rfl rfl) hf rfl rfl fun a hf => ?_
      refine pl_gs (wanted_f hf rfl rfl rfl rfl rfl) hf rfl rfl fun a hf => ?_
      refine q_ hf rfl rfl rfl (e_pick_f hf rfl rfl rfl) fun a hf => ?_
      refine q_ hf rfl rfl rfl (e_move hf rfl) fun a hf => ?_
      refine pl_gs (wanted_f hf rfl rfl rfl rfl rfl) hf rfl rfl fun a hf => ?_
      refine pl_gs (wanted_f hf rfl rfl rfl rfl rfl) hf rfl rfl fun a hf => ?_
      refine pl_gs (wanted_f hf rfl rfl rfl rfl rfl) hf rfl rfl fun a hf => ?_
      refine q_ hf rfl rfl rfl (e_pick_f hf rfl rfl rfl) fun a hf => ?_
      refine q_ hf rfl rfl rfl (e_assign hf rfl) fun a hf => ?_
      refine pl_nil ?_
      obtain rfl := some_inj h12
      refine then_n ?_
      exact ⟨false, rfl, hf.keep ⟨rfl, trivial⟩, hM.pick [] rfl⟩
  · rintro a w37 ⟨t9, rfl, hf, hM⟩
    try dsimp only at h
    refine wp_ret ?_
    obtain rfl := some_inj h
    have hM := hM.outs (own' := []) 0 rfl
    exact leave1 hf rfl rfl ⟨rfl, hM.fin⟩

set_option maxRecDepth 100000 in
set_option maxHeartbeats 4000000 in
theorem r_impl_Grid_across (C : Cx) (g1 : Grid) (hp2 : R64 g1.Rows) (hp3 : R64 g1.Cols) (hp4 : g1.Cells.length ≤ maxLen) (r : (List Slot)) (h : m_impl_Grid_across g1 = some r) :
    Calls Tryz.prog 65 #[.agg #[vI (g1.Rows), vI (g1.Cols), vS (g1.Cells)]] C.w0 fun e w => ∃ (A_1 : Option Addr), ∃ (c_1 : Nat), e = .returned (vL A_1 (r) c_1) ∧ Mem C w [.row SlotRep A_1 c_1 60 r true] [] := by
  have hM := Mem.begin C [] trivial
  refine enter Tryz.func65 rfl Tryz.ntmps65 rfl fun a hf => ?_
  unfold m_impl_Grid_across at h
  refine wp_seq ?_
  refine region_pl ?_
  refine pl_l hf rfl rfl rfl (w_box hf hM (cs := [vI (g1.Rows), vI (g1.Cols), vS (g1.Cells)]) rfl rfl fun b5 w6 hx7 hM a hf => ?_)
  refine q_ hf rfl rfl rfl (e_assign hf rfl) fun a hf => ?_
  refine pl_nil ?_
  refine then_n ?_
  refine wp_seq ?_
  refine region_pl ?_
  refine pl_l hf rfl rfl rfl (w_slice0 (K := SlotRep) hM Tryz.underlying30 ei_60 fun b9 w10 hx11 hM a hf => ?_)
  refine q_ hf rfl rfl rfl (e_assign hf rfl) fun a hf => ?_
  refine pl_nil ?_
  refine then_n ?_
  obtain ⟨x15, h16, h⟩ := bind_some h
  refine seq_join (fun a w => ∃ (xs12 : (List Slot)) (A13 : Option Addr) (c14 : Nat), xs12 = x15 ∧ Has 52 a [(3, vL A13 (xs12) c14)] ∧ Mem C w [.row SlotRep A13 c14 60 xs12 true, .box b5 [vI (g1.Rows), vI (g1.Cols), vS (g1.Cells)] 25] []) ?_ ?_
  · refine wp_seq ?_
    refine region_pl ?_
    refine q_ hf rfl rfl rfl (e_assign hf rfl) fun a hf => ?_
    refine pl_nil ?_
    refine then_n ?_
    refine wp_block ?_
    obtain ⟨x26, h27, h16⟩ := bind_some h16
    refine wp_loopM h27 (fun s a w => ∃ (xs17 : (List Slot)) (start20 : Int) (A18 : Option Addr) (c19 : Nat), (xs17, start20) = s ∧ Has 52 a [(1, vP b5 (0)), (3, vL A18 (xs17) c19), (4, vI (start20))] ∧ Mem C w [.row SlotRep A18 c19 60 xs17 true, .box b5 [vI (g1.Rows), vI (g1.Cols), vS (g1.Cells)] 25] [] ∧ R64 start20) ?_ ?_
    · exact ⟨([] : (List Slot)), 0, (some ⟨b9, 0, none⟩), 0, rfl, hf.keep ⟨rfl, rfl, rfl, trivial⟩, hM.pick [] rfl, (R64_lit rfl)⟩
    · rintro s o28 a w22 ⟨xs17, start20, A18, c19, rfl, hf, hM, hv21⟩ h29 hd30
      replace h29 : m_impl_Grid_across_l1 g1 xs17 start20 = some o28 := h29
      unfold m_impl_Grid_across_l1 at h29
      refine wp_seq ?_
      refine wp_seq ?_
      refine region_pl ?_
      refine q_ hf rfl rfl rfl (e_move hf rfl) fun a hf => ?_
      refine q_ hf rfl rfl rfl (e_field hf rfl Tryz.underlying25 rfl Tryz.sizeOf2 (o' := 0) rfl) fun a hf => ?_
      refine q_ hf rfl rfl rfl (e_load1 hf rfl Tryz.isAgg2 (hM.boxCell (k := 1) rfl rfl)) fun a hf => ?_
      refine q_ hf rfl rfl rfl (e_lt hf (x := start20) (y := g1.Rows) rfl rfl) fun a hf => ?_
      refine pl_nil ?_
      refine then_n ?_
      rcases cond_some h29 with ⟨hc31, h29⟩ | ⟨hc31, h29⟩
      · refine cond_t hf rfl hc31 ?_
        refine wp_skip ?_
        refine then_n ?_
        obtain ⟨x35, h36, h29⟩ := bind_some h29
        refine seq_join (fun a w => ∃ (xs32 : (List Slot)) (A33 : Option Addr) (c34 : Nat), xs32 = x35 ∧ Has 52 a [(1, vP b5 (0)), (3, vL A33 (xs32) c34), (4, vI (start20))] ∧ Mem C w [.row SlotRep A33 c34 60 xs32 true, .box b5 [vI (g1.Rows), vI (g1.Cols), vS (g1.Cells)] 25] []) ?_ ?_
        · refine wp_block ?_
          refine wp_seq ?_
          refine region_pl ?_
          refine q_ hf rfl rfl rfl (e_assign hf rfl) fun a hf => ?_
          refine pl_nil ?_
          refine then_n ?_
          refine wp_seq ?_
          refine region_pl ?_
          refine q_ hf rfl rfl rfl (e_assign hf rfl) fun a hf => ?_
          refine pl_nil ?_
          refine then_n ?_
          refine wp_block ?_
          obtain ⟨x48, h49, h36⟩ := bind_some h36
          refine wp_loopM h49 (fun s a w => ∃ (xs37 : (List Slot)) (col40 : Int) (n42 : Int) (A38 : Option Addr) (c39 : Nat), (xs37, col40, n42) = s ∧ Has 52 a [(1, vP b5 (0)), (3, vL A38 (xs37) c39), (4, vI (start20)), (5, vI (col40)), (6, vI (n42))] ∧ Mem C w [.row SlotRep A38 c39 60 xs37 true, .box b5 [vI (g1.Rows), vI (g1.Cols), vS (g1.Cells)] 25] [] ∧ R64 col40 ∧ R64 n42) ?_ ?_
          · exact ⟨xs17, 0, 0, A18, c19, rfl, hf.keep ⟨rfl, rfl, rfl, rfl, rfl, trivial⟩, hM.pick [] rfl, (R64_lit rfl), (R64_lit rfl)⟩
          · rintro s o50 a w44 ⟨xs37, col40, n42, A38, c39, rfl, hf, hM, hv41, hv43⟩ h51 hd52
            replace h51 : m_impl_Grid_across_l2 g1 start20 xs37 col40 n42 = some o50 := h51
            unfold m_impl_Grid_across_l2 at h51
            refine wp_seq ?_
            refine wp_seq ?_
            refine region_pl ?_
            refine q_ hf rfl rfl rfl (e_move hf rfl) fun a hf => ?_
            refine q_ hf rfl rfl rfl (e_field hf rfl Tryz.underlying25 rfl Tryz.sizeOf2 (o' := 1) rfl) fun a hf => ?_
            refine q_ hf rfl rfl rfl (e_load1 hf rfl Tryz.isAgg2 (hM.boxCell (k := 1) rfl rfl)) fun a hf => ?_
            refine q_ hf rfl rfl rfl (e_le hf (x := n42) (y := g1.Cols) rfl rfl) fun a hf => ?_
            refine pl_nil ?_
            refine then_n ?_
            rcases cond_some h51 with ⟨hc53, h51⟩ | ⟨hc53, h51⟩
            · refine cond_t hf rfl hc53 ?_
              refine wp_skip ?_
              refine then_n ?_
              obtain ⟨x59, h60, h51⟩ := bind_some h51
              refine seq_join (fun a w => ∃ (xs54 : (List Slot)) (col57 : Int) (A55 : Option Addr) (c56 : Nat), (xs54, col57) = x59 ∧ Has 52 a [(1, vP b5 (0)), (3, vL A55 (xs54) c56), (4, vI (start20)), (5, vI (col57)), (6, vI (n42))] ∧ Mem C w [.row SlotRep A55 c56 60 xs54 true, .box b5 [vI (g1.Rows), vI (g1.Cols), vS (g1.Cells)] 25] [] ∧ R64 col57) ?_ ?_
              · refine wp_block ?_
                refine wp_seq ?_
                obtain ⟨x63, h64, h60⟩ := bind_some h60
                refine seq_join (fun a w => ∃ (t61 : Bool), t61 = x63 ∧ Has 52 a [(1, vP b5 (0)), (3, vL A38 (xs37) c39), (4, vI (start20)), (5, vI (col40)), (6, vI (n42)), (35, .bool (t61))] ∧ Mem C w [.row SlotRep A38 c39 60 xs37 true, .box b5 [vI (g1.Rows), vI (g1.Cols), vS (g1.Cells)] 25] []) ?_ ?_
                · refine region_pl ?_
                  refine q_ hf rfl rfl rfl (e_move hf rfl) fun a hf => ?_
                  refine q_ hf rfl rfl rfl (e_field hf rfl Tryz.underlying25 rfl Tryz.sizeOf2 (o' := 1) rfl) fun a hf => ?_
                  refine q_ hf rfl rfl rfl (e_load1 hf rfl Tryz.isAgg2 (hM.boxCell (k := 1) rfl rfl)) fun a hf => ?_
                  refine q_ hf rfl rfl rfl (e_lt hf (x := n42) (y := g1.Cols) rfl rfl) fun a hf => ?_
                  refine q_ hf rfl rfl rfl (e_move hf rfl) fun a hf => ?_
                  rcases cond_some h64 with ⟨hc65, h64⟩ | ⟨hc65, h64⟩
                  · refine gq (wanted_t hf rfl rfl rfl rfl hc65) hf rfl rfl (e_field hf rfl Tryz.underlying25 rfl Tryz.sizeOf9 (o' := 2) rfl) fun a hf => ?_
                    refine gq (wanted_t hf rfl rfl rfl rfl hc65) hf rfl rfl (e_load1 hf rfl Tryz.isAgg9 (hM.boxCell (k := 1) rfl rfl)) fun a hf => ?_
                    refine gq (wanted_t hf rfl rfl rfl rfl hc65) hf rfl rfl (e_move hf rfl) fun a hf => ?_
                    refine gq (wanted_t hf rfl rfl rfl rfl hc65) hf rfl rfl (e_field hf rfl Tryz.underlying25 rfl Tryz.sizeOf2 (o' := 1) rfl) fun a hf => ?_
                    refine gq (wanted_t hf rfl rfl rfl rfl hc65) hf rfl rfl (e_load1 hf rfl Tryz.isAgg2 (hM.boxCell (k := 1) rfl rfl)) fun a hf => ?_
                    obtain ⟨z66, hz67, h64⟩ := bind_some h64
                    refine gq (wanted_t hf rfl rfl rfl rfl hc65) hf rfl rfl (e_mul hf rfl rfl hz67) fun a hf => ?_
                    refine gq (wanted_t hf rfl rfl rfl rfl hc65) hf rfl rfl (e_move hf rfl) fun a hf => ?_
                    obtain ⟨z68, hz69, h64⟩ := bind_some h64
                    refine gq (wanted_t hf rfl rfl rfl rfl hc65) hf rfl rfl (e_add hf rfl rfl hz69) fun a hf => ?_
                    obtain ⟨c70, hz71, h64⟩ := bind_some h64
                    refine gq (wanted_t hf rfl rfl rfl rfl hc65) hf rfl rfl (e_indexS hf (x := g1.Cells) rfl rfl Tryz.underlying9 hz71) fun a hf => ?_
                    refine gq (wanted_t hf rfl rfl rfl rfl hc65) hf rfl rfl (e_neB hf (x := c70) (y := 35) rfl rfl) fun a hf => ?_
                    refine q_ hf rfl rfl rfl (e_pick_t hf rfl hc65 rfl) fun a hf => ?_
                    refine pl_nil ?_
                    obtain rfl := some_inj h64
                    refine then_n ?_
                    exact ⟨(c70 != 35), rfl, hf.keep ⟨rfl, rfl, rfl, rfl, rfl, rfl, trivial⟩, hM.pick [] rfl⟩
                  · refine pl_gs (wanted_f hf rfl rfl rfl rfl hc65) hf rfl rfl fun a hf => ?_
                    refine pl_gs (wanted_f hf rfl rfl rfl rfl hc65) hf rfl rfl fun a hf => ?_
                    refine pl_gs (wanted_f hf rfl rfl rfl rfl hc65) hf rfl rfl fun a hf => ?_
                    refine pl_gs (wanted_f hf rfl rfl rfl rfl hc65) hf rfl rfl fun a hf => ?_
                    refine pl_gs (wanted_f hf rfl rfl rfl rfl hc65) hf rfl rfl fun a hf => ?_
                    refine pl_gs (wanted_f hf rfl rfl rfl rfl hc65) hf rfl rfl fun a hf => ?_
                    refine pl_gs (wanted_f hf rfl rfl rfl rfl hc65) hf rfl rfl fun a hf => ?_
                    refine pl_gs (wanted_f hf rfl rfl rfl rfl hc65) hf rfl rfl fun a hf => ?_
                    refine pl_gs (wanted_f hf rfl rfl rfl rfl hc65) hf rfl rfl fun a hf => ?_
                    refine pl_gs (wanted_f hf rfl rfl rfl rfl hc65) hf rfl rfl fun a hf => ?_
                    refine q_ hf rfl rfl rfl (e_pick_f hf rfl hc65 rfl) fun a hf => ?_
                    refine pl_nil ?_
                    obtain rfl := some_inj h64
                    refine then_n ?_
                    exact ⟨false, rfl, hf.keep ⟨rfl, rfl, rfl, rfl, rfl, rfl, trivial⟩, hM.pick [] rfl⟩
                · rintro a w74 ⟨t61, rfl, hf, hM⟩
                  try dsimp only at h60
                  rcases cond_some h60 with ⟨hc75, h60⟩ | ⟨hc75, h60⟩
                  · refine cond_t hf rfl hc75 ?_
                    refine wp_exit ?_
                    refine then_x ?_
                    refine exit_hit ?_
                    obtain rfl := some_inj h60
                    refine then_n ?_
                    exact ⟨xs37, col40, A38, c39, rfl, hf.keep ⟨rfl, rfl, rfl, rfl, rfl, trivial⟩, hM.pick [] rfl, hv41⟩
                  · refine cond_f hf rfl hc75 ?_
                    refine wp_skip ?_
                    refine then_n ?_
                    obtain ⟨x80, h81, h60⟩ := bind_some h60
                    refine seq_join (fun a w => ∃ (xs77 : (List Slot)) (A78 : Option Addr) (c79 : Nat), xs77 = x80 ∧ Has 52 a [(1, vP b5 (0)), (3, vL A78 (xs77) c79), (4, vI (start20)), (6, vI (n42))] ∧ Mem C w [.row SlotRep A78 c79 60 xs77 true, .box b5 [vI (g1.Rows), vI (g1.Cols), vS (g1.Cells)] 25] []) ?_ ?_
                    · refine wp_seq ?_
                      refine region_pl ?_
                      refine q_ hf rfl rfl rfl (e_move hf rfl) fun a hf => ?_
                      refine q_ hf rfl rfl rfl (e_move hf rfl) fun a hf => ?_
                      obtain ⟨z82, hz83, h81⟩ := bind_some h81
                      refine q_ hf rfl rfl rfl (e_sub hf rfl rfl hz83) fun a hf => ?_
                      refine q_ hf rfl rfl rfl (e_ge hf (x := z82) (y := 2) rfl rfl) fun a hf => ?_
                      refine pl_nil ?_
                      refine then_n ?_
                      rcases cond_some h81 with ⟨hc84, h81⟩ | ⟨hc84, h81⟩
                      · refine cond_t hf rfl hc84 ?_
                        refine region_pl ?_
                        refine q_ hf rfl rfl rfl (e_move hf rfl) fun a hf => ?_
                        refine q_ hf rfl rfl rfl (e_move hf rfl) fun a hf => ?_
                        refine q_ hf rfl rfl rfl (e_move hf rfl) fun a hf => ?_
                        refine q_ hf rfl rfl rfl (e_move hf rfl) fun a hf => ?_
                        refine q_ hf rfl rfl rfl (e_move hf rfl) fun a hf => ?_
                        obtain ⟨z85, hz86, h81⟩ := bind_some h81
                        refine q_ hf rfl rfl rfl (e_sub hf rfl rfl hz86) fun a hf => ?_
                        refine q_ hf rfl rfl rfl (e_build hf Tryz.zeroValue60 Tryz.underlying60 (bp_60 _ Tryz.underlying60.symm) rfl (cs := #[vI (start20), vI (col40), .bool (false), vI (z85)]) (by kernel_rfl)) fun a hf => ?_
                        refine pl_l hf rfl rfl rfl (w_slice hf hM (K := SlotRep) (xs := ([(⟨start20, col40, false, z85⟩ : Slot)] : (List Slot))) (os := [.tmp 46]) Tryz.underlying30 ei_60 rfl rfl rfl rfl rfl ⟨⟨[vI (start20), vI (col40), .bool (false), vI (z85)], rfl, (SlotRep_mk (x := (⟨start20, col40, false, z85⟩ : Slot)) hv21 hv41 (chk_R hz86))⟩, trivial⟩ rfl fun b87 w88 hx89 hM a hf => ?_)
                        obtain ⟨xs90, hz91, h81⟩ := bind_some h81
                        refine pl_l hf rfl rfl rfl (w_append hf hM Tryz.underlying30 ei_60 rfl rfl rfl (k := 1) rfl (hM.srcRow (k := 0) rfl) hz91 fun A92 c93 w94 hM a hf => ?_)
                        dsimp only [List.set] at hM
                        refine q_ hf rfl rfl rfl (e_assign hf rfl) fun a hf => ?_
                        refine pl_nil ?_
                        obtain rfl := some_inj h81
                        refine then_n ?_
                        exact ⟨xs90, A92, c93, rfl, hf.keep ⟨rfl, rfl, rfl, rfl, trivial⟩, (hM.drop (.cons _ (.cons_cons _ (.cons_cons _ .slnil)))).pick [] rfl⟩
                      · refine cond_f hf rfl hc84 ?_
                        refine wp_skip ?_
                        obtain rfl := some_inj h81
                        refine then_n ?_
                        exact ⟨xs37, A38, c39, rfl, hf.keep ⟨rfl, rfl, rfl, rfl, trivial⟩, hM.pick [] rfl⟩
                    · rintro a w99 ⟨xs77, A78, c79, rfl, hf, hM⟩
                      try dsimp only at h60
                      refine region_pl ?_
                      refine q_ hf rfl rfl rfl (e_move hf rfl) fun a hf => ?_
                      obtain ⟨z100, hz101, h60⟩ := bind_some h60
                      refine q_ hf rfl rfl rfl (e_add hf rfl rfl hz101) fun a hf => ?_
                      refine q_ hf rfl rfl rfl (e_assign hf rfl) fun a hf => ?_
                      refine pl_nil ?_
                      refine blk_n ?_
                      obtain rfl := some_inj h60
                      refine then_n ?_
                      exact ⟨xs77, z100, A78, c79, rfl, hf.keep ⟨rfl, rfl, rfl, rfl, rfl, trivial⟩, hM.pick [] rfl, (chk_R hz101)⟩
              · rintro a w103 ⟨xs54, col57, A55, c56, rfl, hf, hM, hv58⟩
                try dsimp only at h51
                refine region_pl ?_
                refine q_ hf rfl rfl rfl (e_move hf rfl) fun a hf => ?_
                obtain ⟨z104, hz105, h51⟩ := bind_some h51
                refine q_ hf rfl rfl rfl (e_add hf rfl rfl hz105) fun a hf => ?_
                refine q_ hf rfl rfl rfl (e_assign hf rfl) fun a hf => ?_
                refine pl_nil ?_
                obtain rfl := some_inj h51
                refine then_n ⟨_, rfl, ?_⟩
                exact ⟨xs54, col57, z104, A55, c56, rfl, hf.keep ⟨rfl, rfl, rfl, rfl, rfl, trivial⟩, hM.pick [] rfl, hv58, (chk_R hz105)⟩
            · refine cond_f hf rfl hc53 ?_
              refine wp_exit ?_
              refine then_x ?_
              obtain rfl := some_inj h51
              obtain rfl := hd52 _ rfl
              try dsimp only at h36
              refine then_x ?_
              refine exit_hit ?_
              refine blk_n ?_
              obtain rfl := some_inj h36
              refine then_n ?_
              exact ⟨xs37, A38, c39, rfl, hf.keep ⟨rfl, rfl, rfl, trivial⟩, hM.pick [] rfl⟩
        · rintro a w111 ⟨xs32, A33, c34, rfl, hf, hM⟩
          try dsimp only at h29
          refine region_pl ?_
          refine q_ hf rfl rfl rfl (e_move hf rfl) fun a hf => ?_
          obtain ⟨z112, hz113, h29⟩ := bind_some h29
          refine q_ hf rfl rfl rfl (e_add hf rfl rfl hz113) fun a hf => ?_
          refine q_ hf rfl rfl rfl (e_assign hf rfl) fun a hf => ?_
          refine pl_nil ?_
          obtain rfl := some_inj h29
          refine then_n ⟨_, rfl, ?_⟩
          exact ⟨xs32, z112, A33, c34, rfl, hf.keep ⟨rfl, rfl, rfl, trivial⟩, hM.pick [] rfl, (chk_R hz113)⟩
      · refine cond_f hf rfl hc31 ?_
        refine wp_exit ?_
        refine then_x ?_
        obtain rfl := some_inj h29
        obtain rfl := hd30 _ rfl
        try dsimp only at h16
        refine then_x ?_
        refine exit_hit ?_
        obtain rfl := some_inj h16
        refine then_n ?_
        exact ⟨xs17, A18, c19, rfl, hf.keep ⟨rfl, trivial⟩, hM.pick [] rfl⟩
  · rintro a w119 ⟨xs12, A13, c14, rfl, hf, hM⟩
    try dsimp only at h
    refine wp_seq ?_
    refine region_pl ?_
    refine q_ hf rfl rfl rfl (e_move hf rfl) fun a hf => ?_
    refine q_ hf rfl rfl rfl (e_assign hf rfl) fun a hf => ?_
    refine pl_nil ?_
    refine then_n ?_
    refine wp_ret ?_
    obtain rfl := some_inj h
    have hM := hM.outs (own' := [.row SlotRep A13 c14 60 xs12 true]) 1 rfl
    exact leave1 hf rfl rfl ⟨A13, c14, rfl, hM.fin⟩

end Go.Proofs.YtgmikhdealhlfaaGreatDoor
