/- The functions that this law reaches do what their models say. Printed by gen.py. -/
import Derived.Test.YtgmikhdealhlfaaMod
namespace Go.Proofs.Ytgmikhdealhlfaa
open Go Go.RowKit
set_option linter.unusedSimpArgs false
set_option linter.unusedVariables false

def FnC_UInt8_to_Bool (fk : FuncId) (fc : List Value) (f : UInt8 → Option Bool) (C : Cx) : Prop := ∀ (x0 : UInt8) (r : Bool) (h : f x0 = some r),
    Calls Try.prog fk (([vB (x0)] : List Value) ++ fc).toArray C.w0 fun e w => e = .returned (.bool (r)) ∧ Mem C w [] []

def FnC_Str_to_Bool (fk : FuncId) (fc : List Value) (f : Str → Option Bool) (C : Cx) : Prop := ∀ (x0 : Str) (hp1 : x0.length ≤ maxLen) (r : Bool) (h : f x0 = some r),
    Calls Try.prog fk (([vS (x0)] : List Value) ++ fc).toArray C.w0 fun e w => e = .returned (.bool (r)) ∧ Mem C w [] []

/-- What a loop's body does, as yield: its blocks, and a model of it. -/
def YOk {σ : Type} (P : Program) (yl y1 y2 y3 y4 : Nat) (q1 q2 q3 q4 : σ → Obj) (yv : (Grid → σ → Option (Bool × σ))) : Prop := ∀ (C : Cx) (x : Grid) (_ : R64 x.Rows) (_ : R64 x.Cols) (_ : x.Cells.length ≤ maxLen) (s : σ) (_ : Mem C C.w0 [.obj y1 (q1 s), .obj y2 (q2 s), .obj y3 (q3 s), .obj y4 (q4 s)] []) (_ : ∀ b, C.S0 b → ¬ ownB [.obj y1 (q1 s), .obj y2 (q2 s), .obj y3 (q3 s), .obj y4 (q4 s)] b) (r : Bool × σ) (_ : yv x s = some r), YieldAt Fence.wide 0 P yl #[Value.agg #[vI x.Rows, vI x.Cols, vS x.Cells]] C.w0 fun e w => e = .returned (.bool r.1) ∧ Mem C w [.obj y1 (q1 r.2), .obj y2 (q2 r.2), .obj y3 (q3 r.2), .obj y4 (q4 r.2)] []

set_option maxHeartbeats 1000000 in
theorem Grid_equal (x y : Grid) (w : World) : (Op.equalIn 10000 27 (Value.agg #[vI x.Rows, vI x.Cols, vS x.Cells]) (Value.agg #[vI y.Rows, vI y.Cols, vS y.Cells])).run Try.prog w = .ok (x == y) w := by
  have hS0 : Try.prog.underlying 27 = some (.struct (Try.prog.fieldsOf 27)) := by kernel_rfl
  have hp0 : Try.prog.stoodInHeld 27 = false := by kernel_rfl
  have u2 := Try.underlying2
  have u9 := Try.underlying9
  rw [show (10000 : Nat) = 9999 + 1 from rfl, run_equalIn_agg w 9999 27 _ _ hS0 hp0]
  simp only [Program.fieldsOf, Try.underlying27]
  go_simp
  obtain ⟨x0, x1, x2⟩ := x
  obtain ⟨y0, y1, y2⟩ := y
  simp only [Grid.mk.injEq]
  by_cases h0 : x0 = y0 <;> by_cases h1 : x1 = y1 <;> by_cases h2 : x2 = y2 <;> simp [h0, h1, h2]

theorem Grid_eql {S : World → Prop} {N : Nat} {a : Act} {L : List (Nat × Value)} {dst : Option Tmp} {ty U : TypeId} {pos : String} {aft : Array Edge} {g : Option (Nat × Bool)} {X Y : Operand} (hf : Has N a L) {x y : Grid} (hx : ev L X = some (Value.agg #[vI x.Rows, vI x.Cols, vS x.Cells])) (hy : ev L Y = some (Value.agg #[vI y.Rows, vI y.Cols, vS y.Cells])) : Yd Try.prog S a ⟨dst, .binOp .eql 27 X Y U, ty, pos, aft, g⟩ (.bool (x == y)) := by
  intro w _
  have hG : Try.prog.eqGuardType Try.prog.depth 27 = false := by kernel_rfl
  have h := Grid_equal x y w
  simp only [execOp, hf.ev hx, hf.ev hy, Sem.run_bind, run_eqGuard_agg _ _ _ _ _ _ _ hG, Result.andThen_ok, run_eql_struct, h, Sem.run_pure]
  all_goals rfl

theorem Grid_neq {S : World → Prop} {N : Nat} {a : Act} {L : List (Nat × Value)} {dst : Option Tmp} {ty U : TypeId} {pos : String} {aft : Array Edge} {g : Option (Nat × Bool)} {X Y : Operand} (hf : Has N a L) {x y : Grid} (hx : ev L X = some (Value.agg #[vI x.Rows, vI x.Cols, vS x.Cells])) (hy : ev L Y = some (Value.agg #[vI y.Rows, vI y.Cols, vS y.Cells])) : Yd Try.prog S a ⟨dst, .binOp .neq 27 X Y U, ty, pos, aft, g⟩ (.bool (x != y)) := by
  intro w _
  have hG : Try.prog.eqGuardType Try.prog.depth 27 = false := by kernel_rfl
  have h := Grid_equal x y w
  simp only [execOp, hf.ev hx, hf.ev hy, Sem.run_bind, run_eqGuard_agg _ _ _ _ _ _ _ hG, Result.andThen_ok, run_neq_struct, h, Sem.run_pure]
  all_goals rfl

theorem ei_2 : ElemInfo Try.prog 2 1 := elemInfo (by kernel_rfl)

theorem ei_5 : ElemInfo Try.prog 5 1 := elemInfo (by kernel_rfl)

theorem ei_9 : ElemInfo Try.prog 9 1 := elemInfo (by kernel_rfl)

theorem ei_27 : ElemInfo Try.prog 27 3 := elemInfo (by kernel_rfl)

theorem ei_75 : ElemInfo Try.prog 75 4 := elemInfo (by kernel_rfl)

theorem bp_27 : ∀ (fs : Array Field), some (TypeDesc.struct fs) = Try.prog.underlying 27 → ∀ w, (fs.mapM fun (f : Field) => do pure (f.offset, ← sizeOf f.type)).run Try.prog w = .ok #[(0, 1), (1, 1), (2, 1)] w := by
  intro fs h w
  rw [Try.underlying27] at h
  cases h
  simp

theorem bp_45 : ∀ (fs : Array Field), some (TypeDesc.struct fs) = Try.prog.underlying 45 → ∀ w, (fs.mapM fun (f : Field) => do pure (f.offset, ← sizeOf f.type)).run Try.prog w = .ok #[(0, 1)] w := by
  intro fs h w
  rw [Try.underlying45] at h
  cases h
  simp

theorem bp_75 : ∀ (fs : Array Field), some (TypeDesc.struct fs) = Try.prog.underlying 75 → ∀ w, (fs.mapM fun (f : Field) => do pure (f.offset, ← sizeOf f.type)).run Try.prog w = .ok #[(0, 1), (1, 1), (2, 1), (3, 1)] w := by
  intro fs h w
  rw [Try.underlying75] at h
  cases h
  simp

theorem bp_104 : ∀ (fs : Array Field), some (TypeDesc.struct fs) = Try.prog.underlying 104 → ∀ w, (fs.mapM fun (f : Field) => do pure (f.offset, ← sizeOf f.type)).run Try.prog w = .ok #[(0, 1), (1, 1), (2, 1), (3, 1)] w := by
  intro fs h w
  rw [Try.underlying104] at h
  cases h
  simp

theorem bp_135 : ∀ (fs : Array Field), some (TypeDesc.struct fs) = Try.prog.underlying 135 → ∀ w, (fs.mapM fun (f : Field) => do pure (f.offset, ← sizeOf f.type)).run Try.prog w = .ok #[(0, 1), (1, 1), (2, 1)] w := by
  intro fs h w
  rw [Try.underlying135] at h
  cases h
  simp

set_option maxRecDepth 100000 in
set_option maxHeartbeats 4000000 in
theorem r_laws_f6big (C : Cx) (code1 : Str) (A2 : Option Addr) (c3 : Nat) (hp4 : (sliceRep byteRep).R C.w0 C.S0 code1 [vL A2 code1 c3]) (r : Bool) (h : m_laws_f6big code1 = some r) :
    Calls Try.prog 44 #[vL A2 (code1) c3] C.w0 fun e w => e = .returned (.bool (r)) ∧ Mem C w [] [] := by
  have hM := Mem.begin C [.dat (sliceRep byteRep) code1 [vL A2 code1 c3]] ⟨hp4, trivial⟩
  refine enter Try.func44 rfl Try.ntmps44 rfl fun a hf => ?_
  unfold m_laws_f6big at h
  refine wp_seq ?_
  refine region_pl ?_
  refine q_ hf rfl rfl rfl (e_assign hf rfl) fun a hf => ?_
  refine pl_nil ?_
  refine then_n ?_
  refine wp_seq ?_
  refine region_pl ?_
  refine q_ hf rfl rfl rfl (e_move hf rfl) fun a hf => ?_
  have hl5 := slice_len (hM.dat (k := 0) rfl)
  refine q_ hf rfl rfl rfl (e_lenL hf (x := code1) rfl Try.underlying63) fun a hf => ?_
  refine q_ hf rfl rfl rfl (e_gt hf (x := (code1.length : Int)) (y := 4096) rfl rfl) fun a hf => ?_
  refine q_ hf rfl rfl rfl (e_assign hf rfl) fun a hf => ?_
  refine pl_nil ?_
  refine then_n ?_
  refine wp_ret ?_
  obtain rfl := some_inj h
  exact leave1 hf rfl rfl ⟨rfl, hM.fin⟩

set_option maxRecDepth 100000 in
set_option maxHeartbeats 4000000 in
theorem r_spec_l00From (C : Cx) (code1 : Str) (A2 : Option Addr) (c3 : Nat) (hp4 : (sliceRep byteRep).R C.w0 C.S0 code1 [vL A2 code1 c3]) (r : l00Src) (h : m_spec_l00From code1 = some r) :
    Calls Try.prog 104 #[vL A2 (code1) c3] C.w0 fun e w => ∃ (b_1 : Nat), ∃ (A_1 : Option Addr), ∃ (c_1 : Nat), e = .returned (vP b_1 (0)) ∧ Mem C w [.box b_1 [vL A_1 (r.code) c_1, vI (r.at_), vW (r.seed)] 135] [] ∧ (sliceRep byteRep).R w (Sh C [.box b_1 [vL A_1 (r.code) c_1, vI (r.at_), vW (r.seed)] 135] w) r.code [vL A_1 r.code c_1] ∧ R64 r.at_ ∧ U64 r.seed := by
  have hM := Mem.begin C [.dat (sliceRep byteRep) code1 [vL A2 code1 c3]] ⟨hp4, trivial⟩
  refine enter Try.func104 rfl Try.ntmps104 rfl fun a hf => ?_
  unfold m_spec_l00From at h
  refine wp_seq ?_
  refine region_pl ?_
  refine q_ hf rfl rfl rfl (e_assign hf rfl) fun a hf => ?_
  refine pl_nil ?_
  refine then_n ?_
  refine wp_seq ?_
  refine region_pl ?_
  refine q_ hf rfl rfl rfl (e_move hf rfl) fun a hf => ?_
  refine q_ hf rfl rfl rfl (e_build hf Try.zeroValue135 Try.underlying135 (bp_135 _ Try.underlying135.symm) rfl (cs := #[vL A2 (code1) c3, vI (0), vW (0)]) (by kernel_rfl)) fun a hf => ?_
  refine pl_l hf rfl rfl rfl (w_box hf hM (cs := [vL A2 (code1) c3, vI (0), vW (0)]) rfl rfl fun b5 w6 hx7 hM a hf => ?_)
  refine q_ hf rfl rfl rfl (e_assign hf rfl) fun a hf => ?_
  refine pl_nil ?_
  refine then_n ?_
  refine wp_ret ?_
  obtain rfl := some_inj h
  exact leave1 hf rfl rfl ⟨b5, A2, c3, rfl, hM.fin, (hM.dat (k := 0) rfl), (R64_lit rfl), (U64_lit rfl)⟩

set_option maxRecDepth 100000 in
set_option maxHeartbeats 4000000 in
theorem r_spec_l00Src_next (C : Cx) (s1 : l00Src) (b2 : Nat) (A3 : Option Addr) (c4 : Nat) (hp5 : (sliceRep byteRep).R C.w0 C.S0 s1.code [vL A3 s1.code c4]) (hp6 : R64 s1.at_) (hp7 : U64 s1.seed) (hO : Mem C C.w0 [.box b2 [vL A3 (s1.code) c4, vI (s1.at_), vW (s1.seed)] 135] []) (hd : ∀ b, C.S0 b → ¬ ownB [.box b2 [vL A3 (s1.code) c4, vI (s1.at_), vW (s1.seed)] 135] b) (r : (Int × l00Src)) (h : m_spec_l00Src_next s1 = some r) :
    Calls Try.prog 128 #[vP b2 (0)] C.w0 fun e w => ∃ (A_1 : Option Addr), ∃ (c_1 : Nat), e = .returned (vI (r.1)) ∧ Mem C w [.box b2 [vL A_1 (r.2.code) c_1, vI (r.2.at_), vW (r.2.seed)] 135] [] ∧ (sliceRep byteRep).R w (Sh C [.box b2 [vL A_1 (r.2.code) c_1, vI (r.2.at_), vW (r.2.seed)] 135] w) r.2.code [vL A_1 r.2.code c_1] ∧ R64 r.2.at_ ∧ U64 r.2.seed ∧ R64 r.1 := by
  have hM := hO
  have hM := hM.addIn hd (y := .dat (sliceRep byteRep) s1.code [vL A3 s1.code c4]) hp5
  refine enter Try.func128 rfl Try.ntmps128 rfl fun a hf => ?_
  unfold m_spec_l00Src_next at h
  refine wp_seq ?_
  refine region_pl ?_
  refine q_ hf rfl rfl rfl (e_assign hf rfl) fun a hf => ?_
  refine pl_nil ?_
  refine then_n ?_
  refine wp_seq ?_
  refine region_pl ?_
  refine q_ hf rfl rfl rfl (e_assign hf rfl) fun a hf => ?_
  refine pl_nil ?_
  refine then_n ?_
  obtain ⟨x10, h11, h⟩ := bind_some h
  refine seq_join (fun a w => ∃ (n8 : Int), n8 = x10 ∧ Has 62 a [(0, vP b2 (0)), (3, vI (n8))] ∧ Mem C w [.box b2 [vL A3 (s1.code) c4, vI (s1.at_), vW (s1.seed)] 135] [.dat (sliceRep byteRep) s1.code [vL A3 s1.code c4]] ∧ R64 n8) ?_ ?_
  · refine wp_seq ?_
    obtain ⟨w12, hw⟩ : ∃ x, x = C.w0.drew := ⟨_, rfl⟩
    refine region_pi (.q 0 (.q 1 (.q 2 (.q 3 (.q 4 (.q 5 (.q 6 (.q 7 (.q 8 (.q 9 (.nil))))))))))) (Ext w12) rfl (by kernel_rfl) ?_
    have hM := hM.drew
    rw [← hw] at hM ⊢
    clear hw
    refine pi_q hf rfl rfl rfl rfl (Ext.refl _) (e_move hf rfl) fun a hf => ?_
    refine pi_q hf rfl rfl rfl rfl (Ext.refl _) (e_nil hf rfl) fun a hf => ?_
    refine pi_q hf rfl rfl rfl rfl (Ext.refl _) (e_field hf rfl Try.underlying135 rfl Try.sizeOf3 (o' := 1) rfl) fun a hf => ?_
    refine pi_q hf rfl rfl rfl rfl (Ext.refl _) (e_load1 hf rfl Try.isAgg3 (hM.boxCell (k := 0) rfl rfl)) fun a hf => ?_
    refine pi_q hf rfl rfl rfl rfl (Ext.refl _) (e_move hf rfl) fun a hf => ?_
    refine pi_q hf rfl rfl rfl rfl (Ext.refl _) (e_nil hf rfl) fun a hf => ?_
    refine pi_q hf rfl rfl rfl rfl (Ext.refl _) (e_field hf rfl Try.underlying135 rfl Try.sizeOf63 (o' := 0) rfl) fun a hf => ?_
    refine pi_q hf rfl rfl rfl rfl (Ext.refl _) (e_load1 hf rfl Try.isAgg63 (hM.boxCell (k := 0) rfl rfl)) fun a hf => ?_
    have hl13 := slice_len (hM.dat (k := 0) rfl)
    refine pi_q hf rfl rfl rfl rfl (Ext.refl _) (e_lenL hf (x := s1.code) rfl Try.underlying63) fun a hf => ?_
    refine pi_q hf rfl rfl rfl rfl (Ext.refl _) (e_lt hf (x := s1.at_) (y := (s1.code.length : Int)) rfl rfl) fun a hf => ?_
    refine pi_nil ?_
    refine then_n ?_
    rcases cond_some h11 with ⟨hc14, h11⟩ | ⟨hc14, h11⟩
    · refine cond_t hf rfl hc14 ?_
      obtain ⟨w15, hw⟩ : ∃ x, x = w12.drew := ⟨_, rfl⟩
      refine region_pi (.q 0 (.q 1 (.q 2 (.q 3 (.q 4 (.q 5 (.q 6 (.q 7 (.q 8 (.q 9 (.q 10 (.q 11 (.nil))))))))))))) (Ext w15) rfl (by kernel_rfl) ?_
      have hM := hM.drew
      rw [← hw] at hM ⊢
      clear hw
      refine pi_q hf rfl rfl rfl rfl (Ext.refl _) (e_move hf rfl) fun a hf => ?_
      refine pi_q hf rfl rfl rfl rfl (Ext.refl _) (e_nil hf rfl) fun a hf => ?_
      refine pi_q hf rfl rfl rfl rfl (Ext.refl _) (e_field hf rfl Try.underlying135 rfl Try.sizeOf63 (o' := 0) rfl) fun a hf => ?_
      refine pi_q hf rfl rfl rfl rfl (Ext.refl _) (e_load1 hf rfl Try.isAgg63 (hM.boxCell (k := 0) rfl rfl)) fun a hf => ?_
      refine pi_q hf rfl rfl rfl rfl (Ext.refl _) (e_move hf rfl) fun a hf => ?_
      refine pi_q hf rfl rfl rfl rfl (Ext.refl _) (e_nil hf rfl) fun a hf => ?_
      refine pi_q hf rfl rfl rfl rfl (Ext.refl _) (e_field hf rfl Try.underlying135 rfl Try.sizeOf3 (o' := 1) rfl) fun a hf => ?_
      refine pi_q hf rfl rfl rfl rfl (Ext.refl _) (e_load1 hf rfl Try.isAgg3 (hM.boxCell (k := 0) rfl rfl)) fun a hf => ?_
      obtain ⟨e16, hz17, h11⟩ := bind_some h11
      obtain ⟨b21, o22, _, hA23, h18, h19, hr20, hM⟩ := hM.elem (hM.dat (k := 0) rfl) (n := 1) rfl hz17
      obtain rfl : _ = _ := hr20
      refine pi_q hf rfl rfl rfl rfl (Ext.refl _) (e_indexAddr (A := A3) (b := b21) (o := o22) (xs := s1.code) (i := s1.at_) hf hA23 rfl rfl Try.underlying63 Try.sizeOf5 h18 h19) fun a hf => ?_
      refine pi_q hf rfl rfl rfl rfl (Ext.refl _) (e_load1 hf rfl Try.isAgg5 (hM.litCell (k := 0) (j := 0) rfl rfl rfl)) fun a hf => ?_
      refine pi_q hf rfl rfl rfl rfl (Ext.refl _) (e_convBI hf (x := e16) rfl Try.underlying5 Try.underlying3) fun a hf => ?_
      refine pi_q hf rfl rfl rfl rfl (Ext.refl _) (e_assign hf rfl) fun a hf => ?_
      refine pi_nil ?_
      obtain rfl := some_inj h11
      refine then_n ?_
      exact ⟨(e16.toNat : Int), rfl, hf.keep ⟨rfl, rfl, trivial⟩, hM.pick [1] rfl, (R64_byte _)⟩
    · refine cond_f hf rfl hc14 ?_
      refine wp_skip ?_
      obtain rfl := some_inj h11
      refine then_n ?_
      exact ⟨0, rfl, hf.keep ⟨rfl, rfl, trivial⟩, hM.pick [0] rfl, (R64_lit rfl)⟩
  · rintro a w26 ⟨n8, rfl, hf, hM, hv9⟩
    try dsimp only at h
    refine wp_seq ?_
    refine region_pl ?_
    refine q_ hf rfl rfl rfl (e_move hf rfl) fun a hf => ?_
    refine q_ hf rfl rfl rfl (e_nil hf rfl) fun a hf => ?_
    refine q_ hf rfl rfl rfl (e_field hf rfl Try.underlying135 rfl Try.sizeOf3 (o' := 1) rfl) fun a hf => ?_
    refine q_ hf rfl rfl rfl (e_load1 hf rfl Try.isAgg3 (hM.boxCell (k := 0) rfl rfl)) fun a hf => ?_
    obtain ⟨z27, hz28, h⟩ := bind_some h
    refine q_ hf rfl rfl rfl (e_add hf rfl rfl hz28) fun a hf => ?_
    refine q_ hf rfl rfl rfl (e_nil hf rfl) fun a hf => ?_
    refine q_ hf rfl rfl rfl (e_field hf rfl Try.underlying135 rfl Try.sizeOf3 (o' := 1) rfl) fun a hf => ?_
    refine pl_0 hf rfl rfl (w_store hf hM (us := [vI (z27)]) (cs' := [vL A3 (s1.code) c4, vI (z27), vW (s1.seed)]) rfl rfl (k := 0) rfl rfl Try.sizeOf3 rfl rfl rfl fun w29 hM => ?_)
    dsimp only [List.set] at hM
    refine pl_nil ?_
    refine then_n ?_
    refine wp_seq ?_
    refine region_pl ?_
    refine q_ hf rfl rfl rfl (e_move hf rfl) fun a hf => ?_
    refine q_ hf rfl rfl rfl (e_move hf rfl) fun a hf => ?_
    refine q_ hf rfl rfl rfl (e_nil hf rfl) fun a hf => ?_
    refine q_ hf rfl rfl rfl (e_field hf rfl Try.underlying135 rfl Try.sizeOf133 (o' := 2) rfl) fun a hf => ?_
    refine q_ hf rfl rfl rfl (e_load1 hf rfl Try.isAgg133 (hM.boxCell (k := 0) rfl rfl)) fun a hf => ?_
    refine q_ hf rfl rfl rfl (e_mulW hf rfl rfl) fun a hf => ?_
    refine q_ hf rfl rfl rfl (e_move hf rfl) fun a hf => ?_
    refine q_ hf rfl rfl rfl (e_convIW hf rfl Try.underlying3 Try.underlying133) fun a hf => ?_
    refine q_ hf rfl rfl rfl (e_addW hf rfl rfl) fun a hf => ?_
    refine q_ hf rfl rfl rfl (e_addW hf rfl rfl) fun a hf => ?_
    refine q_ hf rfl rfl rfl (e_nil hf rfl) fun a hf => ?_
    refine q_ hf rfl rfl rfl (e_field hf rfl Try.underlying135 rfl Try.sizeOf133 (o' := 2) rfl) fun a hf => ?_
    refine pl_0 hf rfl rfl (w_store hf hM (us := [vW ((((((s1.seed * 6364136223846793005) % 18446744073709551616) + (n8 % 18446744073709551616)) % 18446744073709551616) + 1442695040888963407) % 18446744073709551616)]) (cs' := [vL A3 (s1.code) c4, vI (z27), vW ((((((s1.seed * 6364136223846793005) % 18446744073709551616) + (n8 % 18446744073709551616)) % 18446744073709551616) + 1442695040888963407) % 18446744073709551616)]) rfl rfl (k := 0) rfl rfl Try.sizeOf133 rfl rfl rfl fun w32 hM => ?_)
    dsimp only [List.set] at hM
    refine pl_nil ?_
    refine then_n ?_
    refine wp_seq ?_
    refine wp_seq ?_
    obtain ⟨w35, hw⟩ : ∃ x, x = w32.drew := ⟨_, rfl⟩
    refine region_pi (.q 0 (.q 1 (.q 2 (.q 3 (.q 4 (.q 5 (.q 6 (.q 7 (.q 8 (.q 9 (.nil))))))))))) (Ext w35) rfl (by kernel_rfl) ?_
    have hM := hM.drew
    rw [← hw] at hM ⊢
    clear hw
    refine pi_q hf rfl rfl rfl rfl (Ext.refl _) (e_move hf rfl) fun a hf => ?_
    refine pi_q hf rfl rfl rfl rfl (Ext.refl _) (e_nil hf rfl) fun a hf => ?_
    refine pi_q hf rfl rfl rfl rfl (Ext.refl _) (e_field hf rfl Try.underlying135 rfl Try.sizeOf3 (o' := 1) rfl) fun a hf => ?_
    refine pi_q hf rfl rfl rfl rfl (Ext.refl _) (e_load1 hf rfl Try.isAgg3 (hM.boxCell (k := 0) rfl rfl)) fun a hf => ?_
    refine pi_q hf rfl rfl rfl rfl (Ext.refl _) (e_move hf rfl) fun a hf => ?_
    refine pi_q hf rfl rfl rfl rfl (Ext.refl _) (e_nil hf rfl) fun a hf => ?_
    refine pi_q hf rfl rfl rfl rfl (Ext.refl _) (e_field hf rfl Try.underlying135 rfl Try.sizeOf63 (o' := 0) rfl) fun a hf => ?_
    refine pi_q hf rfl rfl rfl rfl (Ext.refl _) (e_load1 hf rfl Try.isAgg63 (hM.boxCell (k := 0) rfl rfl)) fun a hf => ?_
    have hl36 := slice_len (hM.dat (k := 0) rfl)
    refine pi_q hf rfl rfl rfl rfl (Ext.refl _) (e_lenL hf (x := s1.code) rfl Try.underlying63) fun a hf => ?_
    refine pi_q hf rfl rfl rfl rfl (Ext.refl _) (e_le hf (x := z27) (y := (s1.code.length : Int)) rfl rfl) fun a hf => ?_
    refine pi_nil ?_
    refine then_n ?_
    rcases cond_some h with ⟨hc37, h⟩ | ⟨hc37, h⟩
    · refine cond_t hf rfl hc37 ?_
      refine wp_seq ?_
      refine region_pl ?_
      refine q_ hf rfl rfl rfl (e_move hf rfl) fun a hf => ?_
      refine q_ hf rfl rfl rfl (e_assign hf rfl) fun a hf => ?_
      refine pl_nil ?_
      refine then_n ?_
      refine wp_ret ?_
      refine then_r ?_
      obtain rfl := some_inj h
      exact leave1 hf rfl rfl ⟨A3, c4, rfl, hM.fin, (hM.dat (k := 0) rfl), (chk_R hz28), (U64_mod _), hv9⟩
    · refine cond_f hf rfl hc37 ?_
      refine wp_skip ?_
      refine then_n ?_
      refine wp_seq ?_
      refine region_pl ?_
      refine q_ hf rfl rfl rfl (e_move hf rfl) fun a hf => ?_
      refine q_ hf rfl rfl rfl (e_nil hf rfl) fun a hf => ?_
      refine q_ hf rfl rfl rfl (e_field hf rfl Try.underlying135 rfl Try.sizeOf133 (o' := 2) rfl) fun a hf => ?_
      refine q_ hf rfl rfl rfl (e_load1 hf rfl Try.isAgg133 (hM.boxCell (k := 0) rfl rfl)) fun a hf => ?_
      refine q_ hf rfl rfl rfl (e_shrW hf (k := 40) rfl rfl rfl rfl (m := 1099511627776) rfl (U64_mod _)) fun a hf => ?_
      refine q_ hf rfl rfl rfl (e_andW hf (k := 8) rfl rfl rfl rfl (m := 256) rfl (U64_div (U64_mod _) (by decide))) fun a hf => ?_
      obtain ⟨z38, hz39, h⟩ := bind_some h
      refine q_ hf rfl rfl rfl (e_convWI hf rfl Try.underlying133 Try.underlying2 hz39) fun a hf => ?_
      refine q_ hf rfl rfl rfl (e_assign hf rfl) fun a hf => ?_
      refine pl_nil ?_
      refine then_n ?_
      refine wp_ret ?_
      obtain rfl := some_inj h
      exact leave1 hf rfl rfl ⟨A3, c4, rfl, hM.fin, (hM.dat (k := 0) rfl), (chk_R hz28), (U64_mod _), (chk_R hz39)⟩

set_option maxRecDepth 100000 in
set_option maxHeartbeats 4000000 in
theorem r_spec_l00Src_pick (C : Cx) (s1 : l00Src) (b2 : Nat) (A3 : Option Addr) (c4 : Nat) (hp5 : (sliceRep byteRep).R C.w0 C.S0 s1.code [vL A3 s1.code c4]) (hp6 : R64 s1.at_) (hp7 : U64 s1.seed) (n8 : Int) (hp9 : R64 n8) (hO : Mem C C.w0 [.box b2 [vL A3 (s1.code) c4, vI (s1.at_), vW (s1.seed)] 135] []) (hd : ∀ b, C.S0 b → ¬ ownB [.box b2 [vL A3 (s1.code) c4, vI (s1.at_), vW (s1.seed)] 135] b) (r : (Int × l00Src)) (h : m_spec_l00Src_pick s1 n8 = some r) :
    Calls Try.prog 118 #[vP b2 (0), vI (n8)] C.w0 fun e w => ∃ (A_1 : Option Addr), ∃ (c_1 : Nat), e = .returned (vI (r.1)) ∧ Mem C w [.box b2 [vL A_1 (r.2.code) c_1, vI (r.2.at_), vW (r.2.seed)] 135] [] ∧ (sliceRep byteRep).R w (Sh C [.box b2 [vL A_1 (r.2.code) c_1, vI (r.2.at_), vW (r.2.seed)] 135] w) r.2.code [vL A_1 r.2.code c_1] ∧ R64 r.2.at_ ∧ U64 r.2.seed ∧ R64 r.1 := by
  have hM := hO
  have hM := hM.addIn hd (y := .dat (sliceRep byteRep) s1.code [vL A3 s1.code c4]) hp5
  refine enter Try.func118 rfl Try.ntmps118 rfl fun a hf => ?_
  unfold m_spec_l00Src_pick at h
  refine wp_seq ?_
  refine region_pl ?_
  refine q_ hf rfl rfl rfl (e_assign hf rfl) fun a hf => ?_
  refine pl_nil ?_
  refine then_n ?_
  refine wp_seq ?_
  refine wp_seq ?_
  refine region_pl ?_
  refine q_ hf rfl rfl rfl (e_move hf rfl) fun a hf => ?_
  refine q_ hf rfl rfl rfl (e_le hf (x := n8) (y := 1) rfl rfl) fun a hf => ?_
  refine pl_nil ?_
  refine then_n ?_
  rcases cond_some h with ⟨hc10, h⟩ | ⟨hc10, h⟩
  · refine cond_t hf rfl hc10 ?_
    refine wp_seq ?_
    refine region_pl ?_
    refine q_ hf rfl rfl rfl (e_assign hf rfl) fun a hf => ?_
    refine pl_nil ?_
    refine then_n ?_
    refine wp_ret ?_
    refine then_r ?_
    obtain rfl := some_inj h
    exact leave1 hf rfl rfl ⟨A3, c4, rfl, hM.fin, (hM.dat (k := 0) rfl), hp6, hp7, (R64_lit rfl)⟩
  · refine cond_f hf rfl hc10 ?_
    refine wp_skip ?_
    refine then_n ?_
    refine wp_seq ?_
    refine region_pl ?_
    refine q_ hf rfl rfl rfl (e_move hf rfl) fun a hf => ?_
    have hM : Mem C _ ([.box b2 [vL A3 (s1.code) c4, vI (s1.at_), vW (s1.seed)] 135] ++ []) _ := hM
    obtain ⟨y11, hz12, h⟩ := bind_some h
    refine pl_l hf rfl rfl rfl (w_call hf Try.call128 rfl (r_spec_l00Src_next ⟨_, Sh C _ _, ownB _, hM.sh_lt, sub_dis, C.G, hM.g_lt, hM.g_own, hM.tabs⟩ s1 _ _ _ (hM.dat (k := 0) rfl) hp6 hp7 hM.sub sub_dis _ hz12) ?_)
    rintro _ w19 ⟨A13, c14, rfl, hM2, hv15, hv16, hv17, hv18⟩
    obtain ⟨hM, hup21⟩ := hM.backG hM2
    dsimp only [List.cons_append, List.nil_append] at hM hup21
    clear hM2
    have hM := hM.add (y := .dat (sliceRep byteRep) y11.2.code [vL A13 y11.2.code c14]) (hup21 hv15)
    refine ⟨_, rfl, fun a hf => ?_⟩
    refine q_ hf rfl rfl rfl (e_assign hf rfl) fun a hf => ?_
    refine pl_nil ?_
    refine then_n ?_
    obtain ⟨x31, h32, h⟩ := bind_some h
    refine seq_join (fun a w => ∃ (l22 : Str) (n25 : Int) (n27 : Int) (n29 : Int) (A23 : Option Addr) (c24 : Nat), (l22, n25, n27, n29) = x31 ∧ Has 20 a [(1, vI (n8)), (5, vI (n29))] ∧ Mem C w [.box b2 [vL A23 (l22) c24, vI (n25), vW (n27)] 135] [.dat (sliceRep byteRep) l22 [vL A23 l22 c24], .dat (sliceRep byteRep) y11.2.code [vL A13 y11.2.code c14], .dat (sliceRep byteRep) s1.code [vL A3 s1.code c4]] ∧ R64 n25 ∧ U64 n27 ∧ R64 n29) ?_ ?_
    · refine wp_seq ?_
      refine region_pl ?_
      refine q_ hf rfl rfl rfl (e_move hf rfl) fun a hf => ?_
      refine q_ hf rfl rfl rfl (e_gt hf (x := n8) (y := 200) rfl rfl) fun a hf => ?_
      refine pl_nil ?_
      refine then_n ?_
      rcases cond_some h32 with ⟨hc33, h32⟩ | ⟨hc33, h32⟩
      · refine cond_t hf rfl hc33 ?_
        refine region_pl ?_
        refine q_ hf rfl rfl rfl (e_move hf rfl) fun a hf => ?_
        obtain ⟨z34, hz35, h32⟩ := bind_some h32
        refine q_ hf rfl rfl rfl (e_mul hf rfl rfl hz35) fun a hf => ?_
        refine q_ hf rfl rfl rfl (e_move hf rfl) fun a hf => ?_
        have hM : Mem C _ ([.box b2 [vL A13 (y11.2.code) c14, vI (y11.2.at_), vW (y11.2.seed)] 135] ++ []) _ := hM
        obtain ⟨y36, hz37, h32⟩ := bind_some h32
        refine pl_l hf rfl rfl rfl (w_call hf Try.call128 rfl (r_spec_l00Src_next ⟨_, Sh C _ _, ownB _, hM.sh_lt, sub_dis, C.G, hM.g_lt, hM.g_own, hM.tabs⟩ y11.2 _ _ _ (hM.dat (k := 0) rfl) hv16 hv17 hM.sub sub_dis _ hz37) ?_)
        rintro _ w44 ⟨A38, c39, rfl, hM2, hv40, hv41, hv42, hv43⟩
        obtain ⟨hM, hup46⟩ := hM.backG hM2
        dsimp only [List.cons_append, List.nil_append] at hM hup46
        clear hM2
        have hM := hM.add (y := .dat (sliceRep byteRep) y36.2.code [vL A38 y36.2.code c39]) (hup46 hv40)
        refine ⟨_, rfl, fun a hf => ?_⟩
        obtain ⟨z47, hz48, h32⟩ := bind_some h32
        refine q_ hf rfl rfl rfl (e_add hf rfl rfl hz48) fun a hf => ?_
        refine q_ hf rfl rfl rfl (e_assign hf rfl) fun a hf => ?_
        refine pl_nil ?_
        obtain rfl := some_inj h32
        refine then_n ?_
        exact ⟨y36.2.code, y36.2.at_, y36.2.seed, z47, A38, c39, rfl, hf.keep ⟨rfl, rfl, trivial⟩, hM.pick [0, 1, 2] rfl, hv41, hv42, (chk_R hz48)⟩
      · refine cond_f hf rfl hc33 ?_
        refine wp_skip ?_
        obtain rfl := some_inj h32
        refine then_n ?_
        exact ⟨y11.2.code, y11.2.at_, y11.2.seed, y11.1, A13, c14, rfl, hf.keep ⟨rfl, rfl, trivial⟩, hM.pick [0, 0, 1] rfl, hv16, hv17, hv18⟩
    · rintro a w51 ⟨l22, n25, n27, n29, A23, c24, rfl, hf, hM, hv26, hv28, hv30⟩
      try dsimp only at h
      refine wp_seq ?_
      refine region_pl ?_
      refine q_ hf rfl rfl rfl (e_move hf rfl) fun a hf => ?_
      refine q_ hf rfl rfl rfl (e_move hf rfl) fun a hf => ?_
      obtain ⟨z52, hz53, h⟩ := bind_some h
      refine q_ hf rfl rfl rfl (e_rem hf rfl rfl hz53) fun a hf => ?_
      refine q_ hf rfl rfl rfl (e_assign hf rfl) fun a hf => ?_
      refine pl_nil ?_
      refine then_n ?_
      refine wp_ret ?_
      obtain rfl := some_inj h
      exact leave1 hf rfl rfl ⟨A23, c24, rfl, hM.fin, (hM.dat (k := 0) rfl), hv26, hv28, (remI_R hz53 hv30)⟩

set_option maxRecDepth 100000 in
set_option maxHeartbeats 4000000 in
theorem r_spec_l00Src_text (C : Cx) (s1 : l00Src) (b2 : Nat) (A3 : Option Addr) (c4 : Nat) (hp5 : (sliceRep byteRep).R C.w0 C.S0 s1.code [vL A3 s1.code c4]) (hp6 : R64 s1.at_) (hp7 : U64 s1.seed) (list8 : (List Str)) (A9 : Option Addr) (c10 : Nat) (hp11 : (sliceRep strRep).R C.w0 C.S0 list8 [vL A9 list8 c10]) (hO : Mem C C.w0 [.box b2 [vL A3 (s1.code) c4, vI (s1.at_), vW (s1.seed)] 135] []) (hd : ∀ b, C.S0 b → ¬ ownB [.box b2 [vL A3 (s1.code) c4, vI (s1.at_), vW (s1.seed)] 135] b) (r : (Str × l00Src)) (h : m_spec_l00Src_text s1 list8 = some r) :
    Calls Try.prog 120 #[vP b2 (0), vL A9 (list8) c10] C.w0 fun e w => ∃ (A_1 : Option Addr), ∃ (c_1 : Nat), e = .returned (vS (r.1)) ∧ Mem C w [.box b2 [vL A_1 (r.2.code) c_1, vI (r.2.at_), vW (r.2.seed)] 135] [] ∧ (sliceRep byteRep).R w (Sh C [.box b2 [vL A_1 (r.2.code) c_1, vI (r.2.at_), vW (r.2.seed)] 135] w) r.2.code [vL A_1 r.2.code c_1] ∧ R64 r.2.at_ ∧ U64 r.2.seed ∧ r.1.length ≤ maxLen := by
  have hM := hO
  have hM := hM.addIn hd (y := .dat (sliceRep byteRep) s1.code [vL A3 s1.code c4]) hp5
  have hM := hM.addIn hd (y := .dat (sliceRep strRep) list8 [vL A9 list8 c10]) hp11
  refine enter Try.func120 rfl Try.ntmps120 rfl fun a hf => ?_
  unfold m_spec_l00Src_text at h
  refine wp_seq ?_
  refine region_pl ?_
  refine q_ hf rfl rfl rfl (e_assign hf rfl) fun a hf => ?_
  refine pl_nil ?_
  refine then_n ?_
  refine wp_seq ?_
  refine region_pl ?_
  refine q_ hf rfl rfl rfl (e_move hf rfl) fun a hf => ?_
  refine q_ hf rfl rfl rfl (e_move hf rfl) fun a hf => ?_
  refine q_ hf rfl rfl rfl (e_move hf rfl) fun a hf => ?_
  have hl12 := slice_len (hM.dat (k := 0) rfl)
  refine q_ hf rfl rfl rfl (e_lenL hf (x := list8) rfl Try.underlying40) fun a hf => ?_
  have hM : Mem C _ ([.box b2 [vL A3 (s1.code) c4, vI (s1.at_), vW (s1.seed)] 135] ++ []) _ := hM
  obtain ⟨y13, hz14, h⟩ := bind_some h
  refine pl_l hf rfl rfl rfl (w_call hf Try.call118 rfl (r_spec_l00Src_pick ⟨_, Sh C _ _, ownB _, hM.sh_lt, sub_dis, C.G, hM.g_lt, hM.g_own, hM.tabs⟩ s1 _ _ _ (hM.dat (k := 1) rfl) hp6 hp7 (list8.length : Int) (R64_len hl12) hM.sub sub_dis _ hz14) ?_)
  rintro _ w21 ⟨A15, c16, rfl, hM2, hv17, hv18, hv19, hv20⟩
  obtain ⟨hM, hup23⟩ := hM.backG hM2
  dsimp only [List.cons_append, List.nil_append] at hM hup23
  clear hM2
  have hM := hM.add (y := .dat (sliceRep byteRep) y13.2.code [vL A15 y13.2.code c16]) (hup23 hv17)
  refine ⟨_, rfl, fun a hf => ?_⟩
  obtain ⟨e24, hz25, h⟩ := bind_some h
  obtain ⟨b29, o30, _, hA31, h26, h27, hr28, hM⟩ := hM.elem (hM.dat (k := 1) rfl) (n := 1) rfl hz25
  obtain ⟨rfl, hv32⟩ := hr28
  refine q_ hf rfl rfl rfl (e_indexAddr (A := A9) (b := b29) (o := o30) (xs := list8) (i := y13.1) hf hA31 rfl rfl Try.underlying40 Try.sizeOf9 h26 h27) fun a hf => ?_
  refine q_ hf rfl rfl rfl (e_load1 hf rfl Try.isAgg9 (hM.litCell (k := 0) (j := 0) rfl rfl rfl)) fun a hf => ?_
  refine q_ hf rfl rfl rfl (e_assign hf rfl) fun a hf => ?_
  refine pl_nil ?_
  refine then_n ?_
  refine wp_ret ?_
  obtain rfl := some_inj h
  exact leave1 hf rfl rfl ⟨A15, c16, rfl, hM.fin, (hM.dat (k := 1) rfl), hv18, hv19, hv32⟩

set_option maxRecDepth 100000 in
set_option maxHeartbeats 4000000 in
theorem r_spec_l25Draw (C : Cx) (s1 : l00Src) (b2 : Nat) (A3 : Option Addr) (c4 : Nat) (hp5 : (sliceRep byteRep).R C.w0 C.S0 s1.code [vL A3 s1.code c4]) (hp6 : R64 s1.at_) (hp7 : U64 s1.seed) (hO : Mem C C.w0 [.box b2 [vL A3 (s1.code) c4, vI (s1.at_), vW (s1.seed)] 135] []) (hd : ∀ b, C.S0 b → ¬ ownB [.box b2 [vL A3 (s1.code) c4, vI (s1.at_), vW (s1.seed)] 135] b) (r : (Grid × l00Src)) (h : m_spec_l25Draw s1 = some r) :
    Calls Try.prog 117 #[vP b2 (0)] C.w0 fun e w => ∃ (A_1 : Option Addr), ∃ (c_1 : Nat), e = .returned (.agg #[vI (r.1.Rows), vI (r.1.Cols), vS (r.1.Cells)]) ∧ Mem C w [.box b2 [vL A_1 (r.2.code) c_1, vI (r.2.at_), vW (r.2.seed)] 135] [] ∧ (sliceRep byteRep).R w (Sh C [.box b2 [vL A_1 (r.2.code) c_1, vI (r.2.at_), vW (r.2.seed)] 135] w) r.2.code [vL A_1 r.2.code c_1] ∧ R64 r.2.at_ ∧ U64 r.2.seed ∧ R64 r.1.Rows ∧ R64 r.1.Cols ∧ r.1.Cells.length ≤ maxLen := by
  have hM := hO
  have hM := hM.addIn hd (y := .dat (sliceRep byteRep) s1.code [vL A3 s1.code c4]) hp5
  refine enter Try.func117 rfl Try.ntmps117 rfl fun a hf => ?_
  unfold m_spec_l25Draw at h
  refine wp_seq ?_
  refine region_pl ?_
  refine pl_l hf rfl rfl rfl (w_alloc hM (cs := [vI (0), vI (0), vS (([] : Str))]) Try.zeroValue27 rfl fun b8 w9 hx10 hM a hf => ?_)
  refine pl_nil ?_
  refine then_n ?_
  refine wp_seq ?_
  refine region_pl ?_
  refine q_ hf rfl rfl rfl (e_move hf rfl) fun a hf => ?_
  have hM := hM.front (k := 1) rfl
  dsimp only [List.eraseIdx] at hM
  have hM : Mem C _ ([.box b2 [vL A3 (s1.code) c4, vI (s1.at_), vW (s1.seed)] 135] ++ [.box b8 [vI (0), vI (0), vS (([] : Str))] 27]) _ := hM
  obtain ⟨y12, hz13, h⟩ := bind_some h
  refine pl_l hf rfl rfl rfl (w_call hf Try.call118 rfl (r_spec_l00Src_pick ⟨_, Sh C _ _, ownB _, hM.sh_lt, sub_dis, C.G, hM.g_lt, hM.g_own, hM.tabs⟩ s1 _ _ _ (hM.dat (k := 0) rfl) hp6 hp7 4 (R64_lit rfl) hM.sub sub_dis _ hz13) ?_)
  rintro _ w20 ⟨A14, c15, rfl, hM2, hv16, hv17, hv18, hv19⟩
  obtain ⟨hM, hup22⟩ := hM.backG hM2
  dsimp only [List.cons_append, List.nil_append] at hM hup22
  clear hM2
  have hM := hM.add (y := .dat (sliceRep byteRep) y12.2.code [vL A14 y12.2.code c15]) (hup22 hv16)
  refine ⟨_, rfl, fun a hf => ?_⟩
  obtain ⟨z23, hz24, h⟩ := bind_some h
  refine q_ hf rfl rfl rfl (e_add hf rfl rfl hz24) fun a hf => ?_
  refine q_ hf rfl rfl rfl (e_move hf rfl) fun a hf => ?_
  have hM : Mem C _ ([.box b2 [vL A14 (y12.2.code) c15, vI (y12.2.at_), vW (y12.2.seed)] 135] ++ [.box b8 [vI (0), vI (0), vS (([] : Str))] 27]) _ := hM
  obtain ⟨y25, hz26, h⟩ := bind_some h
  refine pl_l hf rfl rfl rfl (w_call hf Try.call118 rfl (r_spec_l00Src_pick ⟨_, Sh C _ _, ownB _, hM.sh_lt, sub_dis, C.G, hM.g_lt, hM.g_own, hM.tabs⟩ y12.2 _ _ _ (hM.dat (k := 0) rfl) hv17 hv18 3 (R64_lit rfl) hM.sub sub_dis _ hz26) ?_)
  rintro _ w33 ⟨A27, c28, rfl, hM2, hv29, hv30, hv31, hv32⟩
  obtain ⟨hM, hup35⟩ := hM.backG hM2
  dsimp only [List.cons_append, List.nil_append] at hM hup35
  clear hM2
  have hM := hM.add (y := .dat (sliceRep byteRep) y25.2.code [vL A27 y25.2.code c28]) (hup35 hv29)
  refine ⟨_, rfl, fun a hf => ?_⟩
  obtain ⟨z36, hz37, h⟩ := bind_some h
  refine q_ hf rfl rfl rfl (e_add hf rfl rfl hz37) fun a hf => ?_
  refine q_ hf rfl rfl rfl (e_build hf Try.zeroValue27 Try.underlying27 (bp_27 _ Try.underlying27.symm) rfl (cs := #[vI (z23), vI (z36), vS (([] : Str))]) (by kernel_rfl)) fun a hf => ?_
  refine pl_l hf rfl rfl rfl (w_alloc hM (cs := [vI (0), vI (0), vS (([] : Str))]) Try.zeroValue27 rfl fun b38 w39 hx40 hM a hf => ?_)
  refine pl_0 hf rfl rfl (w_store hf hM (us := [vI (z23), vI (z36), vS (([] : Str))]) (cs' := [vI (z23), vI (z36), vS (([] : Str))]) rfl rfl (k := 0) rfl rfl Try.sizeOf27 rfl rfl rfl fun w42 hM => ?_)
  dsimp only [List.set] at hM
  refine pl_nil ?_
  refine then_n ?_
  obtain ⟨x54, h55, h⟩ := bind_some h
  refine seq_join (fun a w => ∃ (l45 : Str) (n48 : Int) (n50 : Int) (s52 : Str) (A46 : Option Addr) (c47 : Nat), (l45, n48, n50, s52) = x54 ∧ Has 29 a [(2, vP b8 (0)), (3, vP b38 (0))] ∧ Mem C w [.box b38 [vI (z23), vI (z36), vS (s52)] 27, .box b2 [vL A46 (l45) c47, vI (n48), vW (n50)] 135, .box b8 [vI (0), vI (0), vS (([] : Str))] 27] [.dat (sliceRep byteRep) l45 [vL A46 l45 c47], .dat (sliceRep byteRep) y25.2.code [vL A27 y25.2.code c28], .dat (sliceRep byteRep) y12.2.code [vL A14 y12.2.code c15], .dat (sliceRep byteRep) s1.code [vL A3 s1.code c4]] ∧ R64 n48 ∧ U64 n50 ∧ s52.length ≤ maxLen) ?_ ?_
  · refine wp_seq ?_
    refine region_pl ?_
    refine q_ hf rfl rfl rfl (e_field hf rfl Try.underlying27 rfl Try.sizeOf2 (o' := 0) rfl) fun a hf => ?_
    refine q_ hf rfl rfl rfl (e_load1 hf rfl Try.isAgg2 (hM.boxCell (k := 0) rfl rfl)) fun a hf => ?_
    refine q_ hf rfl rfl rfl (e_field hf rfl Try.underlying27 rfl Try.sizeOf2 (o' := 1) rfl) fun a hf => ?_
    refine q_ hf rfl rfl rfl (e_load1 hf rfl Try.isAgg2 (hM.boxCell (k := 0) rfl rfl)) fun a hf => ?_
    obtain ⟨z56, hz57, h55⟩ := bind_some h55
    refine q_ hf rfl rfl rfl (e_mul hf rfl rfl hz57) fun a hf => ?_
    refine q_ hf rfl rfl rfl (e_assign hf rfl) fun a hf => ?_
    refine pl_nil ?_
    refine then_n ?_
    refine wp_block ?_
    obtain ⟨x79, h80, h55⟩ := bind_some h55
    refine wp_loopM h80 (fun s a w => ∃ (l58 : Str) (n61 : Int) (n63 : Int) (s65 : Str) (n67 : Int) (A59 : Option Addr) (c60 : Nat), (l58, n61, n63, s65, n67) = s ∧ Has 29 a [(0, vP b2 (0)), (2, vP b8 (0)), (3, vP b38 (0)), (4, vI (n67))] ∧ Mem C w [.box b38 [vI (z23), vI (z36), vS (s65)] 27, .box b2 [vL A59 (l58) c60, vI (n61), vW (n63)] 135, .box b8 [vI (0), vI (0), vS (([] : Str))] 27] [.dat (sliceRep byteRep) l58 [vL A59 l58 c60], .dat (sliceRep byteRep) y25.2.code [vL A27 y25.2.code c28], .dat (sliceRep byteRep) y12.2.code [vL A14 y12.2.code c15], .dat (sliceRep byteRep) s1.code [vL A3 s1.code c4]] ∧ R64 n61 ∧ U64 n63 ∧ s65.length ≤ maxLen ∧ R64 n67) ?_ ?_
    · exact ⟨y25.2.code, y25.2.at_, y25.2.seed, ([] : Str), z56, A27, c28, rfl, hf.keep ⟨rfl, rfl, rfl, rfl, trivial⟩, hM.pick [0, 0, 1, 2] rfl, hv30, hv31, (lit_len rfl), (chk_R hz57)⟩
    · rintro s o81 a w69 ⟨l58, n61, n63, s65, n67, A59, c60, rfl, hf, hM, hv62, hv64, hv66, hv68⟩ h82 hd83
      replace h82 : m_spec_l25Draw_l1 l58 n61 n63 s65 n67 = some o81 := h82
      unfold m_spec_l25Draw_l1 at h82
      refine wp_seq ?_
      refine wp_seq ?_
      refine region_pl ?_
      refine q_ hf rfl rfl rfl (e_move hf rfl) fun a hf => ?_
      refine q_ hf rfl rfl rfl (e_gt hf (x := n67) (y := 0) rfl rfl) fun a hf => ?_
      refine pl_nil ?_
      refine then_n ?_
      rcases cond_some h82 with ⟨hc84, h82⟩ | ⟨hc84, h82⟩
      · refine cond_t hf rfl hc84 ?_
        refine wp_skip ?_
        refine then_n ?_
        refine wp_seq ?_
        refine wp_block ?_
        obtain ⟨w85, hw⟩ : ∃ x, x = w69.drew := ⟨_, rfl⟩
        refine region_pi (.q 0 (.q 1 (.q 2 (.l 3 (.l 4 (.q 5 (.q 6 (.l 7 (.nil))))))))) (ExtM [some b2] w85) rfl (by kernel_rfl) ?_
        have hM := hM.drew
        rw [← hw] at hM ⊢
        clear hw
        refine pi_q hf rfl rfl rfl rfl (ExtM.refl _ _) (e_field hf rfl Try.underlying27 rfl Try.sizeOf9 (o' := 2) rfl) fun a hf => ?_
        refine pi_q hf rfl rfl rfl rfl (ExtM.refl _ _) (e_load1M hf rfl Try.isAgg9 (hM.boxCell (k := 0) rfl rfl) (hM.apart (js := [1]) rfl (k := 0) rfl rfl rfl)) fun a hf => ?_
        refine pi_q hf rfl rfl rfl rfl (ExtM.refl _ _) (e_move hf rfl) fun a hf => ?_
        refine pi_one ?_
        refine pi_l hf rfl rfl rfl rfl (w_slice hf hM (K := strRep) (xs := ([([46] : Str), ([46] : Str), ([46] : Str), ([46] : Str), ([46] : Str), ([46] : Str), ([35] : Str), ([35] : Str), ([116] : Str), ([101] : Str), ([97] : Str)] : (List Str))) (os := [.const (.string ⟨#[46]⟩), .const (.string ⟨#[46]⟩), .const (.string ⟨#[46]⟩), .const (.string ⟨#[46]⟩), .const (.string ⟨#[46]⟩), .const (.string ⟨#[46]⟩), .const (.string ⟨#[35]⟩), .const (.string ⟨#[35]⟩), .const (.string ⟨#[116]⟩), .const (.string ⟨#[101]⟩), .const (.string ⟨#[97]⟩)]) Try.underlying40 ei_9 rfl rfl rfl rfl rfl ⟨⟨[vS (([46] : Str))], rfl, ⟨rfl, (lit_len rfl)⟩⟩, ⟨[vS (([46] : Str))], rfl, ⟨rfl, (lit_len rfl)⟩⟩, ⟨[vS (([46] : Str))], rfl, ⟨rfl, (lit_len rfl)⟩⟩, ⟨[vS (([46] : Str))], rfl, ⟨rfl, (lit_len rfl)⟩⟩, ⟨[vS (([46] : Str))], rfl, ⟨rfl, (lit_len rfl)⟩⟩, ⟨[vS (([46] : Str))], rfl, ⟨rfl, (lit_len rfl)⟩⟩, ⟨[vS (([35] : Str))], rfl, ⟨rfl, (lit_len rfl)⟩⟩, ⟨[vS (([35] : Str))], rfl, ⟨rfl, (lit_len rfl)⟩⟩, ⟨[vS (([116] : Str))], rfl, ⟨rfl, (lit_len rfl)⟩⟩, ⟨[vS (([101] : Str))], rfl, ⟨rfl, (lit_len rfl)⟩⟩, ⟨[vS (([97] : Str))], rfl, ⟨rfl, (lit_len rfl)⟩⟩, trivial⟩ rfl fun b86 w87 hx88 hM => ⟨ExtM [some b2] w87, fun _ h => ExtM.trans hx88 h, ExtM.refl _ _, fun a hf => ?_⟩)
        refine pi_one ?_
        have hM := hM.freezeRow (k := 0) rfl rfl
        dsimp only [List.eraseIdx] at hM
        have hM := hM.front (k := 1) rfl
        dsimp only [List.eraseIdx] at hM
        have hM : Mem C _ ([.box b2 [vL A59 (l58) c60, vI (n61), vW (n63)] 135] ++ [.box b38 [vI (z23), vI (z36), vS (s65)] 27, .box b8 [vI (0), vI (0), vS (([] : Str))] 27]) _ := hM
        obtain ⟨y89, hz90, h82⟩ := bind_some h82
        refine pi_l hf rfl rfl rfl rfl (w_call hf Try.call120 rfl (r_spec_l00Src_text ⟨_, Sh C _ _, ownB _, hM.sh_lt, sub_dis, C.G, hM.g_lt, hM.g_own, hM.tabs⟩ (⟨l58, n61, n63⟩ : l00Src) _ _ _ (hM.dat (k := 1) rfl) hv62 hv64 ([([46] : Str), ([46] : Str), ([46] : Str), ([46] : Str), ([46] : Str), ([46] : Str), ([35] : Str), ([35] : Str), ([116] : Str), ([101] : Str), ([97] : Str)] : (List Str)) _ _ (hM.dat (k := 0) rfl) hM.sub sub_dis _ hz90) ?_)
        rintro _ w97 ⟨A91, c92, rfl, hM2, hv93, hv94, hv95, hv96⟩
        have hxm100 := ExtM.ofChg (bs := [some b2]) hM2.chg ⟨List.mem_of_getElem? (i := 0) rfl, trivial⟩
        have hsz101 := hM2.chg.size
        obtain ⟨hM, hup99⟩ := hM.backG hM2
        dsimp only [List.cons_append, List.nil_append] at hM hup99
        clear hM2
        have hM := hM.add (y := .dat (sliceRep byteRep) y89.2.code [vL A91 y89.2.code c92]) (hup99 hv93)
        refine ⟨_, rfl, Ext w97, fun _ h => ExtM.last hxm100 hsz101 h, Ext.refl _, fun a hf => ?_⟩
        obtain ⟨s102, hz103, h82⟩ := bind_some h82
        refine pi_q hf rfl rfl rfl rfl (Ext.refl _) (e_cat hf (x := s65) (y := y89.1) rfl rfl hz103) fun a hf => ?_
        refine pi_q hf rfl rfl rfl rfl (Ext.refl _) (e_field hf rfl Try.underlying27 rfl Try.sizeOf9 (o' := 2) rfl) fun a hf => ?_
        refine pi_one ?_
        refine pi_z0 hf rfl rfl rfl (by kernel_rfl) (w_store hf hM (us := [vS (s102)]) (cs' := [vI (z23), vI (z36), vS (s102)]) rfl rfl (k := 1) rfl rfl Try.sizeOf9 rfl rfl rfl fun w104 hM => ?_)
        dsimp only [List.set] at hM
        refine pi_nil ?_
        refine blk_n ?_
        refine then_n ?_
        refine region_pl ?_
        refine q_ hf rfl rfl rfl (e_move hf rfl) fun a hf => ?_
        obtain ⟨z107, hz108, h82⟩ := bind_some h82
        refine q_ hf rfl rfl rfl (e_sub hf rfl rfl hz108) fun a hf => ?_
        refine q_ hf rfl rfl rfl (e_assign hf rfl) fun a hf => ?_
        refine pl_nil ?_
        obtain rfl := some_inj h82
        refine then_n ⟨_, rfl, ?_⟩
        have hM := hM.front (k := 2) rfl
        dsimp only [List.eraseIdx] at hM
        have hM := hM.front (k := 1) rfl
        dsimp only [List.eraseIdx] at hM
        have hM := hM.front (k := 2) rfl
        dsimp only [List.eraseIdx] at hM
        exact ⟨y89.2.code, y89.2.at_, y89.2.seed, s102, z107, A91, c92, rfl, hf.keep ⟨rfl, rfl, rfl, rfl, trivial⟩, hM.pick [0, 3, 4, 5] rfl, hv94, hv95, (cat_len hz103), (chk_R hz108)⟩
      · refine cond_f hf rfl hc84 ?_
        refine wp_exit ?_
        refine then_x ?_
        obtain rfl := some_inj h82
        obtain rfl := hd83 _ rfl
        try dsimp only at h55
        refine then_x ?_
        refine exit_hit ?_
        obtain rfl := some_inj h55
        refine then_n ?_
        exact ⟨l58, n61, n63, s65, A59, c60, rfl, hf.keep ⟨rfl, rfl, trivial⟩, hM.pick [0, 1, 2, 3] rfl, hv62, hv64, hv66⟩
  · rintro a w114 ⟨l45, n48, n50, s52, A46, c47, rfl, hf, hM, hv49, hv51, hv53⟩
    try dsimp only at h
    refine wp_seq ?_
    refine region_pl ?_
    refine q_ hf rfl rfl rfl (e_loadA hf (us := [vI (z23), vI (z36), vS (s52)]) rfl ⟨Try.isAgg27, Try.sizeOf27⟩ rfl (hM.boxSub (k := 0) (us := [vI (z23), vI (z36), vS (s52)]) (o := 0) rfl rfl)) fun a hf => ?_
    refine pl_0 hf rfl rfl (w_store hf hM (us := [vI (z23), vI (z36), vS (s52)]) (cs' := [vI (z23), vI (z36), vS (s52)]) rfl rfl (k := 2) rfl rfl Try.sizeOf27 rfl rfl rfl fun w115 hM => ?_)
    dsimp only [List.set] at hM
    refine pl_nil ?_
    refine then_n ?_
    refine wp_ret ?_
    obtain rfl := some_inj h
    have hres118 := leaveV1 (P := Try.prog) Try.results117 (res_agg hf rfl ⟨Try.isAgg27, Try.sizeOf27⟩ (us := [vI (z23), vI (z36), vS (s52)]) rfl (hM.boxSub (k := 2) (o := 0) rfl rfl))
    have hM := hM.front (k := 1) rfl
    dsimp only [List.eraseIdx] at hM
    have hM := hM.outs (own' := [.box b2 [vL A46 (l45) c47, vI (n48), vW (n50)] 135]) 1 rfl
    exact bodyPost_ret hres118 hf.defers ⟨A46, c47, rfl, hM.fin, (hM.dat (k := 0) rfl), hv49, hv51, (chk_R hz24), (chk_R hz37), hv53⟩

set_option maxRecDepth 100000 in
set_option maxHeartbeats 4000000 in
theorem r_spec_l00Src_among (C : Cx) (s1 : l00Src) (b2 : Nat) (A3 : Option Addr) (c4 : Nat) (hp5 : (sliceRep byteRep).R C.w0 C.S0 s1.code [vL A3 s1.code c4]) (hp6 : R64 s1.at_) (hp7 : U64 s1.seed) (list8 : (List Int)) (A9 : Option Addr) (c10 : Nat) (hp11 : (sliceRep intRep).R C.w0 C.S0 list8 [vL A9 list8 c10]) (hO : Mem C C.w0 [.box b2 [vL A3 (s1.code) c4, vI (s1.at_), vW (s1.seed)] 135] []) (hd : ∀ b, C.S0 b → ¬ ownB [.box b2 [vL A3 (s1.code) c4, vI (s1.at_), vW (s1.seed)] 135] b) (r : (Int × l00Src)) (h : m_spec_l00Src_among s1 list8 = some r) :
    Calls Try.prog 119 #[vP b2 (0), vL A9 (list8) c10] C.w0 fun e w => ∃ (A_1 : Option Addr), ∃ (c_1 : Nat), e = .returned (vI (r.1)) ∧ Mem C w [.box b2 [vL A_1 (r.2.code) c_1, vI (r.2.at_), vW (r.2.seed)] 135] [] ∧ (sliceRep byteRep).R w (Sh C [.box b2 [vL A_1 (r.2.code) c_1, vI (r.2.at_), vW (r.2.seed)] 135] w) r.2.code [vL A_1 r.2.code c_1] ∧ R64 r.2.at_ ∧ U64 r.2.seed ∧ R64 r.1 := by
  have hM := hO
  have hM := hM.addIn hd (y := .dat (sliceRep byteRep) s1.code [vL A3 s1.code c4]) hp5
  have hM := hM.addIn hd (y := .dat (sliceRep intRep) list8 [vL A9 list8 c10]) hp11
  refine enter Try.func119 rfl Try.ntmps119 rfl fun a hf => ?_
  unfold m_spec_l00Src_among at h
  refine wp_seq ?_
  refine region_pl ?_
  refine q_ hf rfl rfl rfl (e_assign hf rfl) fun a hf => ?_
  refine pl_nil ?_
  refine then_n ?_
  refine wp_seq ?_
  refine region_pl ?_
  refine q_ hf rfl rfl rfl (e_move hf rfl) fun a hf => ?_
  refine q_ hf rfl rfl rfl (e_move hf rfl) fun a hf => ?_
  refine q_ hf rfl rfl rfl (e_move hf rfl) fun a hf => ?_
  have hl12 := slice_len (hM.dat (k := 0) rfl)
  refine q_ hf rfl rfl rfl (e_lenL hf (x := list8) rfl Try.underlying58) fun a hf => ?_
  have hM : Mem C _ ([.box b2 [vL A3 (s1.code) c4, vI (s1.at_), vW (s1.seed)] 135] ++ []) _ := hM
  obtain ⟨y13, hz14, h⟩ := bind_some h
  refine pl_l hf rfl rfl rfl (w_call hf Try.call118 rfl (r_spec_l00Src_pick ⟨_, Sh C _ _, ownB _, hM.sh_lt, sub_dis, C.G, hM.g_lt, hM.g_own, hM.tabs⟩ s1 _ _ _ (hM.dat (k := 1) rfl) hp6 hp7 (list8.length : Int) (R64_len hl12) hM.sub sub_dis _ hz14) ?_)
  rintro _ w21 ⟨A15, c16, rfl, hM2, hv17, hv18, hv19, hv20⟩
  obtain ⟨hM, hup23⟩ := hM.backG hM2
  dsimp only [List.cons_append, List.nil_append] at hM hup23
  clear hM2
  have hM := hM.add (y := .dat (sliceRep byteRep) y13.2.code [vL A15 y13.2.code c16]) (hup23 hv17)
  refine ⟨_, rfl, fun a hf => ?_⟩
  obtain ⟨e24, hz25, h⟩ := bind_some h
  obtain ⟨b29, o30, _, hA31, h26, h27, hr28, hM⟩ := hM.elem (hM.dat (k := 1) rfl) (n := 1) rfl hz25
  obtain ⟨rfl, hv32⟩ := hr28
  refine q_ hf rfl rfl rfl (e_indexAddr (A := A9) (b := b29) (o := o30) (xs := list8) (i := y13.1) hf hA31 rfl rfl Try.underlying58 Try.sizeOf2 h26 h27) fun a hf => ?_
  refine q_ hf rfl rfl rfl (e_load1 hf rfl Try.isAgg2 (hM.litCell (k := 0) (j := 0) rfl rfl rfl)) fun a hf => ?_
  refine q_ hf rfl rfl rfl (e_assign hf rfl) fun a hf => ?_
  refine pl_nil ?_
  refine then_n ?_
  refine wp_ret ?_
  obtain rfl := some_inj h
  exact leave1 hf rfl rfl ⟨A15, c16, rfl, hM.fin, (hM.dat (k := 1) rfl), hv18, hv19, hv32⟩

set_option maxRecDepth 100000 in
set_option maxHeartbeats 4000000 in
theorem r_spec_l02Repeat (C : Cx) (c1 : UInt8) (n2 : Int) (hp3 : R64 n2) (r : Str) (h : m_spec_l02Repeat c1 n2 = some r) :
    Calls Try.prog 121 #[vB (c1), vI (n2)] C.w0 fun e w => e = .returned (vS (r)) ∧ Mem C w [] [] ∧ r.length ≤ maxLen := by
  have hM := Mem.begin C [] trivial
  refine enter Try.func121 rfl Try.ntmps121 rfl fun a hf => ?_
  unfold m_spec_l02Repeat at h
  refine wp_seq ?_
  refine region_pl ?_
  refine q_ hf rfl rfl rfl (e_assign hf rfl) fun a hf => ?_
  refine pl_nil ?_
  refine then_n ?_
  refine wp_seq ?_
  refine region_pl ?_
  refine pl_l hf rfl rfl rfl (w_slice0 (K := byteRep) hM Try.underlying63 ei_5 fun b4 w5 hx6 hM a hf => ?_)
  refine q_ hf rfl rfl rfl (e_assign hf rfl) fun a hf => ?_
  refine pl_nil ?_
  refine then_n ?_
  obtain ⟨x10, h11, h⟩ := bind_some h
  refine seq_join (fun a w => ∃ (xs7 : Str) (A8 : Option Addr) (c9 : Nat), xs7 = x10 ∧ Has 17 a [(5, vL A8 (xs7) c9)] ∧ Mem C w [.row byteRep A8 c9 5 xs7 true] []) ?_ ?_
  · refine wp_block ?_
    obtain ⟨x21, h22, h11⟩ := bind_some h11
    refine wp_loopM h22 (fun s a w => ∃ (xs12 : Str) (n15 : Int) (A13 : Option Addr) (c14 : Nat), (xs12, n15) = s ∧ Has 17 a [(0, vB (c1)), (1, vI (n15)), (5, vL A13 (xs12) c14)] ∧ Mem C w [.row byteRep A13 c14 5 xs12 true] [] ∧ R64 n15) ?_ ?_
    · exact ⟨([] : Str), n2, (some ⟨b4, 0, none⟩), 0, rfl, hf.keep ⟨rfl, rfl, rfl, trivial⟩, hM.pick [] rfl, hp3⟩
    · rintro s o23 a w17 ⟨xs12, n15, A13, c14, rfl, hf, hM, hv16⟩ h24 hd25
      replace h24 : m_spec_l02Repeat_l1 c1 xs12 n15 = some o23 := h24
      unfold m_spec_l02Repeat_l1 at h24
      refine wp_seq ?_
      refine wp_seq ?_
      refine region_pl ?_
      refine q_ hf rfl rfl rfl (e_move hf rfl) fun a hf => ?_
      refine q_ hf rfl rfl rfl (e_gt hf (x := n15) (y := 0) rfl rfl) fun a hf => ?_
      refine pl_nil ?_
      refine then_n ?_
      rcases cond_some h24 with ⟨hc26, h24⟩ | ⟨hc26, h24⟩
      · refine cond_t hf rfl hc26 ?_
        refine wp_skip ?_
        refine then_n ?_
        refine wp_seq ?_
        refine wp_block ?_
        refine region_pl ?_
        refine q_ hf rfl rfl rfl (e_move hf rfl) fun a hf => ?_
        refine q_ hf rfl rfl rfl (e_move hf rfl) fun a hf => ?_
        refine pl_l hf rfl rfl rfl (w_slice hf hM (K := byteRep) (xs := ([c1] : Str)) (os := [.tmp 12]) Try.underlying63 ei_5 rfl rfl rfl rfl rfl ⟨⟨[vB (c1)], rfl, rfl⟩, trivial⟩ rfl fun b27 w28 hx29 hM a hf => ?_)
        obtain ⟨xs30, hz31, h24⟩ := bind_some h24
        refine pl_l hf rfl rfl rfl (w_append hf hM Try.underlying63 ei_5 rfl rfl rfl (k := 1) rfl (hM.srcRow (k := 0) rfl) hz31 fun A32 c33 w34 hM a hf => ?_)
        dsimp only [List.set] at hM
        refine q_ hf rfl rfl rfl (e_assign hf rfl) fun a hf => ?_
        refine pl_nil ?_
        refine blk_n ?_
        refine then_n ?_
        refine region_pl ?_
        refine q_ hf rfl rfl rfl (e_move hf rfl) fun a hf => ?_
        obtain ⟨z37, hz38, h24⟩ := bind_some h24
        refine q_ hf rfl rfl rfl (e_sub hf rfl rfl hz38) fun a hf => ?_
        refine q_ hf rfl rfl rfl (e_assign hf rfl) fun a hf => ?_
        refine pl_nil ?_
        obtain rfl := some_inj h24
        refine then_n ⟨_, rfl, ?_⟩
        exact ⟨xs30, z37, A32, c33, rfl, hf.keep ⟨rfl, rfl, rfl, trivial⟩, (hM.drop (.cons _ (.cons_cons _ .slnil))).pick [] rfl, (chk_R hz38)⟩
      · refine cond_f hf rfl hc26 ?_
        refine wp_exit ?_
        refine then_x ?_
        obtain rfl := some_inj h24
        obtain rfl := hd25 _ rfl
        try dsimp only at h11
        refine then_x ?_
        refine exit_hit ?_
        obtain rfl := some_inj h11
        refine then_n ?_
        exact ⟨xs12, A13, c14, rfl, hf.keep ⟨rfl, trivial⟩, hM.pick [] rfl⟩
  · rintro a w44 ⟨xs7, A8, c9, rfl, hf, hM⟩
    try dsimp only at h
    refine wp_seq ?_
    refine region_pl ?_
    refine q_ hf rfl rfl rfl (e_move hf rfl) fun a hf => ?_
    have hl45 := row_len (hM.ownAt (k := 0) rfl)
    refine q_ hf rfl rfl rfl (e_bytesStr hf (xs := xs7) rfl Try.underlying63 Try.underlying5 Try.underlying9 (hM.lendRow (k := 0) rfl)) fun a hf => ?_
    refine q_ hf rfl rfl rfl (e_assign hf rfl) fun a hf => ?_
    refine pl_nil ?_
    refine then_n ?_
    refine wp_ret ?_
    obtain rfl := some_inj h
    have hM := hM.outs (own' := []) 0 rfl
    exact leave1 hf rfl rfl ⟨rfl, hM.fin, hl45⟩

set_option maxRecDepth 100000 in
set_option maxHeartbeats 4000000 in
theorem r_spec_l25Bent (C : Cx) (s1 : l00Src) (b2 : Nat) (A3 : Option Addr) (c4 : Nat) (hp5 : (sliceRep byteRep).R C.w0 C.S0 s1.code [vL A3 s1.code c4]) (hp6 : R64 s1.at_) (hp7 : U64 s1.seed) (hO : Mem C C.w0 [.box b2 [vL A3 (s1.code) c4, vI (s1.at_), vW (s1.seed)] 135] []) (hd : ∀ b, C.S0 b → ¬ ownB [.box b2 [vL A3 (s1.code) c4, vI (s1.at_), vW (s1.seed)] 135] b) (r : (Grid × l00Src)) (h : m_spec_l25Bent s1 = some r) :
    Calls Try.prog 105 #[vP b2 (0)] C.w0 fun e w => ∃ (A_1 : Option Addr), ∃ (c_1 : Nat), e = .returned (.agg #[vI (r.1.Rows), vI (r.1.Cols), vS (r.1.Cells)]) ∧ Mem C w [.box b2 [vL A_1 (r.2.code) c_1, vI (r.2.at_), vW (r.2.seed)] 135] [] ∧ (sliceRep byteRep).R w (Sh C [.box b2 [vL A_1 (r.2.code) c_1, vI (r.2.at_), vW (r.2.seed)] 135] w) r.2.code [vL A_1 r.2.code c_1] ∧ R64 r.2.at_ ∧ U64 r.2.seed ∧ R64 r.1.Rows ∧ R64 r.1.Cols ∧ r.1.Cells.length ≤ maxLen := by
  have hM := hO
  have hM := hM.addIn hd (y := .dat (sliceRep byteRep) s1.code [vL A3 s1.code c4]) hp5
  refine enter Try.func105 rfl Try.ntmps105 rfl fun a hf => ?_
  unfold m_spec_l25Bent at h
  refine wp_seq ?_
  refine region_pl ?_
  refine pl_l hf rfl rfl rfl (w_alloc hM (cs := [vI (0), vI (0), vS (([] : Str))]) Try.zeroValue27 rfl fun b8 w9 hx10 hM a hf => ?_)
  refine pl_nil ?_
  refine then_n ?_
  refine wp_seq ?_
  refine region_pl ?_
  refine q_ hf rfl rfl rfl (e_move hf rfl) fun a hf => ?_
  have hM := hM.front (k := 1) rfl
  dsimp only [List.eraseIdx] at hM
  have hM : Mem C _ ([.box b2 [vL A3 (s1.code) c4, vI (s1.at_), vW (s1.seed)] 135] ++ [.box b8 [vI (0), vI (0), vS (([] : Str))] 27]) _ := hM
  obtain ⟨y12, hz13, h⟩ := bind_some h
  refine pl_l hf rfl rfl rfl (w_call hf Try.call117 rfl (r_spec_l25Draw ⟨_, Sh C _ _, ownB _, hM.sh_lt, sub_dis, C.G, hM.g_lt, hM.g_own, hM.tabs⟩ s1 _ _ _ (hM.dat (k := 0) rfl) hp6 hp7 hM.sub sub_dis _ hz13) ?_)
  rintro _ w22 ⟨A14, c15, rfl, hM2, hv16, hv17, hv18, hv19, hv20, hv21⟩
  obtain ⟨hM, hup24⟩ := hM.backG hM2
  dsimp only [List.cons_append, List.nil_append] at hM hup24
  clear hM2
  have hM := hM.add (y := .dat (sliceRep byteRep) y12.2.code [vL A14 y12.2.code c15]) (hup24 hv16)
  refine ⟨_, rfl, fun a hf => ?_⟩
  refine pl_l hf rfl rfl rfl (w_alloc hM (cs := [vI (0), vI (0), vS (([] : Str))]) Try.zeroValue27 rfl fun b25 w26 hx27 hM a hf => ?_)
  refine pl_0 hf rfl rfl (w_store hf hM (us := [vI (y12.1.Rows), vI (y12.1.Cols), vS (y12.1.Cells)]) (cs' := [vI (y12.1.Rows), vI (y12.1.Cols), vS (y12.1.Cells)]) rfl rfl (k := 0) rfl rfl Try.sizeOf27 rfl rfl rfl fun w29 hM => ?_)
  dsimp only [List.set] at hM
  refine pl_nil ?_
  refine then_n ?_
  obtain ⟨x45, h46, h⟩ := bind_some h
  refine seq_join (fun a w => ∃ (l32 : Str) (n35 : Int) (n37 : Int) (n39 : Int) (n41 : Int) (s43 : Str) (A33 : Option Addr) (c34 : Nat), (l32, n35, n37, n39, n41, s43) = x45 ∧ Has 41 a [(2, vP b8 (0)), (3, vP b25 (0))] ∧ Mem C w [.box b25 [vI (n39), vI (n41), vS (s43)] 27, .box b2 [vL A33 (l32) c34, vI (n35), vW (n37)] 135, .box b8 [vI (0), vI (0), vS (([] : Str))] 27] [.dat (sliceRep byteRep) l32 [vL A33 l32 c34], .dat (sliceRep byteRep) y12.2.code [vL A14 y12.2.code c15], .dat (sliceRep byteRep) s1.code [vL A3 s1.code c4]] ∧ R64 n35 ∧ U64 n37 ∧ R64 n39 ∧ R64 n41 ∧ s43.length ≤ maxLen) ?_ ?_
  · refine wp_seq ?_
    refine region_pl ?_
    refine q_ hf rfl rfl rfl (e_move hf rfl) fun a hf => ?_
    have hM := hM.front (k := 1) rfl
    dsimp only [List.eraseIdx] at hM
    have hM : Mem C _ ([.box b2 [vL A14 (y12.2.code) c15, vI (y12.2.at_), vW (y12.2.seed)] 135] ++ [.box b25 [vI (y12.1.Rows), vI (y12.1.Cols), vS (y12.1.Cells)] 27, .box b8 [vI (0), vI (0), vS (([] : Str))] 27]) _ := hM
    obtain ⟨y47, hz48, h46⟩ := bind_some h46
    refine pl_l hf rfl rfl rfl (w_call hf Try.call118 rfl (r_spec_l00Src_pick ⟨_, Sh C _ _, ownB _, hM.sh_lt, sub_dis, C.G, hM.g_lt, hM.g_own, hM.tabs⟩ y12.2 _ _ _ (hM.dat (k := 0) rfl) hv17 hv18 24 (R64_lit rfl) hM.sub sub_dis _ hz48) ?_)
    rintro _ w55 ⟨A49, c50, rfl, hM2, hv51, hv52, hv53, hv54⟩
    obtain ⟨hM, hup57⟩ := hM.backG hM2
    dsimp only [List.cons_append, List.nil_append] at hM hup57
    clear hM2
    have hM := hM.add (y := .dat (sliceRep byteRep) y47.2.code [vL A49 y47.2.code c50]) (hup57 hv51)
    refine ⟨_, rfl, fun a hf => ?_⟩
    refine pl_nil ?_
    refine then_n ?_
    refine wp_block ?_
    refine wp_seq ?_
    refine region_pl ?_
    refine q_ hf rfl rfl rfl (e_eq hf (x := y47.1) (y := 0) rfl rfl) fun a hf => ?_
    refine q_ hf rfl rfl rfl (e_assign hf rfl) fun a hf => ?_
    refine pl_nil ?_
    refine then_n ?_
    rcases cond_some h46 with ⟨hc58, h46⟩ | ⟨hc58, h46⟩
    · refine cond_t hf rfl hc58 ?_
      refine region_pl ?_
      refine q_ hf rfl rfl rfl (e_move hf rfl) fun a hf => ?_
      refine q_ hf rfl rfl rfl (e_field hf rfl Try.underlying27 rfl Try.sizeOf2 (o' := 0) rfl) fun a hf => ?_
      refine q_ hf rfl rfl rfl (e_load1 hf rfl Try.isAgg2 (hM.boxCell (k := 1) rfl rfl)) fun a hf => ?_
      obtain ⟨z59, hz60, h46⟩ := bind_some h46
      refine q_ hf rfl rfl rfl (e_add hf rfl rfl hz60) fun a hf => ?_
      refine pl_l hf rfl rfl rfl (w_slice hf hM (K := intRep) (xs := ([0, 6, z59] : (List Int))) (os := [.const (.int .i64 0), .const (.int .i64 6), .tmp 14]) Try.underlying58 ei_2 rfl rfl rfl rfl rfl ⟨⟨[vI (0)], rfl, ⟨rfl, (R64_lit rfl)⟩⟩, ⟨[vI (6)], rfl, ⟨rfl, (R64_lit rfl)⟩⟩, ⟨[vI (z59)], rfl, ⟨rfl, (chk_R hz60)⟩⟩, trivial⟩ rfl fun b61 w62 hx63 hM a hf => ?_)
      have hM := hM.freezeRow (k := 0) rfl rfl
      dsimp only [List.eraseIdx] at hM
      have hM : Mem C _ ([.box b2 [vL A49 (y47.2.code) c50, vI (y47.2.at_), vW (y47.2.seed)] 135] ++ [.box b25 [vI (y12.1.Rows), vI (y12.1.Cols), vS (y12.1.Cells)] 27, .box b8 [vI (0), vI (0), vS (([] : Str))] 27]) _ := hM
      obtain ⟨y64, hz65, h46⟩ := bind_some h46
      refine pl_l hf rfl rfl rfl (w_call hf Try.call119 rfl (r_spec_l00Src_among ⟨_, Sh C _ _, ownB _, hM.sh_lt, sub_dis, C.G, hM.g_lt, hM.g_own, hM.tabs⟩ y47.2 _ _ _ (hM.dat (k := 1) rfl) hv52 hv53 ([0, 6, z59] : (List Int)) _ _ (hM.dat (k := 0) rfl) hM.sub sub_dis _ hz65) ?_)
      rintro _ w72 ⟨A66, c67, rfl, hM2, hv68, hv69, hv70, hv71⟩
      obtain ⟨hM, hup74⟩ := hM.backG hM2
      dsimp only [List.cons_append, List.nil_append] at hM hup74
      clear hM2
      have hM := hM.add (y := .dat (sliceRep byteRep) y64.2.code [vL A66 y64.2.code c67]) (hup74 hv68)
      refine ⟨_, rfl, fun a hf => ?_⟩
      refine q_ hf rfl rfl rfl (e_field hf rfl Try.underlying27 rfl Try.sizeOf2 (o' := 0) rfl) fun a hf => ?_
      refine pl_0 hf rfl rfl (w_store hf hM (us := [vI (y64.1)]) (cs' := [vI (y64.1), vI (y12.1.Cols), vS (y12.1.Cells)]) rfl rfl (k := 1) rfl rfl Try.sizeOf2 rfl rfl rfl fun w75 hM => ?_)
      dsimp only [List.set] at hM
      refine pl_nil ?_
      refine blk_n ?_
      obtain rfl := some_inj h46
      refine then_n ?_
      have hM := hM.front (k := 2) rfl
      dsimp only [List.eraseIdx] at hM
      have hM := hM.front (k := 1) rfl
      dsimp only [List.eraseIdx] at hM
      have hM := hM.front (k := 2) rfl
      dsimp only [List.eraseIdx] at hM
      exact ⟨y64.2.code, y64.2.at_, y64.2.seed, y64.1, y12.1.Cols, y12.1.Cells, A66, c67, rfl, hf.keep ⟨rfl, rfl, trivial⟩, hM.pick [0, 3, 4] rfl, hv69, hv70, hv71, hv20, hv21⟩
    · refine cond_f hf rfl hc58 ?_
      refine wp_seq ?_
      refine region_pl ?_
      refine q_ hf rfl rfl rfl (e_eq hf (x := y47.1) (y := 1) rfl rfl) fun a hf => ?_
      refine q_ hf rfl rfl rfl (e_assign hf rfl) fun a hf => ?_
      refine pl_nil ?_
      refine then_n ?_
      rcases cond_some h46 with ⟨hc79, h46⟩ | ⟨hc79, h46⟩
      · refine cond_t hf rfl hc79 ?_
        obtain ⟨w80, hw⟩ : ∃ x, x = w55.drew := ⟨_, rfl⟩
        refine region_pi (.q 0 (.q 3 (.q 4 (.q 5 (.l 1 (.l 2 (.q 6 (.q 7 (.l 8 (.nil)))))))))) (ExtM [some b2] w80) rfl (by kernel_rfl) ?_
        have hM := hM.drew
        rw [← hw] at hM ⊢
        clear hw
        refine pi_q hf rfl rfl rfl rfl (ExtM.refl _ _) (e_move hf rfl) fun a hf => ?_
        refine pi_q hf rfl rfl rfl rfl (ExtM.refl _ _) (e_field hf rfl Try.underlying27 rfl Try.sizeOf9 (o' := 2) rfl) fun a hf => ?_
        refine pi_q hf rfl rfl rfl rfl (ExtM.refl _ _) (e_load1M hf rfl Try.isAgg9 (hM.boxCell (k := 1) rfl rfl) (hM.apart (js := [0]) rfl (k := 1) rfl rfl rfl)) fun a hf => ?_
        obtain ⟨s81, hz82, h46⟩ := bind_some h46
        refine pi_q hf rfl rfl rfl rfl (ExtM.refl _ _) (e_subSl hf (x := y12.1.Cells) rfl rfl Try.underlying9 hz82) fun a hf => ?_
        refine pi_one ?_
        refine pi_l hf rfl rfl rfl rfl (w_slice hf hM (K := strRep) (xs := ([([65] : Str), ([63] : Str), ([32] : Str)] : (List Str))) (os := [.const (.string ⟨#[65]⟩), .const (.string ⟨#[63]⟩), .const (.string ⟨#[32]⟩)]) Try.underlying40 ei_9 rfl rfl rfl rfl rfl ⟨⟨[vS (([65] : Str))], rfl, ⟨rfl, (lit_len rfl)⟩⟩, ⟨[vS (([63] : Str))], rfl, ⟨rfl, (lit_len rfl)⟩⟩, ⟨[vS (([32] : Str))], rfl, ⟨rfl, (lit_len rfl)⟩⟩, trivial⟩ rfl fun b83 w84 hx85 hM => ⟨ExtM [some b2] w84, fun _ h => ExtM.trans hx85 h, ExtM.refl _ _, fun a hf => ?_⟩)
        refine pi_one ?_
        have hM := hM.freezeRow (k := 0) rfl rfl
        dsimp only [List.eraseIdx] at hM
        have hM : Mem C _ ([.box b2 [vL A49 (y47.2.code) c50, vI (y47.2.at_), vW (y47.2.seed)] 135] ++ [.box b25 [vI (y12.1.Rows), vI (y12.1.Cols), vS (y12.1.Cells)] 27, .box b8 [vI (0), vI (0), vS (([] : Str))] 27]) _ := hM
        obtain ⟨y86, hz87, h46⟩ := bind_some h46
        refine pi_l hf rfl rfl rfl rfl (w_call hf Try.call120 rfl (r_spec_l00Src_text ⟨_, Sh C _ _, ownB _, hM.sh_lt, sub_dis, C.G, hM.g_lt, hM.g_own, hM.tabs⟩ y47.2 _ _ _ (hM.dat (k := 1) rfl) hv52 hv53 ([([65] : Str), ([63] : Str), ([32] : Str)] : (List Str)) _ _ (hM.dat (k := 0) rfl) hM.sub sub_dis _ hz87) ?_)
        rintro _ w94 ⟨A88, c89, rfl, hM2, hv90, hv91, hv92, hv93⟩
        have hxm97 := ExtM.ofChg (bs := [some b2]) hM2.chg ⟨List.mem_of_getElem? (i := 0) rfl, trivial⟩
        have hsz98 := hM2.chg.size
        obtain ⟨hM, hup96⟩ := hM.backG hM2
        dsimp only [List.cons_append, List.nil_append] at hM hup96
        clear hM2
        have hM := hM.add (y := .dat (sliceRep byteRep) y86.2.code [vL A88 y86.2.code c89]) (hup96 hv90)
        refine ⟨_, rfl, Ext w94, fun _ h => ExtM.last hxm97 hsz98 h, Ext.refl _, fun a hf => ?_⟩
        obtain ⟨s99, hz100, h46⟩ := bind_some h46
        refine pi_q hf rfl rfl rfl rfl (Ext.refl _) (e_cat hf (x := y86.1) (y := s81) rfl rfl hz100) fun a hf => ?_
        refine pi_q hf rfl rfl rfl rfl (Ext.refl _) (e_field hf rfl Try.underlying27 rfl Try.sizeOf9 (o' := 2) rfl) fun a hf => ?_
        refine pi_one ?_
        refine pi_z0 hf rfl rfl rfl (by kernel_rfl) (w_store hf hM (us := [vS (s99)]) (cs' := [vI (y12.1.Rows), vI (y12.1.Cols), vS (s99)]) rfl rfl (k := 1) rfl rfl Try.sizeOf9 rfl rfl rfl fun w101 hM => ?_)
        dsimp only [List.set] at hM
        refine pi_nil ?_
        refine blk_n ?_
        obtain rfl := some_inj h46
        refine then_n ?_
        have hM := hM.front (k := 2) rfl
        dsimp only [List.eraseIdx] at hM
        have hM := hM.front (k := 1) rfl
        dsimp only [List.eraseIdx] at hM
        have hM := hM.front (k := 2) rfl
        dsimp only [List.eraseIdx] at hM
        exact ⟨y86.2.code, y86.2.at_, y86.2.seed, y12.1.Rows, y12.1.Cols, s99, A88, c89, rfl, hf.keep ⟨rfl, rfl, trivial⟩, hM.pick [0, 3, 4] rfl, hv91, hv92, hv19, hv20, (cat_len hz100)⟩
      · refine cond_f hf rfl hc79 ?_
        refine wp_seq ?_
        refine region_pl ?_
        refine q_ hf rfl rfl rfl (e_eq hf (x := y47.1) (y := 2) rfl rfl) fun a hf => ?_
        refine q_ hf rfl rfl rfl (e_assign hf rfl) fun a hf => ?_
        refine pl_nil ?_
        refine then_n ?_
        rcases cond_some h46 with ⟨hc105, h46⟩ | ⟨hc105, h46⟩
        · refine cond_t hf rfl hc105 ?_
          refine wp_seq ?_
          refine region_pl ?_
          refine q_ hf rfl rfl rfl (e_move hf rfl) fun a hf => ?_
          have hM : Mem C _ ([.box b2 [vL A49 (y47.2.code) c50, vI (y47.2.at_), vW (y47.2.seed)] 135] ++ [.box b25 [vI (y12.1.Rows), vI (y12.1.Cols), vS (y12.1.Cells)] 27, .box b8 [vI (0), vI (0), vS (([] : Str))] 27]) _ := hM
          obtain ⟨y106, hz107, h46⟩ := bind_some h46
          refine pl_l hf rfl rfl rfl (w_call hf Try.call118 rfl (r_spec_l00Src_pick ⟨_, Sh C _ _, ownB _, hM.sh_lt, sub_dis, C.G, hM.g_lt, hM.g_own, hM.tabs⟩ y47.2 _ _ _ (hM.dat (k := 0) rfl) hv52 hv53 2 (R64_lit rfl) hM.sub sub_dis _ hz107) ?_)
          rintro _ w114 ⟨A108, c109, rfl, hM2, hv110, hv111, hv112, hv113⟩
          obtain ⟨hM, hup116⟩ := hM.backG hM2
          dsimp only [List.cons_append, List.nil_append] at hM hup116
          clear hM2
          have hM := hM.add (y := .dat (sliceRep byteRep) y106.2.code [vL A108 y106.2.code c109]) (hup116 hv110)
          refine ⟨_, rfl, fun a hf => ?_⟩
          obtain ⟨z117, hz118, h46⟩ := bind_some h46
          refine q_ hf rfl rfl rfl (e_add hf rfl rfl hz118) fun a hf => ?_
          refine q_ hf rfl rfl rfl (e_assign hf rfl) fun a hf => ?_
          refine pl_nil ?_
          refine then_n ?_
          refine region_pl ?_
          refine q_ hf rfl rfl rfl (e_move hf rfl) fun a hf => ?_
          refine q_ hf rfl rfl rfl (e_move hf rfl) fun a hf => ?_
          obtain ⟨y119, hz120, h46⟩ := bind_some h46
          refine pl_l hf rfl rfl rfl (w_call hf Try.call121 rfl (r_spec_l02Repeat ⟨_, Sh C _ _, none_, hM.sh_lt, none_not, C.G, hM.g_lt, g_none, hM.tabs⟩ 46 z117 (chk_R hz118) _ hz120) ?_)
          rintro _ w122 ⟨rfl, hM2, hv121⟩
          obtain ⟨hM, hx123, hup124⟩ := hM.back hM2
          dsimp only [List.cons_append, List.nil_append] at hM hup124
          clear hM2
          refine ⟨_, rfl, fun a hf => ?_⟩
          refine q_ hf rfl rfl rfl (e_build hf Try.zeroValue27 Try.underlying27 (bp_27 _ Try.underlying27.symm) rfl (cs := #[vI (1), vI (z117), vS (y119)]) (by kernel_rfl)) fun a hf => ?_
          refine pl_0 hf rfl rfl (w_store hf hM (us := [vI (1), vI (z117), vS (y119)]) (cs' := [vI (1), vI (z117), vS (y119)]) rfl rfl (k := 1) rfl rfl Try.sizeOf27 rfl rfl rfl fun w125 hM => ?_)
          dsimp only [List.set] at hM
          refine pl_nil ?_
          refine blk_n ?_
          obtain rfl := some_inj h46
          refine then_n ?_
          have hM := hM.front (k := 2) rfl
          dsimp only [List.eraseIdx] at hM
          have hM := hM.front (k := 1) rfl
          dsimp only [List.eraseIdx] at hM
          have hM := hM.front (k := 2) rfl
          dsimp only [List.eraseIdx] at hM
          exact ⟨y106.2.code, y106.2.at_, y106.2.seed, 1, z117, y119, A108, c109, rfl, hf.keep ⟨rfl, rfl, trivial⟩, hM.pick [0, 2, 3] rfl, hv111, hv112, (R64_lit rfl), (chk_R hz118), hv121⟩
        · refine cond_f hf rfl hc105 ?_
          refine wp_seq ?_
          refine region_pl ?_
          refine q_ hf rfl rfl rfl (e_eq hf (x := y47.1) (y := 3) rfl rfl) fun a hf => ?_
          refine q_ hf rfl rfl rfl (e_assign hf rfl) fun a hf => ?_
          refine pl_nil ?_
          refine then_n ?_
          rcases cond_some h46 with ⟨hc129, h46⟩ | ⟨hc129, h46⟩
          · refine cond_t hf rfl hc129 ?_
            refine region_pl ?_
            refine q_ hf rfl rfl rfl (e_build hf Try.zeroValue27 Try.underlying27 (bp_27 _ Try.underlying27.symm) rfl (cs := #[vI (5), vI (3), vS (([46, 35, 46, 46, 35, 46, 46, 35, 46, 46, 35, 46, 46, 35, 46] : Str))]) (by kernel_rfl)) fun a hf => ?_
            refine pl_0 hf rfl rfl (w_store hf hM (us := [vI (5), vI (3), vS (([46, 35, 46, 46, 35, 46, 46, 35, 46, 46, 35, 46, 46, 35, 46] : Str))]) (cs' := [vI (5), vI (3), vS (([46, 35, 46, 46, 35, 46, 46, 35, 46, 46, 35, 46, 46, 35, 46] : Str))]) rfl rfl (k := 1) rfl rfl Try.sizeOf27 rfl rfl rfl fun w130 hM => ?_)
            dsimp only [List.set] at hM
            refine pl_nil ?_
            refine blk_n ?_
            obtain rfl := some_inj h46
            refine then_n ?_
            have hM := hM.front (k := 2) rfl
            dsimp only [List.eraseIdx] at hM
            have hM := hM.front (k := 1) rfl
            dsimp only [List.eraseIdx] at hM
            have hM := hM.front (k := 2) rfl
            dsimp only [List.eraseIdx] at hM
            exact ⟨y47.2.code, y47.2.at_, y47.2.seed, 5, 3, ([46, 35, 46, 46, 35, 46, 46, 35, 46, 46, 35, 46, 46, 35, 46] : Str), A49, c50, rfl, hf.keep ⟨rfl, rfl, trivial⟩, hM.pick [0, 1, 2] rfl, hv52, hv53, (R64_lit rfl), (R64_lit rfl), (lit_len rfl)⟩
          · refine cond_f hf rfl hc129 ?_
            refine wp_skip ?_
            refine blk_n ?_
            obtain rfl := some_inj h46
            refine then_n ?_
            have hM := hM.front (k := 2) rfl
            dsimp only [List.eraseIdx] at hM
            have hM := hM.front (k := 1) rfl
            dsimp only [List.eraseIdx] at hM
            have hM := hM.front (k := 2) rfl
            dsimp only [List.eraseIdx] at hM
            exact ⟨y47.2.code, y47.2.at_, y47.2.seed, y12.1.Rows, y12.1.Cols, y12.1.Cells, A49, c50, rfl, hf.keep ⟨rfl, rfl, trivial⟩, hM.pick [0, 1, 2] rfl, hv52, hv53, hv19, hv20, hv21⟩
  · rintro a w135 ⟨l32, n35, n37, n39, n41, s43, A33, c34, rfl, hf, hM, hv36, hv38, hv40, hv42, hv44⟩
    try dsimp only at h
    refine wp_seq ?_
    refine region_pl ?_
    refine q_ hf rfl rfl rfl (e_loadA hf (us := [vI (n39), vI (n41), vS (s43)]) rfl ⟨Try.isAgg27, Try.sizeOf27⟩ rfl (hM.boxSub (k := 0) (us := [vI (n39), vI (n41), vS (s43)]) (o := 0) rfl rfl)) fun a hf => ?_
    refine pl_0 hf rfl rfl (w_store hf hM (us := [vI (n39), vI (n41), vS (s43)]) (cs' := [vI (n39), vI (n41), vS (s43)]) rfl rfl (k := 2) rfl rfl Try.sizeOf27 rfl rfl rfl fun w136 hM => ?_)
    dsimp only [List.set] at hM
    refine pl_nil ?_
    refine then_n ?_
    refine wp_ret ?_
    obtain rfl := some_inj h
    have hres139 := leaveV1 (P := Try.prog) Try.results105 (res_agg hf rfl ⟨Try.isAgg27, Try.sizeOf27⟩ (us := [vI (n39), vI (n41), vS (s43)]) rfl (hM.boxSub (k := 2) (o := 0) rfl rfl))
    have hM := hM.front (k := 1) rfl
    dsimp only [List.eraseIdx] at hM
    have hM := hM.outs (own' := [.box b2 [vL A33 (l32) c34, vI (n35), vW (n37)] 135]) 1 rfl
    exact bodyPost_ret hres139 hf.defers ⟨A33, c34, rfl, hM.fin, (hM.dat (k := 0) rfl), hv36, hv38, hv40, hv42, hv44⟩

set_option maxRecDepth 100000 in
set_option maxHeartbeats 4000000 in
theorem r_spec_l05Some (C : Cx)  (r : (List Str)) (h : m_spec_l05Some = some r) :
    Calls Try.prog 132 #[] C.w0 fun e w => ∃ (A_1 : Option Addr), ∃ (c_1 : Nat), e = .returned (vL A_1 (r) c_1) ∧ Mem C w [.row strRep A_1 c_1 9 r true] [] := by
  have hM := Mem.begin C [] trivial
  refine enter Try.func132 rfl Try.ntmps132 rfl fun a hf => ?_
  unfold m_spec_l05Some at h
  refine wp_seq ?_
  refine region_pl ?_
  refine q_ hf rfl rfl rfl (e_assign hf rfl) fun a hf => ?_
  refine pl_nil ?_
  refine then_n ?_
  refine wp_seq ?_
  refine region_pl ?_
  refine pl_l hf rfl rfl rfl (w_slice hf hM (K := strRep) (xs := ((([97, 110] : Str) :: ([97, 116] : Str) :: ([97, 116, 101] : Str) :: ([101, 97, 114] : Str) :: ([101, 97, 114, 110] : Str) :: ([101, 97, 114, 115] : Str) :: ([101, 97, 115, 116] : Str) :: ([101, 97, 116] : Str) :: ([101, 97, 116, 101, 110] : Str) :: ([101, 97, 116, 115] : Str) :: ([101, 110] : Str) :: ([97, 110, 116] : Str) :: ([97, 110, 116, 115] : Str) :: ([97, 114, 101] : Str) :: ([97, 114, 101, 110, 97] : Str) :: ([97, 114, 116] : Str) :: ([97, 114, 116, 115] : Str) :: ([97, 115] : Str) :: ([101, 114] : Str) :: ([101, 115] : Str) :: ([105, 110] : Str) :: ([105, 115] : Str) :: ([110, 97] : Str) :: ([110, 101] : Str) :: ([110, 101, 97, 114] : Str) :: ([110, 101, 97, 116] : Str) :: ([110, 101, 115, 116] : Str) :: ([110, 101, 115, 116, 115] : Str) :: ([110, 101, 116] : Str) :: ([114, 97, 116] : Str) :: ([114, 97, 116, 101] : Str) :: ([114, 97, 116, 101, 115] : Str) :: ([114, 101] : Str) :: ([114, 101, 115, 116] : Str) :: ([115, 97, 116] : Str) :: ([115, 101, 97] : Str) :: ([115, 101, 97, 116] : Str) :: ([115, 101, 116] : Str) :: ([116, 97] : Str) :: ([116, 97, 114] : Str) :: ([116, 97, 114, 115] : Str) :: ([116, 97, 114, 116] : Str) :: ([116, 101, 97] : Str) :: ([116, 101, 97, 114] : Str) :: ([116, 101, 97, 115] : Str) :: ([116, 101, 110] : Str) :: ([116, 101, 114, 110] : Str) :: ([116, 101, 115, 116] : Str) :: ([116, 101, 115, 116, 115] : Str) :: ([116, 114, 101, 101, 115] : Str) :: ([98, 97, 110, 97, 110, 97] : Str) :: ([98, 101, 101] : Str) :: ([98, 101, 101, 110] : Str) :: ([98, 101, 101, 115] : Str) :: ([115, 116, 97, 114] : Str) :: ([115, 116, 97, 114, 101] : Str) :: ([115, 116, 97, 114, 116] : Str) :: ([116, 114, 101, 101] : Str) :: ([115, 116, 97, 114, 115] : Str) :: ([116, 114, 101, 97, 116, 115] : Str) :: []) : (List Str))) (os := ((.const (.string ⟨#[97, 110]⟩)) :: (.const (.string ⟨#[97, 116]⟩)) :: (.const (.string ⟨#[97, 116, 101]⟩)) :: (.const (.string ⟨#[101, 97, 114]⟩)) :: (.const (.string ⟨#[101, 97, 114, 110]⟩)) :: (.const (.string ⟨#[101, 97, 114, 115]⟩)) :: (.const (.string ⟨#[101, 97, 115, 116]⟩)) :: (.const (.string ⟨#[101, 97, 116]⟩)) :: (.const (.string ⟨#[101, 97, 116, 101, 110]⟩)) :: (.const (.string ⟨#[101, 97, 116, 115]⟩)) :: (.const (.string ⟨#[101, 110]⟩)) :: (.const (.string ⟨#[97, 110, 116]⟩)) :: (.const (.string ⟨#[97, 110, 116, 115]⟩)) :: (.const (.string ⟨#[97, 114, 101]⟩)) :: (.const (.string ⟨#[97, 114, 101, 110, 97]⟩)) :: (.const (.string ⟨#[97, 114, 116]⟩)) :: (.const (.string ⟨#[97, 114, 116, 115]⟩)) :: (.const (.string ⟨#[97, 115]⟩)) :: (.const (.string ⟨#[101, 114]⟩)) :: (.const (.string ⟨#[101, 115]⟩)) :: (.const (.string ⟨#[105, 110]⟩)) :: (.const (.string ⟨#[105, 115]⟩)) :: (.const (.string ⟨#[110, 97]⟩)) :: (.const (.string ⟨#[110, 101]⟩)) :: (.const (.string ⟨#[110, 101, 97, 114]⟩)) :: (.const (.string ⟨#[110, 101, 97, 116]⟩)) :: (.const (.string ⟨#[110, 101, 115, 116]⟩)) :: (.const (.string ⟨#[110, 101, 115, 116, 115]⟩)) :: (.const (.string ⟨#[110, 101, 116]⟩)) :: (.const (.string ⟨#[114, 97, 116]⟩)) :: (.const (.string ⟨#[114, 97, 116, 101]⟩)) :: (.const (.string ⟨#[114, 97, 116, 101, 115]⟩)) :: (.const (.string ⟨#[114, 101]⟩)) :: (.const (.string ⟨#[114, 101, 115, 116]⟩)) :: (.const (.string ⟨#[115, 97, 116]⟩)) :: (.const (.string ⟨#[115, 101, 97]⟩)) :: (.const (.string ⟨#[115, 101, 97, 116]⟩)) :: (.const (.string ⟨#[115, 101, 116]⟩)) :: (.const (.string ⟨#[116, 97]⟩)) :: (.const (.string ⟨#[116, 97, 114]⟩)) :: (.const (.string ⟨#[116, 97, 114, 115]⟩)) :: (.const (.string ⟨#[116, 97, 114, 116]⟩)) :: (.const (.string ⟨#[116, 101, 97]⟩)) :: (.const (.string ⟨#[116, 101, 97, 114]⟩)) :: (.const (.string ⟨#[116, 101, 97, 115]⟩)) :: (.const (.string ⟨#[116, 101, 110]⟩)) :: (.const (.string ⟨#[116, 101, 114, 110]⟩)) :: (.const (.string ⟨#[116, 101, 115, 116]⟩)) :: (.const (.string ⟨#[116, 101, 115, 116, 115]⟩)) :: (.const (.string ⟨#[116, 114, 101, 101, 115]⟩)) :: (.const (.string ⟨#[98, 97, 110, 97, 110, 97]⟩)) :: (.const (.string ⟨#[98, 101, 101]⟩)) :: (.const (.string ⟨#[98, 101, 101, 110]⟩)) :: (.const (.string ⟨#[98, 101, 101, 115]⟩)) :: (.const (.string ⟨#[115, 116, 97, 114]⟩)) :: (.const (.string ⟨#[115, 116, 97, 114, 101]⟩)) :: (.const (.string ⟨#[115, 116, 97, 114, 116]⟩)) :: (.const (.string ⟨#[116, 114, 101, 101]⟩)) :: (.const (.string ⟨#[115, 116, 97, 114, 115]⟩)) :: (.const (.string ⟨#[116, 114, 101, 97, 116, 115]⟩)) :: [])) Try.underlying40 ei_9 rfl rfl rfl rfl rfl (VRows.cons ⟨[vS (([97, 110] : Str))], rfl, ⟨rfl, (lit_len rfl)⟩⟩ (VRows.cons ⟨[vS (([97, 116] : Str))], rfl, ⟨rfl, (lit_len rfl)⟩⟩ (VRows.cons ⟨[vS (([97, 116, 101] : Str))], rfl, ⟨rfl, (lit_len rfl)⟩⟩ (VRows.cons ⟨[vS (([101, 97, 114] : Str))], rfl, ⟨rfl, (lit_len rfl)⟩⟩ (VRows.cons ⟨[vS (([101, 97, 114, 110] : Str))], rfl, ⟨rfl, (lit_len rfl)⟩⟩ (VRows.cons ⟨[vS (([101, 97, 114, 115] : Str))], rfl, ⟨rfl, (lit_len rfl)⟩⟩ (VRows.cons ⟨[vS (([101, 97, 115, 116] : Str))], rfl, ⟨rfl, (lit_len rfl)⟩⟩ (VRows.cons ⟨[vS (([101, 97, 116] : Str))], rfl, ⟨rfl, (lit_len rfl)⟩⟩ (VRows.cons ⟨[vS (([101, 97, 116, 101, 110] : Str))], rfl, ⟨rfl, (lit_len rfl)⟩⟩ (VRows.cons ⟨[vS (([101, 97, 116, 115] : Str))], rfl, ⟨rfl, (lit_len rfl)⟩⟩ (VRows.cons ⟨[vS (([101, 110] : Str))], rfl, ⟨rfl, (lit_len rfl)⟩⟩ (VRows.cons ⟨[vS (([97, 110, 116] : Str))], rfl, ⟨rfl, (lit_len rfl)⟩⟩ (VRows.cons ⟨[vS (([97, 110, 116, 115] : Str))], rfl, ⟨rfl, (lit_len rfl)⟩⟩ (VRows.cons ⟨[vS (([97, 114, 101] : Str))], rfl, ⟨rfl, (lit_len rfl)⟩⟩ (VRows.cons ⟨[vS (([97, 114, 101, 110, 97] : Str))], rfl, ⟨rfl, (lit_len rfl)⟩⟩ (VRows.cons ⟨[vS (([97, 114, 116] : Str))], rfl, ⟨rfl, (lit_len rfl)⟩⟩ (VRows.cons ⟨[vS (([97, 114, 116, 115] : Str))], rfl, ⟨rfl, (lit_len rfl)⟩⟩ (VRows.cons ⟨[vS (([97, 115] : Str))], rfl, ⟨rfl, (lit_len rfl)⟩⟩ (VRows.cons ⟨[vS (([101, 114] : Str))], rfl, ⟨rfl, (lit_len rfl)⟩⟩ (VRows.cons ⟨[vS (([101, 115] : Str))], rfl, ⟨rfl, (lit_len rfl)⟩⟩ (VRows.cons ⟨[vS (([105, 110] : Str))], rfl, ⟨rfl, (lit_len rfl)⟩⟩ (VRows.cons ⟨[vS (([105, 115] : Str))], rfl, ⟨rfl, (lit_len rfl)⟩⟩ (VRows.cons ⟨[vS (([110, 97] : Str))], rfl, ⟨rfl, (lit_len rfl)⟩⟩ (VRows.cons ⟨[vS (([110, 101] : Str))], rfl, ⟨rfl, (lit_len rfl)⟩⟩ (VRows.cons ⟨[vS (([110, 101, 97, 114] : Str))], rfl, ⟨rfl, (lit_len rfl)⟩⟩ (VRows.cons ⟨[vS (([110, 101, 97, 116] : Str))], rfl, ⟨rfl, (lit_len rfl)⟩⟩ (VRows.cons ⟨[vS (([110, 101, 115, 116] : Str))], rfl, ⟨rfl, (lit_len rfl)⟩⟩ (VRows.cons ⟨[vS (([110, 101, 115, 116, 115] : Str))], rfl, ⟨rfl, (lit_len rfl)⟩⟩ (VRows.cons ⟨[vS (([110, 101, 116] : Str))], rfl, ⟨rfl, (lit_len rfl)⟩⟩ (VRows.cons ⟨[vS (([114, 97, 116] : Str))], rfl, ⟨rfl, (lit_len rfl)⟩⟩ (VRows.cons ⟨[vS (([114, 97, 116, 101] : Str))], rfl, ⟨rfl, (lit_len rfl)⟩⟩ (VRows.cons ⟨[vS (([114, 97, 116, 101, 115] : Str))], rfl, ⟨rfl, (lit_len rfl)⟩⟩ (VRows.cons ⟨[vS (([114, 101] : Str))], rfl, ⟨rfl, (lit_len rfl)⟩⟩ (VRows.cons ⟨[vS (([114, 101, 115, 116] : Str))], rfl, ⟨rfl, (lit_len rfl)⟩⟩ (VRows.cons ⟨[vS (([115, 97, 116] : Str))], rfl, ⟨rfl, (lit_len rfl)⟩⟩ (VRows.cons ⟨[vS (([115, 101, 97] : Str))], rfl, ⟨rfl, (lit_len rfl)⟩⟩ (VRows.cons ⟨[vS (([115, 101, 97, 116] : Str))], rfl, ⟨rfl, (lit_len rfl)⟩⟩ (VRows.cons ⟨[vS (([115, 101, 116] : Str))], rfl, ⟨rfl, (lit_len rfl)⟩⟩ (VRows.cons ⟨[vS (([116, 97] : Str))], rfl, ⟨rfl, (lit_len rfl)⟩⟩ (VRows.cons ⟨[vS (([116, 97, 114] : Str))], rfl, ⟨rfl, (lit_len rfl)⟩⟩ (VRows.cons ⟨[vS (([116, 97, 114, 115] : Str))], rfl, ⟨rfl, (lit_len rfl)⟩⟩ (VRows.cons ⟨[vS (([116, 97, 114, 116] : Str))], rfl, ⟨rfl, (lit_len rfl)⟩⟩ (VRows.cons ⟨[vS (([116, 101, 97] : Str))], rfl, ⟨rfl, (lit_len rfl)⟩⟩ (VRows.cons ⟨[vS (([116, 101, 97, 114] : Str))], rfl, ⟨rfl, (lit_len rfl)⟩⟩ (VRows.cons ⟨[vS (([116, 101, 97, 115] : Str))], rfl, ⟨rfl, (lit_len rfl)⟩⟩ (VRows.cons ⟨[vS (([116, 101, 110] : Str))], rfl, ⟨rfl, (lit_len rfl)⟩⟩ (VRows.cons ⟨[vS (([116, 101, 114, 110] : Str))], rfl, ⟨rfl, (lit_len rfl)⟩⟩ (VRows.cons ⟨[vS (([116, 101, 115, 116] : Str))], rfl, ⟨rfl, (lit_len rfl)⟩⟩ (VRows.cons ⟨[vS (([116, 101, 115, 116, 115] : Str))], rfl, ⟨rfl, (lit_len rfl)⟩⟩ (VRows.cons ⟨[vS (([116, 114, 101, 101, 115] : Str))], rfl, ⟨rfl, (lit_len rfl)⟩⟩ (VRows.cons ⟨[vS (([98, 97, 110, 97, 110, 97] : Str))], rfl, ⟨rfl, (lit_len rfl)⟩⟩ (VRows.cons ⟨[vS (([98, 101, 101] : Str))], rfl, ⟨rfl, (lit_len rfl)⟩⟩ (VRows.cons ⟨[vS (([98, 101, 101, 110] : Str))], rfl, ⟨rfl, (lit_len rfl)⟩⟩ (VRows.cons ⟨[vS (([98, 101, 101, 115] : Str))], rfl, ⟨rfl, (lit_len rfl)⟩⟩ (VRows.cons ⟨[vS (([115, 116, 97, 114] : Str))], rfl, ⟨rfl, (lit_len rfl)⟩⟩ (VRows.cons ⟨[vS (([115, 116, 97, 114, 101] : Str))], rfl, ⟨rfl, (lit_len rfl)⟩⟩ (VRows.cons ⟨[vS (([115, 116, 97, 114, 116] : Str))], rfl, ⟨rfl, (lit_len rfl)⟩⟩ (VRows.cons ⟨[vS (([116, 114, 101, 101] : Str))], rfl, ⟨rfl, (lit_len rfl)⟩⟩ (VRows.cons ⟨[vS (([115, 116, 97, 114, 115] : Str))], rfl, ⟨rfl, (lit_len rfl)⟩⟩ (VRows.cons ⟨[vS (([116, 114, 101, 97, 116, 115] : Str))], rfl, ⟨rfl, (lit_len rfl)⟩⟩ trivial)))))))))))))))))))))))))))))))))))))))))))))))))))))))))))) rfl fun b1 w2 hx3 hM a hf => ?_)
  refine q_ hf rfl rfl rfl (e_assign hf rfl) fun a hf => ?_
  refine pl_nil ?_
  refine then_n ?_
  refine wp_ret ?_
  obtain rfl := some_inj h
  exact leave1 hf rfl rfl ⟨(some ⟨b1, 0, none⟩), 60, rfl, hM.fin⟩

set_option maxRecDepth 100000 in
set_option maxHeartbeats 4000000 in
theorem r_spec_l03Insert (C : Cx) (list1 : (List Str)) (A2 : Option Addr) (c3 : Nat) (t4 : Str) (hp5 : t4.length ≤ maxLen) (hO : Mem C C.w0 [.row strRep A2 c3 9 list1 true] []) (hd : ∀ b, C.S0 b → ¬ ownB [.row strRep A2 c3 9 list1 true] b) (r : (List Str)) (h : m_spec_l03Insert list1 t4 = some r) :
    Calls Try.prog 124 #[vL A2 (list1) c3, vS (t4)] C.w0 fun e w => ∃ (A_1 : Option Addr), ∃ (c_1 : Nat), e = .returned (vL A_1 (r) c_1) ∧ Mem C w [.row strRep A_1 c_1 9 r true] [] := by
  have hM := hO
  refine enter Try.func124 rfl Try.ntmps124 rfl fun a hf => ?_
  unfold m_spec_l03Insert at h
  refine wp_seq ?_
  refine region_pl ?_
  refine q_ hf rfl rfl rfl (e_assign hf rfl) fun a hf => ?_
  refine pl_nil ?_
  refine then_n ?_
  refine wp_seq ?_
  refine region_pl ?_
  refine q_ hf rfl rfl rfl (e_move hf rfl) fun a hf => ?_
  have hl6 := row_len (hM.ownAt (k := 0) rfl)
  refine q_ hf rfl rfl rfl (e_lenL hf (x := list1) rfl Try.underlying40) fun a hf => ?_
  refine q_ hf rfl rfl rfl (e_assign hf rfl) fun a hf => ?_
  refine pl_nil ?_
  refine then_n ?_
  obtain ⟨x9, h10, h⟩ := bind_some h
  refine seq_join (fun a w => ∃ (n7 : Int), n7 = x9 ∧ Has 48 a [(0, vL A2 (list1) c3), (1, vS (t4)), (5, vI (n7))] ∧ Mem C w [.row strRep A2 c3 9 list1 true] [] ∧ R64 n7) ?_ ?_
  · refine wp_block ?_
    obtain ⟨x16, h17, h10⟩ := bind_some h10
    refine wp_loopM h17 (fun s a w => ∃ (n11 : Int), n11 = s ∧ Has 48 a [(0, vL A2 (list1) c3), (1, vS (t4)), (5, vI (n11))] ∧ Mem C w [.row strRep A2 c3 9 list1 true] [] ∧ R64 n11) ?_ ?_
    · exact ⟨(list1.length : Int), rfl, hf.keep ⟨rfl, rfl, rfl, trivial⟩, hM.pick [] rfl, (R64_len hl6)⟩
    · rintro s o18 a w13 ⟨n11, rfl, hf, hM, hv12⟩ h19 hd20
      replace h19 : m_spec_l03Insert_l1 list1 t4 n11 = some o18 := h19
      unfold m_spec_l03Insert_l1 at h19
      refine wp_seq ?_
      obtain ⟨x23, h24, h19⟩ := bind_some h19
      refine seq_join (fun a w => ∃ (t21 : Bool), t21 = x23 ∧ Has 48 a [(0, vL A2 (list1) c3), (1, vS (t4)), (5, vI (n11)), (19, .bool (t21))] ∧ Mem C w [.row strRep A2 c3 9 list1 true] []) ?_ ?_
      · refine region_pl ?_
        refine q_ hf rfl rfl rfl (e_move hf rfl) fun a hf => ?_
        refine q_ hf rfl rfl rfl (e_gt hf (x := n11) (y := 0) rfl rfl) fun a hf => ?_
        refine q_ hf rfl rfl rfl (e_move hf rfl) fun a hf => ?_
        rcases cond_some h24 with ⟨hc25, h24⟩ | ⟨hc25, h24⟩
        · refine gq (wanted_t hf rfl rfl rfl rfl hc25) hf rfl rfl (e_move hf rfl) fun a hf => ?_
          refine gq (wanted_t hf rfl rfl rfl rfl hc25) hf rfl rfl (e_move hf rfl) fun a hf => ?_
          obtain ⟨z26, hz27, h24⟩ := bind_some h24
          refine gq (wanted_t hf rfl rfl rfl rfl hc25) hf rfl rfl (e_sub hf rfl rfl hz27) fun a hf => ?_
          obtain ⟨e28, hz29, h24⟩ := bind_some h24
          obtain ⟨b34, _, hA35, h30, h31, hr32, hcell33⟩ := hM.rowElemN (k := 0) rfl (n := 1) rfl hz29
          obtain ⟨rfl, hv36⟩ := hr32
          refine gq (wanted_t hf rfl rfl rfl rfl hc25) hf rfl rfl (e_indexAddr (A := A2) (b := b34) (o := 0) (xs := list1) (i := z26) hf hA35 rfl rfl Try.underlying40 Try.sizeOf9 h30 h31) fun a hf => ?_
          refine gq (wanted_t hf rfl rfl rfl rfl hc25) hf rfl rfl (e_load1 hf rfl Try.isAgg9 (hcell33 0 _ rfl)) fun a hf => ?_
          refine gq (wanted_t hf rfl rfl rfl rfl hc25) hf rfl rfl (e_move hf rfl) fun a hf => ?_
          refine gq (wanted_t hf rfl rfl rfl rfl hc25) hf rfl rfl (e_gtS hf (x := e28) (y := t4) rfl rfl) fun a hf => ?_
          refine q_ hf rfl rfl rfl (e_pick_t hf rfl hc25 rfl) fun a hf => ?_
          refine pl_nil ?_
          obtain rfl := some_inj h24
          refine then_n ?_
          exact ⟨(!(ltS e28 t4 || e28 == t4)), rfl, hf.keep ⟨rfl, rfl, rfl, rfl, trivial⟩, hM.pick [] rfl⟩
        · refine pl_gs (wanted_f hf rfl rfl rfl rfl hc25) hf rfl rfl fun a hf => ?_
          refine pl_gs (wanted_f hf rfl rfl rfl rfl hc25) hf rfl rfl fun a hf => ?_
          refine pl_gs (wanted_f hf rfl rfl rfl rfl hc25) hf rfl rfl fun a hf => ?_
          refine pl_gs (wanted_f hf rfl rfl rfl rfl hc25) hf rfl rfl fun a hf => ?_
          refine pl_gs (wanted_f hf rfl rfl rfl rfl hc25) hf rfl rfl fun a hf => ?_
          refine pl_gs (wanted_f hf rfl rfl rfl rfl hc25) hf rfl rfl fun a hf => ?_
          refine pl_gs (wanted_f hf rfl rfl rfl rfl hc25) hf rfl rfl fun a hf => ?_
          refine q_ hf rfl rfl rfl (e_pick_f hf rfl hc25 rfl) fun a hf => ?_
          refine pl_nil ?_
          obtain rfl := some_inj h24
          refine then_n ?_
          exact ⟨false, rfl, hf.keep ⟨rfl, rfl, rfl, rfl, trivial⟩, hM.pick [] rfl⟩
      · rintro a w39 ⟨t21, rfl, hf, hM⟩
        try dsimp only at h19
        rcases cond_some h19 with ⟨hc40, h19⟩ | ⟨hc40, h19⟩
        · refine cond_t hf rfl hc40 ?_
          refine wp_skip ?_
          refine then_n ?_
          refine wp_block ?_
          refine region_pl ?_
          refine q_ hf rfl rfl rfl (e_move hf rfl) fun a hf => ?_
          obtain ⟨z41, hz42, h19⟩ := bind_some h19
          refine q_ hf rfl rfl rfl (e_sub hf rfl rfl hz42) fun a hf => ?_
          refine q_ hf rfl rfl rfl (e_assign hf rfl) fun a hf => ?_
          refine pl_nil ?_
          refine blk_n ?_
          obtain rfl := some_inj h19
          refine then_n ⟨_, rfl, ?_⟩
          exact ⟨z41, rfl, hf.keep ⟨rfl, rfl, rfl, trivial⟩, hM.pick [] rfl, (chk_R hz42)⟩
        · refine cond_f hf rfl hc40 ?_
          refine wp_exit ?_
          refine then_x ?_
          obtain rfl := some_inj h19
          obtain rfl := hd20 _ rfl
          try dsimp only at h10
          refine then_x ?_
          refine exit_hit ?_
          obtain rfl := some_inj h10
          refine then_n ?_
          exact ⟨n11, rfl, hf.keep ⟨rfl, rfl, rfl, trivial⟩, hM.pick [] rfl, hv12⟩
  · rintro a w48 ⟨n7, rfl, hf, hM, hv8⟩
    try dsimp only at h
    refine wp_seq ?_
    obtain ⟨x51, h52, h⟩ := bind_some h
    refine seq_join (fun a w => ∃ (t49 : Bool), t49 = x51 ∧ Has 48 a [(0, vL A2 (list1) c3), (1, vS (t4)), (5, vI (n7)), (32, .bool (t49))] ∧ Mem C w [.row strRep A2 c3 9 list1 true] []) ?_ ?_
    · refine region_pl ?_
      refine q_ hf rfl rfl rfl (e_move hf rfl) fun a hf => ?_
      refine q_ hf rfl rfl rfl (e_gt hf (x := n7) (y := 0) rfl rfl) fun a hf => ?_
      refine q_ hf rfl rfl rfl (e_move hf rfl) fun a hf => ?_
      rcases cond_some h52 with ⟨hc53, h52⟩ | ⟨hc53, h52⟩
      · refine gq (wanted_t hf rfl rfl rfl rfl hc53) hf rfl rfl (e_move hf rfl) fun a hf => ?_
        refine gq (wanted_t hf rfl rfl rfl rfl hc53) hf rfl rfl (e_move hf rfl) fun a hf => ?_
        obtain ⟨z54, hz55, h52⟩ := bind_some h52
        refine gq (wanted_t hf rfl rfl rfl rfl hc53) hf rfl rfl (e_sub hf rfl rfl hz55) fun a hf => ?_
        obtain ⟨e56, hz57, h52⟩ := bind_some h52
        obtain ⟨b62, _, hA63, h58, h59, hr60, hcell61⟩ := hM.rowElemN (k := 0) rfl (n := 1) rfl hz57
        obtain ⟨rfl, hv64⟩ := hr60
        refine gq (wanted_t hf rfl rfl rfl rfl hc53) hf rfl rfl (e_indexAddr (A := A2) (b := b62) (o := 0) (xs := list1) (i := z54) hf hA63 rfl rfl Try.underlying40 Try.sizeOf9 h58 h59) fun a hf => ?_
        refine gq (wanted_t hf rfl rfl rfl rfl hc53) hf rfl rfl (e_load1 hf rfl Try.isAgg9 (hcell61 0 _ rfl)) fun a hf => ?_
        refine gq (wanted_t hf rfl rfl rfl rfl hc53) hf rfl rfl (e_move hf rfl) fun a hf => ?_
        refine gq (wanted_t hf rfl rfl rfl rfl hc53) hf rfl rfl (e_eqS hf (x := e56) (y := t4) rfl rfl) fun a hf => ?_
        refine q_ hf rfl rfl rfl (e_pick_t hf rfl hc53 rfl) fun a hf => ?_
        refine pl_nil ?_
        obtain rfl := some_inj h52
        refine then_n ?_
        exact ⟨(e56 == t4), rfl, hf.keep ⟨rfl, rfl, rfl, rfl, trivial⟩, hM.pick [] rfl⟩
      · refine pl_gs (wanted_f hf rfl rfl rfl rfl hc53) hf rfl rfl fun a hf => ?_
        refine pl_gs (wanted_f hf rfl rfl rfl rfl hc53) hf rfl rfl fun a hf => ?_
        refine pl_gs (wanted_f hf rfl rfl rfl rfl hc53) hf rfl rfl fun a hf => ?_
        refine pl_gs (wanted_f hf rfl rfl rfl rfl hc53) hf rfl rfl fun a hf => ?_
        refine pl_gs (wanted_f hf rfl rfl rfl rfl hc53) hf rfl rfl fun a hf => ?_
        refine pl_gs (wanted_f hf rfl rfl rfl rfl hc53) hf rfl rfl fun a hf => ?_
        refine pl_gs (wanted_f hf rfl rfl rfl rfl hc53) hf rfl rfl fun a hf => ?_
        refine q_ hf rfl rfl rfl (e_pick_f hf rfl hc53 rfl) fun a hf => ?_
        refine pl_nil ?_
        obtain rfl := some_inj h52
        refine then_n ?_
        exact ⟨false, rfl, hf.keep ⟨rfl, rfl, rfl, rfl, trivial⟩, hM.pick [] rfl⟩
    · rintro a w67 ⟨t49, rfl, hf, hM⟩
      try dsimp only at h
      rcases cond_some h with ⟨hc68, h⟩ | ⟨hc68, h⟩
      · refine cond_t hf rfl hc68 ?_
        refine wp_seq ?_
        refine region_pl ?_
        refine q_ hf rfl rfl rfl (e_move hf rfl) fun a hf => ?_
        refine q_ hf rfl rfl rfl (e_assign hf rfl) fun a hf => ?_
        refine pl_nil ?_
        refine then_n ?_
        refine wp_ret ?_
        refine then_r ?_
        obtain rfl := some_inj h
        exact leave1 hf rfl rfl ⟨A2, c3, rfl, hM.fin⟩
      · refine cond_f hf rfl hc68 ?_
        refine wp_skip ?_
        refine then_n ?_
        refine wp_seq ?_
        refine region_pl ?_
        refine pl_l hf rfl rfl rfl (w_slice0 (K := strRep) hM Try.underlying40 ei_9 fun b69 w70 hx71 hM a hf => ?_)
        refine q_ hf rfl rfl rfl (e_move hf rfl) fun a hf => ?_
        refine q_ hf rfl rfl rfl (e_move hf rfl) fun a hf => ?_
        have hM := hM.freezeRow (k := 1) rfl rfl
        dsimp only [List.eraseIdx] at hM
        obtain ⟨l72, hz73, h⟩ := bind_some h
        obtain ⟨A74, hd75, hA76⟩ := sub_rep (hM.dat (k := 0) rfl) hz73
        have hM := hM.add (y := .dat (sliceRep strRep) l72 [vL A74 l72 (c3 - (0 : Int).toNat)]) hd75
        refine q_ hf rfl rfl rfl (e_subLh hf (xs := list1) rfl rfl Try.underlying40 Try.sizeOf9 (slice_cap (hM.dat (k := 1) rfl)) hz73 hA76) fun a hf => ?_
        obtain ⟨xs77, hz78, h⟩ := bind_some h
        refine pl_l hf rfl rfl rfl (w_appendD hf hM Try.underlying40 ei_9 rfl rfl rfl (k := 0) rfl (hM.dat (k := 0) rfl) hz78 fun A79 c80 w81 hM a hf => ?_)
        dsimp only [List.set] at hM
        refine q_ hf rfl rfl rfl (e_assign hf rfl) fun a hf => ?_
        refine pl_nil ?_
        refine then_n ?_
        refine wp_seq ?_
        refine region_pl ?_
        refine q_ hf rfl rfl rfl (e_move hf rfl) fun a hf => ?_
        refine q_ hf rfl rfl rfl (e_move hf rfl) fun a hf => ?_
        refine pl_l hf rfl rfl rfl (w_slice hf hM (K := strRep) (xs := ([t4] : (List Str))) (os := [.tmp 40]) Try.underlying40 ei_9 rfl rfl rfl rfl rfl ⟨⟨[vS (t4)], rfl, ⟨rfl, hp5⟩⟩, trivial⟩ rfl fun b84 w85 hx86 hM a hf => ?_)
        obtain ⟨xs87, hz88, h⟩ := bind_some h
        refine pl_l hf rfl rfl rfl (w_append hf hM Try.underlying40 ei_9 rfl rfl rfl (k := 1) rfl (hM.srcRow (k := 0) rfl) hz88 fun A89 c90 w91 hM a hf => ?_)
        dsimp only [List.set] at hM
        refine q_ hf rfl rfl rfl (e_assign hf rfl) fun a hf => ?_
        refine pl_nil ?_
        refine then_n ?_
        refine wp_seq ?_
        refine region_pl ?_
        refine q_ hf rfl rfl rfl (e_move hf rfl) fun a hf => ?_
        refine q_ hf rfl rfl rfl (e_move hf rfl) fun a hf => ?_
        refine q_ hf rfl rfl rfl (e_move hf rfl) fun a hf => ?_
        obtain ⟨l94, hz95, h⟩ := bind_some h
        obtain ⟨A96, hd97, hA98⟩ := sub_rep (hM.dat (k := 1) rfl) hz95
        have hM := hM.add (y := .dat (sliceRep strRep) l94 [vL A96 l94 (c3 - (n7 : Int).toNat)]) hd97
        refine q_ hf rfl rfl rfl (e_subLl hf (xs := list1) rfl rfl Try.underlying40 Try.sizeOf9 (slice_cap (hM.dat (k := 2) rfl)) hz95 hA98) fun a hf => ?_
        obtain ⟨xs99, hz100, h⟩ := bind_some h
        refine pl_l hf rfl rfl rfl (w_appendD hf hM Try.underlying40 ei_9 rfl rfl rfl (k := 1) rfl (hM.dat (k := 0) rfl) hz100 fun A101 c102 w103 hM a hf => ?_)
        dsimp only [List.set] at hM
        refine q_ hf rfl rfl rfl (e_assign hf rfl) fun a hf => ?_
        refine pl_nil ?_
        refine then_n ?_
        refine wp_ret ?_
        obtain rfl := some_inj h
        have hM := hM.front (k := 1) rfl
        dsimp only [List.eraseIdx] at hM
        have hM := hM.outs (own' := [.row strRep A101 c102 9 xs99 true]) 1 rfl
        exact leave1 hf rfl rfl ⟨A101, c102, rfl, hM.fin⟩

set_option maxRecDepth 100000 in
set_option maxHeartbeats 4000000 in
theorem r_spec_l05Draw (C : Cx) (s1 : l00Src) (b2 : Nat) (A3 : Option Addr) (c4 : Nat) (hp5 : (sliceRep byteRep).R C.w0 C.S0 s1.code [vL A3 s1.code c4]) (hp6 : R64 s1.at_) (hp7 : U64 s1.seed) (most8 : Int) (hp9 : R64 most8) (hO : Mem C C.w0 [.box b2 [vL A3 (s1.code) c4, vI (s1.at_), vW (s1.seed)] 135] []) (hd : ∀ b, C.S0 b → ¬ ownB [.box b2 [vL A3 (s1.code) c4, vI (s1.at_), vW (s1.seed)] 135] b) (r : (Lexicon × l00Src)) (h : m_spec_l05Draw s1 most8 = some r) :
    Calls Try.prog 129 #[vP b2 (0), vI (most8)] C.w0 fun e w => ∃ (A_1 : Option Addr), ∃ (c_1 : Nat), ∃ (A_2 : Option Addr), ∃ (c_2 : Nat), e = .returned (.agg #[vL A_2 (r.1.Words) c_2]) ∧ Mem C w [.box b2 [vL A_1 (r.2.code) c_1, vI (r.2.at_), vW (r.2.seed)] 135, .row strRep A_2 c_2 9 r.1.Words true] [] ∧ (sliceRep byteRep).R w (Sh C [.box b2 [vL A_1 (r.2.code) c_1, vI (r.2.at_), vW (r.2.seed)] 135, .row strRep A_2 c_2 9 r.1.Words true] w) r.2.code [vL A_1 r.2.code c_1] ∧ R64 r.2.at_ ∧ U64 r.2.seed := by
  have hM := hO
  have hM := hM.addIn hd (y := .dat (sliceRep byteRep) s1.code [vL A3 s1.code c4]) hp5
  refine enter Try.func129 rfl Try.ntmps129 rfl fun a hf => ?_
  unfold m_spec_l05Draw at h
  refine wp_seq ?_
  refine region_pl ?_
  refine pl_l hf rfl rfl rfl (w_alloc hM (cs := [vL none (([] : (List Str))) 0]) Try.zeroValue45 rfl fun b10 w11 hx12 hM a hf => ?_)
  refine pl_nil ?_
  refine then_n ?_
  refine wp_seq ?_
  refine region_pl ?_
  obtain ⟨y14, hz15, h⟩ := bind_some h
  refine pl_l hf rfl rfl rfl (w_call hf Try.call132 rfl (r_spec_l05Some ⟨_, Sh C _ _, none_, hM.sh_lt, none_not, C.G, hM.g_lt, g_none, hM.tabs⟩ _ hz15) ?_)
  rintro _ w18 ⟨A16, c17, rfl, hM2⟩
  obtain ⟨hM, hx19, hup20⟩ := hM.back hM2
  dsimp only [List.cons_append, List.nil_append] at hM hup20
  clear hM2
  refine ⟨_, rfl, fun a hf => ?_⟩
  refine q_ hf rfl rfl rfl (e_assign hf rfl) fun a hf => ?_
  refine pl_nil ?_
  refine then_n ?_
  refine wp_seq ?_
  refine region_pl ?_
  refine pl_l hf rfl rfl rfl (w_slice0 (K := strRep) hM Try.underlying40 ei_9 fun b21 w22 hx23 hM a hf => ?_)
  refine q_ hf rfl rfl rfl (e_assign hf rfl) fun a hf => ?_
  refine pl_nil ?_
  refine then_n ?_
  obtain ⟨x34, h35, h⟩ := bind_some h
  refine seq_join (fun a w => ∃ (l24 : Str) (n27 : Int) (n29 : Int) (xs31 : (List Str)) (A25 : Option Addr) (c26 : Nat) (A32 : Option Addr) (c33 : Nat), (l24, n27, n29, xs31) = x34 ∧ Has 29 a [(4, vP b10 (0)), (6, vL A32 (xs31) c33)] ∧ Mem C w [.row strRep A32 c33 9 xs31 true, .row strRep A16 c17 9 y14 true, .box b10 [vL none (([] : (List Str))) 0] 45, .box b2 [vL A25 (l24) c26, vI (n27), vW (n29)] 135] [.dat (sliceRep byteRep) l24 [vL A25 l24 c26], .dat (sliceRep byteRep) s1.code [vL A3 s1.code c4]] ∧ R64 n27 ∧ U64 n29) ?_ ?_
  · refine wp_seq ?_
    refine region_pl ?_
    refine q_ hf rfl rfl rfl (e_move hf rfl) fun a hf => ?_
    refine q_ hf rfl rfl rfl (e_move hf rfl) fun a hf => ?_
    obtain ⟨z36, hz37, h35⟩ := bind_some h35
    refine q_ hf rfl rfl rfl (e_add hf rfl rfl hz37) fun a hf => ?_
    have hM := hM.front (k := 3) rfl
    dsimp only [List.eraseIdx] at hM
    have hM : Mem C _ ([.box b2 [vL A3 (s1.code) c4, vI (s1.at_), vW (s1.seed)] 135] ++ [.row strRep (some ⟨b21, 0, none⟩) 0 9 ([] : (List Str)) true, .row strRep A16 c17 9 y14 true, .box b10 [vL none (([] : (List Str))) 0] 45]) _ := hM
    obtain ⟨y38, hz39, h35⟩ := bind_some h35
    refine pl_l hf rfl rfl rfl (w_call hf Try.call118 rfl (r_spec_l00Src_pick ⟨_, Sh C _ _, ownB _, hM.sh_lt, sub_dis, C.G, hM.g_lt, hM.g_own, hM.tabs⟩ s1 _ _ _ (hM.dat (k := 0) rfl) hp6 hp7 z36 (chk_R hz37) hM.sub sub_dis _ hz39) ?_)
    rintro _ w46 ⟨A40, c41, rfl, hM2, hv42, hv43, hv44, hv45⟩
    obtain ⟨hM, hup48⟩ := hM.backG hM2
    dsimp only [List.cons_append, List.nil_append] at hM hup48
    clear hM2
    have hM := hM.add (y := .dat (sliceRep byteRep) y38.2.code [vL A40 y38.2.code c41]) (hup48 hv42)
    refine ⟨_, rfl, fun a hf => ?_⟩
    refine q_ hf rfl rfl rfl (e_assign hf rfl) fun a hf => ?_
    refine pl_nil ?_
    refine then_n ?_
    refine wp_block ?_
    obtain ⟨x72, h73, h35⟩ := bind_some h35
    refine wp_loopM h73 (fun s a w => ∃ (l49 : Str) (n52 : Int) (n54 : Int) (xs56 : (List Str)) (n59 : Int) (A50 : Option Addr) (c51 : Nat) (A57 : Option Addr) (c58 : Nat), (l49, n52, n54, xs56, n59) = s ∧ Has 29 a [(0, vP b2 (0)), (4, vP b10 (0)), (5, vL A16 (y14) c17), (6, vL A57 (xs56) c58), (7, vI (n59))] ∧ Mem C w [.row strRep A57 c58 9 xs56 true, .box b2 [vL A50 (l49) c51, vI (n52), vW (n54)] 135, .row strRep A16 c17 9 y14 true, .box b10 [vL none (([] : (List Str))) 0] 45] [.dat (sliceRep byteRep) l49 [vL A50 l49 c51], .dat (sliceRep byteRep) y38.2.code [vL A40 y38.2.code c41], .dat (sliceRep byteRep) s1.code [vL A3 s1.code c4]] ∧ R64 n52 ∧ U64 n54 ∧ R64 n59) ?_ ?_
    · have hM := hM.front (k := 3) rfl
      dsimp only [List.eraseIdx] at hM
      have hM := hM.front (k := 3) rfl
      dsimp only [List.eraseIdx] at hM
      have hM := hM.front (k := 2) rfl
      dsimp only [List.eraseIdx] at hM
      have hM := hM.front (k := 3) rfl
      dsimp only [List.eraseIdx] at hM
      exact ⟨y38.2.code, y38.2.at_, y38.2.seed, ([] : (List Str)), y38.1, A40, c41, (some ⟨b21, 0, none⟩), 0, rfl, hf.keep ⟨rfl, rfl, rfl, rfl, rfl, trivial⟩, hM.pick [0, 0, 1] rfl, hv43, hv44, hv45⟩
    · rintro s o74 a w61 ⟨l49, n52, n54, xs56, n59, A50, c51, A57, c58, rfl, hf, hM, hv53, hv55, hv60⟩ h75 hd76
      replace h75 : m_spec_l05Draw_l1 y14 l49 n52 n54 xs56 n59 = some o74 := h75
      unfold m_spec_l05Draw_l1 at h75
      refine wp_seq ?_
      refine wp_seq ?_
      refine region_pl ?_
      refine q_ hf rfl rfl rfl (e_move hf rfl) fun a hf => ?_
      refine q_ hf rfl rfl rfl (e_gt hf (x := n59) (y := 0) rfl rfl) fun a hf => ?_
      refine pl_nil ?_
      refine then_n ?_
      rcases cond_some h75 with ⟨hc77, h75⟩ | ⟨hc77, h75⟩
      · refine cond_t hf rfl hc77 ?_
        refine wp_skip ?_
        refine then_n ?_
        refine wp_seq ?_
        refine wp_block ?_
        refine region_pl ?_
        refine q_ hf rfl rfl rfl (e_move hf rfl) fun a hf => ?_
        refine q_ hf rfl rfl rfl (e_move hf rfl) fun a hf => ?_
        refine q_ hf rfl rfl rfl (e_move hf rfl) fun a hf => ?_
        refine q_ hf rfl rfl rfl (e_move hf rfl) fun a hf => ?_
        have hl78 := row_len (hM.ownAt (k := 2) rfl)
        refine q_ hf rfl rfl rfl (e_lenL hf (x := y14) rfl Try.underlying40) fun a hf => ?_
        have hM := hM.front (k := 1) rfl
        dsimp only [List.eraseIdx] at hM
        have hM : Mem C _ ([.box b2 [vL A50 (l49) c51, vI (n52), vW (n54)] 135] ++ [.row strRep A57 c58 9 xs56 true, .row strRep A16 c17 9 y14 true, .box b10 [vL none (([] : (List Str))) 0] 45]) _ := hM
        obtain ⟨y79, hz80, h75⟩ := bind_some h75
        refine pl_l hf rfl rfl rfl (w_call hf Try.call118 rfl (r_spec_l00Src_pick ⟨_, Sh C _ _, ownB _, hM.sh_lt, sub_dis, C.G, hM.g_lt, hM.g_own, hM.tabs⟩ (⟨l49, n52, n54⟩ : l00Src) _ _ _ (hM.dat (k := 0) rfl) hv53 hv55 (y14.length : Int) (R64_len hl78) hM.sub sub_dis _ hz80) ?_)
        rintro _ w87 ⟨A81, c82, rfl, hM2, hv83, hv84, hv85, hv86⟩
        obtain ⟨hM, hup89⟩ := hM.backG hM2
        dsimp only [List.cons_append, List.nil_append] at hM hup89
        clear hM2
        have hM := hM.add (y := .dat (sliceRep byteRep) y79.2.code [vL A81 y79.2.code c82]) (hup89 hv83)
        refine ⟨_, rfl, fun a hf => ?_⟩
        obtain ⟨e90, hz91, h75⟩ := bind_some h75
        obtain ⟨b96, _, hA97, h92, h93, hr94, hcell95⟩ := hM.rowElemN (k := 2) rfl (n := 1) rfl hz91
        obtain ⟨rfl, hv98⟩ := hr94
        refine q_ hf rfl rfl rfl (e_indexAddr (A := A16) (b := b96) (o := 0) (xs := y14) (i := y79.1) hf hA97 rfl rfl Try.underlying40 Try.sizeOf9 h92 h93) fun a hf => ?_
        refine q_ hf rfl rfl rfl (e_load1 hf rfl Try.isAgg9 (hcell95 0 _ rfl)) fun a hf => ?_
        have hM := hM.front (k := 1) rfl
        dsimp only [List.eraseIdx] at hM
        have hM : Mem C _ ([.row strRep A57 c58 9 xs56 true] ++ [.box b2 [vL A81 (y79.2.code) c82, vI (y79.2.at_), vW (y79.2.seed)] 135, .row strRep A16 c17 9 y14 true, .box b10 [vL none (([] : (List Str))) 0] 45]) _ := hM
        obtain ⟨y99, hz100, h75⟩ := bind_some h75
        refine pl_l hf rfl rfl rfl (w_call hf Try.call124 rfl (r_spec_l03Insert ⟨_, Sh C _ _, ownB _, hM.sh_lt, sub_dis, C.G, hM.g_lt, hM.g_own, hM.tabs⟩ xs56 _ _ e90 hv98 hM.sub sub_dis _ hz100) ?_)
        rintro _ w103 ⟨A101, c102, rfl, hM2⟩
        obtain ⟨hM, hup105⟩ := hM.backG hM2
        dsimp only [List.cons_append, List.nil_append] at hM hup105
        clear hM2
        refine ⟨_, rfl, fun a hf => ?_⟩
        refine q_ hf rfl rfl rfl (e_assign hf rfl) fun a hf => ?_
        refine pl_nil ?_
        refine blk_n ?_
        refine then_n ?_
        refine region_pl ?_
        refine q_ hf rfl rfl rfl (e_move hf rfl) fun a hf => ?_
        obtain ⟨z106, hz107, h75⟩ := bind_some h75
        refine q_ hf rfl rfl rfl (e_sub hf rfl rfl hz107) fun a hf => ?_
        refine q_ hf rfl rfl rfl (e_assign hf rfl) fun a hf => ?_
        refine pl_nil ?_
        obtain rfl := some_inj h75
        refine then_n ⟨_, rfl, ?_⟩
        exact ⟨y79.2.code, y79.2.at_, y79.2.seed, y99, z106, A81, c82, A101, c102, rfl, hf.keep ⟨rfl, rfl, rfl, rfl, rfl, trivial⟩, hM.pick [0, 2, 3] rfl, hv84, hv85, (chk_R hz107)⟩
      · refine cond_f hf rfl hc77 ?_
        refine wp_exit ?_
        refine then_x ?_
        obtain rfl := some_inj h75
        obtain rfl := hd76 _ rfl
        try dsimp only at h35
        refine then_x ?_
        refine exit_hit ?_
        obtain rfl := some_inj h35
        refine then_n ?_
        have hM := hM.front (k := 1) rfl
        dsimp only [List.eraseIdx] at hM
        have hM := hM.front (k := 3) rfl
        dsimp only [List.eraseIdx] at hM
        have hM := hM.front (k := 3) rfl
        dsimp only [List.eraseIdx] at hM
        have hM := hM.front (k := 3) rfl
        dsimp only [List.eraseIdx] at hM
        exact ⟨l49, n52, n54, xs56, A50, c51, A57, c58, rfl, hf.keep ⟨rfl, rfl, trivial⟩, hM.pick [0, 2] rfl, hv53, hv55⟩
  · rintro a w113 ⟨l24, n27, n29, xs31, A25, c26, A32, c33, rfl, hf, hM, hv28, hv30⟩
    try dsimp only at h
    refine wp_seq ?_
    refine region_pl ?_
    refine q_ hf rfl rfl rfl (e_move hf rfl) fun a hf => ?_
    refine q_ hf rfl rfl rfl (e_build hf Try.zeroValue45 Try.underlying45 (bp_45 _ Try.underlying45.symm) rfl (cs := #[vL A32 (xs31) c33]) (by kernel_rfl)) fun a hf => ?_
    refine pl_0 hf rfl rfl (w_store hf hM (us := [vL A32 (xs31) c33]) (cs' := [vL A32 (xs31) c33]) rfl rfl (k := 2) rfl rfl Try.sizeOf45 rfl rfl rfl fun w114 hM => ?_)
    dsimp only [List.set] at hM
    refine pl_nil ?_
    refine then_n ?_
    refine wp_ret ?_
    obtain rfl := some_inj h
    have hres117 := leaveV1 (P := Try.prog) Try.results129 (res_agg hf rfl ⟨Try.isAgg45, Try.sizeOf45⟩ (us := [vL A32 (xs31) c33]) rfl (hM.boxSub (k := 2) (o := 0) rfl rfl))
    have hM := hM.front (k := 0) rfl
    dsimp only [List.eraseIdx] at hM
    have hM := hM.front (k := 3) rfl
    dsimp only [List.eraseIdx] at hM
    have hM := hM.outs (own' := [.box b2 [vL A25 (l24) c26, vI (n27), vW (n29)] 135, .row strRep A32 c33 9 xs31 true]) 2 rfl
    exact bodyPost_ret hres117 hf.defers ⟨A25, c26, A32, c33, rfl, hM.fin, (hM.dat (k := 0) rfl), hv28, hv30⟩

set_option maxRecDepth 100000 in
set_option maxHeartbeats 4000000 in
theorem r_spec_l05Full (C : Cx) (many1 : Int) (hp2 : R64 many1) (r : (List Str)) (h : m_spec_l05Full many1 = some r) :
    Calls Try.prog 130 #[vI (many1)] C.w0 fun e w => ∃ (A_1 : Option Addr), ∃ (c_1 : Nat), e = .returned (vL A_1 (r) c_1) ∧ Mem C w [.row strRep A_1 c_1 9 r true] [] := by
  have hM := Mem.begin C [] trivial
  refine enter Try.func130 rfl Try.ntmps130 rfl fun a hf => ?_
  unfold m_spec_l05Full at h
  refine wp_seq ?_
  refine region_pl ?_
  refine q_ hf rfl rfl rfl (e_assign hf rfl) fun a hf => ?_
  refine pl_nil ?_
  refine then_n ?_
  refine wp_seq ?_
  refine region_pl ?_
  refine pl_l hf rfl rfl rfl (w_slice0 (K := strRep) hM Try.underlying40 ei_9 fun b3 w4 hx5 hM a hf => ?_)
  refine q_ hf rfl rfl rfl (e_assign hf rfl) fun a hf => ?_
  refine pl_nil ?_
  refine then_n ?_
  obtain ⟨x9, h10, h⟩ := bind_some h
  refine seq_join (fun a w => ∃ (xs6 : (List Str)) (A7 : Option Addr) (c8 : Nat), xs6 = x9 ∧ Has 25 a [(3, vL A7 (xs6) c8)] ∧ Mem C w [.row strRep A7 c8 9 xs6 true] []) ?_ ?_
  · refine wp_seq ?_
    refine region_pl ?_
    refine q_ hf rfl rfl rfl (e_assign hf rfl) fun a hf => ?_
    refine pl_nil ?_
    refine then_n ?_
    refine wp_block ?_
    obtain ⟨x20, h21, h10⟩ := bind_some h10
    refine wp_loopM h21 (fun s a w => ∃ (xs11 : (List Str)) (n14 : Int) (A12 : Option Addr) (c13 : Nat), (xs11, n14) = s ∧ Has 25 a [(0, vI (many1)), (3, vL A12 (xs11) c13), (4, vI (n14))] ∧ Mem C w [.row strRep A12 c13 9 xs11 true] [] ∧ R64 n14) ?_ ?_
    · exact ⟨([] : (List Str)), 0, (some ⟨b3, 0, none⟩), 0, rfl, hf.keep ⟨rfl, rfl, rfl, trivial⟩, hM.pick [] rfl, (R64_lit rfl)⟩
    · rintro s o22 a w16 ⟨xs11, n14, A12, c13, rfl, hf, hM, hv15⟩ h23 hd24
      replace h23 : m_spec_l05Full_l1 many1 xs11 n14 = some o22 := h23
      unfold m_spec_l05Full_l1 at h23
      refine wp_seq ?_
      refine wp_seq ?_
      refine region_pl ?_
      refine q_ hf rfl rfl rfl (e_move hf rfl) fun a hf => ?_
      refine q_ hf rfl rfl rfl (e_move hf rfl) fun a hf => ?_
      refine q_ hf rfl rfl rfl (e_lt hf (x := n14) (y := many1) rfl rfl) fun a hf => ?_
      refine pl_nil ?_
      refine then_n ?_
      rcases cond_some h23 with ⟨hc25, h23⟩ | ⟨hc25, h23⟩
      · refine cond_t hf rfl hc25 ?_
        refine wp_skip ?_
        refine then_n ?_
        refine wp_seq ?_
        refine wp_block ?_
        refine region_pl ?_
        refine q_ hf rfl rfl rfl (e_move hf rfl) fun a hf => ?_
        refine q_ hf rfl rfl rfl (e_move hf rfl) fun a hf => ?_
        obtain ⟨z26, hz27, h23⟩ := bind_some h23
        refine q_ hf rfl rfl rfl (e_quo hf rfl rfl hz27) fun a hf => ?_
        obtain ⟨z28, hz29, h23⟩ := bind_some h23
        refine q_ hf rfl rfl rfl (e_add hf rfl rfl hz29) fun a hf => ?_
        refine q_ hf rfl rfl rfl (e_convIB hf rfl Try.underlying2 Try.underlying5) fun a hf => ?_
        refine q_ hf rfl rfl rfl (e_move hf rfl) fun a hf => ?_
        obtain ⟨z30, hz31, h23⟩ := bind_some h23
        refine q_ hf rfl rfl rfl (e_rem hf rfl rfl hz31) fun a hf => ?_
        obtain ⟨z32, hz33, h23⟩ := bind_some h23
        refine q_ hf rfl rfl rfl (e_add hf rfl rfl hz33) fun a hf => ?_
        refine q_ hf rfl rfl rfl (e_convIB hf rfl Try.underlying2 Try.underlying5) fun a hf => ?_
        refine pl_l hf rfl rfl rfl (w_slice hf hM (K := byteRep) (xs := ([UInt8.ofNat (z28 % 256).toNat, UInt8.ofNat (z32 % 256).toNat] : Str)) (os := [.tmp 15, .tmp 19]) Try.underlying63 ei_5 rfl rfl rfl rfl rfl ⟨⟨[vB (UInt8.ofNat (z28 % 256).toNat)], rfl, rfl⟩, ⟨[vB (UInt8.ofNat (z32 % 256).toNat)], rfl, rfl⟩, trivial⟩ rfl fun b34 w35 hx36 hM a hf => ?_)
        have hl37 := row_len (hM.ownAt (k := 0) rfl)
        refine q_ hf rfl rfl rfl (e_bytesStr hf (xs := ([UInt8.ofNat (z28 % 256).toNat, UInt8.ofNat (z32 % 256).toNat] : Str)) rfl Try.underlying63 Try.underlying5 Try.underlying9 (hM.lendRow (k := 0) rfl)) fun a hf => ?_
        refine pl_l hf rfl rfl rfl (w_slice hf hM (K := strRep) (xs := ([([UInt8.ofNat (z28 % 256).toNat, UInt8.ofNat (z32 % 256).toNat] : Str)] : (List Str))) (os := [.tmp 21]) Try.underlying40 ei_9 rfl rfl rfl rfl rfl ⟨⟨[vS (([UInt8.ofNat (z28 % 256).toNat, UInt8.ofNat (z32 % 256).toNat] : Str))], rfl, ⟨rfl, hl37⟩⟩, trivial⟩ rfl fun b38 w39 hx40 hM a hf => ?_)
        obtain ⟨xs41, hz42, h23⟩ := bind_some h23
        refine pl_l hf rfl rfl rfl (w_append hf hM Try.underlying40 ei_9 rfl rfl rfl (k := 2) rfl (hM.srcRow (k := 0) rfl) hz42 fun A43 c44 w45 hM a hf => ?_)
        dsimp only [List.set] at hM
        refine q_ hf rfl rfl rfl (e_assign hf rfl) fun a hf => ?_
        refine pl_nil ?_
        refine blk_n ?_
        refine then_n ?_
        refine region_pl ?_
        refine q_ hf rfl rfl rfl (e_move hf rfl) fun a hf => ?_
        obtain ⟨z48, hz49, h23⟩ := bind_some h23
        refine q_ hf rfl rfl rfl (e_add hf rfl rfl hz49) fun a hf => ?_
        refine q_ hf rfl rfl rfl (e_assign hf rfl) fun a hf => ?_
        refine pl_nil ?_
        obtain rfl := some_inj h23
        refine then_n ⟨_, rfl, ?_⟩
        exact ⟨xs41, z48, A43, c44, rfl, hf.keep ⟨rfl, rfl, rfl, trivial⟩, (hM.drop (.cons _ (.cons _ (.cons_cons _ .slnil)))).pick [] rfl, (chk_R hz49)⟩
      · refine cond_f hf rfl hc25 ?_
        refine wp_exit ?_
        refine then_x ?_
        obtain rfl := some_inj h23
        obtain rfl := hd24 _ rfl
        try dsimp only at h10
        refine then_x ?_
        refine exit_hit ?_
        obtain rfl := some_inj h10
        refine then_n ?_
        exact ⟨xs11, A12, c13, rfl, hf.keep ⟨rfl, trivial⟩, hM.pick [] rfl⟩
  · rintro a w55 ⟨xs6, A7, c8, rfl, hf, hM⟩
    try dsimp only at h
    refine wp_seq ?_
    refine region_pl ?_
    refine q_ hf rfl rfl rfl (e_move hf rfl) fun a hf => ?_
    refine q_ hf rfl rfl rfl (e_assign hf rfl) fun a hf => ?_
    refine pl_nil ?_
    refine then_n ?_
    refine wp_ret ?_
    obtain rfl := some_inj h
    exact leave1 hf rfl rfl ⟨A7, c8, rfl, hM.fin⟩

set_option maxRecDepth 100000 in
set_option maxHeartbeats 4000000 in
theorem r_spec_l05Bent (C : Cx) (s1 : l00Src) (b2 : Nat) (A3 : Option Addr) (c4 : Nat) (hp5 : (sliceRep byteRep).R C.w0 C.S0 s1.code [vL A3 s1.code c4]) (hp6 : R64 s1.at_) (hp7 : U64 s1.seed) (hO : Mem C C.w0 [.box b2 [vL A3 (s1.code) c4, vI (s1.at_), vW (s1.seed)] 135] []) (hd : ∀ b, C.S0 b → ¬ ownB [.box b2 [vL A3 (s1.code) c4, vI (s1.at_), vW (s1.seed)] 135] b) (r : (Lexicon × l00Src)) (h : m_spec_l05Bent s1 = some r) :
    Calls Try.prog 122 #[vP b2 (0)] C.w0 fun e w => ∃ (A_1 : Option Addr), ∃ (c_1 : Nat), ∃ (A_2 : Option Addr), ∃ (c_2 : Nat), e = .returned (.agg #[vL A_2 (r.1.Words) c_2]) ∧ Mem C w [.box b2 [vL A_1 (r.2.code) c_1, vI (r.2.at_), vW (r.2.seed)] 135, .row strRep A_2 c_2 9 r.1.Words true] [] ∧ (sliceRep byteRep).R w (Sh C [.box b2 [vL A_1 (r.2.code) c_1, vI (r.2.at_), vW (r.2.seed)] 135, .row strRep A_2 c_2 9 r.1.Words true] w) r.2.code [vL A_1 r.2.code c_1] ∧ R64 r.2.at_ ∧ U64 r.2.seed := by
  have hM := hO
  have hM := hM.addIn hd (y := .dat (sliceRep byteRep) s1.code [vL A3 s1.code c4]) hp5
  refine enter Try.func122 rfl Try.ntmps122 rfl fun a hf => ?_
  unfold m_spec_l05Bent at h
  refine wp_seq ?_
  refine region_pl ?_
  refine pl_l hf rfl rfl rfl (w_alloc hM (cs := [vL none (([] : (List Str))) 0]) Try.zeroValue45 rfl fun b8 w9 hx10 hM a hf => ?_)
  refine pl_nil ?_
  refine then_n ?_
  refine wp_seq ?_
  refine region_pl ?_
  refine q_ hf rfl rfl rfl (e_move hf rfl) fun a hf => ?_
  have hM := hM.front (k := 1) rfl
  dsimp only [List.eraseIdx] at hM
  have hM : Mem C _ ([.box b2 [vL A3 (s1.code) c4, vI (s1.at_), vW (s1.seed)] 135] ++ [.box b8 [vL none (([] : (List Str))) 0] 45]) _ := hM
  obtain ⟨y12, hz13, h⟩ := bind_some h
  refine pl_l hf rfl rfl rfl (w_call hf Try.call129 rfl (r_spec_l05Draw ⟨_, Sh C _ _, ownB _, hM.sh_lt, sub_dis, C.G, hM.g_lt, hM.g_own, hM.tabs⟩ s1 _ _ _ (hM.dat (k := 0) rfl) hp6 hp7 20 (R64_lit rfl) hM.sub sub_dis _ hz13) ?_)
  rintro _ w21 ⟨A14, c15, A19, c20, rfl, hM2, hv16, hv17, hv18⟩
  obtain ⟨hM, hup23⟩ := hM.backG hM2
  dsimp only [List.cons_append, List.nil_append] at hM hup23
  clear hM2
  have hM := hM.add (y := .dat (sliceRep byteRep) y12.2.code [vL A14 y12.2.code c15]) (hup23 hv16)
  refine ⟨_, rfl, fun a hf => ?_⟩
  refine pl_l hf rfl rfl rfl (w_alloc hM (cs := [vL none (([] : (List Str))) 0]) Try.zeroValue45 rfl fun b24 w25 hx26 hM a hf => ?_)
  refine pl_0 hf rfl rfl (w_store hf hM (us := [vL A19 (y12.1.Words) c20]) (cs' := [vL A19 (y12.1.Words) c20]) rfl rfl (k := 0) rfl rfl Try.sizeOf45 rfl rfl rfl fun w28 hM => ?_)
  dsimp only [List.set] at hM
  refine pl_nil ?_
  refine then_n ?_
  obtain ⟨x44, h45, h⟩ := bind_some h
  refine seq_join (fun a w => ∃ (l31 : Str) (n34 : Int) (n36 : Int) (xs38 : (List Str)) (A32 : Option Addr) (c33 : Nat) (A39 : Option Addr) (c40 : Nat), (l31, n34, n36, xs38) = x44 ∧ Has 26 a [(2, vP b8 (0)), (3, vP b24 (0))] ∧ Mem C w [.row strRep A39 c40 9 xs38 true, .box b24 [vL A39 (xs38) c40] 45, .box b2 [vL A32 (l31) c33, vI (n34), vW (n36)] 135, .box b8 [vL none (([] : (List Str))) 0] 45] [.dat (sliceRep byteRep) l31 [vL A32 l31 c33], .dat (sliceRep byteRep) y12.2.code [vL A14 y12.2.code c15], .dat (sliceRep byteRep) s1.code [vL A3 s1.code c4]] ∧ R64 n34 ∧ U64 n36) ?_ ?_
  · refine wp_seq ?_
    refine region_pl ?_
    refine q_ hf rfl rfl rfl (e_move hf rfl) fun a hf => ?_
    have hM := hM.front (k := 1) rfl
    dsimp only [List.eraseIdx] at hM
    have hM : Mem C _ ([.box b2 [vL A14 (y12.2.code) c15, vI (y12.2.at_), vW (y12.2.seed)] 135] ++ [.box b24 [vL A19 (y12.1.Words) c20] 45, .row strRep A19 c20 9 y12.1.Words true, .box b8 [vL none (([] : (List Str))) 0] 45]) _ := hM
    obtain ⟨y46, hz47, h45⟩ := bind_some h45
    refine pl_l hf rfl rfl rfl (w_call hf Try.call118 rfl (r_spec_l00Src_pick ⟨_, Sh C _ _, ownB _, hM.sh_lt, sub_dis, C.G, hM.g_lt, hM.g_own, hM.tabs⟩ y12.2 _ _ _ (hM.dat (k := 0) rfl) hv17 hv18 20 (R64_lit rfl) hM.sub sub_dis _ hz47) ?_)
    rintro _ w54 ⟨A48, c49, rfl, hM2, hv50, hv51, hv52, hv53⟩
    obtain ⟨hM, hup56⟩ := hM.backG hM2
    dsimp only [List.cons_append, List.nil_append] at hM hup56
    clear hM2
    have hM := hM.add (y := .dat (sliceRep byteRep) y46.2.code [vL A48 y46.2.code c49]) (hup56 hv50)
    refine ⟨_, rfl, fun a hf => ?_⟩
    refine pl_nil ?_
    refine then_n ?_
    refine wp_block ?_
    refine wp_seq ?_
    refine region_pl ?_
    refine q_ hf rfl rfl rfl (e_eq hf (x := y46.1) (y := 0) rfl rfl) fun a hf => ?_
    refine q_ hf rfl rfl rfl (e_assign hf rfl) fun a hf => ?_
    refine pl_nil ?_
    refine then_n ?_
    rcases cond_some h45 with ⟨hc57, h45⟩ | ⟨hc57, h45⟩
    · refine cond_t hf rfl hc57 ?_
      obtain ⟨w58, hw⟩ : ∃ x, x = w54.drew := ⟨_, rfl⟩
      refine region_pi (.q 0 (.q 1 (.q 2 (.l 3 (.l 4 (.l 5 (.l 6 (.q 7 (.l 8 (.nil)))))))))) (ExtM [some b2] w58) rfl (by kernel_rfl) ?_
      have hM := hM.drew
      rw [← hw] at hM ⊢
      clear hw
      refine pi_q hf rfl rfl rfl rfl (ExtM.refl _ _) (e_field hf rfl Try.underlying45 rfl Try.sizeOf40 (o' := 0) rfl) fun a hf => ?_
      refine pi_q hf rfl rfl rfl rfl (ExtM.refl _ _) (e_load1M hf rfl Try.isAgg40 (hM.boxCell (k := 1) rfl rfl) (hM.apart (js := [0]) rfl (k := 1) rfl rfl rfl)) fun a hf => ?_
      refine pi_q hf rfl rfl rfl rfl (ExtM.refl _ _) (e_move hf rfl) fun a hf => ?_
      refine pi_one ?_
      refine pi_l hf rfl rfl rfl rfl (w_slice hf hM (K := strRep) (xs := ([([97] : Str), ([97, 110] : Str), ([122, 111, 111] : Str), ([90, 111, 111] : Str), ([122, 122, 122, 122, 122, 122, 122, 122, 122, 122, 122, 122, 122] : Str)] : (List Str))) (os := [.const (.string ⟨#[97]⟩), .const (.string ⟨#[97, 110]⟩), .const (.string ⟨#[122, 111, 111]⟩), .const (.string ⟨#[90, 111, 111]⟩), .const (.string ⟨#[122, 122, 122, 122, 122, 122, 122, 122, 122, 122, 122, 122, 122]⟩)]) Try.underlying40 ei_9 rfl rfl rfl rfl rfl ⟨⟨[vS (([97] : Str))], rfl, ⟨rfl, (lit_len rfl)⟩⟩, ⟨[vS (([97, 110] : Str))], rfl, ⟨rfl, (lit_len rfl)⟩⟩, ⟨[vS (([122, 111, 111] : Str))], rfl, ⟨rfl, (lit_len rfl)⟩⟩, ⟨[vS (([90, 111, 111] : Str))], rfl, ⟨rfl, (lit_len rfl)⟩⟩, ⟨[vS (([122, 122, 122, 122, 122, 122, 122, 122, 122, 122, 122, 122, 122] : Str))], rfl, ⟨rfl, (lit_len rfl)⟩⟩, trivial⟩ rfl fun b59 w60 hx61 hM => ⟨ExtM [some b2] w60, fun _ h => ExtM.trans hx61 h, ExtM.refl _ _, fun a hf => ?_⟩)
      refine pi_one ?_
      have hM := hM.freezeRow (k := 0) rfl rfl
      dsimp only [List.eraseIdx] at hM
      have hM : Mem C _ ([.box b2 [vL A48 (y46.2.code) c49, vI (y46.2.at_), vW (y46.2.seed)] 135] ++ [.box b24 [vL A19 (y12.1.Words) c20] 45, .row strRep A19 c20 9 y12.1.Words true, .box b8 [vL none (([] : (List Str))) 0] 45]) _ := hM
      obtain ⟨y62, hz63, h45⟩ := bind_some h45
      refine pi_l hf rfl rfl rfl rfl (w_call hf Try.call120 rfl (r_spec_l00Src_text ⟨_, Sh C _ _, ownB _, hM.sh_lt, sub_dis, C.G, hM.g_lt, hM.g_own, hM.tabs⟩ y46.2 _ _ _ (hM.dat (k := 1) rfl) hv51 hv52 ([([97] : Str), ([97, 110] : Str), ([122, 111, 111] : Str), ([90, 111, 111] : Str), ([122, 122, 122, 122, 122, 122, 122, 122, 122, 122, 122, 122, 122] : Str)] : (List Str)) _ _ (hM.dat (k := 0) rfl) hM.sub sub_dis _ hz63) ?_)
      rintro _ w70 ⟨A64, c65, rfl, hM2, hv66, hv67, hv68, hv69⟩
      have hxm73 := ExtM.ofChg (bs := [some b2]) hM2.chg ⟨List.mem_of_getElem? (i := 0) rfl, trivial⟩
      have hsz74 := hM2.chg.size
      obtain ⟨hM, hup72⟩ := hM.backG hM2
      dsimp only [List.cons_append, List.nil_append] at hM hup72
      clear hM2
      have hM := hM.add (y := .dat (sliceRep byteRep) y62.2.code [vL A64 y62.2.code c65]) (hup72 hv66)
      refine ⟨_, rfl, Ext w70, fun _ h => ExtM.last hxm73 hsz74 h, Ext.refl _, fun a hf => ?_⟩
      refine pi_one ?_
      refine pi_l hf rfl rfl rfl rfl (w_slice hf hM (K := strRep) (xs := ([y62.1] : (List Str))) (os := [.tmp 14]) Try.underlying40 ei_9 rfl rfl rfl rfl rfl ⟨⟨[vS (y62.1)], rfl, ⟨rfl, hv69⟩⟩, trivial⟩ rfl fun b75 w76 hx77 hM => ⟨Ext w76, fun _ h => Ext.trans hx77 h, Ext.refl _, fun a hf => ?_⟩)
      refine pi_one ?_
      obtain ⟨xs78, hz79, h45⟩ := bind_some h45
      refine pi_z hf rfl rfl rfl rfl (by kernel_rfl) (w_append hf hM Try.underlying40 ei_9 rfl rfl rfl (k := 3) rfl (hM.srcRow (k := 0) rfl) hz79 fun A80 c81 w82 hM a hf => ?_)
      dsimp only [List.set] at hM
      refine pi_q hf rfl rfl rfl rfl (Ext.refl _) (e_field hf rfl Try.underlying45 rfl Try.sizeOf40 (o' := 0) rfl) fun a hf => ?_
      refine pi_one ?_
      refine pi_z0 hf rfl rfl rfl (by kernel_rfl) (w_store hf hM (us := [vL A80 (xs78) c81]) (cs' := [vL A80 (xs78) c81]) rfl rfl (k := 2) rfl rfl Try.sizeOf40 rfl rfl rfl fun w85 hM => ?_)
      dsimp only [List.set] at hM
      refine pi_nil ?_
      refine blk_n ?_
      obtain rfl := some_inj h45
      refine then_n ?_
      have hM := hM.front (k := 4) rfl
      dsimp only [List.eraseIdx] at hM
      have hM := hM.front (k := 2) rfl
      dsimp only [List.eraseIdx] at hM
      have hM := hM.front (k := 3) rfl
      dsimp only [List.eraseIdx] at hM
      have hM := hM.front (k := 4) rfl
      dsimp only [List.eraseIdx] at hM
      exact ⟨y62.2.code, y62.2.at_, y62.2.seed, xs78, A64, c65, A80, c81, rfl, hf.keep ⟨rfl, rfl, trivial⟩, (hM.drop (.cons_cons _ (.cons_cons _ (.cons_cons _ (.cons_cons _ (.cons _ .slnil)))))).pick [0, 3, 4] rfl, hv67, hv68⟩
    · refine cond_f hf rfl hc57 ?_
      refine wp_seq ?_
      refine region_pl ?_
      refine q_ hf rfl rfl rfl (e_eq hf (x := y46.1) (y := 1) rfl rfl) fun a hf => ?_
      refine q_ hf rfl rfl rfl (e_assign hf rfl) fun a hf => ?_
      refine pl_nil ?_
      refine then_n ?_
      rcases cond_some h45 with ⟨hc89, h45⟩ | ⟨hc89, h45⟩
      · refine cond_t hf rfl hc89 ?_
        refine region_pl ?_
        refine q_ hf rfl rfl rfl (e_move hf rfl) fun a hf => ?_
        have hM : Mem C _ ([.box b2 [vL A48 (y46.2.code) c49, vI (y46.2.at_), vW (y46.2.seed)] 135] ++ [.box b24 [vL A19 (y12.1.Words) c20] 45, .row strRep A19 c20 9 y12.1.Words true, .box b8 [vL none (([] : (List Str))) 0] 45]) _ := hM
        obtain ⟨y90, hz91, h45⟩ := bind_some h45
        refine pl_l hf rfl rfl rfl (w_call hf Try.call118 rfl (r_spec_l00Src_pick ⟨_, Sh C _ _, ownB _, hM.sh_lt, sub_dis, C.G, hM.g_lt, hM.g_own, hM.tabs⟩ y46.2 _ _ _ (hM.dat (k := 0) rfl) hv51 hv52 2 (R64_lit rfl) hM.sub sub_dis _ hz91) ?_)
        rintro _ w98 ⟨A92, c93, rfl, hM2, hv94, hv95, hv96, hv97⟩
        obtain ⟨hM, hup100⟩ := hM.backG hM2
        dsimp only [List.cons_append, List.nil_append] at hM hup100
        clear hM2
        have hM := hM.add (y := .dat (sliceRep byteRep) y90.2.code [vL A92 y90.2.code c93]) (hup100 hv94)
        refine ⟨_, rfl, fun a hf => ?_⟩
        obtain ⟨z101, hz102, h45⟩ := bind_some h45
        refine q_ hf rfl rfl rfl (e_add hf rfl rfl hz102) fun a hf => ?_
        obtain ⟨y103, hz104, h45⟩ := bind_some h45
        refine pl_l hf rfl rfl rfl (w_call hf Try.call130 rfl (r_spec_l05Full ⟨_, Sh C _ _, none_, hM.sh_lt, none_not, C.G, hM.g_lt, g_none, hM.tabs⟩ z101 (chk_R hz102) _ hz104) ?_)
        rintro _ w107 ⟨A105, c106, rfl, hM2⟩
        obtain ⟨hM, hx108, hup109⟩ := hM.back hM2
        dsimp only [List.cons_append, List.nil_append] at hM hup109
        clear hM2
        refine ⟨_, rfl, fun a hf => ?_⟩
        refine q_ hf rfl rfl rfl (e_field hf rfl Try.underlying45 rfl Try.sizeOf40 (o' := 0) rfl) fun a hf => ?_
        refine pl_0 hf rfl rfl (w_store hf hM (us := [vL A105 (y103) c106]) (cs' := [vL A105 (y103) c106]) rfl rfl (k := 2) rfl rfl Try.sizeOf40 rfl rfl rfl fun w110 hM => ?_)
        dsimp only [List.set] at hM
        refine pl_nil ?_
        refine blk_n ?_
        obtain rfl := some_inj h45
        refine then_n ?_
        have hM := hM.front (k := 4) rfl
        dsimp only [List.eraseIdx] at hM
        have hM := hM.front (k := 2) rfl
        dsimp only [List.eraseIdx] at hM
        have hM := hM.front (k := 3) rfl
        dsimp only [List.eraseIdx] at hM
        have hM := hM.front (k := 3) rfl
        dsimp only [List.eraseIdx] at hM
        exact ⟨y90.2.code, y90.2.at_, y90.2.seed, y103, A92, c93, A105, c106, rfl, hf.keep ⟨rfl, rfl, trivial⟩, (hM.drop (.cons_cons _ (.cons_cons _ (.cons_cons _ (.cons_cons _ (.cons _ .slnil)))))).pick [0, 2, 3] rfl, hv95, hv96⟩
      · refine cond_f hf rfl hc89 ?_
        refine wp_skip ?_
        refine blk_n ?_
        obtain rfl := some_inj h45
        refine then_n ?_
        have hM := hM.front (k := 3) rfl
        dsimp only [List.eraseIdx] at hM
        have hM := hM.front (k := 1) rfl
        dsimp only [List.eraseIdx] at hM
        have hM := hM.front (k := 2) rfl
        dsimp only [List.eraseIdx] at hM
        have hM := hM.front (k := 3) rfl
        dsimp only [List.eraseIdx] at hM
        exact ⟨y46.2.code, y46.2.at_, y46.2.seed, y12.1.Words, A48, c49, A19, c20, rfl, hf.keep ⟨rfl, rfl, trivial⟩, hM.pick [0, 1, 2] rfl, hv51, hv52⟩
  · rintro a w115 ⟨l31, n34, n36, xs38, A32, c33, A39, c40, rfl, hf, hM, hv35, hv37⟩
    try dsimp only at h
    refine wp_seq ?_
    refine region_pl ?_
    refine q_ hf rfl rfl rfl (e_loadA hf (us := [vL A39 (xs38) c40]) rfl ⟨Try.isAgg45, Try.sizeOf45⟩ rfl (hM.boxSub (k := 1) (us := [vL A39 (xs38) c40]) (o := 0) rfl rfl)) fun a hf => ?_
    refine pl_0 hf rfl rfl (w_store hf hM (us := [vL A39 (xs38) c40]) (cs' := [vL A39 (xs38) c40]) rfl rfl (k := 3) rfl rfl Try.sizeOf45 rfl rfl rfl fun w116 hM => ?_)
    dsimp only [List.set] at hM
    refine pl_nil ?_
    refine then_n ?_
    refine wp_ret ?_
    obtain rfl := some_inj h
    have hres119 := leaveV1 (P := Try.prog) Try.results122 (res_agg hf rfl ⟨Try.isAgg45, Try.sizeOf45⟩ (us := [vL A39 (xs38) c40]) rfl (hM.boxSub (k := 3) (o := 0) rfl rfl))
    have hM := hM.front (k := 0) rfl
    dsimp only [List.eraseIdx] at hM
    have hM := hM.front (k := 2) rfl
    dsimp only [List.eraseIdx] at hM
    have hM := hM.outs (own' := [.box b2 [vL A32 (l31) c33, vI (n34), vW (n36)] 135, .row strRep A39 c40 9 xs38 true]) 2 rfl
    exact bodyPost_ret hres119 hf.defers ⟨A32, c33, A39, c40, rfl, hM.fin, (hM.dat (k := 0) rfl), hv35, hv37⟩

set_option maxRecDepth 100000 in
set_option maxHeartbeats 4000000 in
theorem r_spec_l05Make (C : Cx) (words1 : (List Str)) (A2 : Option Addr) (c3 : Nat) (hp4 : (sliceRep strRep).R C.w0 C.S0 words1 [vL A2 words1 c3]) (r : (List Str)) (h : m_spec_l05Make words1 = some r) :
    Calls Try.prog 131 #[vL A2 (words1) c3] C.w0 fun e w => ∃ (A_1 : Option Addr), ∃ (c_1 : Nat), e = .returned (vL A_1 (r) c_1) ∧ Mem C w [.row strRep A_1 c_1 9 r true] [] := by
  have hM := Mem.begin C [.dat (sliceRep strRep) words1 [vL A2 words1 c3]] ⟨hp4, trivial⟩
  refine enter Try.func131 rfl Try.ntmps131 rfl fun a hf => ?_
  unfold m_spec_l05Make at h
  refine wp_seq ?_
  refine region_pl ?_
  refine q_ hf rfl rfl rfl (e_assign hf rfl) fun a hf => ?_
  refine pl_nil ?_
  refine then_n ?_
  refine wp_seq ?_
  refine region_pl ?_
  refine pl_l hf rfl rfl rfl (w_slice0 (K := strRep) hM Try.underlying40 ei_9 fun b5 w6 hx7 hM a hf => ?_)
  refine q_ hf rfl rfl rfl (e_assign hf rfl) fun a hf => ?_
  refine pl_nil ?_
  refine then_n ?_
  obtain ⟨x11, h12, h⟩ := bind_some h
  refine seq_join (fun a w => ∃ (xs8 : (List Str)) (A9 : Option Addr) (c10 : Nat), xs8 = x11 ∧ Has 19 a [(3, vL A9 (xs8) c10)] ∧ Mem C w [.row strRep A9 c10 9 xs8 true] [.dat (sliceRep strRep) words1 [vL A2 words1 c3]]) ?_ ?_
  · refine wp_seq ?_
    refine region_pl ?_
    refine q_ hf rfl rfl rfl (e_assign hf rfl) fun a hf => ?_
    refine pl_nil ?_
    refine then_n ?_
    refine wp_block ?_
    obtain ⟨x22, h23, h12⟩ := bind_some h12
    refine wp_loopM h23 (fun s a w => ∃ (xs13 : (List Str)) (n16 : Int) (A14 : Option Addr) (c15 : Nat), (xs13, n16) = s ∧ Has 19 a [(0, vL A2 (words1) c3), (3, vL A14 (xs13) c15), (4, vI (n16))] ∧ Mem C w [.row strRep A14 c15 9 xs13 true] [.dat (sliceRep strRep) words1 [vL A2 words1 c3]] ∧ R64 n16) ?_ ?_
    · exact ⟨([] : (List Str)), 0, (some ⟨b5, 0, none⟩), 0, rfl, hf.keep ⟨rfl, rfl, rfl, trivial⟩, hM.pick [0] rfl, (R64_lit rfl)⟩
    · rintro s o24 a w18 ⟨xs13, n16, A14, c15, rfl, hf, hM, hv17⟩ h25 hd26
      replace h25 : m_spec_l05Make_l1 words1 xs13 n16 = some o24 := h25
      unfold m_spec_l05Make_l1 at h25
      refine wp_seq ?_
      refine wp_seq ?_
      refine region_pl ?_
      refine q_ hf rfl rfl rfl (e_move hf rfl) fun a hf => ?_
      refine q_ hf rfl rfl rfl (e_move hf rfl) fun a hf => ?_
      have hl27 := slice_len (hM.dat (k := 0) rfl)
      refine q_ hf rfl rfl rfl (e_lenL hf (x := words1) rfl Try.underlying40) fun a hf => ?_
      refine q_ hf rfl rfl rfl (e_lt hf (x := n16) (y := (words1.length : Int)) rfl rfl) fun a hf => ?_
      refine pl_nil ?_
      refine then_n ?_
      rcases cond_some h25 with ⟨hc28, h25⟩ | ⟨hc28, h25⟩
      · refine cond_t hf rfl hc28 ?_
        refine wp_skip ?_
        refine then_n ?_
        refine wp_seq ?_
        refine wp_block ?_
        refine region_pl ?_
        refine q_ hf rfl rfl rfl (e_move hf rfl) fun a hf => ?_
        refine q_ hf rfl rfl rfl (e_move hf rfl) fun a hf => ?_
        refine q_ hf rfl rfl rfl (e_move hf rfl) fun a hf => ?_
        obtain ⟨e29, hz30, h25⟩ := bind_some h25
        obtain ⟨b34, o35, _, hA36, h31, h32, hr33, hM⟩ := hM.elem (hM.dat (k := 0) rfl) (n := 1) rfl hz30
        obtain ⟨rfl, hv37⟩ := hr33
        refine q_ hf rfl rfl rfl (e_indexAddr (A := A2) (b := b34) (o := o35) (xs := words1) (i := n16) hf hA36 rfl rfl Try.underlying40 Try.sizeOf9 h31 h32) fun a hf => ?_
        refine q_ hf rfl rfl rfl (e_load1 hf rfl Try.isAgg9 (hM.litCell (k := 0) (j := 0) rfl rfl rfl)) fun a hf => ?_
        have hM : Mem C _ ([.row strRep A14 c15 9 xs13 true] ++ []) _ := hM
        obtain ⟨y38, hz39, h25⟩ := bind_some h25
        refine pl_l hf rfl rfl rfl (w_call hf Try.call124 rfl (r_spec_l03Insert ⟨_, Sh C _ _, ownB _, hM.sh_lt, sub_dis, C.G, hM.g_lt, hM.g_own, hM.tabs⟩ xs13 _ _ e29 hv37 hM.sub sub_dis _ hz39) ?_)
        rintro _ w42 ⟨A40, c41, rfl, hM2⟩
        obtain ⟨hM, hup44⟩ := hM.backG hM2
        dsimp only [List.cons_append, List.nil_append] at hM hup44
        clear hM2
        refine ⟨_, rfl, fun a hf => ?_⟩
        refine q_ hf rfl rfl rfl (e_assign hf rfl) fun a hf => ?_
        refine pl_nil ?_
        refine blk_n ?_
        refine then_n ?_
        refine region_pl ?_
        refine q_ hf rfl rfl rfl (e_move hf rfl) fun a hf => ?_
        obtain ⟨z45, hz46, h25⟩ := bind_some h25
        refine q_ hf rfl rfl rfl (e_add hf rfl rfl hz46) fun a hf => ?_
        refine q_ hf rfl rfl rfl (e_assign hf rfl) fun a hf => ?_
        refine pl_nil ?_
        obtain rfl := some_inj h25
        refine then_n ⟨_, rfl, ?_⟩
        exact ⟨y38, z45, A40, c41, rfl, hf.keep ⟨rfl, rfl, rfl, trivial⟩, hM.pick [1] rfl, (chk_R hz46)⟩
      · refine cond_f hf rfl hc28 ?_
        refine wp_exit ?_
        refine then_x ?_
        obtain rfl := some_inj h25
        obtain rfl := hd26 _ rfl
        try dsimp only at h12
        refine then_x ?_
        refine exit_hit ?_
        obtain rfl := some_inj h12
        refine then_n ?_
        exact ⟨xs13, A14, c15, rfl, hf.keep ⟨rfl, trivial⟩, hM.pick [0] rfl⟩
  · rintro a w52 ⟨xs8, A9, c10, rfl, hf, hM⟩
    try dsimp only at h
    refine wp_seq ?_
    refine region_pl ?_
    refine q_ hf rfl rfl rfl (e_move hf rfl) fun a hf => ?_
    refine q_ hf rfl rfl rfl (e_assign hf rfl) fun a hf => ?_
    refine pl_nil ?_
    refine then_n ?_
    refine wp_ret ?_
    obtain rfl := some_inj h
    exact leave1 hf rfl rfl ⟨A9, c10, rfl, hM.fin⟩

set_option maxRecDepth 100000 in
set_option maxHeartbeats 4000000 in
theorem r_spec_l12All (C : Cx)  (r : Lexicon) (h : m_spec_l12All = some r) :
    Calls Try.prog 123 #[] C.w0 fun e w => ∃ (A_1 : Option Addr), ∃ (c_1 : Nat), e = .returned (.agg #[vL A_1 (r.Words) c_1]) ∧ Mem C w [.row strRep A_1 c_1 9 r.Words true] [] := by
  have hM := Mem.begin C [] trivial
  refine enter Try.func123 rfl Try.ntmps123 rfl fun a hf => ?_
  unfold m_spec_l12All at h
  refine wp_seq ?_
  refine region_pl ?_
  refine pl_l hf rfl rfl rfl (w_alloc hM (cs := [vL none (([] : (List Str))) 0]) Try.zeroValue45 rfl fun b1 w2 hx3 hM a hf => ?_)
  refine pl_nil ?_
  refine then_n ?_
  refine wp_seq ?_
  refine region_pl ?_
  obtain ⟨y5, hz6, h⟩ := bind_some h
  refine pl_l hf rfl rfl rfl (w_call hf Try.call132 rfl (r_spec_l05Some ⟨_, Sh C _ _, none_, hM.sh_lt, none_not, C.G, hM.g_lt, g_none, hM.tabs⟩ _ hz6) ?_)
  rintro _ w9 ⟨A7, c8, rfl, hM2⟩
  obtain ⟨hM, hx10, hup11⟩ := hM.back hM2
  dsimp only [List.cons_append, List.nil_append] at hM hup11
  clear hM2
  refine ⟨_, rfl, fun a hf => ?_⟩
  obtain ⟨y12, hz13, h⟩ := bind_some h
  refine pl_l hf rfl rfl rfl (w_call hf Try.call131 rfl (r_spec_l05Make ⟨_, All C _ _, none_, hM.all_lt, none_not, C.G, hM.g_lt, g_none, hM.tabs⟩ y5 _ _ (hM.lendRow (k := 0) rfl) _ hz13) ?_)
  rintro _ w16 ⟨A14, c15, rfl, hM2⟩
  obtain ⟨hM, hx17⟩ := hM.backAF strRep_flat hM2
  clear hM2
  refine ⟨_, rfl, fun a hf => ?_⟩
  refine q_ hf rfl rfl rfl (e_build hf Try.zeroValue45 Try.underlying45 (bp_45 _ Try.underlying45.symm) rfl (cs := #[vL A14 (y12) c15]) (by kernel_rfl)) fun a hf => ?_
  refine pl_0 hf rfl rfl (w_store hf hM (us := [vL A14 (y12) c15]) (cs' := [vL A14 (y12) c15]) rfl rfl (k := 2) rfl rfl Try.sizeOf45 rfl rfl rfl fun w19 hM => ?_)
  dsimp only [List.set] at hM
  refine pl_nil ?_
  refine then_n ?_
  refine wp_ret ?_
  obtain rfl := some_inj h
  have hres22 := leaveV1 (P := Try.prog) Try.results123 (res_agg hf rfl ⟨Try.isAgg45, Try.sizeOf45⟩ (us := [vL A14 (y12) c15]) rfl (hM.boxSub (k := 2) (o := 0) rfl rfl))
  have hM := hM.outs (own' := [.row strRep A14 c15 9 y12 true]) 1 rfl
  exact bodyPost_ret hres22 hf.defers ⟨A14, c15, rfl, hM.fin⟩

set_option maxRecDepth 100000 in
set_option maxHeartbeats 4000000 in
theorem r_spec_l25Lexicon (C : Cx) (s1 : l00Src) (b2 : Nat) (A3 : Option Addr) (c4 : Nat) (hp5 : (sliceRep byteRep).R C.w0 C.S0 s1.code [vL A3 s1.code c4]) (hp6 : R64 s1.at_) (hp7 : U64 s1.seed) (hO : Mem C C.w0 [.box b2 [vL A3 (s1.code) c4, vI (s1.at_), vW (s1.seed)] 135] []) (hd : ∀ b, C.S0 b → ¬ ownB [.box b2 [vL A3 (s1.code) c4, vI (s1.at_), vW (s1.seed)] 135] b) (r : (Lexicon × l00Src)) (h : m_spec_l25Lexicon s1 = some r) :
    Calls Try.prog 106 #[vP b2 (0)] C.w0 fun e w => ∃ (A_1 : Option Addr), ∃ (c_1 : Nat), ∃ (A_2 : Option Addr), ∃ (c_2 : Nat), e = .returned (.agg #[vL A_2 (r.1.Words) c_2]) ∧ Mem C w [.box b2 [vL A_1 (r.2.code) c_1, vI (r.2.at_), vW (r.2.seed)] 135, .row strRep A_2 c_2 9 r.1.Words true] [] ∧ (sliceRep byteRep).R w (Sh C [.box b2 [vL A_1 (r.2.code) c_1, vI (r.2.at_), vW (r.2.seed)] 135, .row strRep A_2 c_2 9 r.1.Words true] w) r.2.code [vL A_1 r.2.code c_1] ∧ R64 r.2.at_ ∧ U64 r.2.seed := by
  have hM := hO
  have hM := hM.addIn hd (y := .dat (sliceRep byteRep) s1.code [vL A3 s1.code c4]) hp5
  refine enter Try.func106 rfl Try.ntmps106 rfl fun a hf => ?_
  unfold m_spec_l25Lexicon at h
  refine wp_seq ?_
  refine region_pl ?_
  refine pl_l hf rfl rfl rfl (w_alloc hM (cs := [vL none (([] : (List Str))) 0]) Try.zeroValue45 rfl fun b8 w9 hx10 hM a hf => ?_)
  refine pl_nil ?_
  refine then_n ?_
  refine wp_seq ?_
  refine wp_seq ?_
  refine region_pl ?_
  refine q_ hf rfl rfl rfl (e_move hf rfl) fun a hf => ?_
  have hM := hM.front (k := 1) rfl
  dsimp only [List.eraseIdx] at hM
  have hM : Mem C _ ([.box b2 [vL A3 (s1.code) c4, vI (s1.at_), vW (s1.seed)] 135] ++ [.box b8 [vL none (([] : (List Str))) 0] 45]) _ := hM
  obtain ⟨y12, hz13, h⟩ := bind_some h
  refine pl_l hf rfl rfl rfl (w_call hf Try.call118 rfl (r_spec_l00Src_pick ⟨_, Sh C _ _, ownB _, hM.sh_lt, sub_dis, C.G, hM.g_lt, hM.g_own, hM.tabs⟩ s1 _ _ _ (hM.dat (k := 0) rfl) hp6 hp7 5 (R64_lit rfl) hM.sub sub_dis _ hz13) ?_)
  rintro _ w20 ⟨A14, c15, rfl, hM2, hv16, hv17, hv18, hv19⟩
  obtain ⟨hM, hup22⟩ := hM.backG hM2
  dsimp only [List.cons_append, List.nil_append] at hM hup22
  clear hM2
  have hM := hM.add (y := .dat (sliceRep byteRep) y12.2.code [vL A14 y12.2.code c15]) (hup22 hv16)
  refine ⟨_, rfl, fun a hf => ?_⟩
  refine pl_nil ?_
  refine then_n ?_
  refine wp_block ?_
  refine wp_seq ?_
  refine region_pl ?_
  refine q_ hf rfl rfl rfl (e_eq hf (x := y12.1) (y := 0) rfl rfl) fun a hf => ?_
  refine q_ hf rfl rfl rfl (e_assign hf rfl) fun a hf => ?_
  refine pl_nil ?_
  refine then_n ?_
  rcases cond_some h with ⟨hc23, h⟩ | ⟨hc23, h⟩
  · refine cond_t hf rfl hc23 ?_
    refine wp_seq ?_
    refine region_pl ?_
    refine q_ hf rfl rfl rfl (e_move hf rfl) fun a hf => ?_
    have hM : Mem C _ ([.box b2 [vL A14 (y12.2.code) c15, vI (y12.2.at_), vW (y12.2.seed)] 135] ++ [.box b8 [vL none (([] : (List Str))) 0] 45]) _ := hM
    obtain ⟨y24, hz25, h⟩ := bind_some h
    refine pl_l hf rfl rfl rfl (w_call hf Try.call122 rfl (r_spec_l05Bent ⟨_, Sh C _ _, ownB _, hM.sh_lt, sub_dis, C.G, hM.g_lt, hM.g_own, hM.tabs⟩ y12.2 _ _ _ (hM.dat (k := 0) rfl) hv17 hv18 hM.sub sub_dis _ hz25) ?_)
    rintro _ w33 ⟨A26, c27, A31, c32, rfl, hM2, hv28, hv29, hv30⟩
    obtain ⟨hM, hup35⟩ := hM.backG hM2
    dsimp only [List.cons_append, List.nil_append] at hM hup35
    clear hM2
    have hM := hM.add (y := .dat (sliceRep byteRep) y24.2.code [vL A26 y24.2.code c27]) (hup35 hv28)
    refine ⟨_, rfl, fun a hf => ?_⟩
    refine pl_0 hf rfl rfl (w_store hf hM (us := [vL A31 (y24.1.Words) c32]) (cs' := [vL A31 (y24.1.Words) c32]) rfl rfl (k := 2) rfl rfl Try.sizeOf45 rfl rfl rfl fun w36 hM => ?_)
    dsimp only [List.set] at hM
    refine pl_nil ?_
    refine then_n ?_
    refine wp_ret ?_
    refine blk_r ?_
    refine then_r ?_
    obtain rfl := some_inj h
    have hres39 := leaveV1 (P := Try.prog) Try.results106 (res_agg hf rfl ⟨Try.isAgg45, Try.sizeOf45⟩ (us := [vL A31 (y24.1.Words) c32]) rfl (hM.boxSub (k := 2) (o := 0) rfl rfl))
    have hM := hM.outs (own' := [.box b2 [vL A26 (y24.2.code) c27, vI (y24.2.at_), vW (y24.2.seed)] 135, .row strRep A31 c32 9 y24.1.Words true]) 2 rfl
    exact bodyPost_ret hres39 hf.defers ⟨A26, c27, A31, c32, rfl, hM.fin, (hM.dat (k := 0) rfl), hv29, hv30⟩
  · refine cond_f hf rfl hc23 ?_
    refine wp_seq ?_
    refine region_pl ?_
    refine q_ hf rfl rfl rfl (e_eq hf (x := y12.1) (y := 1) rfl rfl) fun a hf => ?_
    refine q_ hf rfl rfl rfl (e_assign hf rfl) fun a hf => ?_
    refine pl_nil ?_
    refine then_n ?_
    rcases cond_some h with ⟨hc40, h⟩ | ⟨hc40, h⟩
    · refine cond_t hf rfl hc40 ?_
      refine wp_seq ?_
      refine region_pl ?_
      obtain ⟨y41, hz42, h⟩ := bind_some h
      refine pl_l hf rfl rfl rfl (w_call hf Try.call123 rfl (r_spec_l12All ⟨_, Sh C _ _, none_, hM.sh_lt, none_not, C.G, hM.g_lt, g_none, hM.tabs⟩ _ hz42) ?_)
      rintro _ w45 ⟨A43, c44, rfl, hM2⟩
      obtain ⟨hM, hx46, hup47⟩ := hM.back hM2
      dsimp only [List.cons_append, List.nil_append] at hM hup47
      clear hM2
      refine ⟨_, rfl, fun a hf => ?_⟩
      refine pl_0 hf rfl rfl (w_store hf hM (us := [vL A43 (y41.Words) c44]) (cs' := [vL A43 (y41.Words) c44]) rfl rfl (k := 2) rfl rfl Try.sizeOf45 rfl rfl rfl fun w48 hM => ?_)
      dsimp only [List.set] at hM
      refine pl_nil ?_
      refine then_n ?_
      refine wp_ret ?_
      refine blk_r ?_
      refine then_r ?_
      obtain rfl := some_inj h
      have hres51 := leaveV1 (P := Try.prog) Try.results106 (res_agg hf rfl ⟨Try.isAgg45, Try.sizeOf45⟩ (us := [vL A43 (y41.Words) c44]) rfl (hM.boxSub (k := 2) (o := 0) rfl rfl))
      have hM := hM.front (k := 0) rfl
      dsimp only [List.eraseIdx] at hM
      have hM := hM.front (k := 1) rfl
      dsimp only [List.eraseIdx] at hM
      have hM := hM.outs (own' := [.box b2 [vL A14 (y12.2.code) c15, vI (y12.2.at_), vW (y12.2.seed)] 135, .row strRep A43 c44 9 y41.Words true]) 2 rfl
      exact bodyPost_ret hres51 hf.defers ⟨A14, c15, A43, c44, rfl, hM.fin, (hM.dat (k := 0) rfl), hv17, hv18⟩
    · refine cond_f hf rfl hc40 ?_
      refine wp_skip ?_
      refine blk_n ?_
      refine then_n ?_
      refine wp_seq ?_
      refine region_pl ?_
      refine pl_l hf rfl rfl rfl (w_slice0 (K := strRep) hM Try.underlying40 ei_9 fun b52 w53 hx54 hM a hf => ?_)
      refine q_ hf rfl rfl rfl (e_assign hf rfl) fun a hf => ?_
      refine pl_nil ?_
      refine then_n ?_
      obtain ⟨x65, h66, h⟩ := bind_some h
      refine seq_join (fun a w => ∃ (l55 : Str) (n58 : Int) (n60 : Int) (xs62 : (List Str)) (A56 : Option Addr) (c57 : Nat) (A63 : Option Addr) (c64 : Nat), (l55, n58, n60, xs62) = x65 ∧ Has 28 a [(2, vP b8 (0)), (3, vL A63 (xs62) c64)] ∧ Mem C w [.row strRep A63 c64 9 xs62 true, .box b2 [vL A56 (l55) c57, vI (n58), vW (n60)] 135, .box b8 [vL none (([] : (List Str))) 0] 45] [.dat (sliceRep byteRep) l55 [vL A56 l55 c57], .dat (sliceRep byteRep) y12.2.code [vL A14 y12.2.code c15], .dat (sliceRep byteRep) s1.code [vL A3 s1.code c4]] ∧ R64 n58 ∧ U64 n60) ?_ ?_
      · refine wp_seq ?_
        refine region_pl ?_
        refine q_ hf rfl rfl rfl (e_move hf rfl) fun a hf => ?_
        have hM := hM.front (k := 1) rfl
        dsimp only [List.eraseIdx] at hM
        have hM : Mem C _ ([.box b2 [vL A14 (y12.2.code) c15, vI (y12.2.at_), vW (y12.2.seed)] 135] ++ [.row strRep (some ⟨b52, 0, none⟩) 0 9 ([] : (List Str)) true, .box b8 [vL none (([] : (List Str))) 0] 45]) _ := hM
        obtain ⟨y67, hz68, h66⟩ := bind_some h66
        refine pl_l hf rfl rfl rfl (w_call hf Try.call118 rfl (r_spec_l00Src_pick ⟨_, Sh C _ _, ownB _, hM.sh_lt, sub_dis, C.G, hM.g_lt, hM.g_own, hM.tabs⟩ y12.2 _ _ _ (hM.dat (k := 0) rfl) hv17 hv18 26 (R64_lit rfl) hM.sub sub_dis _ hz68) ?_)
        rintro _ w75 ⟨A69, c70, rfl, hM2, hv71, hv72, hv73, hv74⟩
        obtain ⟨hM, hup77⟩ := hM.backG hM2
        dsimp only [List.cons_append, List.nil_append] at hM hup77
        clear hM2
        have hM := hM.add (y := .dat (sliceRep byteRep) y67.2.code [vL A69 y67.2.code c70]) (hup77 hv71)
        refine ⟨_, rfl, fun a hf => ?_⟩
        refine q_ hf rfl rfl rfl (e_assign hf rfl) fun a hf => ?_
        refine pl_nil ?_
        refine then_n ?_
        refine wp_block ?_
        obtain ⟨x101, h102, h66⟩ := bind_some h66
        refine wp_loopM h102 (fun s a w => ∃ (l78 : Str) (n81 : Int) (n83 : Int) (xs85 : (List Str)) (n88 : Int) (A79 : Option Addr) (c80 : Nat) (A86 : Option Addr) (c87 : Nat), (l78, n81, n83, xs85, n88) = s ∧ Has 28 a [(0, vP b2 (0)), (2, vP b8 (0)), (3, vL A86 (xs85) c87), (4, vI (n88))] ∧ Mem C w [.row strRep A86 c87 9 xs85 true, .box b2 [vL A79 (l78) c80, vI (n81), vW (n83)] 135, .box b8 [vL none (([] : (List Str))) 0] 45] [.dat (sliceRep byteRep) l78 [vL A79 l78 c80], .dat (sliceRep byteRep) y67.2.code [vL A69 y67.2.code c70], .dat (sliceRep byteRep) y12.2.code [vL A14 y12.2.code c15], .dat (sliceRep byteRep) s1.code [vL A3 s1.code c4]] ∧ R64 n81 ∧ U64 n83 ∧ R64 n88) ?_ ?_
        · have hM := hM.front (k := 2) rfl
          dsimp only [List.eraseIdx] at hM
          have hM := hM.front (k := 1) rfl
          dsimp only [List.eraseIdx] at hM
          have hM := hM.front (k := 2) rfl
          dsimp only [List.eraseIdx] at hM
          exact ⟨y67.2.code, y67.2.at_, y67.2.seed, ([] : (List Str)), y67.1, A69, c70, (some ⟨b52, 0, none⟩), 0, rfl, hf.keep ⟨rfl, rfl, rfl, rfl, trivial⟩, hM.pick [0, 0, 1, 2] rfl, hv72, hv73, hv74⟩
        · rintro s o103 a w90 ⟨l78, n81, n83, xs85, n88, A79, c80, A86, c87, rfl, hf, hM, hv82, hv84, hv89⟩ h104 hd105
          replace h104 : m_spec_l25Lexicon_l1 l78 n81 n83 xs85 n88 = some o103 := h104
          unfold m_spec_l25Lexicon_l1 at h104
          refine wp_seq ?_
          refine wp_seq ?_
          refine region_pl ?_
          refine q_ hf rfl rfl rfl (e_move hf rfl) fun a hf => ?_
          refine q_ hf rfl rfl rfl (e_gt hf (x := n88) (y := 0) rfl rfl) fun a hf => ?_
          refine pl_nil ?_
          refine then_n ?_
          rcases cond_some h104 with ⟨hc106, h104⟩ | ⟨hc106, h104⟩
          · refine cond_t hf rfl hc106 ?_
            refine wp_skip ?_
            refine then_n ?_
            refine wp_seq ?_
            refine wp_block ?_
            refine region_pl ?_
            refine q_ hf rfl rfl rfl (e_move hf rfl) fun a hf => ?_
            refine q_ hf rfl rfl rfl (e_move hf rfl) fun a hf => ?_
            refine pl_l hf rfl rfl rfl (w_slice hf hM (K := strRep) (xs := ([([97, 110] : Str), ([97, 116] : Str), ([116, 97] : Str), ([101, 110] : Str), ([101, 116] : Str), ([116, 101] : Str), ([97, 116, 101] : Str), ([101, 97, 116] : Str), ([116, 101, 97] : Str), ([116, 101, 110] : Str), ([110, 101, 116] : Str), ([116, 97, 116] : Str), ([97, 110, 116] : Str), ([110, 97, 116] : Str), ([101, 116, 97] : Str), ([116, 116] : Str), ([97, 97] : Str), ([101, 101] : Str), ([116, 101, 116, 101] : Str), ([97, 110, 116, 97] : Str), ([116, 97, 116, 101] : Str), ([110, 101, 116, 116] : Str)] : (List Str))) (os := [.const (.string ⟨#[97, 110]⟩), .const (.string ⟨#[97, 116]⟩), .const (.string ⟨#[116, 97]⟩), .const (.string ⟨#[101, 110]⟩), .const (.string ⟨#[101, 116]⟩), .const (.string ⟨#[116, 101]⟩), .const (.string ⟨#[97, 116, 101]⟩), .const (.string ⟨#[101, 97, 116]⟩), .const (.string ⟨#[116, 101, 97]⟩), .const (.string ⟨#[116, 101, 110]⟩), .const (.string ⟨#[110, 101, 116]⟩), .const (.string ⟨#[116, 97, 116]⟩), .const (.string ⟨#[97, 110, 116]⟩), .const (.string ⟨#[110, 97, 116]⟩), .const (.string ⟨#[101, 116, 97]⟩), .const (.string ⟨#[116, 116]⟩), .const (.string ⟨#[97, 97]⟩), .const (.string ⟨#[101, 101]⟩), .const (.string ⟨#[116, 101, 116, 101]⟩), .const (.string ⟨#[97, 110, 116, 97]⟩), .const (.string ⟨#[116, 97, 116, 101]⟩), .const (.string ⟨#[110, 101, 116, 116]⟩)]) Try.underlying40 ei_9 rfl rfl rfl rfl rfl ⟨⟨[vS (([97, 110] : Str))], rfl, ⟨rfl, (lit_len rfl)⟩⟩, ⟨[vS (([97, 116] : Str))], rfl, ⟨rfl, (lit_len rfl)⟩⟩, ⟨[vS (([116, 97] : Str))], rfl, ⟨rfl, (lit_len rfl)⟩⟩, ⟨[vS (([101, 110] : Str))], rfl, ⟨rfl, (lit_len rfl)⟩⟩, ⟨[vS (([101, 116] : Str))], rfl, ⟨rfl, (lit_len rfl)⟩⟩, ⟨[vS (([116, 101] : Str))], rfl, ⟨rfl, (lit_len rfl)⟩⟩, ⟨[vS (([97, 116, 101] : Str))], rfl, ⟨rfl, (lit_len rfl)⟩⟩, ⟨[vS (([101, 97, 116] : Str))], rfl, ⟨rfl, (lit_len rfl)⟩⟩, ⟨[vS (([116, 101, 97] : Str))], rfl, ⟨rfl, (lit_len rfl)⟩⟩, ⟨[vS (([116, 101, 110] : Str))], rfl, ⟨rfl, (lit_len rfl)⟩⟩, ⟨[vS (([110, 101, 116] : Str))], rfl, ⟨rfl, (lit_len rfl)⟩⟩, ⟨[vS (([116, 97, 116] : Str))], rfl, ⟨rfl, (lit_len rfl)⟩⟩, ⟨[vS (([97, 110, 116] : Str))], rfl, ⟨rfl, (lit_len rfl)⟩⟩, ⟨[vS (([110, 97, 116] : Str))], rfl, ⟨rfl, (lit_len rfl)⟩⟩, ⟨[vS (([101, 116, 97] : Str))], rfl, ⟨rfl, (lit_len rfl)⟩⟩, ⟨[vS (([116, 116] : Str))], rfl, ⟨rfl, (lit_len rfl)⟩⟩, ⟨[vS (([97, 97] : Str))], rfl, ⟨rfl, (lit_len rfl)⟩⟩, ⟨[vS (([101, 101] : Str))], rfl, ⟨rfl, (lit_len rfl)⟩⟩, ⟨[vS (([116, 101, 116, 101] : Str))], rfl, ⟨rfl, (lit_len rfl)⟩⟩, ⟨[vS (([97, 110, 116, 97] : Str))], rfl, ⟨rfl, (lit_len rfl)⟩⟩, ⟨[vS (([116, 97, 116, 101] : Str))], rfl, ⟨rfl, (lit_len rfl)⟩⟩, ⟨[vS (([110, 101, 116, 116] : Str))], rfl, ⟨rfl, (lit_len rfl)⟩⟩, trivial⟩ rfl fun b107 w108 hx109 hM a hf => ?_)
            have hM := hM.freezeRow (k := 0) rfl rfl
            dsimp only [List.eraseIdx] at hM
            have hM := hM.front (k := 1) rfl
            dsimp only [List.eraseIdx] at hM
            have hM : Mem C _ ([.box b2 [vL A79 (l78) c80, vI (n81), vW (n83)] 135] ++ [.row strRep A86 c87 9 xs85 true, .box b8 [vL none (([] : (List Str))) 0] 45]) _ := hM
            obtain ⟨y110, hz111, h104⟩ := bind_some h104
            refine pl_l hf rfl rfl rfl (w_call hf Try.call120 rfl (r_spec_l00Src_text ⟨_, Sh C _ _, ownB _, hM.sh_lt, sub_dis, C.G, hM.g_lt, hM.g_own, hM.tabs⟩ (⟨l78, n81, n83⟩ : l00Src) _ _ _ (hM.dat (k := 1) rfl) hv82 hv84 ([([97, 110] : Str), ([97, 116] : Str), ([116, 97] : Str), ([101, 110] : Str), ([101, 116] : Str), ([116, 101] : Str), ([97, 116, 101] : Str), ([101, 97, 116] : Str), ([116, 101, 97] : Str), ([116, 101, 110] : Str), ([110, 101, 116] : Str), ([116, 97, 116] : Str), ([97, 110, 116] : Str), ([110, 97, 116] : Str), ([101, 116, 97] : Str), ([116, 116] : Str), ([97, 97] : Str), ([101, 101] : Str), ([116, 101, 116, 101] : Str), ([97, 110, 116, 97] : Str), ([116, 97, 116, 101] : Str), ([110, 101, 116, 116] : Str)] : (List Str)) _ _ (hM.dat (k := 0) rfl) hM.sub sub_dis _ hz111) ?_)
            rintro _ w118 ⟨A112, c113, rfl, hM2, hv114, hv115, hv116, hv117⟩
            obtain ⟨hM, hup120⟩ := hM.backG hM2
            dsimp only [List.cons_append, List.nil_append] at hM hup120
            clear hM2
            have hM := hM.add (y := .dat (sliceRep byteRep) y110.2.code [vL A112 y110.2.code c113]) (hup120 hv114)
            refine ⟨_, rfl, fun a hf => ?_⟩
            have hM := hM.front (k := 1) rfl
            dsimp only [List.eraseIdx] at hM
            have hM : Mem C _ ([.row strRep A86 c87 9 xs85 true] ++ [.box b2 [vL A112 (y110.2.code) c113, vI (y110.2.at_), vW (y110.2.seed)] 135, .box b8 [vL none (([] : (List Str))) 0] 45]) _ := hM
            obtain ⟨y121, hz122, h104⟩ := bind_some h104
            refine pl_l hf rfl rfl rfl (w_call hf Try.call124 rfl (r_spec_l03Insert ⟨_, Sh C _ _, ownB _, hM.sh_lt, sub_dis, C.G, hM.g_lt, hM.g_own, hM.tabs⟩ xs85 _ _ y110.1 hv117 hM.sub sub_dis _ hz122) ?_)
            rintro _ w125 ⟨A123, c124, rfl, hM2⟩
            obtain ⟨hM, hup127⟩ := hM.backG hM2
            dsimp only [List.cons_append, List.nil_append] at hM hup127
            clear hM2
            refine ⟨_, rfl, fun a hf => ?_⟩
            refine q_ hf rfl rfl rfl (e_assign hf rfl) fun a hf => ?_
            refine pl_nil ?_
            refine blk_n ?_
            refine then_n ?_
            refine region_pl ?_
            refine q_ hf rfl rfl rfl (e_move hf rfl) fun a hf => ?_
            obtain ⟨z128, hz129, h104⟩ := bind_some h104
            refine q_ hf rfl rfl rfl (e_sub hf rfl rfl hz129) fun a hf => ?_
            refine q_ hf rfl rfl rfl (e_assign hf rfl) fun a hf => ?_
            refine pl_nil ?_
            obtain rfl := some_inj h104
            refine then_n ⟨_, rfl, ?_⟩
            exact ⟨y110.2.code, y110.2.at_, y110.2.seed, y121, z128, A112, c113, A123, c124, rfl, hf.keep ⟨rfl, rfl, rfl, rfl, trivial⟩, hM.pick [0, 3, 4, 5] rfl, hv115, hv116, (chk_R hz129)⟩
          · refine cond_f hf rfl hc106 ?_
            refine wp_exit ?_
            refine then_x ?_
            obtain rfl := some_inj h104
            obtain rfl := hd105 _ rfl
            try dsimp only at h66
            refine then_x ?_
            refine exit_hit ?_
            obtain rfl := some_inj h66
            refine then_n ?_
            exact ⟨l78, n81, n83, xs85, A79, c80, A86, c87, rfl, hf.keep ⟨rfl, rfl, trivial⟩, hM.pick [0, 2, 3] rfl, hv82, hv84⟩
      · rintro a w135 ⟨l55, n58, n60, xs62, A56, c57, A63, c64, rfl, hf, hM, hv59, hv61⟩
        try dsimp only at h
        refine wp_seq ?_
        refine region_pl ?_
        refine q_ hf rfl rfl rfl (e_move hf rfl) fun a hf => ?_
        refine q_ hf rfl rfl rfl (e_build hf Try.zeroValue45 Try.underlying45 (bp_45 _ Try.underlying45.symm) rfl (cs := #[vL A63 (xs62) c64]) (by kernel_rfl)) fun a hf => ?_
        refine pl_0 hf rfl rfl (w_store hf hM (us := [vL A63 (xs62) c64]) (cs' := [vL A63 (xs62) c64]) rfl rfl (k := 2) rfl rfl Try.sizeOf45 rfl rfl rfl fun w136 hM => ?_)
        dsimp only [List.set] at hM
        refine pl_nil ?_
        refine then_n ?_
        refine wp_ret ?_
        obtain rfl := some_inj h
        have hres139 := leaveV1 (P := Try.prog) Try.results106 (res_agg hf rfl ⟨Try.isAgg45, Try.sizeOf45⟩ (us := [vL A63 (xs62) c64]) rfl (hM.boxSub (k := 2) (o := 0) rfl rfl))
        have hM := hM.front (k := 0) rfl
        dsimp only [List.eraseIdx] at hM
        have hM := hM.front (k := 1) rfl
        dsimp only [List.eraseIdx] at hM
        have hM := hM.outs (own' := [.box b2 [vL A56 (l55) c57, vI (n58), vW (n60)] 135, .row strRep A63 c64 9 xs62 true]) 2 rfl
        exact bodyPost_ret hres139 hf.defers ⟨A56, c57, A63, c64, rfl, hM.fin, (hM.dat (k := 0) rfl), hv59, hv61⟩

set_option maxRecDepth 100000 in
set_option maxHeartbeats 4000000 in
theorem r_spec_l25Both (C : Cx) (code1 : Str) (A2 : Option Addr) (c3 : Nat) (hp4 : (sliceRep byteRep).R C.w0 C.S0 code1 [vL A2 code1 c3]) (r : (Grid × Lexicon)) (h : m_spec_l25Both code1 = some r) :
    Calls Try.prog 77 #[vL A2 (code1) c3] C.w0 fun e w => ∃ (A_1 : Option Addr), ∃ (c_1 : Nat), e = .returned (.tuple #[.agg #[vI (r.1.Rows), vI (r.1.Cols), vS (r.1.Cells)], .agg #[vL A_1 (r.2.Words) c_1]]) ∧ Mem C w [.row strRep A_1 c_1 9 r.2.Words true] [] ∧ R64 r.1.Rows ∧ R64 r.1.Cols ∧ r.1.Cells.length ≤ maxLen := by
  have hM := Mem.begin C [.dat (sliceRep byteRep) code1 [vL A2 code1 c3]] ⟨hp4, trivial⟩
  refine enter Try.func77 rfl Try.ntmps77 rfl fun a hf => ?_
  unfold m_spec_l25Both at h
  refine wp_seq ?_
  refine region_pl ?_
  refine pl_l hf rfl rfl rfl (w_alloc hM (cs := [vI (0), vI (0), vS (([] : Str))]) Try.zeroValue27 rfl fun b5 w6 hx7 hM a hf => ?_)
  refine pl_l hf rfl rfl rfl (w_alloc hM (cs := [vL none (([] : (List Str))) 0]) Try.zeroValue45 rfl fun b9 w10 hx11 hM a hf => ?_)
  refine pl_nil ?_
  refine then_n ?_
  refine wp_seq ?_
  refine region_pl ?_
  refine q_ hf rfl rfl rfl (e_move hf rfl) fun a hf => ?_
  obtain ⟨y13, hz14, h⟩ := bind_some h
  refine pl_l hf rfl rfl rfl (w_call hf Try.call104 rfl (r_spec_l00From ⟨_, Sh C _ _, none_, hM.sh_lt, none_not, C.G, hM.g_lt, g_none, hM.tabs⟩ code1 _ _ (hM.dat (k := 0) rfl) _ hz14) ?_)
  rintro _ w21 ⟨b15, A16, c17, rfl, hM2, hv18, hv19, hv20⟩
  obtain ⟨hM, hx22, hup23⟩ := hM.back hM2
  dsimp only [List.cons_append, List.nil_append] at hM hup23
  clear hM2
  have hM := hM.add (y := .dat (sliceRep byteRep) y13.code [vL A16 y13.code c17]) (hup23 hv18)
  refine ⟨_, rfl, fun a hf => ?_⟩
  refine q_ hf rfl rfl rfl (e_assign hf rfl) fun a hf => ?_
  refine pl_nil ?_
  refine then_n ?_
  refine wp_seq ?_
  refine region_pl ?_
  refine q_ hf rfl rfl rfl (e_move hf rfl) fun a hf => ?_
  have hM : Mem C _ ([.box b15 [vL A16 (y13.code) c17, vI (y13.at_), vW (y13.seed)] 135] ++ [.box b9 [vL none (([] : (List Str))) 0] 45, .box b5 [vI (0), vI (0), vS (([] : Str))] 27]) _ := hM
  obtain ⟨y24, hz25, h⟩ := bind_some h
  refine pl_l hf rfl rfl rfl (w_call hf Try.call105 rfl (r_spec_l25Bent ⟨_, Sh C _ _, ownB _, hM.sh_lt, sub_dis, C.G, hM.g_lt, hM.g_own, hM.tabs⟩ y13 _ _ _ (hM.dat (k := 0) rfl) hv19 hv20 hM.sub sub_dis _ hz25) ?_)
  rintro _ w34 ⟨A26, c27, rfl, hM2, hv28, hv29, hv30, hv31, hv32, hv33⟩
  obtain ⟨hM, hup36⟩ := hM.backG hM2
  dsimp only [List.cons_append, List.nil_append] at hM hup36
  clear hM2
  have hM := hM.add (y := .dat (sliceRep byteRep) y24.2.code [vL A26 y24.2.code c27]) (hup36 hv28)
  refine ⟨_, rfl, fun a hf => ?_⟩
  refine pl_l hf rfl rfl rfl (w_alloc hM (cs := [vI (0), vI (0), vS (([] : Str))]) Try.zeroValue27 rfl fun b37 w38 hx39 hM a hf => ?_)
  refine pl_0 hf rfl rfl (w_store hf hM (us := [vI (y24.1.Rows), vI (y24.1.Cols), vS (y24.1.Cells)]) (cs' := [vI (y24.1.Rows), vI (y24.1.Cols), vS (y24.1.Cells)]) rfl rfl (k := 0) rfl rfl Try.sizeOf27 rfl rfl rfl fun w41 hM => ?_)
  dsimp only [List.set] at hM
  refine pl_nil ?_
  refine then_n ?_
  refine wp_seq ?_
  obtain ⟨w44, hw⟩ : ∃ x, x = w41.drew := ⟨_, rfl⟩
  refine region_pi (.q 0 (.q 1 (.l 2 (.l 3 (.l 4 (.nil)))))) (ExtM [some b15] w44) rfl (by kernel_rfl) ?_
  have hM := hM.drew
  rw [← hw] at hM ⊢
  clear hw
  refine pi_q hf rfl rfl rfl rfl (ExtM.refl _ _) (e_loadAM hf (us := [vI (y24.1.Rows), vI (y24.1.Cols), vS (y24.1.Cells)]) rfl ⟨Try.isAgg27, Try.sizeOf27⟩ rfl (hM.boxSub (k := 0) (us := [vI (y24.1.Rows), vI (y24.1.Cols), vS (y24.1.Cells)]) (o := 0) rfl rfl) (hM.apart (js := [1]) rfl (k := 0) rfl rfl rfl)) fun a hf => ?_
  refine pi_q hf rfl rfl rfl rfl (ExtM.refl _ _) (e_move hf rfl) fun a hf => ?_
  refine pi_one ?_
  have hM := hM.front (k := 1) rfl
  dsimp only [List.eraseIdx] at hM
  have hM : Mem C _ ([.box b15 [vL A26 (y24.2.code) c27, vI (y24.2.at_), vW (y24.2.seed)] 135] ++ [.box b37 [vI (y24.1.Rows), vI (y24.1.Cols), vS (y24.1.Cells)] 27, .box b9 [vL none (([] : (List Str))) 0] 45, .box b5 [vI (0), vI (0), vS (([] : Str))] 27]) _ := hM
  obtain ⟨y45, hz46, h⟩ := bind_some h
  refine pi_l hf rfl rfl rfl rfl (w_call hf Try.call106 rfl (r_spec_l25Lexicon ⟨_, Sh C _ _, ownB _, hM.sh_lt, sub_dis, C.G, hM.g_lt, hM.g_own, hM.tabs⟩ y24.2 _ _ _ (hM.dat (k := 0) rfl) hv29 hv30 hM.sub sub_dis _ hz46) ?_)
  rintro _ w54 ⟨A47, c48, A52, c53, rfl, hM2, hv49, hv50, hv51⟩
  have hxm57 := ExtM.ofChg (bs := [some b15]) hM2.chg ⟨List.mem_of_getElem? (i := 0) rfl, trivial⟩
  have hsz58 := hM2.chg.size
  obtain ⟨hM, hup56⟩ := hM.backG hM2
  dsimp only [List.cons_append, List.nil_append] at hM hup56
  clear hM2
  have hM := hM.add (y := .dat (sliceRep byteRep) y45.2.code [vL A47 y45.2.code c48]) (hup56 hv49)
  refine ⟨_, rfl, Ext w54, fun _ h => ExtM.last hxm57 hsz58 h, Ext.refl _, fun a hf => ?_⟩
  refine pi_one ?_
  refine pi_z0 hf rfl rfl rfl (by kernel_rfl) (w_store hf hM (us := [vI (y24.1.Rows), vI (y24.1.Cols), vS (y24.1.Cells)]) (cs' := [vI (y24.1.Rows), vI (y24.1.Cols), vS (y24.1.Cells)]) rfl rfl (k := 4) rfl rfl Try.sizeOf27 rfl rfl rfl fun w59 hM => ?_)
  dsimp only [List.set] at hM
  refine pi_one ?_
  refine pi_z0 hf rfl rfl rfl (by kernel_rfl) (w_store hf hM (us := [vL A52 (y45.1.Words) c53]) (cs' := [vL A52 (y45.1.Words) c53]) rfl rfl (k := 3) rfl rfl Try.sizeOf45 rfl rfl rfl fun w62 hM => ?_)
  dsimp only [List.set] at hM
  refine pi_nil ?_
  refine then_n ?_
  refine wp_ret ?_
  obtain rfl := some_inj h
  have hres65 := leaveV2 (P := Try.prog) Try.results77 (res_agg hf rfl ⟨Try.isAgg27, Try.sizeOf27⟩ (us := [vI (y24.1.Rows), vI (y24.1.Cols), vS (y24.1.Cells)]) rfl (hM.boxSub (k := 4) (o := 0) rfl rfl)) (res_agg hf rfl ⟨Try.isAgg45, Try.sizeOf45⟩ (us := [vL A52 (y45.1.Words) c53]) rfl (hM.boxSub (k := 3) (o := 0) rfl rfl))
  have hM := hM.front (k := 1) rfl
  dsimp only [List.eraseIdx] at hM
  have hM := hM.outs (own' := [.row strRep A52 c53 9 y45.1.Words true]) 1 rfl
  exact bodyPost_ret hres65 hf.defers ⟨A52, c53, rfl, hM.fin, hv31, hv32, hv33⟩

set_option maxRecDepth 100000 in
set_option maxHeartbeats 4000000 in
theorem r_spec_DrawFillGrid (C : Cx) (code1 : Str) (A2 : Option Addr) (c3 : Nat) (hp4 : (sliceRep byteRep).R C.w0 C.S0 code1 [vL A2 code1 c3]) (r : (Grid × Lexicon)) (h : m_spec_DrawFillGrid code1 = some r) :
    Calls Try.prog 45 #[vL A2 (code1) c3] C.w0 fun e w => ∃ (A_1 : Option Addr), ∃ (c_1 : Nat), e = .returned (.tuple #[.agg #[vI (r.1.Rows), vI (r.1.Cols), vS (r.1.Cells)], .agg #[vL A_1 (r.2.Words) c_1]]) ∧ Mem C w [.row strRep A_1 c_1 9 r.2.Words true] [] ∧ R64 r.1.Rows ∧ R64 r.1.Cols ∧ r.1.Cells.length ≤ maxLen := by
  have hM := Mem.begin C [.dat (sliceRep byteRep) code1 [vL A2 code1 c3]] ⟨hp4, trivial⟩
  refine enter Try.func45 rfl Try.ntmps45 rfl fun a hf => ?_
  unfold m_spec_DrawFillGrid at h
  refine wp_seq ?_
  refine region_pl ?_
  refine pl_l hf rfl rfl rfl (w_alloc hM (cs := [vI (0), vI (0), vS (([] : Str))]) Try.zeroValue27 rfl fun b5 w6 hx7 hM a hf => ?_)
  refine pl_l hf rfl rfl rfl (w_alloc hM (cs := [vL none (([] : (List Str))) 0]) Try.zeroValue45 rfl fun b9 w10 hx11 hM a hf => ?_)
  refine pl_nil ?_
  refine then_n ?_
  refine wp_seq ?_
  refine region_pl ?_
  refine q_ hf rfl rfl rfl (e_move hf rfl) fun a hf => ?_
  obtain ⟨y13, hz14, h⟩ := bind_some h
  refine pl_l hf rfl rfl rfl (w_call hf Try.call77 rfl (r_spec_l25Both ⟨_, Sh C _ _, none_, hM.sh_lt, none_not, C.G, hM.g_lt, g_none, hM.tabs⟩ code1 _ _ (hM.dat (k := 0) rfl) _ hz14) ?_)
  rintro _ w20 ⟨A18, c19, rfl, hM2, hv15, hv16, hv17⟩
  obtain ⟨hM, hx21, hup22⟩ := hM.back hM2
  dsimp only [List.cons_append, List.nil_append] at hM hup22
  clear hM2
  refine ⟨_, rfl, fun a hf => ?_⟩
  refine q_ hf rfl rfl rfl (e_extract hf rfl rfl) fun a hf => ?_
  refine q_ hf rfl rfl rfl (e_extract hf rfl rfl) fun a hf => ?_
  refine pl_0 hf rfl rfl (w_store hf hM (us := [vI (y13.1.Rows), vI (y13.1.Cols), vS (y13.1.Cells)]) (cs' := [vI (y13.1.Rows), vI (y13.1.Cols), vS (y13.1.Cells)]) rfl rfl (k := 2) rfl rfl Try.sizeOf27 rfl rfl rfl fun w23 hM => ?_)
  dsimp only [List.set] at hM
  refine pl_0 hf rfl rfl (w_store hf hM (us := [vL A18 (y13.2.Words) c19]) (cs' := [vL A18 (y13.2.Words) c19]) rfl rfl (k := 1) rfl rfl Try.sizeOf45 rfl rfl rfl fun w26 hM => ?_)
  dsimp only [List.set] at hM
  refine pl_nil ?_
  refine then_n ?_
  refine wp_ret ?_
  obtain rfl := some_inj h
  have hres29 := leaveV2 (P := Try.prog) Try.results45 (res_agg hf rfl ⟨Try.isAgg27, Try.sizeOf27⟩ (us := [vI (y13.1.Rows), vI (y13.1.Cols), vS (y13.1.Cells)]) rfl (hM.boxSub (k := 2) (o := 0) rfl rfl)) (res_agg hf rfl ⟨Try.isAgg45, Try.sizeOf45⟩ (us := [vL A18 (y13.2.Words) c19]) rfl (hM.boxSub (k := 1) (o := 0) rfl rfl))
  have hM := hM.outs (own' := [.row strRep A18 c19 9 y13.2.Words true]) 1 rfl
  exact bodyPost_ret hres29 hf.defers ⟨A18, c19, rfl, hM.fin, hv15, hv16, hv17⟩

set_option maxRecDepth 100000 in
set_option maxHeartbeats 4000000 in
theorem r_impl_within (C : Cx) (x1 : Int) (hp2 : R64 x1) (low3 : Int) (hp4 : R64 low3) (high5 : Int) (hp6 : R64 high5) (r : Bool) (h : m_impl_within x1 low3 high5 = some r) :
    Calls Try.prog 78 #[vI (x1), vI (low3), vI (high5)] C.w0 fun e w => e = .returned (.bool (r)) ∧ Mem C w [] [] := by
  have hM := Mem.begin C [] trivial
  refine enter Try.func78 rfl Try.ntmps78 rfl fun a hf => ?_
  unfold m_impl_within at h
  refine wp_seq ?_
  refine region_pl ?_
  refine q_ hf rfl rfl rfl (e_assign hf rfl) fun a hf => ?_
  refine pl_nil ?_
  refine then_n ?_
  obtain ⟨x9, h10, h⟩ := bind_some h
  refine seq_join (fun a w => ∃ (t7 : Bool), t7 = x9 ∧ Has 15 a [(6, .bool (t7))] ∧ Mem C w [] []) ?_ ?_
  · refine region_pl ?_
    refine q_ hf rfl rfl rfl (e_move hf rfl) fun a hf => ?_
    refine q_ hf rfl rfl rfl (e_move hf rfl) fun a hf => ?_
    refine q_ hf rfl rfl rfl (e_le hf (x := low3) (y := x1) rfl rfl) fun a hf => ?_
    refine q_ hf rfl rfl rfl (e_move hf rfl) fun a hf => ?_
    rcases cond_some h10 with ⟨hc11, h10⟩ | ⟨hc11, h10⟩
    · refine gq (wanted_t hf rfl rfl rfl rfl hc11) hf rfl rfl (e_move hf rfl) fun a hf => ?_
      refine gq (wanted_t hf rfl rfl rfl rfl hc11) hf rfl rfl (e_move hf rfl) fun a hf => ?_
      refine gq (wanted_t hf rfl rfl rfl rfl hc11) hf rfl rfl (e_le hf (x := x1) (y := high5) rfl rfl) fun a hf => ?_
      refine q_ hf rfl rfl rfl (e_pick_t hf rfl hc11 rfl) fun a hf => ?_
      refine q_ hf rfl rfl rfl (e_assign hf rfl) fun a hf => ?_
      refine pl_nil ?_
      obtain rfl := some_inj h10
      refine then_n ?_
      exact ⟨(decide (x1 ≤ high5)), rfl, hf.keep ⟨rfl, trivial⟩, hM.pick [] rfl⟩
    · refine pl_gs (wanted_f hf rfl rfl rfl rfl hc11) hf rfl rfl fun a hf => ?_
      refine pl_gs (wanted_f hf rfl rfl rfl rfl hc11) hf rfl rfl fun a hf => ?_
      refine pl_gs (wanted_f hf rfl rfl rfl rfl hc11) hf rfl rfl fun a hf => ?_
      refine q_ hf rfl rfl rfl (e_pick_f hf rfl hc11 rfl) fun a hf => ?_
      refine q_ hf rfl rfl rfl (e_assign hf rfl) fun a hf => ?_
      refine pl_nil ?_
      obtain rfl := some_inj h10
      refine then_n ?_
      exact ⟨false, rfl, hf.keep ⟨rfl, trivial⟩, hM.pick [] rfl⟩
  · rintro a w14 ⟨t7, rfl, hf, hM⟩
    try dsimp only at h
    refine wp_ret ?_
    obtain rfl := some_inj h
    exact leave1 hf rfl rfl ⟨rfl, hM.fin⟩

set_option maxRecDepth 100000 in
set_option maxHeartbeats 4000000 in
theorem r_impl_allBytes (C : Cx) (s1 : Str) (hp2 : s1.length ≤ maxLen) (is3 : (UInt8 → Option Bool)) (fk4 : FuncId) (fc5 : List Value) (hfn6 : FnOk Try.prog C fk4 (FnC_UInt8_to_Bool fk4 fc5 is3)) (r : Bool) (h : m_impl_allBytes s1 is3 = some r) :
    Calls Try.prog 79 #[vS (s1), .func (.func fk4) #[] fc5.toArray] C.w0 fun e w => e = .returned (.bool (r)) ∧ Mem C w [] [] := by
  have hM := Mem.begin C [] trivial
  refine enter Try.func79 rfl Try.ntmps79 rfl fun a hf => ?_
  unfold m_impl_allBytes at h
  refine wp_seq ?_
  refine region_pl ?_
  refine q_ hf rfl rfl rfl (e_assign hf rfl) fun a hf => ?_
  refine pl_nil ?_
  refine then_n ?_
  obtain ⟨x7, h8, h⟩ := bind_some h
  refine seq_join (fun a w => (.inl ()) = x7 ∧ Has 18 a [] ∧ Mem C w [] []) ?_ ?_
  · refine wp_seq ?_
    refine region_pl ?_
    refine q_ hf rfl rfl rfl (e_assign hf rfl) fun a hf => ?_
    refine pl_nil ?_
    refine then_n ?_
    refine wp_block ?_
    obtain ⟨x12, h13, h8⟩ := bind_some h8
    refine wp_loopM h13 (fun s a w => ∃ (n9 : Int), n9 = s ∧ Has 18 a [(0, vS (s1)), (1, .func (.func fk4) #[] fc5.toArray), (5, vI (n9))] ∧ Mem C w [] [] ∧ R64 n9) ?_ ?_
    · exact ⟨0, rfl, hf.keep ⟨rfl, rfl, rfl, trivial⟩, hM.pick [] rfl, (R64_lit rfl)⟩
    · rintro s o14 a w11 ⟨n9, rfl, hf, hM, hv10⟩ h15 hd16
      replace h15 : m_impl_allBytes_l1 s1 is3 n9 = some o14 := h15
      unfold m_impl_allBytes_l1 at h15
      refine wp_seq ?_
      refine wp_seq ?_
      refine region_pl ?_
      refine q_ hf rfl rfl rfl (e_move hf rfl) fun a hf => ?_
      refine q_ hf rfl rfl rfl (e_move hf rfl) fun a hf => ?_
      refine q_ hf rfl rfl rfl (e_lenS hf (x := s1) rfl Try.underlying9) fun a hf => ?_
      refine q_ hf rfl rfl rfl (e_lt hf (x := n9) (y := (s1.length : Int)) rfl rfl) fun a hf => ?_
      refine pl_nil ?_
      refine then_n ?_
      rcases cond_some h15 with ⟨hc17, h15⟩ | ⟨hc17, h15⟩
      · refine cond_t hf rfl hc17 ?_
        refine wp_skip ?_
        refine then_n ?_
        refine wp_seq ?_
        refine wp_block ?_
        refine wp_seq ?_
        refine region_pl ?_
        refine q_ hf rfl rfl rfl (e_move hf rfl) fun a hf => ?_
        refine q_ hf rfl rfl rfl (e_move hf rfl) fun a hf => ?_
        refine q_ hf rfl rfl rfl (e_move hf rfl) fun a hf => ?_
        obtain ⟨c18, hz19, h15⟩ := bind_some h15
        refine q_ hf rfl rfl rfl (e_indexS hf (x := s1) rfl rfl Try.underlying9 hz19) fun a hf => ?_
        obtain ⟨y20, hz21, h15⟩ := bind_some h15
        refine pl_l hf rfl rfl rfl (w_callV hf rfl hfn6.1 rfl (hfn6.2 ⟨_, Sh C _ _, none_, hM.sh_lt, none_not, C.G, hM.g_lt, g_none, hM.tabs⟩ hM.sameS hM.s0sh c18 _ hz21) ?_)
        rintro _ w22 ⟨rfl, hM2⟩
        obtain ⟨hM, hx23, hup24⟩ := hM.back hM2
        dsimp only [List.cons_append, List.nil_append] at hM hup24
        clear hM2
        refine ⟨_, rfl, fun a hf => ?_⟩
        refine q_ hf rfl rfl rfl (e_not hf rfl) fun a hf => ?_
        refine pl_nil ?_
        refine then_n ?_
        rcases cond_some h15 with ⟨hc25, h15⟩ | ⟨hc25, h15⟩
        · refine cond_t hf rfl hc25 ?_
          refine wp_seq ?_
          refine region_pl ?_
          refine q_ hf rfl rfl rfl (e_assign hf rfl) fun a hf => ?_
          refine pl_nil ?_
          refine then_n ?_
          refine wp_ret ?_
          refine blk_r ?_
          refine then_r ?_
          obtain rfl := some_inj h15
          obtain rfl := hd16 _ rfl
          try dsimp only at h8
          refine then_r ?_
          refine blk_r ?_
          obtain rfl := some_inj h8
          try dsimp only at h
          refine then_r ?_
          obtain rfl := some_inj h
          exact leave1 hf rfl rfl ⟨rfl, hM.fin⟩
        · refine cond_f hf rfl hc25 ?_
          refine wp_skip ?_
          refine blk_n ?_
          refine then_n ?_
          refine region_pl ?_
          refine q_ hf rfl rfl rfl (e_move hf rfl) fun a hf => ?_
          obtain ⟨z26, hz27, h15⟩ := bind_some h15
          refine q_ hf rfl rfl rfl (e_add hf rfl rfl hz27) fun a hf => ?_
          refine q_ hf rfl rfl rfl (e_assign hf rfl) fun a hf => ?_
          refine pl_nil ?_
          obtain rfl := some_inj h15
          refine then_n ⟨_, rfl, ?_⟩
          exact ⟨z26, rfl, hf.keep ⟨rfl, rfl, rfl, trivial⟩, hM.pick [] rfl, (chk_R hz27)⟩
      · refine cond_f hf rfl hc17 ?_
        refine wp_exit ?_
        refine then_x ?_
        obtain rfl := some_inj h15
        obtain rfl := hd16 _ rfl
        try dsimp only at h8
        refine then_x ?_
        refine exit_hit ?_
        obtain rfl := some_inj h8
        refine then_n ?_
        exact ⟨rfl, hf.keep trivial, hM.pick [] rfl⟩
  · rintro a w34 ⟨rfl, hf, hM⟩
    try dsimp only at h
    refine wp_seq ?_
    refine region_pl ?_
    refine q_ hf rfl rfl rfl (e_assign hf rfl) fun a hf => ?_
    refine pl_nil ?_
    refine then_n ?_
    refine wp_ret ?_
    obtain rfl := some_inj h
    exact leave1 hf rfl rfl ⟨rfl, hM.fin⟩

set_option maxRecDepth 100000 in
set_option maxHeartbeats 4000000 in
theorem r_impl_small (C : Cx) (c1 : UInt8) (r : Bool) (h : m_impl_small c1 = some r) :
    Calls Try.prog 107 #[vB (c1)] C.w0 fun e w => e = .returned (.bool (r)) ∧ Mem C w [] [] := by
  have hM := Mem.begin C [] trivial
  refine enter Try.func107 rfl Try.ntmps107 rfl fun a hf => ?_
  unfold m_impl_small at h
  refine wp_seq ?_
  refine region_pl ?_
  refine q_ hf rfl rfl rfl (e_assign hf rfl) fun a hf => ?_
  refine pl_nil ?_
  refine then_n ?_
  obtain ⟨x4, h5, h⟩ := bind_some h
  refine seq_join (fun a w => ∃ (t2 : Bool), t2 = x4 ∧ Has 9 a [(2, .bool (t2))] ∧ Mem C w [] []) ?_ ?_
  · refine region_pl ?_
    refine q_ hf rfl rfl rfl (e_move hf rfl) fun a hf => ?_
    refine q_ hf rfl rfl rfl (e_leB hf (x := 97) (y := c1) rfl rfl) fun a hf => ?_
    refine q_ hf rfl rfl rfl (e_move hf rfl) fun a hf => ?_
    rcases cond_some h5 with ⟨hc6, h5⟩ | ⟨hc6, h5⟩
    · refine gq (wanted_t hf rfl rfl rfl rfl hc6) hf rfl rfl (e_move hf rfl) fun a hf => ?_
      refine gq (wanted_t hf rfl rfl rfl rfl hc6) hf rfl rfl (e_leB hf (x := c1) (y := 122) rfl rfl) fun a hf => ?_
      refine q_ hf rfl rfl rfl (e_pick_t hf rfl hc6 rfl) fun a hf => ?_
      refine q_ hf rfl rfl rfl (e_assign hf rfl) fun a hf => ?_
      refine pl_nil ?_
      obtain rfl := some_inj h5
      refine then_n ?_
      exact ⟨(decide (c1 ≤ 122)), rfl, hf.keep ⟨rfl, trivial⟩, hM.pick [] rfl⟩
    · refine pl_gs (wanted_f hf rfl rfl rfl rfl hc6) hf rfl rfl fun a hf => ?_
      refine pl_gs (wanted_f hf rfl rfl rfl rfl hc6) hf rfl rfl fun a hf => ?_
      refine q_ hf rfl rfl rfl (e_pick_f hf rfl hc6 rfl) fun a hf => ?_
      refine q_ hf rfl rfl rfl (e_assign hf rfl) fun a hf => ?_
      refine pl_nil ?_
      obtain rfl := some_inj h5
      refine then_n ?_
      exact ⟨false, rfl, hf.keep ⟨rfl, trivial⟩, hM.pick [] rfl⟩
  · rintro a w9 ⟨t2, rfl, hf, hM⟩
    try dsimp only at h
    refine wp_ret ?_
    obtain rfl := some_inj h
    exact leave1 hf rfl rfl ⟨rfl, hM.fin⟩

set_option maxRecDepth 100000 in
set_option maxHeartbeats 4000000 in
theorem r_impl_gridByte (C : Cx) (c1 : UInt8) (r : Bool) (h : m_impl_gridByte c1 = some r) :
    Calls Try.prog 80 #[vB (c1)] C.w0 fun e w => e = .returned (.bool (r)) ∧ Mem C w [] [] := by
  have hM := Mem.begin C [] trivial
  refine enter Try.func80 rfl Try.ntmps80 rfl fun a hf => ?_
  unfold m_impl_gridByte at h
  refine wp_seq ?_
  refine region_pl ?_
  refine q_ hf rfl rfl rfl (e_assign hf rfl) fun a hf => ?_
  refine pl_nil ?_
  refine then_n ?_
  obtain ⟨x4, h5, h⟩ := bind_some h
  refine seq_join (fun a w => ∃ (t2 : Bool), t2 = x4 ∧ Has 13 a [(2, .bool (t2))] ∧ Mem C w [] []) ?_ ?_
  · refine region_pl ?_
    refine q_ hf rfl rfl rfl (e_move hf rfl) fun a hf => ?_
    refine q_ hf rfl rfl rfl (e_eqB hf (x := c1) (y := 35) rfl rfl) fun a hf => ?_
    refine q_ hf rfl rfl rfl (e_move hf rfl) fun a hf => ?_
    rcases cond_some h5 with ⟨hc6, h5⟩ | ⟨hc6, h5⟩
    · refine pl_gs (wanted_f hf rfl rfl rfl rfl hc6) hf rfl rfl fun a hf => ?_
      refine pl_gs (wanted_f hf rfl rfl rfl rfl hc6) hf rfl rfl fun a hf => ?_
      refine q_ hf rfl rfl rfl (e_pick_t hf rfl hc6 rfl) fun a hf => ?_
      refine q_ hf rfl rfl rfl (e_move hf rfl) fun a hf => ?_
      refine pl_gs (wanted_f hf rfl rfl rfl rfl rfl) hf rfl rfl fun a hf => ?_
      refine pl_gs (wanted_f hf rfl rfl rfl rfl rfl) hf rfl rfl fun a hf => ?_
      refine q_ hf rfl rfl rfl (e_pick_t hf rfl rfl rfl) fun a hf => ?_
      refine q_ hf rfl rfl rfl (e_assign hf rfl) fun a hf => ?_
      refine pl_nil ?_
      obtain rfl := some_inj h5
      refine then_n ?_
      exact ⟨true, rfl, hf.keep ⟨rfl, trivial⟩, hM.pick [] rfl⟩
    · refine gq (wanted_t hf rfl rfl rfl rfl hc6) hf rfl rfl (e_move hf rfl) fun a hf => ?_
      refine gq (wanted_t hf rfl rfl rfl rfl hc6) hf rfl rfl (e_eqB hf (x := c1) (y := 46) rfl rfl) fun a hf => ?_
      refine q_ hf rfl rfl rfl (e_pick_f hf rfl hc6 rfl) fun a hf => ?_
      refine q_ hf rfl rfl rfl (e_move hf rfl) fun a hf => ?_
      rcases cond_some h5 with ⟨hc8, h5⟩ | ⟨hc8, h5⟩
      · refine pl_gs (wanted_f hf rfl rfl rfl rfl hc8) hf rfl rfl fun a hf => ?_
        refine pl_gs (wanted_f hf rfl rfl rfl rfl hc8) hf rfl rfl fun a hf => ?_
        refine q_ hf rfl rfl rfl (e_pick_t hf rfl hc8 rfl) fun a hf => ?_
        refine q_ hf rfl rfl rfl (e_assign hf rfl) fun a hf => ?_
        refine pl_nil ?_
        obtain rfl := some_inj h5
        refine then_n ?_
        exact ⟨true, rfl, hf.keep ⟨rfl, trivial⟩, hM.pick [] rfl⟩
      · refine gq (wanted_t hf rfl rfl rfl rfl hc8) hf rfl rfl (e_move hf rfl) fun a hf => ?_
        obtain ⟨y10, hz11, h5⟩ := bind_some h5
        refine pl_gl (wanted_t hf rfl rfl rfl rfl hc8) hf rfl rfl (w_call hf Try.call107 rfl (r_impl_small ⟨_, Sh C _ _, none_, hM.sh_lt, none_not, C.G, hM.g_lt, g_none, hM.tabs⟩ c1 _ hz11) ?_)
        rintro _ w12 ⟨rfl, hM2⟩
        obtain ⟨hM, hx13, hup14⟩ := hM.back hM2
        dsimp only [List.cons_append, List.nil_append] at hM hup14
        clear hM2
        refine ⟨_, rfl, fun a hf => ?_⟩
        refine q_ hf rfl rfl rfl (e_pick_f hf rfl hc8 rfl) fun a hf => ?_
        refine q_ hf rfl rfl rfl (e_assign hf rfl) fun a hf => ?_
        refine pl_nil ?_
        obtain rfl := some_inj h5
        refine then_n ?_
        exact ⟨y10, rfl, hf.keep ⟨rfl, trivial⟩, hM.pick [] rfl⟩
  · rintro a w16 ⟨t2, rfl, hf, hM⟩
    try dsimp only at h
    refine wp_ret ?_
    obtain rfl := some_inj h
    exact leave1 hf rfl rfl ⟨rfl, hM.fin⟩

set_option maxRecDepth 100000 in
set_option maxHeartbeats 4000000 in
theorem r_impl_ValidGrid (C : Cx) (g1 : Grid) (hp2 : R64 g1.Rows) (hp3 : R64 g1.Cols) (hp4 : g1.Cells.length ≤ maxLen) (r : Bool) (h : m_impl_ValidGrid g1 = some r) :
    Calls Try.prog 46 #[.agg #[vI (g1.Rows), vI (g1.Cols), vS (g1.Cells)]] C.w0 fun e w => e = .returned (.bool (r)) ∧ Mem C w [] [] := by
  have hM := Mem.begin C [] trivial
  refine enter Try.func46 rfl Try.ntmps46 rfl fun a hf => ?_
  unfold m_impl_ValidGrid at h
  refine wp_seq ?_
  refine region_pl ?_
  refine pl_l hf rfl rfl rfl (w_box hf hM (cs := [vI (g1.Rows), vI (g1.Cols), vS (g1.Cells)]) rfl rfl fun b5 w6 hx7 hM a hf => ?_)
  refine q_ hf rfl rfl rfl (e_assign hf rfl) fun a hf => ?_
  refine pl_nil ?_
  refine then_n ?_
  obtain ⟨x11, h12, h⟩ := bind_some h
  refine seq_join (fun a w => ∃ (t9 : Bool), t9 = x11 ∧ Has 27 a [(2, .bool (t9))] ∧ Mem C w [.box b5 [vI (g1.Rows), vI (g1.Cols), vS (g1.Cells)] 27] []) ?_ ?_
  · refine region_pl ?_
    refine q_ hf rfl rfl rfl (e_field hf rfl Try.underlying27 rfl Try.sizeOf2 (o' := 0) rfl) fun a hf => ?_
    refine q_ hf rfl rfl rfl (e_load1 hf rfl Try.isAgg2 (hM.boxCell (k := 0) rfl rfl)) fun a hf => ?_
    obtain ⟨y13, hz14, h12⟩ := bind_some h12
    refine pl_l hf rfl rfl rfl (w_call hf Try.call78 rfl (r_impl_within ⟨_, Sh C _ _, none_, hM.sh_lt, none_not, C.G, hM.g_lt, g_none, hM.tabs⟩ g1.Rows hp2 1 (R64_lit rfl) 5 (R64_lit rfl) _ hz14) ?_)
    rintro _ w15 ⟨rfl, hM2⟩
    obtain ⟨hM, hx16, hup17⟩ := hM.back hM2
    dsimp only [List.cons_append, List.nil_append] at hM hup17
    clear hM2
    refine ⟨_, rfl, fun a hf => ?_⟩
    refine q_ hf rfl rfl rfl (e_move hf rfl) fun a hf => ?_
    rcases cond_some h12 with ⟨hc18, h12⟩ | ⟨hc18, h12⟩
    · refine gq (wanted_t hf rfl rfl rfl rfl hc18) hf rfl rfl (e_field hf rfl Try.underlying27 rfl Try.sizeOf2 (o' := 1) rfl) fun a hf => ?_
      refine gq (wanted_t hf rfl rfl rfl rfl hc18) hf rfl rfl (e_load1 hf rfl Try.isAgg2 (hM.boxCell (k := 0) rfl rfl)) fun a hf => ?_
      obtain ⟨y19, hz20, h12⟩ := bind_some h12
      refine pl_gl (wanted_t hf rfl rfl rfl rfl hc18) hf rfl rfl (w_call hf Try.call78 rfl (r_impl_within ⟨_, Sh C _ _, none_, hM.sh_lt, none_not, C.G, hM.g_lt, g_none, hM.tabs⟩ g1.Cols hp3 1 (R64_lit rfl) 5 (R64_lit rfl) _ hz20) ?_)
      rintro _ w21 ⟨rfl, hM2⟩
      obtain ⟨hM, hx22, hup23⟩ := hM.back hM2
      dsimp only [List.cons_append, List.nil_append] at hM hup23
      clear hM2
      refine ⟨_, rfl, fun a hf => ?_⟩
      refine q_ hf rfl rfl rfl (e_pick_t hf rfl hc18 rfl) fun a hf => ?_
      refine q_ hf rfl rfl rfl (e_move hf rfl) fun a hf => ?_
      rcases cond_some h12 with ⟨hc24, h12⟩ | ⟨hc24, h12⟩
      · refine gq (wanted_t hf rfl rfl rfl rfl hc24) hf rfl rfl (e_field hf rfl Try.underlying27 rfl Try.sizeOf9 (o' := 2) rfl) fun a hf => ?_
        refine gq (wanted_t hf rfl rfl rfl rfl hc24) hf rfl rfl (e_load1 hf rfl Try.isAgg9 (hM.boxCell (k := 0) rfl rfl)) fun a hf => ?_
        refine gq (wanted_t hf rfl rfl rfl rfl hc24) hf rfl rfl (e_lenS hf (x := g1.Cells) rfl Try.underlying9) fun a hf => ?_
        refine gq (wanted_t hf rfl rfl rfl rfl hc24) hf rfl rfl (e_field hf rfl Try.underlying27 rfl Try.sizeOf2 (o' := 0) rfl) fun a hf => ?_
        refine gq (wanted_t hf rfl rfl rfl rfl hc24) hf rfl rfl (e_load1 hf rfl Try.isAgg2 (hM.boxCell (k := 0) rfl rfl)) fun a hf => ?_
        refine gq (wanted_t hf rfl rfl rfl rfl hc24) hf rfl rfl (e_field hf rfl Try.underlying27 rfl Try.sizeOf2 (o' := 1) rfl) fun a hf => ?_
        refine gq (wanted_t hf rfl rfl rfl rfl hc24) hf rfl rfl (e_load1 hf rfl Try.isAgg2 (hM.boxCell (k := 0) rfl rfl)) fun a hf => ?_
        obtain ⟨z25, hz26, h12⟩ := bind_some h12
        refine gq (wanted_t hf rfl rfl rfl rfl hc24) hf rfl rfl (e_mul hf rfl rfl hz26) fun a hf => ?_
        refine gq (wanted_t hf rfl rfl rfl rfl hc24) hf rfl rfl (e_eq hf (x := (g1.Cells.length : Int)) (y := z25) rfl rfl) fun a hf => ?_
        refine q_ hf rfl rfl rfl (e_pick_t hf rfl hc24 rfl) fun a hf => ?_
        refine q_ hf rfl rfl rfl (e_move hf rfl) fun a hf => ?_
        rcases cond_some h12 with ⟨hc27, h12⟩ | ⟨hc27, h12⟩
        · refine gq (wanted_t hf rfl rfl rfl rfl hc27) hf rfl rfl (e_field hf rfl Try.underlying27 rfl Try.sizeOf9 (o' := 2) rfl) fun a hf => ?_
          refine gq (wanted_t hf rfl rfl rfl rfl hc27) hf rfl rfl (e_load1 hf rfl Try.isAgg9 (hM.boxCell (k := 0) rfl rfl)) fun a hf => ?_
          obtain ⟨y28, hz29, h12⟩ := bind_some h12
          refine pl_gl (wanted_t hf rfl rfl rfl rfl hc27) hf rfl rfl (w_call hf Try.call79 rfl (r_impl_allBytes ⟨_, Sh C _ _, none_, hM.sh_lt, none_not, C.G, hM.g_lt, g_none, hM.tabs⟩ g1.Cells hp4 m_impl_gridByte 80 [] ⟨Try.call80, fun C1 _ _ => r_impl_gridByte C1⟩ _ hz29) ?_)
          rintro _ w30 ⟨rfl, hM2⟩
          obtain ⟨hM, hx31, hup32⟩ := hM.back hM2
          dsimp only [List.cons_append, List.nil_append] at hM hup32
          clear hM2
          refine ⟨_, rfl, fun a hf => ?_⟩
          refine q_ hf rfl rfl rfl (e_pick_t hf rfl hc27 rfl) fun a hf => ?_
          refine q_ hf rfl rfl rfl (e_assign hf rfl) fun a hf => ?_
          refine pl_nil ?_
          obtain rfl := some_inj h12
          refine then_n ?_
          exact ⟨y28, rfl, hf.keep ⟨rfl, trivial⟩, hM.pick [] rfl⟩
        · refine pl_gs (wanted_f hf rfl rfl rfl rfl hc27) hf rfl rfl fun a hf => ?_
          refine pl_gs (wanted_f hf rfl rfl rfl rfl hc27) hf rfl rfl fun a hf => ?_
          refine pl_gs (wanted_f hf rfl rfl rfl rfl hc27) hf rfl rfl fun a hf => ?_
          refine q_ hf rfl rfl rfl (e_pick_f hf rfl hc27 rfl) fun a hf => ?_
          refine q_ hf rfl rfl rfl (e_assign hf rfl) fun a hf => ?_
          refine pl_nil ?_
          obtain rfl := some_inj h12
          refine then_n ?_
          exact ⟨false, rfl, hf.keep ⟨rfl, trivial⟩, hM.pick [] rfl⟩
      · refine pl_gs (wanted_f hf rfl rfl rfl rfl hc24) hf rfl rfl fun a hf => ?_
        refine pl_gs (wanted_f hf rfl rfl rfl rfl hc24) hf rfl rfl fun a hf => ?_
        refine pl_gs (wanted_f hf rfl rfl rfl rfl hc24) hf rfl rfl fun a hf => ?_
        refine pl_gs (wanted_f hf rfl rfl rfl rfl hc24) hf rfl rfl fun a hf => ?_
        refine pl_gs (wanted_f hf rfl rfl rfl rfl hc24) hf rfl rfl fun a hf => ?_
        refine pl_gs (wanted_f hf rfl rfl rfl rfl hc24) hf rfl rfl fun a hf => ?_
        refine pl_gs (wanted_f hf rfl rfl rfl rfl hc24) hf rfl rfl fun a hf => ?_
        refine pl_gs (wanted_f hf rfl rfl rfl rfl hc24) hf rfl rfl fun a hf => ?_
        refine pl_gs (wanted_f hf rfl rfl rfl rfl hc24) hf rfl rfl fun a hf => ?_
        refine q_ hf rfl rfl rfl (e_pick_f hf rfl hc24 rfl) fun a hf => ?_
        refine q_ hf rfl rfl rfl (e_move hf rfl) fun a hf => ?_
        refine pl_gs (wanted_f hf rfl rfl rfl rfl rfl) hf rfl rfl fun a hf => ?_
        refine pl_gs (wanted_f hf rfl rfl rfl rfl rfl) hf rfl rfl fun a hf => ?_
        refine pl_gs (wanted_f hf rfl rfl rfl rfl rfl) hf rfl rfl fun a hf => ?_
        refine q_ hf rfl rfl rfl (e_pick_f hf rfl rfl rfl) fun a hf => ?_
        refine q_ hf rfl rfl rfl (e_assign hf rfl) fun a hf => ?_
        refine pl_nil ?_
        obtain rfl := some_inj h12
        refine then_n ?_
        exact ⟨false, rfl, hf.keep ⟨rfl, trivial⟩, hM.pick [] rfl⟩
    · refine pl_gs (wanted_f hf rfl rfl rfl rfl hc18) hf rfl rfl fun a hf => ?_
      refine pl_gs (wanted_f hf rfl rfl rfl rfl hc18) hf rfl rfl fun a hf => ?_
      refine pl_gs (wanted_f hf rfl rfl rfl rfl hc18) hf rfl rfl fun a hf => ?_
      refine q_ hf rfl rfl rfl (e_pick_f hf rfl hc18 rfl) fun a hf => ?_
      refine q_ hf rfl rfl rfl (e_move hf rfl) fun a hf => ?_
      refine pl_gs (wanted_f hf rfl rfl rfl rfl rfl) hf rfl rfl fun a hf => ?_
      refine pl_gs (wanted_f hf rfl rfl rfl rfl rfl) hf rfl rfl fun a hf => ?_
      refine pl_gs (wanted_f hf rfl rfl rfl rfl rfl) hf rfl rfl fun a hf => ?_
      refine pl_gs (wanted_f hf rfl rfl rfl rfl rfl) hf rfl rfl fun a hf => ?_
      refine pl_gs (wanted_f hf rfl rfl rfl rfl rfl) hf rfl rfl fun a hf => ?_
      refine pl_gs (wanted_f hf rfl rfl rfl rfl rfl) hf rfl rfl fun a hf => ?_
      refine pl_gs (wanted_f hf rfl rfl rfl rfl rfl) hf rfl rfl fun a hf => ?_
      refine pl_gs (wanted_f hf rfl rfl rfl rfl rfl) hf rfl rfl fun a hf => ?_
      refine pl_gs (wanted_f hf rfl rfl rfl rfl rfl) hf rfl rfl fun a hf => ?_
      refine q_ hf rfl rfl rfl (e_pick_f hf rfl rfl rfl) fun a hf => ?_
      refine q_ hf rfl rfl rfl (e_move hf rfl) fun a hf => ?_
      refine pl_gs (wanted_f hf rfl rfl rfl rfl rfl) hf rfl rfl fun a hf => ?_
      refine pl_gs (wanted_f hf rfl rfl rfl rfl rfl) hf rfl rfl fun a hf => ?_
      refine pl_gs (wanted_f hf rfl rfl rfl rfl rfl) hf rfl rfl fun a hf => ?_
      refine q_ hf rfl rfl rfl (e_pick_f hf rfl rfl rfl) fun a hf => ?_
      refine q_ hf rfl rfl rfl (e_assign hf rfl) fun a hf => ?_
      refine pl_nil ?_
      obtain rfl := some_inj h12
      refine then_n ?_
      exact ⟨false, rfl, hf.keep ⟨rfl, trivial⟩, hM.pick [] rfl⟩
  · rintro a w37 ⟨t9, rfl, hf, hM⟩
    try dsimp only at h
    refine wp_ret ?_
    obtain rfl := some_inj h
    have hM := hM.outs (own' := []) 0 rfl
    exact leave1 hf rfl rfl ⟨rfl, hM.fin⟩

set_option maxRecDepth 100000 in
set_option maxHeartbeats 4000000 in
theorem r_impl_increasing (C : Cx) (list1 : (List Str)) (A2 : Option Addr) (c3 : Nat) (hp4 : (sliceRep strRep).R C.w0 C.S0 list1 [vL A2 list1 c3]) (r : Bool) (h : m_impl_increasing list1 = some r) :
    Calls Try.prog 92 #[vL A2 (list1) c3] C.w0 fun e w => e = .returned (.bool (r)) ∧ Mem C w [] [] := by
  have hM := Mem.begin C [.dat (sliceRep strRep) list1 [vL A2 list1 c3]] ⟨hp4, trivial⟩
  refine enter Try.func92 rfl Try.ntmps92 rfl fun a hf => ?_
  unfold m_impl_increasing at h
  refine wp_seq ?_
  refine region_pl ?_
  refine q_ hf rfl rfl rfl (e_assign hf rfl) fun a hf => ?_
  refine pl_nil ?_
  refine then_n ?_
  obtain ⟨x5, h6, h⟩ := bind_some h
  refine seq_join (fun a w => (.inl ()) = x5 ∧ Has 20 a [] ∧ Mem C w [] [.dat (sliceRep strRep) list1 [vL A2 list1 c3]]) ?_ ?_
  · refine wp_seq ?_
    refine region_pl ?_
    refine q_ hf rfl rfl rfl (e_assign hf rfl) fun a hf => ?_
    refine pl_nil ?_
    refine then_n ?_
    refine wp_block ?_
    obtain ⟨x10, h11, h6⟩ := bind_some h6
    refine wp_loopM h11 (fun s a w => ∃ (n7 : Int), n7 = s ∧ Has 20 a [(0, vL A2 (list1) c3), (3, vI (n7))] ∧ Mem C w [] [.dat (sliceRep strRep) list1 [vL A2 list1 c3]] ∧ R64 n7) ?_ ?_
    · exact ⟨1, rfl, hf.keep ⟨rfl, rfl, trivial⟩, hM.pick [0] rfl, (R64_lit rfl)⟩
    · rintro s o12 a w9 ⟨n7, rfl, hf, hM, hv8⟩ h13 hd14
      replace h13 : m_impl_increasing_l1 list1 n7 = some o12 := h13
      unfold m_impl_increasing_l1 at h13
      refine wp_seq ?_
      refine wp_seq ?_
      refine region_pl ?_
      refine q_ hf rfl rfl rfl (e_move hf rfl) fun a hf => ?_
      refine q_ hf rfl rfl rfl (e_move hf rfl) fun a hf => ?_
      have hl15 := slice_len (hM.dat (k := 0) rfl)
      refine q_ hf rfl rfl rfl (e_lenL hf (x := list1) rfl Try.underlying40) fun a hf => ?_
      refine q_ hf rfl rfl rfl (e_lt hf (x := n7) (y := (list1.length : Int)) rfl rfl) fun a hf => ?_
      refine pl_nil ?_
      refine then_n ?_
      rcases cond_some h13 with ⟨hc16, h13⟩ | ⟨hc16, h13⟩
      · refine cond_t hf rfl hc16 ?_
        refine wp_skip ?_
        refine then_n ?_
        refine wp_seq ?_
        refine wp_block ?_
        refine wp_seq ?_
        obtain ⟨w17, hw⟩ : ∃ x, x = w9.drew := ⟨_, rfl⟩
        refine region_pi (.q 0 (.q 1 (.q 2 (.q 3 (.q 4 (.q 5 (.q 6 (.q 7 (.q 8 (.q 9 (.nil))))))))))) (Ext w17) rfl (by kernel_rfl) ?_
        have hM := hM.drew
        rw [← hw] at hM ⊢
        clear hw
        refine pi_q hf rfl rfl rfl rfl (Ext.refl _) (e_move hf rfl) fun a hf => ?_
        refine pi_q hf rfl rfl rfl rfl (Ext.refl _) (e_move hf rfl) fun a hf => ?_
        obtain ⟨z18, hz19, h13⟩ := bind_some h13
        refine pi_q hf rfl rfl rfl rfl (Ext.refl _) (e_sub hf rfl rfl hz19) fun a hf => ?_
        obtain ⟨e20, hz21, h13⟩ := bind_some h13
        obtain ⟨b25, o26, _, hA27, h22, h23, hr24, hM⟩ := hM.elem (hM.dat (k := 0) rfl) (n := 1) rfl hz21
        obtain ⟨rfl, hv28⟩ := hr24
        refine pi_q hf rfl rfl rfl rfl (Ext.refl _) (e_indexAddr (A := A2) (b := b25) (o := o26) (xs := list1) (i := z18) hf hA27 rfl rfl Try.underlying40 Try.sizeOf9 h22 h23) fun a hf => ?_
        refine pi_q hf rfl rfl rfl rfl (Ext.refl _) (e_load1 hf rfl Try.isAgg9 (hM.litCell (k := 0) (j := 0) rfl rfl rfl)) fun a hf => ?_
        refine pi_q hf rfl rfl rfl rfl (Ext.refl _) (e_move hf rfl) fun a hf => ?_
        refine pi_q hf rfl rfl rfl rfl (Ext.refl _) (e_move hf rfl) fun a hf => ?_
        obtain ⟨e29, hz30, h13⟩ := bind_some h13
        obtain ⟨b34, o35, _, hA36, h31, h32, hr33, hM⟩ := hM.elem (hM.dat (k := 1) rfl) (n := 1) rfl hz30
        obtain ⟨rfl, hv37⟩ := hr33
        refine pi_q hf rfl rfl rfl rfl (Ext.refl _) (e_indexAddr (A := A2) (b := b34) (o := o35) (xs := list1) (i := n7) hf hA36 rfl rfl Try.underlying40 Try.sizeOf9 h31 h32) fun a hf => ?_
        refine pi_q hf rfl rfl rfl rfl (Ext.refl _) (e_load1 hf rfl Try.isAgg9 (hM.litCell (k := 0) (j := 0) rfl rfl rfl)) fun a hf => ?_
        refine pi_q hf rfl rfl rfl rfl (Ext.refl _) (e_geS hf (x := e20) (y := e29) rfl rfl) fun a hf => ?_
        refine pi_nil ?_
        refine then_n ?_
        rcases cond_some h13 with ⟨hc38, h13⟩ | ⟨hc38, h13⟩
        · refine cond_t hf rfl hc38 ?_
          refine wp_seq ?_
          refine region_pl ?_
          refine q_ hf rfl rfl rfl (e_assign hf rfl) fun a hf => ?_
          refine pl_nil ?_
          refine then_n ?_
          refine wp_ret ?_
          refine blk_r ?_
          refine then_r ?_
          obtain rfl := some_inj h13
          obtain rfl := hd14 _ rfl
          try dsimp only at h6
          refine then_r ?_
          refine blk_r ?_
          obtain rfl := some_inj h6
          try dsimp only at h
          refine then_r ?_
          obtain rfl := some_inj h
          exact leave1 hf rfl rfl ⟨rfl, hM.fin⟩
        · refine cond_f hf rfl hc38 ?_
          refine wp_skip ?_
          refine blk_n ?_
          refine then_n ?_
          refine region_pl ?_
          refine q_ hf rfl rfl rfl (e_move hf rfl) fun a hf => ?_
          obtain ⟨z39, hz40, h13⟩ := bind_some h13
          refine q_ hf rfl rfl rfl (e_add hf rfl rfl hz40) fun a hf => ?_
          refine q_ hf rfl rfl rfl (e_assign hf rfl) fun a hf => ?_
          refine pl_nil ?_
          obtain rfl := some_inj h13
          refine then_n ⟨_, rfl, ?_⟩
          exact ⟨z39, rfl, hf.keep ⟨rfl, rfl, trivial⟩, hM.pick [2] rfl, (chk_R hz40)⟩
      · refine cond_f hf rfl hc16 ?_
        refine wp_exit ?_
        refine then_x ?_
        obtain rfl := some_inj h13
        obtain rfl := hd14 _ rfl
        try dsimp only at h6
        refine then_x ?_
        refine exit_hit ?_
        obtain rfl := some_inj h6
        refine then_n ?_
        exact ⟨rfl, hf.keep trivial, hM.pick [0] rfl⟩
  · rintro a w47 ⟨rfl, hf, hM⟩
    try dsimp only at h
    refine wp_seq ?_
    refine region_pl ?_
    refine q_ hf rfl rfl rfl (e_assign hf rfl) fun a hf => ?_
    refine pl_nil ?_
    refine then_n ?_
    refine wp_ret ?_
    obtain rfl := some_inj h
    exact leave1 hf rfl rfl ⟨rfl, hM.fin⟩

set_option maxRecDepth 100000 in
set_option maxHeartbeats 4000000 in
theorem r_impl_onlySmall (C : Cx) (s1 : Str) (hp2 : s1.length ≤ maxLen) (r : Bool) (h : m_impl_onlySmall s1 = some r) :
    Calls Try.prog 89 #[vS (s1)] C.w0 fun e w => e = .returned (.bool (r)) ∧ Mem C w [] [] := by
  have hM := Mem.begin C [] trivial
  refine enter Try.func89 rfl Try.ntmps89 rfl fun a hf => ?_
  unfold m_impl_onlySmall at h
  refine wp_seq ?_
  refine region_pl ?_
  refine q_ hf rfl rfl rfl (e_assign hf rfl) fun a hf => ?_
  refine pl_nil ?_
  refine then_n ?_
  obtain ⟨x3, h4, h⟩ := bind_some h
  refine seq_join (fun a w => (.inl ()) = x3 ∧ Has 16 a [] ∧ Mem C w [] []) ?_ ?_
  · refine wp_seq ?_
    refine region_pl ?_
    refine q_ hf rfl rfl rfl (e_move hf rfl) fun a hf => ?_
    refine pl_l hf rfl rfl rfl (w_bytes hf hM (x := s1) rfl Try.underlying9 Try.underlying63 Try.underlying5 hp2 fun A5 c6 w7 hx8 hM a hf => ?_)
    have hl9 := row_len (hM.ownAt (k := 0) rfl)
    refine q_ hf rfl rfl rfl (e_lenL hf (x := s1) rfl Try.underlying63) fun a hf => ?_
    refine q_ hf rfl rfl rfl (e_move hf rfl) fun a hf => ?_
    refine pl_nil ?_
    refine then_n ?_
    refine wp_block ?_
    obtain ⟨x13, h14, h4⟩ := bind_some h4
    refine wp_loopM h14 (fun s a w => ∃ (n10 : Int), n10 = s ∧ Has 16 a [(6, vL A5 (s1) c6), (7, vI ((s1.length : Int))), (8, vI (n10))] ∧ Mem C w [.row byteRep A5 c6 5 s1 false] [] ∧ R64 n10) ?_ ?_
    · exact ⟨0, rfl, hf.keep ⟨rfl, rfl, rfl, trivial⟩, hM.pick [] rfl, (R64_lit rfl)⟩
    · rintro s o15 a w12 ⟨n10, rfl, hf, hM, hv11⟩ h16 hd17
      replace h16 : m_impl_onlySmall_l1 s1 n10 = some o15 := h16
      unfold m_impl_onlySmall_l1 at h16
      refine wp_seq ?_
      refine region_pl ?_
      refine q_ hf rfl rfl rfl (e_lt hf (x := n10) (y := (s1.length : Int)) rfl rfl) fun a hf => ?_
      refine pl_nil ?_
      refine then_n ?_
      refine wp_seq ?_
      rcases cond_some h16 with ⟨hc18, h16⟩ | ⟨hc18, h16⟩
      · refine cond_t hf rfl hc18 ?_
        refine wp_skip ?_
        refine then_n ?_
        refine wp_seq ?_
        refine wp_block ?_
        refine wp_seq ?_
        refine region_pl ?_
        obtain ⟨e19, hz20, h16⟩ := bind_some h16
        obtain ⟨b25, _, hA26, h21, h22, hr23, hcell24⟩ := hM.rowElemN (k := 0) rfl (n := 1) rfl hz20
        obtain rfl : _ = _ := hr23
        refine q_ hf rfl rfl rfl (e_indexAddr (A := A5) (b := b25) (o := 0) (xs := s1) (i := n10) hf hA26 rfl rfl Try.underlying63 Try.sizeOf5 h21 h22) fun a hf => ?_
        refine q_ hf rfl rfl rfl (e_load1 hf rfl Try.isAgg5 (hcell24 0 _ rfl)) fun a hf => ?_
        refine q_ hf rfl rfl rfl (e_assign hf rfl) fun a hf => ?_
        refine pl_nil ?_
        refine then_n ?_
        refine wp_seq ?_
        refine region_pl ?_
        refine q_ hf rfl rfl rfl (e_move hf rfl) fun a hf => ?_
        obtain ⟨y27, hz28, h16⟩ := bind_some h16
        refine pl_l hf rfl rfl rfl (w_call hf Try.call107 rfl (r_impl_small ⟨_, Sh C _ _, none_, hM.sh_lt, none_not, C.G, hM.g_lt, g_none, hM.tabs⟩ e19 _ hz28) ?_)
        rintro _ w29 ⟨rfl, hM2⟩
        obtain ⟨hM, hx30, hup31⟩ := hM.back hM2
        dsimp only [List.cons_append, List.nil_append] at hM hup31
        clear hM2
        refine ⟨_, rfl, fun a hf => ?_⟩
        refine q_ hf rfl rfl rfl (e_not hf rfl) fun a hf => ?_
        refine pl_nil ?_
        refine then_n ?_
        rcases cond_some h16 with ⟨hc32, h16⟩ | ⟨hc32, h16⟩
        · refine cond_t hf rfl hc32 ?_
          refine wp_seq ?_
          refine region_pl ?_
          refine q_ hf rfl rfl rfl (e_assign hf rfl) fun a hf => ?_
          refine pl_nil ?_
          refine then_n ?_
          refine wp_ret ?_
          refine blk_r ?_
          refine then_r ?_
          obtain rfl := some_inj h16
          obtain rfl := hd17 _ rfl
          try dsimp only at h4
          refine then_r ?_
          refine blk_r ?_
          obtain rfl := some_inj h4
          try dsimp only at h
          refine then_r ?_
          obtain rfl := some_inj h
          have hM := hM.outs (own' := []) 0 rfl
          exact leave1 hf rfl rfl ⟨rfl, hM.fin⟩
        · refine cond_f hf rfl hc32 ?_
          refine wp_skip ?_
          refine blk_n ?_
          refine then_n ?_
          refine region_pl ?_
          obtain ⟨z33, hz34, h16⟩ := bind_some h16
          refine q_ hf rfl rfl rfl (e_add hf rfl rfl hz34) fun a hf => ?_
          refine q_ hf rfl rfl rfl (e_move hf rfl) fun a hf => ?_
          refine pl_nil ?_
          obtain rfl := some_inj h16
          refine then_n ⟨_, rfl, ?_⟩
          exact ⟨z33, rfl, hf.keep ⟨rfl, rfl, rfl, trivial⟩, hM.pick [] rfl, (chk_R hz34)⟩
      · refine cond_f hf rfl hc18 ?_
        refine wp_exit ?_
        refine then_x ?_
        obtain rfl := some_inj h16
        obtain rfl := hd17 _ rfl
        try dsimp only at h4
        refine then_x ?_
        refine exit_hit ?_
        obtain rfl := some_inj h4
        refine then_n ?_
        exact ⟨rfl, hf.keep trivial, (hM.drop (.cons _ .slnil)).pick [] rfl⟩
  · rintro a w41 ⟨rfl, hf, hM⟩
    try dsimp only at h
    refine wp_seq ?_
    refine region_pl ?_
    refine q_ hf rfl rfl rfl (e_assign hf rfl) fun a hf => ?_
    refine pl_nil ?_
    refine then_n ?_
    refine wp_ret ?_
    obtain rfl := some_inj h
    exact leave1 hf rfl rfl ⟨rfl, hM.fin⟩

set_option maxRecDepth 100000 in
set_option maxHeartbeats 4000000 in
theorem r_impl_IsWord (C : Cx) (s1 : Str) (hp2 : s1.length ≤ maxLen) (r : Bool) (h : m_impl_IsWord s1 = some r) :
    Calls Try.prog 60 #[vS (s1)] C.w0 fun e w => e = .returned (.bool (r)) ∧ Mem C w [] [] := by
  have hM := Mem.begin C [] trivial
  refine enter Try.func60 rfl Try.ntmps60 rfl fun a hf => ?_
  unfold m_impl_IsWord at h
  refine wp_seq ?_
  refine region_pl ?_
  refine q_ hf rfl rfl rfl (e_assign hf rfl) fun a hf => ?_
  refine pl_nil ?_
  refine then_n ?_
  obtain ⟨x5, h6, h⟩ := bind_some h
  refine seq_join (fun a w => ∃ (t3 : Bool), t3 = x5 ∧ Has 15 a [(2, .bool (t3))] ∧ Mem C w [] []) ?_ ?_
  · refine region_pl ?_
    refine q_ hf rfl rfl rfl (e_move hf rfl) fun a hf => ?_
    refine q_ hf rfl rfl rfl (e_lenS hf (x := s1) rfl Try.underlying9) fun a hf => ?_
    refine q_ hf rfl rfl rfl (e_ge hf (x := (s1.length : Int)) (y := 1) rfl rfl) fun a hf => ?_
    refine q_ hf rfl rfl rfl (e_move hf rfl) fun a hf => ?_
    rcases cond_some h6 with ⟨hc7, h6⟩ | ⟨hc7, h6⟩
    · refine gq (wanted_t hf rfl rfl rfl rfl hc7) hf rfl rfl (e_move hf rfl) fun a hf => ?_
      refine gq (wanted_t hf rfl rfl rfl rfl hc7) hf rfl rfl (e_lenS hf (x := s1) rfl Try.underlying9) fun a hf => ?_
      refine gq (wanted_t hf rfl rfl rfl rfl hc7) hf rfl rfl (e_le hf (x := (s1.length : Int)) (y := 12) rfl rfl) fun a hf => ?_
      refine q_ hf rfl rfl rfl (e_pick_t hf rfl hc7 rfl) fun a hf => ?_
      refine q_ hf rfl rfl rfl (e_move hf rfl) fun a hf => ?_
      rcases cond_some h6 with ⟨hc8, h6⟩ | ⟨hc8, h6⟩
      · refine gq (wanted_t hf rfl rfl rfl rfl hc8) hf rfl rfl (e_move hf rfl) fun a hf => ?_
        obtain ⟨y9, hz10, h6⟩ := bind_some h6
        refine pl_gl (wanted_t hf rfl rfl rfl rfl hc8) hf rfl rfl (w_call hf Try.call89 rfl (r_impl_onlySmall ⟨_, Sh C _ _, none_, hM.sh_lt, none_not, C.G, hM.g_lt, g_none, hM.tabs⟩ s1 hp2 _ hz10) ?_)
        rintro _ w11 ⟨rfl, hM2⟩
        obtain ⟨hM, hx12, hup13⟩ := hM.back hM2
        dsimp only [List.cons_append, List.nil_append] at hM hup13
        clear hM2
        refine ⟨_, rfl, fun a hf => ?_⟩
        refine q_ hf rfl rfl rfl (e_pick_t hf rfl hc8 rfl) fun a hf => ?_
        refine q_ hf rfl rfl rfl (e_assign hf rfl) fun a hf => ?_
        refine pl_nil ?_
        obtain rfl := some_inj h6
        refine then_n ?_
        exact ⟨y9, rfl, hf.keep ⟨rfl, trivial⟩, hM.pick [] rfl⟩
      · refine pl_gs (wanted_f hf rfl rfl rfl rfl hc8) hf rfl rfl fun a hf => ?_
        refine pl_gs (wanted_f hf rfl rfl rfl rfl hc8) hf rfl rfl fun a hf => ?_
        refine q_ hf rfl rfl rfl (e_pick_f hf rfl hc8 rfl) fun a hf => ?_
        refine q_ hf rfl rfl rfl (e_assign hf rfl) fun a hf => ?_
        refine pl_nil ?_
        obtain rfl := some_inj h6
        refine then_n ?_
        exact ⟨false, rfl, hf.keep ⟨rfl, trivial⟩, hM.pick [] rfl⟩
    · refine pl_gs (wanted_f hf rfl rfl rfl rfl hc7) hf rfl rfl fun a hf => ?_
      refine pl_gs (wanted_f hf rfl rfl rfl rfl hc7) hf rfl rfl fun a hf => ?_
      refine pl_gs (wanted_f hf rfl rfl rfl rfl hc7) hf rfl rfl fun a hf => ?_
      refine q_ hf rfl rfl rfl (e_pick_f hf rfl hc7 rfl) fun a hf => ?_
      refine q_ hf rfl rfl rfl (e_move hf rfl) fun a hf => ?_
      refine pl_gs (wanted_f hf rfl rfl rfl rfl rfl) hf rfl rfl fun a hf => ?_
      refine pl_gs (wanted_f hf rfl rfl rfl rfl rfl) hf rfl rfl fun a hf => ?_
      refine q_ hf rfl rfl rfl (e_pick_f hf rfl rfl rfl) fun a hf => ?_
      refine q_ hf rfl rfl rfl (e_assign hf rfl) fun a hf => ?_
      refine pl_nil ?_
      obtain rfl := some_inj h6
      refine then_n ?_
      exact ⟨false, rfl, hf.keep ⟨rfl, trivial⟩, hM.pick [] rfl⟩
  · rintro a w17 ⟨t3, rfl, hf, hM⟩
    try dsimp only at h
    refine wp_ret ?_
    obtain rfl := some_inj h
    exact leave1 hf rfl rfl ⟨rfl, hM.fin⟩

set_option maxRecDepth 100000 in
set_option maxHeartbeats 4000000 in
theorem r_impl_isLong (C : Cx) (s1 : Str) (hp2 : s1.length ≤ maxLen) (r : Bool) (h : m_impl_isLong s1 = some r) :
    Calls Try.prog 93 #[vS (s1)] C.w0 fun e w => e = .returned (.bool (r)) ∧ Mem C w [] [] := by
  have hM := Mem.begin C [] trivial
  refine enter Try.func93 rfl Try.ntmps93 rfl fun a hf => ?_
  unfold m_impl_isLong at h
  refine wp_seq ?_
  refine region_pl ?_
  refine q_ hf rfl rfl rfl (e_assign hf rfl) fun a hf => ?_
  refine pl_nil ?_
  refine then_n ?_
  obtain ⟨x5, h6, h⟩ := bind_some h
  refine seq_join (fun a w => ∃ (t3 : Bool), t3 = x5 ∧ Has 10 a [(2, .bool (t3))] ∧ Mem C w [] []) ?_ ?_
  · refine region_pl ?_
    refine q_ hf rfl rfl rfl (e_move hf rfl) fun a hf => ?_
    refine q_ hf rfl rfl rfl (e_lenS hf (x := s1) rfl Try.underlying9) fun a hf => ?_
    refine q_ hf rfl rfl rfl (e_ge hf (x := (s1.length : Int)) (y := 2) rfl rfl) fun a hf => ?_
    refine q_ hf rfl rfl rfl (e_move hf rfl) fun a hf => ?_
    rcases cond_some h6 with ⟨hc7, h6⟩ | ⟨hc7, h6⟩
    · refine gq (wanted_t hf rfl rfl rfl rfl hc7) hf rfl rfl (e_move hf rfl) fun a hf => ?_
      obtain ⟨y8, hz9, h6⟩ := bind_some h6
      refine pl_gl (wanted_t hf rfl rfl rfl rfl hc7) hf rfl rfl (w_call hf Try.call60 rfl (r_impl_IsWord ⟨_, Sh C _ _, none_, hM.sh_lt, none_not, C.G, hM.g_lt, g_none, hM.tabs⟩ s1 hp2 _ hz9) ?_)
      rintro _ w10 ⟨rfl, hM2⟩
      obtain ⟨hM, hx11, hup12⟩ := hM.back hM2
      dsimp only [List.cons_append, List.nil_append] at hM hup12
      clear hM2
      refine ⟨_, rfl, fun a hf => ?_⟩
      refine q_ hf rfl rfl rfl (e_pick_t hf rfl hc7 rfl) fun a hf => ?_
      refine q_ hf rfl rfl rfl (e_assign hf rfl) fun a hf => ?_
      refine pl_nil ?_
      obtain rfl := some_inj h6
      refine then_n ?_
      exact ⟨y8, rfl, hf.keep ⟨rfl, trivial⟩, hM.pick [] rfl⟩
    · refine pl_gs (wanted_f hf rfl rfl rfl rfl hc7) hf rfl rfl fun a hf => ?_
      refine pl_gs (wanted_f hf rfl rfl rfl rfl hc7) hf rfl rfl fun a hf => ?_
      refine q_ hf rfl rfl rfl (e_pick_f hf rfl hc7 rfl) fun a hf => ?_
      refine q_ hf rfl rfl rfl (e_assign hf rfl) fun a hf => ?_
      refine pl_nil ?_
      obtain rfl := some_inj h6
      refine then_n ?_
      exact ⟨false, rfl, hf.keep ⟨rfl, trivial⟩, hM.pick [] rfl⟩
  · rintro a w15 ⟨t3, rfl, hf, hM⟩
    try dsimp only at h
    refine wp_ret ?_
    obtain rfl := some_inj h
    exact leave1 hf rfl rfl ⟨rfl, hM.fin⟩

set_option maxRecDepth 100000 in
set_option maxHeartbeats 4000000 in
theorem r_impl_ValidLexicon (C : Cx) (l1 : Lexicon) (A2 : Option Addr) (c3 : Nat) (hp4 : (sliceRep strRep).R C.w0 C.S0 l1.Words [vL A2 l1.Words c3]) (r : Bool) (h : m_impl_ValidLexicon l1 = some r) :
    Calls Try.prog 67 #[.agg #[vL A2 (l1.Words) c3]] C.w0 fun e w => e = .returned (.bool (r)) ∧ Mem C w [] [] := by
  have hM := Mem.begin C [.dat (sliceRep strRep) l1.Words [vL A2 l1.Words c3]] ⟨hp4, trivial⟩
  refine enter Try.func67 rfl Try.ntmps67 rfl fun a hf => ?_
  unfold m_impl_ValidLexicon at h
  refine wp_seq ?_
  refine region_pl ?_
  refine pl_l hf rfl rfl rfl (w_box hf hM (cs := [vL A2 (l1.Words) c3]) rfl rfl fun b5 w6 hx7 hM a hf => ?_)
  refine q_ hf rfl rfl rfl (e_assign hf rfl) fun a hf => ?_
  refine pl_nil ?_
  refine then_n ?_
  refine wp_seq ?_
  obtain ⟨x11, h12, h⟩ := bind_some h
  refine seq_join (fun a w => ∃ (t9 : Bool), t9 = x11 ∧ Has 26 a [(1, vP b5 (0)), (14, .bool (t9))] ∧ Mem C w [.box b5 [vL A2 (l1.Words) c3] 45] [.dat (sliceRep strRep) l1.Words [vL A2 l1.Words c3]]) ?_ ?_
  · refine region_pl ?_
    refine q_ hf rfl rfl rfl (e_field hf rfl Try.underlying45 rfl Try.sizeOf40 (o' := 0) rfl) fun a hf => ?_
    refine q_ hf rfl rfl rfl (e_load1 hf rfl Try.isAgg40 (hM.boxCell (k := 0) rfl rfl)) fun a hf => ?_
    have hl13 := slice_len (hM.dat (k := 0) rfl)
    refine q_ hf rfl rfl rfl (e_lenL hf (x := l1.Words) rfl Try.underlying40) fun a hf => ?_
    refine q_ hf rfl rfl rfl (e_gt hf (x := (l1.Words.length : Int)) (y := 200) rfl rfl) fun a hf => ?_
    refine q_ hf rfl rfl rfl (e_move hf rfl) fun a hf => ?_
    rcases cond_some h12 with ⟨hc14, h12⟩ | ⟨hc14, h12⟩
    · refine pl_gs (wanted_f hf rfl rfl rfl rfl hc14) hf rfl rfl fun a hf => ?_
      refine pl_gs (wanted_f hf rfl rfl rfl rfl hc14) hf rfl rfl fun a hf => ?_
      refine pl_gs (wanted_f hf rfl rfl rfl rfl hc14) hf rfl rfl fun a hf => ?_
      refine pl_gs (wanted_f hf rfl rfl rfl rfl hc14) hf rfl rfl fun a hf => ?_
      refine q_ hf rfl rfl rfl (e_pick_t hf rfl hc14 rfl) fun a hf => ?_
      refine pl_nil ?_
      obtain rfl := some_inj h12
      refine then_n ?_
      exact ⟨true, rfl, hf.keep ⟨rfl, rfl, trivial⟩, hM.pick [0] rfl⟩
    · refine gq (wanted_t hf rfl rfl rfl rfl hc14) hf rfl rfl (e_field hf rfl Try.underlying45 rfl Try.sizeOf40 (o' := 0) rfl) fun a hf => ?_
      refine gq (wanted_t hf rfl rfl rfl rfl hc14) hf rfl rfl (e_load1 hf rfl Try.isAgg40 (hM.boxCell (k := 0) rfl rfl)) fun a hf => ?_
      obtain ⟨y16, hz17, h12⟩ := bind_some h12
      refine pl_gl (wanted_t hf rfl rfl rfl rfl hc14) hf rfl rfl (w_call hf Try.call92 rfl (r_impl_increasing ⟨_, Sh C _ _, none_, hM.sh_lt, none_not, C.G, hM.g_lt, g_none, hM.tabs⟩ l1.Words _ _ (hM.dat (k := 0) rfl) _ hz17) ?_)
      rintro _ w18 ⟨rfl, hM2⟩
      obtain ⟨hM, hx19, hup20⟩ := hM.back hM2
      dsimp only [List.cons_append, List.nil_append] at hM hup20
      clear hM2
      refine ⟨_, rfl, fun a hf => ?_⟩
      refine gq (wanted_t hf rfl rfl rfl rfl hc14) hf rfl rfl (e_not hf rfl) fun a hf => ?_
      refine q_ hf rfl rfl rfl (e_pick_f hf rfl hc14 rfl) fun a hf => ?_
      refine pl_nil ?_
      obtain rfl := some_inj h12
      refine then_n ?_
      exact ⟨(!y16), rfl, hf.keep ⟨rfl, rfl, trivial⟩, hM.pick [0] rfl⟩
  · rintro a w22 ⟨t9, rfl, hf, hM⟩
    try dsimp only at h
    rcases cond_some h with ⟨hc23, h⟩ | ⟨hc23, h⟩
    · refine cond_t hf rfl hc23 ?_
      refine wp_seq ?_
      refine region_pl ?_
      refine q_ hf rfl rfl rfl (e_assign hf rfl) fun a hf => ?_
      refine pl_nil ?_
      refine then_n ?_
      refine wp_ret ?_
      refine then_r ?_
      obtain rfl := some_inj h
      have hM := hM.outs (own' := []) 0 rfl
      exact leave1 hf rfl rfl ⟨rfl, hM.fin⟩
    · refine cond_f hf rfl hc23 ?_
      refine wp_skip ?_
      refine then_n ?_
      obtain ⟨x24, h25, h⟩ := bind_some h
      refine seq_join (fun a w => (.inl ()) = x24 ∧ Has 26 a [] ∧ Mem C w [.box b5 [vL A2 (l1.Words) c3] 45] [.dat (sliceRep strRep) l1.Words [vL A2 l1.Words c3]]) ?_ ?_
      · refine wp_seq ?_
        refine region_pl ?_
        refine q_ hf rfl rfl rfl (e_field hf rfl Try.underlying45 rfl Try.sizeOf40 (o' := 0) rfl) fun a hf => ?_
        refine q_ hf rfl rfl rfl (e_load1 hf rfl Try.isAgg40 (hM.boxCell (k := 0) rfl rfl)) fun a hf => ?_
        have hl26 := slice_len (hM.dat (k := 0) rfl)
        refine q_ hf rfl rfl rfl (e_lenL hf (x := l1.Words) rfl Try.underlying40) fun a hf => ?_
        refine q_ hf rfl rfl rfl (e_move hf rfl) fun a hf => ?_
        refine pl_nil ?_
        refine then_n ?_
        refine wp_block ?_
        obtain ⟨x30, h31, h25⟩ := bind_some h25
        refine wp_loopM h31 (fun s a w => ∃ (n27 : Int), n27 = s ∧ Has 26 a [(16, vL A2 (l1.Words) c3), (17, vI ((l1.Words.length : Int))), (18, vI (n27))] ∧ Mem C w [.box b5 [vL A2 (l1.Words) c3] 45] [.dat (sliceRep strRep) l1.Words [vL A2 l1.Words c3]] ∧ R64 n27) ?_ ?_
        · exact ⟨0, rfl, hf.keep ⟨rfl, rfl, rfl, trivial⟩, hM.pick [0] rfl, (R64_lit rfl)⟩
        · rintro s o32 a w29 ⟨n27, rfl, hf, hM, hv28⟩ h33 hd34
          replace h33 : m_impl_ValidLexicon_l1 l1 n27 = some o32 := h33
          unfold m_impl_ValidLexicon_l1 at h33
          refine wp_seq ?_
          refine region_pl ?_
          refine q_ hf rfl rfl rfl (e_lt hf (x := n27) (y := (l1.Words.length : Int)) rfl rfl) fun a hf => ?_
          refine pl_nil ?_
          refine then_n ?_
          refine wp_seq ?_
          rcases cond_some h33 with ⟨hc35, h33⟩ | ⟨hc35, h33⟩
          · refine cond_t hf rfl hc35 ?_
            refine wp_skip ?_
            refine then_n ?_
            refine wp_seq ?_
            refine wp_block ?_
            refine wp_seq ?_
            refine region_pl ?_
            obtain ⟨e36, hz37, h33⟩ := bind_some h33
            obtain ⟨b41, o42, _, hA43, h38, h39, hr40, hM⟩ := hM.elem (hM.dat (k := 0) rfl) (n := 1) rfl hz37
            obtain ⟨rfl, hv44⟩ := hr40
            refine q_ hf rfl rfl rfl (e_indexAddr (A := A2) (b := b41) (o := o42) (xs := l1.Words) (i := n27) hf hA43 rfl rfl Try.underlying40 Try.sizeOf9 h38 h39) fun a hf => ?_
            refine q_ hf rfl rfl rfl (e_load1 hf rfl Try.isAgg9 (hM.litCell (k := 0) (j := 0) rfl rfl rfl)) fun a hf => ?_
            refine q_ hf rfl rfl rfl (e_assign hf rfl) fun a hf => ?_
            refine pl_nil ?_
            refine then_n ?_
            refine wp_seq ?_
            refine region_pl ?_
            refine q_ hf rfl rfl rfl (e_move hf rfl) fun a hf => ?_
            obtain ⟨y45, hz46, h33⟩ := bind_some h33
            refine pl_l hf rfl rfl rfl (w_call hf Try.call93 rfl (r_impl_isLong ⟨_, Sh C _ _, none_, hM.sh_lt, none_not, C.G, hM.g_lt, g_none, hM.tabs⟩ e36 hv44 _ hz46) ?_)
            rintro _ w47 ⟨rfl, hM2⟩
            obtain ⟨hM, hx48, hup49⟩ := hM.back hM2
            dsimp only [List.cons_append, List.nil_append] at hM hup49
            clear hM2
            refine ⟨_, rfl, fun a hf => ?_⟩
            refine q_ hf rfl rfl rfl (e_not hf rfl) fun a hf => ?_
            refine pl_nil ?_
            refine then_n ?_
            rcases cond_some h33 with ⟨hc50, h33⟩ | ⟨hc50, h33⟩
            · refine cond_t hf rfl hc50 ?_
              refine wp_seq ?_
              refine region_pl ?_
              refine q_ hf rfl rfl rfl (e_assign hf rfl) fun a hf => ?_
              refine pl_nil ?_
              refine then_n ?_
              refine wp_ret ?_
              refine blk_r ?_
              refine then_r ?_
              obtain rfl := some_inj h33
              obtain rfl := hd34 _ rfl
              try dsimp only at h25
              refine then_r ?_
              refine blk_r ?_
              obtain rfl := some_inj h25
              try dsimp only at h
              refine then_r ?_
              obtain rfl := some_inj h
              have hM := hM.outs (own' := []) 0 rfl
              exact leave1 hf rfl rfl ⟨rfl, hM.fin⟩
            · refine cond_f hf rfl hc50 ?_
              refine wp_skip ?_
              refine blk_n ?_
              refine then_n ?_
              refine region_pl ?_
              obtain ⟨z51, hz52, h33⟩ := bind_some h33
              refine q_ hf rfl rfl rfl (e_add hf rfl rfl hz52) fun a hf => ?_
              refine q_ hf rfl rfl rfl (e_move hf rfl) fun a hf => ?_
              refine pl_nil ?_
              obtain rfl := some_inj h33
              refine then_n ⟨_, rfl, ?_⟩
              exact ⟨z51, rfl, hf.keep ⟨rfl, rfl, rfl, trivial⟩, hM.pick [1] rfl, (chk_R hz52)⟩
          · refine cond_f hf rfl hc35 ?_
            refine wp_exit ?_
            refine then_x ?_
            obtain rfl := some_inj h33
            obtain rfl := hd34 _ rfl
            try dsimp only at h25
            refine then_x ?_
            refine exit_hit ?_
            obtain rfl := some_inj h25
            refine then_n ?_
            exact ⟨rfl, hf.keep trivial, hM.pick [0] rfl⟩
      · rintro a w59 ⟨rfl, hf, hM⟩
        try dsimp only at h
        refine wp_seq ?_
        refine region_pl ?_
        refine q_ hf rfl rfl rfl (e_assign hf rfl) fun a hf => ?_
        refine pl_nil ?_
        refine then_n ?_
        refine wp_ret ?_
        obtain rfl := some_inj h
        have hM := hM.outs (own' := []) 0 rfl
        exact leave1 hf rfl rfl ⟨rfl, hM.fin⟩

set_option maxRecDepth 100000 in
set_option maxHeartbeats 4000000 in
theorem r_impl_Grid_across (C : Cx) (g1 : Grid) (hp2 : R64 g1.Rows) (hp3 : R64 g1.Cols) (hp4 : g1.Cells.length ≤ maxLen) (r : (List Slot)) (h : m_impl_Grid_across g1 = some r) :
    Calls Try.prog 88 #[.agg #[vI (g1.Rows), vI (g1.Cols), vS (g1.Cells)]] C.w0 fun e w => ∃ (A_1 : Option Addr), ∃ (c_1 : Nat), e = .returned (vL A_1 (r) c_1) ∧ Mem C w [.row SlotRep A_1 c_1 75 r true] [] := by
  have hM := Mem.begin C [] trivial
  refine enter Try.func88 rfl Try.ntmps88 rfl fun a hf => ?_
  unfold m_impl_Grid_across at h
  refine wp_seq ?_
  refine region_pl ?_
  refine pl_l hf rfl rfl rfl (w_box hf hM (cs := [vI (g1.Rows), vI (g1.Cols), vS (g1.Cells)]) rfl rfl fun b5 w6 hx7 hM a hf => ?_)
  refine q_ hf rfl rfl rfl (e_assign hf rfl) fun a hf => ?_
  refine pl_nil ?_
  refine then_n ?_
  refine wp_seq ?_
  refine region_pl ?_
  refine pl_l hf rfl rfl rfl (w_slice0 (K := SlotRep) hM Try.underlying30 ei_75 fun b9 w10 hx11 hM a hf => ?_)
  refine q_ hf rfl rfl rfl (e_assign hf rfl) fun a hf => ?_
  refine pl_nil ?_
  refine then_n ?_
  obtain ⟨x15, h16, h⟩ := bind_some h
  refine seq_join (fun a w => ∃ (xs12 : (List Slot)) (A13 : Option Addr) (c14 : Nat), xs12 = x15 ∧ Has 52 a [(3, vL A13 (xs12) c14)] ∧ Mem C w [.row SlotRep A13 c14 75 xs12 true, .box b5 [vI (g1.Rows), vI (g1.Cols), vS (g1.Cells)] 27] []) ?_ ?_
  · refine wp_seq ?_
    refine region_pl ?_
    refine q_ hf rfl rfl rfl (e_assign hf rfl) fun a hf => ?_
    refine pl_nil ?_
    refine then_n ?_
    refine wp_block ?_
    obtain ⟨x26, h27, h16⟩ := bind_some h16
    refine wp_loopM h27 (fun s a w => ∃ (xs17 : (List Slot)) (start20 : Int) (A18 : Option Addr) (c19 : Nat), (xs17, start20) = s ∧ Has 52 a [(1, vP b5 (0)), (3, vL A18 (xs17) c19), (4, vI (start20))] ∧ Mem C w [.row SlotRep A18 c19 75 xs17 true, .box b5 [vI (g1.Rows), vI (g1.Cols), vS (g1.Cells)] 27] [] ∧ R64 start20) ?_ ?_
    · exact ⟨([] : (List Slot)), 0, (some ⟨b9, 0, none⟩), 0, rfl, hf.keep ⟨rfl, rfl, rfl, trivial⟩, hM.pick [] rfl, (R64_lit rfl)⟩
    · rintro s o28 a w22 ⟨xs17, start20, A18, c19, rfl, hf, hM, hv21⟩ h29 hd30
      replace h29 : m_impl_Grid_across_l1 g1 xs17 start20 = some o28 := h29
      unfold m_impl_Grid_across_l1 at h29
      refine wp_seq ?_
      refine wp_seq ?_
      refine region_pl ?_
      refine q_ hf rfl rfl rfl (e_move hf rfl) fun a hf => ?_
      refine q_ hf rfl rfl rfl (e_field hf rfl Try.underlying27 rfl Try.sizeOf2 (o' := 0) rfl) fun a hf => ?_
      refine q_ hf rfl rfl rfl (e_load1 hf rfl Try.isAgg2 (hM.boxCell (k := 1) rfl rfl)) fun a hf => ?_
      refine q_ hf rfl rfl rfl (e_lt hf (x := start20) (y := g1.Rows) rfl rfl) fun a hf => ?_
      refine pl_nil ?_
      refine then_n ?_
      rcases cond_some h29 with ⟨hc31, h29⟩ | ⟨hc31, h29⟩
      · refine cond_t hf rfl hc31 ?_
        refine wp_skip ?_
        refine then_n ?_
        obtain ⟨x35, h36, h29⟩ := bind_some h29
        refine seq_join (fun a w => ∃ (xs32 : (List Slot)) (A33 : Option Addr) (c34 : Nat), xs32 = x35 ∧ Has 52 a [(1, vP b5 (0)), (3, vL A33 (xs32) c34), (4, vI (start20))] ∧ Mem C w [.row SlotRep A33 c34 75 xs32 true, .box b5 [vI (g1.Rows), vI (g1.Cols), vS (g1.Cells)] 27] []) ?_ ?_
        · refine wp_block ?_
          refine wp_seq ?_
          refine region_pl ?_
          refine q_ hf rfl rfl rfl (e_assign hf rfl) fun a hf => ?_
          refine pl_nil ?_
          refine then_n ?_
          refine wp_seq ?_
          refine region_pl ?_
          refine q_ hf rfl rfl rfl (e_assign hf rfl) fun a hf => ?_
          refine pl_nil ?_
          refine then_n ?_
          refine wp_block ?_
          obtain ⟨x48, h49, h36⟩ := bind_some h36
          refine wp_loopM h49 (fun s a w => ∃ (xs37 : (List Slot)) (col40 : Int) (n42 : Int) (A38 : Option Addr) (c39 : Nat), (xs37, col40, n42) = s ∧ Has 52 a [(1, vP b5 (0)), (3, vL A38 (xs37) c39), (4, vI (start20)), (5, vI (col40)), (6, vI (n42))] ∧ Mem C w [.row SlotRep A38 c39 75 xs37 true, .box b5 [vI (g1.Rows), vI (g1.Cols), vS (g1.Cells)] 27] [] ∧ R64 col40 ∧ R64 n42) ?_ ?_
          · exact ⟨xs17, 0, 0, A18, c19, rfl, hf.keep ⟨rfl, rfl, rfl, rfl, rfl, trivial⟩, hM.pick [] rfl, (R64_lit rfl), (R64_lit rfl)⟩
          · rintro s o50 a w44 ⟨xs37, col40, n42, A38, c39, rfl, hf, hM, hv41, hv43⟩ h51 hd52
            replace h51 : m_impl_Grid_across_l2 g1 start20 xs37 col40 n42 = some o50 := h51
            unfold m_impl_Grid_across_l2 at h51
            refine wp_seq ?_
            refine wp_seq ?_
            refine region_pl ?_
            refine q_ hf rfl rfl rfl (e_move hf rfl) fun a hf => ?_
            refine q_ hf rfl rfl rfl (e_field hf rfl Try.underlying27 rfl Try.sizeOf2 (o' := 1) rfl) fun a hf => ?_
            refine q_ hf rfl rfl rfl (e_load1 hf rfl Try.isAgg2 (hM.boxCell (k := 1) rfl rfl)) fun a hf => ?_
            refine q_ hf rfl rfl rfl (e_le hf (x := n42) (y := g1.Cols) rfl rfl) fun a hf => ?_
            refine pl_nil ?_
            refine then_n ?_
            rcases cond_some h51 with ⟨hc53, h51⟩ | ⟨hc53, h51⟩
            · refine cond_t hf rfl hc53 ?_
              refine wp_skip ?_
              refine then_n ?_
              obtain ⟨x59, h60, h51⟩ := bind_some h51
              refine seq_join (fun a w => ∃ (xs54 : (List Slot)) (col57 : Int) (A55 : Option Addr) (c56 : Nat), (xs54, col57) = x59 ∧ Has 52 a [(1, vP b5 (0)), (3, vL A55 (xs54) c56), (4, vI (start20)), (5, vI (col57)), (6, vI (n42))] ∧ Mem C w [.row SlotRep A55 c56 75 xs54 true, .box b5 [vI (g1.Rows), vI (g1.Cols), vS (g1.Cells)] 27] [] ∧ R64 col57) ?_ ?_
              · refine wp_block ?_
                refine wp_seq ?_
                obtain ⟨x63, h64, h60⟩ := bind_some h60
                refine seq_join (fun a w => ∃ (t61 : Bool), t61 = x63 ∧ Has 52 a [(1, vP b5 (0)), (3, vL A38 (xs37) c39), (4, vI (start20)), (5, vI (col40)), (6, vI (n42)), (35, .bool (t61))] ∧ Mem C w [.row SlotRep A38 c39 75 xs37 true, .box b5 [vI (g1.Rows), vI (g1.Cols), vS (g1.Cells)] 27] []) ?_ ?_
                · refine region_pl ?_
                  refine q_ hf rfl rfl rfl (e_move hf rfl) fun a hf => ?_
                  refine q_ hf rfl rfl rfl (e_field hf rfl Try.underlying27 rfl Try.sizeOf2 (o' := 1) rfl) fun a hf => ?_
                  refine q_ hf rfl rfl rfl (e_load1 hf rfl Try.isAgg2 (hM.boxCell (k := 1) rfl rfl)) fun a hf => ?_
                  refine q_ hf rfl rfl rfl (e_lt hf (x := n42) (y := g1.Cols) rfl rfl) fun a hf => ?_
                  refine q_ hf rfl rfl rfl (e_move hf rfl) fun a hf => ?_
                  rcases cond_some h64 with ⟨hc65, h64⟩ | ⟨hc65, h64⟩
                  · refine gq (wanted_t hf rfl rfl rfl rfl hc65) hf rfl rfl (e_field hf rfl Try.underlying27 rfl Try.sizeOf9 (o' := 2) rfl) fun a hf => ?_
                    refine gq (wanted_t hf rfl rfl rfl rfl hc65) hf rfl rfl (e_load1 hf rfl Try.isAgg9 (hM.boxCell (k := 1) rfl rfl)) fun a hf => ?_
                    refine gq (wanted_t hf rfl rfl rfl rfl hc65) hf rfl rfl (e_move hf rfl) fun a hf => ?_
                    refine gq (wanted_t hf rfl rfl rfl rfl hc65) hf rfl rfl (e_field hf rfl Try.underlying27 rfl Try.sizeOf2 (o' := 1) rfl) fun a hf => ?_
                    refine gq (wanted_t hf rfl rfl rfl rfl hc65) hf rfl rfl (e_load1 hf rfl Try.isAgg2 (hM.boxCell (k := 1) rfl rfl)) fun a hf => ?_
                    obtain ⟨z66, hz67, h64⟩ := bind_some h64
                    refine gq (wanted_t hf rfl rfl rfl rfl hc65) hf rfl rfl (e_mul hf rfl rfl hz67) fun a hf => ?_
                    refine gq (wanted_t hf rfl rfl rfl rfl hc65) hf rfl rfl (e_move hf rfl) fun a hf => ?_
                    obtain ⟨z68, hz69, h64⟩ := bind_some h64
                    refine gq (wanted_t hf rfl rfl rfl rfl hc65) hf rfl rfl (e_add hf rfl rfl hz69) fun a hf => ?_
                    obtain ⟨c70, hz71, h64⟩ := bind_some h64
                    refine gq (wanted_t hf rfl rfl rfl rfl hc65) hf rfl rfl (e_indexS hf (x := g1.Cells) rfl rfl Try.underlying9 hz71) fun a hf => ?_
                    refine gq (wanted_t hf rfl rfl rfl rfl hc65) hf rfl rfl (e_neB hf (x := c70) (y := 35) rfl rfl) fun a hf => ?_
                    refine q_ hf rfl rfl rfl (e_pick_t hf rfl hc65 rfl) fun a hf => ?_
                    refine pl_nil ?_
                    obtain rfl := some_inj h64
                    refine then_n ?_
                    exact ⟨(c70 != 35), rfl, hf.keep ⟨rfl, rfl, rfl, rfl, rfl, rfl, trivial⟩, hM.pick [] rfl⟩
                  · refine pl_gs (wanted_f hf rfl rfl rfl rfl hc65) hf rfl rfl fun a hf => ?_
                    refine pl_gs (wanted_f hf rfl rfl rfl rfl hc65) hf rfl rfl fun a hf => ?_
                    refine pl_gs (wanted_f hf rfl rfl rfl rfl hc65) hf rfl rfl fun a hf => ?_
                    refine pl_gs (wanted_f hf rfl rfl rfl rfl hc65) hf rfl rfl fun a hf => ?_
                    refine pl_gs (wanted_f hf rfl rfl rfl rfl hc65) hf rfl rfl fun a hf => ?_
                    refine pl_gs (wanted_f hf rfl rfl rfl rfl hc65) hf rfl rfl fun a hf => ?_
                    refine pl_gs (wanted_f hf rfl rfl rfl rfl hc65) hf rfl rfl fun a hf => ?_
                    refine pl_gs (wanted_f hf rfl rfl rfl rfl hc65) hf rfl rfl fun a hf => ?_
                    refine pl_gs (wanted_f hf rfl rfl rfl rfl hc65) hf rfl rfl fun a hf => ?_
                    refine pl_gs (wanted_f hf rfl rfl rfl rfl hc65) hf rfl rfl fun a hf => ?_
                    refine q_ hf rfl rfl rfl (e_pick_f hf rfl hc65 rfl) fun a hf => ?_
                    refine pl_nil ?_
                    obtain rfl := some_inj h64
                    refine then_n ?_
                    exact ⟨false, rfl, hf.keep ⟨rfl, rfl, rfl, rfl, rfl, rfl, trivial⟩, hM.pick [] rfl⟩
                · rintro a w74 ⟨t61, rfl, hf, hM⟩
                  try dsimp only at h60
                  rcases cond_some h60 with ⟨hc75, h60⟩ | ⟨hc75, h60⟩
                  · refine cond_t hf rfl hc75 ?_
                    refine wp_exit ?_
                    refine then_x ?_
                    refine exit_hit ?_
                    obtain rfl := some_inj h60
                    refine then_n ?_
                    exact ⟨xs37, col40, A38, c39, rfl, hf.keep ⟨rfl, rfl, rfl, rfl, rfl, trivial⟩, hM.pick [] rfl, hv41⟩
                  · refine cond_f hf rfl hc75 ?_
                    refine wp_skip ?_
                    refine then_n ?_
                    obtain ⟨x80, h81, h60⟩ := bind_some h60
                    refine seq_join (fun a w => ∃ (xs77 : (List Slot)) (A78 : Option Addr) (c79 : Nat), xs77 = x80 ∧ Has 52 a [(1, vP b5 (0)), (3, vL A78 (xs77) c79), (4, vI (start20)), (6, vI (n42))] ∧ Mem C w [.row SlotRep A78 c79 75 xs77 true, .box b5 [vI (g1.Rows), vI (g1.Cols), vS (g1.Cells)] 27] []) ?_ ?_
                    · refine wp_seq ?_
                      refine region_pl ?_
                      refine q_ hf rfl rfl rfl (e_move hf rfl) fun a hf => ?_
                      refine q_ hf rfl rfl rfl (e_move hf rfl) fun a hf => ?_
                      obtain ⟨z82, hz83, h81⟩ := bind_some h81
                      refine q_ hf rfl rfl rfl (e_sub hf rfl rfl hz83) fun a hf => ?_
                      refine q_ hf rfl rfl rfl (e_ge hf (x := z82) (y := 2) rfl rfl) fun a hf => ?_
                      refine pl_nil ?_
                      refine then_n ?_
                      rcases cond_some h81 with ⟨hc84, h81⟩ | ⟨hc84, h81⟩
                      · refine cond_t hf rfl hc84 ?_
                        refine region_pl ?_
                        refine q_ hf rfl rfl rfl (e_move hf rfl) fun a hf => ?_
                        refine q_ hf rfl rfl rfl (e_move hf rfl) fun a hf => ?_
                        refine q_ hf rfl rfl rfl (e_move hf rfl) fun a hf => ?_
                        refine q_ hf rfl rfl rfl (e_move hf rfl) fun a hf => ?_
                        refine q_ hf rfl rfl rfl (e_move hf rfl) fun a hf => ?_
                        obtain ⟨z85, hz86, h81⟩ := bind_some h81
                        refine q_ hf rfl rfl rfl (e_sub hf rfl rfl hz86) fun a hf => ?_
                        refine q_ hf rfl rfl rfl (e_build hf Try.zeroValue75 Try.underlying75 (bp_75 _ Try.underlying75.symm) rfl (cs := #[vI (start20), vI (col40), .bool (false), vI (z85)]) (by kernel_rfl)) fun a hf => ?_
                        refine pl_l hf rfl rfl rfl (w_slice hf hM (K := SlotRep) (xs := ([(⟨start20, col40, false, z85⟩ : Slot)] : (List Slot))) (os := [.tmp 46]) Try.underlying30 ei_75 rfl rfl rfl rfl rfl ⟨⟨[vI (start20), vI (col40), .bool (false), vI (z85)], rfl, (SlotRep_mk (x := (⟨start20, col40, false, z85⟩ : Slot)) hv21 hv41 (chk_R hz86))⟩, trivial⟩ rfl fun b87 w88 hx89 hM a hf => ?_)
                        obtain ⟨xs90, hz91, h81⟩ := bind_some h81
                        refine pl_l hf rfl rfl rfl (w_append hf hM Try.underlying30 ei_75 rfl rfl rfl (k := 1) rfl (hM.srcRow (k := 0) rfl) hz91 fun A92 c93 w94 hM a hf => ?_)
                        dsimp only [List.set] at hM
                        refine q_ hf rfl rfl rfl (e_assign hf rfl) fun a hf => ?_
                        refine pl_nil ?_
                        obtain rfl := some_inj h81
                        refine then_n ?_
                        exact ⟨xs90, A92, c93, rfl, hf.keep ⟨rfl, rfl, rfl, rfl, trivial⟩, (hM.drop (.cons _ (.cons_cons _ (.cons_cons _ .slnil)))).pick [] rfl⟩
                      · refine cond_f hf rfl hc84 ?_
                        refine wp_skip ?_
                        obtain rfl := some_inj h81
                        refine then_n ?_
                        exact ⟨xs37, A38, c39, rfl, hf.keep ⟨rfl, rfl, rfl, rfl, trivial⟩, hM.pick [] rfl⟩
                    · rintro a w99 ⟨xs77, A78, c79, rfl, hf, hM⟩
                      try dsimp only at h60
                      refine region_pl ?_
                      refine q_ hf rfl rfl rfl (e_move hf rfl) fun a hf => ?_
                      obtain ⟨z100, hz101, h60⟩ := bind_some h60
                      refine q_ hf rfl rfl rfl (e_add hf rfl rfl hz101) fun a hf => ?_
                      refine q_ hf rfl rfl rfl (e_assign hf rfl) fun a hf => ?_
                      refine pl_nil ?_
                      refine blk_n ?_
                      obtain rfl := some_inj h60
                      refine then_n ?_
                      exact ⟨xs77, z100, A78, c79, rfl, hf.keep ⟨rfl, rfl, rfl, rfl, rfl, trivial⟩, hM.pick [] rfl, (chk_R hz101)⟩
              · rintro a w103 ⟨xs54, col57, A55, c56, rfl, hf, hM, hv58⟩
                try dsimp only at h51
                refine region_pl ?_
                refine q_ hf rfl rfl rfl (e_move hf rfl) fun a hf => ?_
                obtain ⟨z104, hz105, h51⟩ := bind_some h51
                refine q_ hf rfl rfl rfl (e_add hf rfl rfl hz105) fun a hf => ?_
                refine q_ hf rfl rfl rfl (e_assign hf rfl) fun a hf => ?_
                refine pl_nil ?_
                obtain rfl := some_inj h51
                refine then_n ⟨_, rfl, ?_⟩
                exact ⟨xs54, col57, z104, A55, c56, rfl, hf.keep ⟨rfl, rfl, rfl, rfl, rfl, trivial⟩, hM.pick [] rfl, hv58, (chk_R hz105)⟩
            · refine cond_f hf rfl hc53 ?_
              refine wp_exit ?_
              refine then_x ?_
              obtain rfl := some_inj h51
              obtain rfl := hd52 _ rfl
              try dsimp only at h36
              refine then_x ?_
              refine exit_hit ?_
              refine blk_n ?_
              obtain rfl := some_inj h36
              refine then_n ?_
              exact ⟨xs37, A38, c39, rfl, hf.keep ⟨rfl, rfl, rfl, trivial⟩, hM.pick [] rfl⟩
        · rintro a w111 ⟨xs32, A33, c34, rfl, hf, hM⟩
          try dsimp only at h29
          refine region_pl ?_
          refine q_ hf rfl rfl rfl (e_move hf rfl) fun a hf => ?_
          obtain ⟨z112, hz113, h29⟩ := bind_some h29
          refine q_ hf rfl rfl rfl (e_add hf rfl rfl hz113) fun a hf => ?_
          refine q_ hf rfl rfl rfl (e_assign hf rfl) fun a hf => ?_
          refine pl_nil ?_
          obtain rfl := some_inj h29
          refine then_n ⟨_, rfl, ?_⟩
          exact ⟨xs32, z112, A33, c34, rfl, hf.keep ⟨rfl, rfl, rfl, trivial⟩, hM.pick [] rfl, (chk_R hz113)⟩
      · refine cond_f hf rfl hc31 ?_
        refine wp_exit ?_
        refine then_x ?_
        obtain rfl := some_inj h29
        obtain rfl := hd30 _ rfl
        try dsimp only at h16
        refine then_x ?_
        refine exit_hit ?_
        obtain rfl := some_inj h16
        refine then_n ?_
        exact ⟨xs17, A18, c19, rfl, hf.keep ⟨rfl, trivial⟩, hM.pick [] rfl⟩
  · rintro a w119 ⟨xs12, A13, c14, rfl, hf, hM⟩
    try dsimp only at h
    refine wp_seq ?_
    refine region_pl ?_
    refine q_ hf rfl rfl rfl (e_move hf rfl) fun a hf => ?_
    refine q_ hf rfl rfl rfl (e_assign hf rfl) fun a hf => ?_
    refine pl_nil ?_
    refine then_n ?_
    refine wp_ret ?_
    obtain rfl := some_inj h
    have hM := hM.outs (own' := [.row SlotRep A13 c14 75 xs12 true]) 1 rfl
    exact leave1 hf rfl rfl ⟨A13, c14, rfl, hM.fin⟩

set_option maxRecDepth 100000 in
set_option maxHeartbeats 4000000 in
theorem r_impl_Grid_turned (C : Cx) (g1 : Grid) (hp2 : R64 g1.Rows) (hp3 : R64 g1.Cols) (hp4 : g1.Cells.length ≤ maxLen) (r : Grid) (h : m_impl_Grid_turned g1 = some r) :
    Calls Try.prog 81 #[.agg #[vI (g1.Rows), vI (g1.Cols), vS (g1.Cells)]] C.w0 fun e w => e = .returned (.agg #[vI (r.Rows), vI (r.Cols), vS (r.Cells)]) ∧ Mem C w [] [] ∧ R64 r.Rows ∧ R64 r.Cols ∧ r.Cells.length ≤ maxLen := by
  have hM := Mem.begin C [] trivial
  refine enter Try.func81 rfl Try.ntmps81 rfl fun a hf => ?_
  unfold m_impl_Grid_turned at h
  refine wp_seq ?_
  refine region_pl ?_
  refine pl_l hf rfl rfl rfl (w_box hf hM (cs := [vI (g1.Rows), vI (g1.Cols), vS (g1.Cells)]) rfl rfl fun b5 w6 hx7 hM a hf => ?_)
  refine pl_l hf rfl rfl rfl (w_alloc hM (cs := [vI (0), vI (0), vS (([] : Str))]) Try.zeroValue27 rfl fun b9 w10 hx11 hM a hf => ?_)
  refine pl_nil ?_
  refine then_n ?_
  refine wp_seq ?_
  refine region_pl ?_
  refine pl_l hf rfl rfl rfl (w_slice0 (K := byteRep) hM Try.underlying63 ei_5 fun b13 w14 hx15 hM a hf => ?_)
  refine q_ hf rfl rfl rfl (e_assign hf rfl) fun a hf => ?_
  refine pl_nil ?_
  refine then_n ?_
  obtain ⟨x19, h20, h⟩ := bind_some h
  refine seq_join (fun a w => ∃ (xs16 : Str) (A17 : Option Addr) (c18 : Nat), xs16 = x19 ∧ Has 38 a [(1, vP b5 (0)), (2, vP b9 (0)), (3, vL A17 (xs16) c18)] ∧ Mem C w [.row byteRep A17 c18 5 xs16 true, .box b9 [vI (0), vI (0), vS (([] : Str))] 27, .box b5 [vI (g1.Rows), vI (g1.Cols), vS (g1.Cells)] 27] []) ?_ ?_
  · refine wp_seq ?_
    refine region_pl ?_
    refine q_ hf rfl rfl rfl (e_assign hf rfl) fun a hf => ?_
    refine pl_nil ?_
    refine then_n ?_
    refine wp_block ?_
    obtain ⟨x30, h31, h20⟩ := bind_some h20
    refine wp_loopM h31 (fun s a w => ∃ (xs21 : Str) (row24 : Int) (A22 : Option Addr) (c23 : Nat), (xs21, row24) = s ∧ Has 38 a [(1, vP b5 (0)), (2, vP b9 (0)), (3, vL A22 (xs21) c23), (4, vI (row24))] ∧ Mem C w [.row byteRep A22 c23 5 xs21 true, .box b9 [vI (0), vI (0), vS (([] : Str))] 27, .box b5 [vI (g1.Rows), vI (g1.Cols), vS (g1.Cells)] 27] [] ∧ R64 row24) ?_ ?_
    · exact ⟨([] : Str), 0, (some ⟨b13, 0, none⟩), 0, rfl, hf.keep ⟨rfl, rfl, rfl, rfl, trivial⟩, hM.pick [] rfl, (R64_lit rfl)⟩
    · rintro s o32 a w26 ⟨xs21, row24, A22, c23, rfl, hf, hM, hv25⟩ h33 hd34
      replace h33 : m_impl_Grid_turned_l1 g1 xs21 row24 = some o32 := h33
      unfold m_impl_Grid_turned_l1 at h33
      refine wp_seq ?_
      refine wp_seq ?_
      refine region_pl ?_
      refine q_ hf rfl rfl rfl (e_move hf rfl) fun a hf => ?_
      refine q_ hf rfl rfl rfl (e_field hf rfl Try.underlying27 rfl Try.sizeOf2 (o' := 1) rfl) fun a hf => ?_
      refine q_ hf rfl rfl rfl (e_load1 hf rfl Try.isAgg2 (hM.boxCell (k := 2) rfl rfl)) fun a hf => ?_
      refine q_ hf rfl rfl rfl (e_lt hf (x := row24) (y := g1.Cols) rfl rfl) fun a hf => ?_
      refine pl_nil ?_
      refine then_n ?_
      rcases cond_some h33 with ⟨hc35, h33⟩ | ⟨hc35, h33⟩
      · refine cond_t hf rfl hc35 ?_
        refine wp_skip ?_
        refine then_n ?_
        obtain ⟨x39, h40, h33⟩ := bind_some h33
        refine seq_join (fun a w => ∃ (xs36 : Str) (A37 : Option Addr) (c38 : Nat), xs36 = x39 ∧ Has 38 a [(1, vP b5 (0)), (2, vP b9 (0)), (3, vL A37 (xs36) c38), (4, vI (row24))] ∧ Mem C w [.row byteRep A37 c38 5 xs36 true, .box b9 [vI (0), vI (0), vS (([] : Str))] 27, .box b5 [vI (g1.Rows), vI (g1.Cols), vS (g1.Cells)] 27] []) ?_ ?_
        · refine wp_block ?_
          refine wp_seq ?_
          refine region_pl ?_
          refine q_ hf rfl rfl rfl (e_assign hf rfl) fun a hf => ?_
          refine pl_nil ?_
          refine then_n ?_
          refine wp_block ?_
          obtain ⟨x50, h51, h40⟩ := bind_some h40
          refine wp_loopM h51 (fun s a w => ∃ (xs41 : Str) (n44 : Int) (A42 : Option Addr) (c43 : Nat), (xs41, n44) = s ∧ Has 38 a [(1, vP b5 (0)), (2, vP b9 (0)), (3, vL A42 (xs41) c43), (4, vI (row24)), (5, vI (n44))] ∧ Mem C w [.row byteRep A42 c43 5 xs41 true, .box b9 [vI (0), vI (0), vS (([] : Str))] 27, .box b5 [vI (g1.Rows), vI (g1.Cols), vS (g1.Cells)] 27] [] ∧ R64 n44) ?_ ?_
          · exact ⟨xs21, 0, A22, c23, rfl, hf.keep ⟨rfl, rfl, rfl, rfl, rfl, trivial⟩, hM.pick [] rfl, (R64_lit rfl)⟩
          · rintro s o52 a w46 ⟨xs41, n44, A42, c43, rfl, hf, hM, hv45⟩ h53 hd54
            replace h53 : m_impl_Grid_turned_l2 g1 row24 xs41 n44 = some o52 := h53
            unfold m_impl_Grid_turned_l2 at h53
            refine wp_seq ?_
            refine wp_seq ?_
            refine region_pl ?_
            refine q_ hf rfl rfl rfl (e_move hf rfl) fun a hf => ?_
            refine q_ hf rfl rfl rfl (e_field hf rfl Try.underlying27 rfl Try.sizeOf2 (o' := 0) rfl) fun a hf => ?_
            refine q_ hf rfl rfl rfl (e_load1 hf rfl Try.isAgg2 (hM.boxCell (k := 2) rfl rfl)) fun a hf => ?_
            refine q_ hf rfl rfl rfl (e_lt hf (x := n44) (y := g1.Rows) rfl rfl) fun a hf => ?_
            refine pl_nil ?_
            refine then_n ?_
            rcases cond_some h53 with ⟨hc55, h53⟩ | ⟨hc55, h53⟩
            · refine cond_t hf rfl hc55 ?_
              refine wp_skip ?_
              refine then_n ?_
              refine wp_seq ?_
              refine wp_block ?_
              refine region_pl ?_
              refine q_ hf rfl rfl rfl (e_move hf rfl) fun a hf => ?_
              refine q_ hf rfl rfl rfl (e_field hf rfl Try.underlying27 rfl Try.sizeOf9 (o' := 2) rfl) fun a hf => ?_
              refine q_ hf rfl rfl rfl (e_load1 hf rfl Try.isAgg9 (hM.boxCell (k := 2) rfl rfl)) fun a hf => ?_
              refine q_ hf rfl rfl rfl (e_move hf rfl) fun a hf => ?_
              refine q_ hf rfl rfl rfl (e_field hf rfl Try.underlying27 rfl Try.sizeOf2 (o' := 1) rfl) fun a hf => ?_
              refine q_ hf rfl rfl rfl (e_load1 hf rfl Try.isAgg2 (hM.boxCell (k := 2) rfl rfl)) fun a hf => ?_
              obtain ⟨z56, hz57, h53⟩ := bind_some h53
              refine q_ hf rfl rfl rfl (e_mul hf rfl rfl hz57) fun a hf => ?_
              refine q_ hf rfl rfl rfl (e_move hf rfl) fun a hf => ?_
              obtain ⟨z58, hz59, h53⟩ := bind_some h53
              refine q_ hf rfl rfl rfl (e_add hf rfl rfl hz59) fun a hf => ?_
              obtain ⟨c60, hz61, h53⟩ := bind_some h53
              refine q_ hf rfl rfl rfl (e_indexS hf (x := g1.Cells) rfl rfl Try.underlying9 hz61) fun a hf => ?_
              refine pl_l hf rfl rfl rfl (w_slice hf hM (K := byteRep) (xs := ([c60] : Str)) (os := [.tmp 28]) Try.underlying63 ei_5 rfl rfl rfl rfl rfl ⟨⟨[vB (c60)], rfl, rfl⟩, trivial⟩ rfl fun b62 w63 hx64 hM a hf => ?_)
              obtain ⟨xs65, hz66, h53⟩ := bind_some h53
              refine pl_l hf rfl rfl rfl (w_append hf hM Try.underlying63 ei_5 rfl rfl rfl (k := 1) rfl (hM.srcRow (k := 0) rfl) hz66 fun A67 c68 w69 hM a hf => ?_)
              dsimp only [List.set] at hM
              refine q_ hf rfl rfl rfl (e_assign hf rfl) fun a hf => ?_
              refine pl_nil ?_
              refine blk_n ?_
              refine then_n ?_
              refine region_pl ?_
              refine q_ hf rfl rfl rfl (e_move hf rfl) fun a hf => ?_
              obtain ⟨z72, hz73, h53⟩ := bind_some h53
              refine q_ hf rfl rfl rfl (e_add hf rfl rfl hz73) fun a hf => ?_
              refine q_ hf rfl rfl rfl (e_assign hf rfl) fun a hf => ?_
              refine pl_nil ?_
              obtain rfl := some_inj h53
              refine then_n ⟨_, rfl, ?_⟩
              exact ⟨xs65, z72, A67, c68, rfl, hf.keep ⟨rfl, rfl, rfl, rfl, rfl, trivial⟩, (hM.drop (.cons _ (.cons_cons _ (.cons_cons _ (.cons_cons _ .slnil))))).pick [] rfl, (chk_R hz73)⟩
            · refine cond_f hf rfl hc55 ?_
              refine wp_exit ?_
              refine then_x ?_
              obtain rfl := some_inj h53
              obtain rfl := hd54 _ rfl
              try dsimp only at h40
              refine then_x ?_
              refine exit_hit ?_
              refine blk_n ?_
              obtain rfl := some_inj h40
              refine then_n ?_
              exact ⟨xs41, A42, c43, rfl, hf.keep ⟨rfl, rfl, rfl, rfl, trivial⟩, hM.pick [] rfl⟩
        · rintro a w79 ⟨xs36, A37, c38, rfl, hf, hM⟩
          try dsimp only at h33
          refine region_pl ?_
          refine q_ hf rfl rfl rfl (e_move hf rfl) fun a hf => ?_
          obtain ⟨z80, hz81, h33⟩ := bind_some h33
          refine q_ hf rfl rfl rfl (e_add hf rfl rfl hz81) fun a hf => ?_
          refine q_ hf rfl rfl rfl (e_assign hf rfl) fun a hf => ?_
          refine pl_nil ?_
          obtain rfl := some_inj h33
          refine then_n ⟨_, rfl, ?_⟩
          exact ⟨xs36, z80, A37, c38, rfl, hf.keep ⟨rfl, rfl, rfl, rfl, trivial⟩, hM.pick [] rfl, (chk_R hz81)⟩
      · refine cond_f hf rfl hc35 ?_
        refine wp_exit ?_
        refine then_x ?_
        obtain rfl := some_inj h33
        obtain rfl := hd34 _ rfl
        try dsimp only at h20
        refine then_x ?_
        refine exit_hit ?_
        obtain rfl := some_inj h20
        refine then_n ?_
        exact ⟨xs21, A22, c23, rfl, hf.keep ⟨rfl, rfl, rfl, trivial⟩, hM.pick [] rfl⟩
  · rintro a w87 ⟨xs16, A17, c18, rfl, hf, hM⟩
    try dsimp only at h
    refine wp_seq ?_
    refine region_pl ?_
    refine q_ hf rfl rfl rfl (e_field hf rfl Try.underlying27 rfl Try.sizeOf2 (o' := 1) rfl) fun a hf => ?_
    refine q_ hf rfl rfl rfl (e_load1 hf rfl Try.isAgg2 (hM.boxCell (k := 2) rfl rfl)) fun a hf => ?_
    refine q_ hf rfl rfl rfl (e_field hf rfl Try.underlying27 rfl Try.sizeOf2 (o' := 0) rfl) fun a hf => ?_
    refine q_ hf rfl rfl rfl (e_load1 hf rfl Try.isAgg2 (hM.boxCell (k := 2) rfl rfl)) fun a hf => ?_
    refine q_ hf rfl rfl rfl (e_move hf rfl) fun a hf => ?_
    have hl88 := row_len (hM.ownAt (k := 0) rfl)
    refine q_ hf rfl rfl rfl (e_bytesStr hf (xs := xs16) rfl Try.underlying63 Try.underlying5 Try.underlying9 (hM.lendRow (k := 0) rfl)) fun a hf => ?_
    refine q_ hf rfl rfl rfl (e_build hf Try.zeroValue27 Try.underlying27 (bp_27 _ Try.underlying27.symm) rfl (cs := #[vI (g1.Cols), vI (g1.Rows), vS (xs16)]) (by kernel_rfl)) fun a hf => ?_
    refine pl_0 hf rfl rfl (w_store hf hM (us := [vI (g1.Cols), vI (g1.Rows), vS (xs16)]) (cs' := [vI (g1.Cols), vI (g1.Rows), vS (xs16)]) rfl rfl (k := 1) rfl rfl Try.sizeOf27 rfl rfl rfl fun w89 hM => ?_)
    dsimp only [List.set] at hM
    refine pl_nil ?_
    refine then_n ?_
    refine wp_ret ?_
    obtain rfl := some_inj h
    have hres92 := leaveV1 (P := Try.prog) Try.results81 (res_agg hf rfl ⟨Try.isAgg27, Try.sizeOf27⟩ (us := [vI (g1.Cols), vI (g1.Rows), vS (xs16)]) rfl (hM.boxSub (k := 1) (o := 0) rfl rfl))
    have hM := hM.outs (own' := []) 0 rfl
    exact bodyPost_ret hres92 hf.defers ⟨rfl, hM.fin, hp3, hp2, hl88⟩

end Go.Proofs.Ytgmikhdealhlfaa
