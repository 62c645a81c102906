/- The functions that this law reaches do what their models say. Printed by gen.py. -/
import Derived.Test.YtgmikhdealhlfaaMod
import Derived.Test.YtgmikhdealhlfaaLib
namespace Go.Proofs.Ytgmikhdealhlfaa
open Go Go.RowKit
set_option linter.unusedSimpArgs false
set_option linter.unusedVariables false

def FnC_UInt8_to_Bool (fk : FuncId) (fc : List Value) (f : UInt8 → Option Bool) (C : Cx) : Prop := ∀ (x0 : UInt8) (r : Bool) (h : f x0 = some r),
    Calls Try.prog fk (([vB (x0)] : List Value) ++ fc).toArray C.w0 fun e w => e = .returned (.bool (r)) ∧ Mem C w [] []

def FnC_Str_to_Bool (fk : FuncId) (fc : List Value) (f : Str → Option Bool) (C : Cx) : Prop := ∀ (x0 : Str) (hp1 : x0.length ≤ maxLen) (r : Bool) (h : f x0 = some r),
    Calls Try.prog fk (([vS (x0)] : List Value) ++ fc).toArray C.w0 fun e w => e = .returned (.bool (r)) ∧ Mem C w [] []

def FnC_Slot_to_Bool (fk : FuncId) (fc : List Value) (f : Slot → Option Bool) (C : Cx) : Prop := ∀ (x0 : Slot) (hp1 : R64 x0.Row) (hp2 : R64 x0.Col) (hp3 : R64 x0.Length) (r : Bool) (h : f x0 = some r),
    Calls Try.prog fk (([.agg #[vI (x0.Row), vI (x0.Col), .bool (x0.Down), vI (x0.Length)]] : List Value) ++ fc).toArray C.w0 fun e w => e = .returned (.bool (r)) ∧ Mem C w [] []

/-- What a loop's body does, as yield: its blocks, and a model of it. -/
def YOk {σ : Type} (P : Program) (yl y1 y2 y3 y4 : Nat) (q1 q2 q3 q4 : σ → Obj) (yv : (Grid → σ → Option (Bool × σ))) : Prop := ∀ (C : Cx) (x : Grid) (_ : R64 x.Rows) (_ : R64 x.Cols) (_ : x.Cells.length ≤ maxLen) (s : σ) (_ : Mem C C.w0 [.obj y1 (q1 s), .obj y2 (q2 s), .obj y3 (q3 s), .obj y4 (q4 s)] []) (_ : ∀ b, C.S0 b → ¬ ownB [.obj y1 (q1 s), .obj y2 (q2 s), .obj y3 (q3 s), .obj y4 (q4 s)] b) (r : Bool × σ) (_ : yv x s = some r), YieldAt Fence.wide 0 P yl #[Value.agg #[vI x.Rows, vI x.Cols, vS x.Cells]] C.w0 fun e w => e = .returned (.bool r.1) ∧ Mem C w [.obj y1 (q1 r.2), .obj y2 (q2 r.2), .obj y3 (q3 r.2), .obj y4 (q4 r.2)] []

theorem ei_2 : ElemInfo Try.prog 2 1 := elemInfo (by kernel_rfl)

theorem ei_5 : ElemInfo Try.prog 5 1 := elemInfo (by kernel_rfl)

theorem ei_9 : ElemInfo Try.prog 9 1 := elemInfo (by kernel_rfl)

theorem ei_27 : ElemInfo Try.prog 27 3 := elemInfo (by kernel_rfl)

theorem ei_75 : ElemInfo Try.prog 75 4 := elemInfo (by kernel_rfl)

theorem bp_27 : ∀ (fs : Array Field), some (TypeDesc.struct fs) = Try.prog.underlying 27 → ∀ w, (fs.mapM fun (f : Field) => do pure (f.offset, ← sizeOf f.type)).run Try.prog w = .ok #[(0, 1), (1, 1), (2, 1)] w := by
  intro fs h w
  rw [Try.underlying27] at h
  cases h
  simp

theorem bp_75 : ∀ (fs : Array Field), some (TypeDesc.struct fs) = Try.prog.underlying 75 → ∀ w, (fs.mapM fun (f : Field) => do pure (f.offset, ← sizeOf f.type)).run Try.prog w = .ok #[(0, 1), (1, 1), (2, 1), (3, 1)] w := by
  intro fs h w
  rw [Try.underlying75] at h
  cases h
  simp

theorem bp_104 : ∀ (fs : Array Field), some (TypeDesc.struct fs) = Try.prog.underlying 104 → ∀ w, (fs.mapM fun (f : Field) => do pure (f.offset, ← sizeOf f.type)).run Try.prog w = .ok #[(0, 1), (1, 1), (2, 1), (3, 1)] w := by
  intro fs h w
  rw [Try.underlying104] at h
  cases h
  simp

set_option maxRecDepth 100000 in
set_option maxHeartbeats 4000000 in
theorem r_laws_szGrid (C : Cx) (a1 : Grid) (hp2 : R64 a1.Rows) (hp3 : R64 a1.Cols) (hp4 : a1.Cells.length ≤ maxLen) (left5 : Int) (hp6 : R64 left5) (r : Int) (h : m_laws_szGrid a1 left5 = some r) :
    Calls Try.prog 12 #[.agg #[vI (a1.Rows), vI (a1.Cols), vS (a1.Cells)], vI (left5)] C.w0 fun e w => e = .returned (vI (r)) ∧ Mem C w [] [] ∧ R64 r := by
  have hM := Mem.begin C [] trivial
  refine enter Try.func12 rfl Try.ntmps12 rfl fun a hf => ?_
  unfold m_laws_szGrid at h
  refine wp_seq ?_
  refine region_pl ?_
  refine pl_l hf rfl rfl rfl (w_box hf hM (cs := [vI (a1.Rows), vI (a1.Cols), vS (a1.Cells)]) rfl rfl fun b7 w8 hx9 hM a hf => ?_)
  refine q_ hf rfl rfl rfl (e_assign hf rfl) fun a hf => ?_
  refine pl_nil ?_
  refine then_n ?_
  refine wp_seq ?_
  refine region_pl ?_
  refine q_ hf rfl rfl rfl (e_move hf rfl) fun a hf => ?_
  refine q_ hf rfl rfl rfl (e_field hf rfl Try.underlying23 rfl Try.sizeOf9 (o' := 2) rfl) fun a hf => ?_
  refine q_ hf rfl rfl rfl (e_load1 hf rfl Try.isAgg9 (hM.boxCell (k := 0) rfl rfl)) fun a hf => ?_
  refine q_ hf rfl rfl rfl (e_lenS hf (x := a1.Cells) rfl Try.underlying9) fun a hf => ?_
  obtain ⟨z11, hz12, h⟩ := bind_some h
  refine q_ hf rfl rfl rfl (e_sub hf rfl rfl hz12) fun a hf => ?_
  refine q_ hf rfl rfl rfl (e_assign hf rfl) fun a hf => ?_
  refine pl_nil ?_
  refine then_n ?_
  refine wp_seq ?_
  refine wp_seq ?_
  refine region_pl ?_
  refine q_ hf rfl rfl rfl (e_move hf rfl) fun a hf => ?_
  refine q_ hf rfl rfl rfl (e_lt hf (x := z11) (y := 0) rfl rfl) fun a hf => ?_
  refine pl_nil ?_
  refine then_n ?_
  rcases cond_some h with ⟨hc13, h⟩ | ⟨hc13, h⟩
  · refine cond_t hf rfl hc13 ?_
    refine wp_seq ?_
    refine region_pl ?_
    refine q_ hf rfl rfl rfl (e_assign hf rfl) fun a hf => ?_
    refine pl_nil ?_
    refine then_n ?_
    refine wp_ret ?_
    refine then_r ?_
    obtain rfl := some_inj h
    have hM := hM.outs (own' := []) 0 rfl
    exact leave1 hf rfl rfl ⟨rfl, hM.fin, (R64_lit rfl)⟩
  · refine cond_f hf rfl hc13 ?_
    refine wp_skip ?_
    refine then_n ?_
    refine wp_seq ?_
    refine region_pl ?_
    refine q_ hf rfl rfl rfl (e_move hf rfl) fun a hf => ?_
    refine q_ hf rfl rfl rfl (e_assign hf rfl) fun a hf => ?_
    refine pl_nil ?_
    refine then_n ?_
    refine wp_ret ?_
    obtain rfl := some_inj h
    have hM := hM.outs (own' := []) 0 rfl
    exact leave1 hf rfl rfl ⟨rfl, hM.fin, (chk_R hz12)⟩

set_option maxRecDepth 100000 in
set_option maxHeartbeats 4000000 in
theorem r_laws_szStringS (C : Cx) (a1 : (List Str)) (A2 : Option Addr) (c3 : Nat) (hp4 : (sliceRep strRep).R C.w0 C.S0 a1 [vL A2 a1 c3]) (left5 : Int) (hp6 : R64 left5) (r : Int) (h : m_laws_szStringS a1 left5 = some r) :
    Calls Try.prog 63 #[vL A2 (a1) c3, vI (left5)] C.w0 fun e w => e = .returned (vI (r)) ∧ Mem C w [] [] ∧ R64 r := by
  have hM := Mem.begin C [.dat (sliceRep strRep) a1 [vL A2 a1 c3]] ⟨hp4, trivial⟩
  refine enter Try.func63 rfl Try.ntmps63 rfl fun a hf => ?_
  unfold m_laws_szStringS at h
  refine wp_seq ?_
  refine region_pl ?_
  refine q_ hf rfl rfl rfl (e_assign hf rfl) fun a hf => ?_
  refine pl_nil ?_
  refine then_n ?_
  refine wp_seq ?_
  refine region_pl ?_
  refine q_ hf rfl rfl rfl (e_move hf rfl) fun a hf => ?_
  refine q_ hf rfl rfl rfl (e_move hf rfl) fun a hf => ?_
  have hl7 := slice_len (hM.dat (k := 0) rfl)
  refine q_ hf rfl rfl rfl (e_lenL hf (x := a1) rfl Try.underlying40) fun a hf => ?_
  obtain ⟨z8, hz9, h⟩ := bind_some h
  refine q_ hf rfl rfl rfl (e_sub hf rfl rfl hz9) fun a hf => ?_
  refine q_ hf rfl rfl rfl (e_assign hf rfl) fun a hf => ?_
  refine pl_nil ?_
  refine then_n ?_
  refine wp_seq ?_
  refine wp_seq ?_
  refine region_pl ?_
  refine q_ hf rfl rfl rfl (e_move hf rfl) fun a hf => ?_
  refine q_ hf rfl rfl rfl (e_lt hf (x := z8) (y := 0) rfl rfl) fun a hf => ?_
  refine pl_nil ?_
  refine then_n ?_
  rcases cond_some h with ⟨hc10, h⟩ | ⟨hc10, h⟩
  · refine cond_t hf rfl hc10 ?_
    refine wp_seq ?_
    refine region_pl ?_
    refine q_ hf rfl rfl rfl (e_assign hf rfl) fun a hf => ?_
    refine pl_nil ?_
    refine then_n ?_
    refine wp_ret ?_
    refine then_r ?_
    obtain rfl := some_inj h
    exact leave1 hf rfl rfl ⟨rfl, hM.fin, (R64_lit rfl)⟩
  · refine cond_f hf rfl hc10 ?_
    refine wp_skip ?_
    refine then_n ?_
    obtain ⟨x13, h14, h⟩ := bind_some h
    refine seq_join (fun a w => ∃ (left11 : Int), (.inl left11) = x13 ∧ Has 28 a [(1, vI (left11))] ∧ Mem C w [] [.dat (sliceRep strRep) a1 [vL A2 a1 c3]] ∧ R64 left11) ?_ ?_
    · refine wp_seq ?_
      refine region_pl ?_
      refine q_ hf rfl rfl rfl (e_assign hf rfl) fun a hf => ?_
      refine pl_nil ?_
      refine then_n ?_
      refine wp_block ?_
      obtain ⟨x22, h23, h14⟩ := bind_some h14
      refine wp_loopM h23 (fun s a w => ∃ (left15 : Int) (n17 : Int), (left15, n17) = s ∧ Has 28 a [(0, vL A2 (a1) c3), (1, vI (left15)), (5, vI (n17))] ∧ Mem C w [] [.dat (sliceRep strRep) a1 [vL A2 a1 c3]] ∧ R64 left15 ∧ R64 n17) ?_ ?_
      · exact ⟨z8, 0, rfl, hf.keep ⟨rfl, rfl, rfl, trivial⟩, hM.pick [0] rfl, (chk_R hz9), (R64_lit rfl)⟩
      · rintro s o24 a w19 ⟨left15, n17, rfl, hf, hM, hv16, hv18⟩ h25 hd26
        replace h25 : m_laws_szStringS_l1 a1 left15 n17 = some o24 := h25
        unfold m_laws_szStringS_l1 at h25
        refine wp_seq ?_
        refine wp_seq ?_
        refine region_pl ?_
        refine q_ hf rfl rfl rfl (e_move hf rfl) fun a hf => ?_
        refine q_ hf rfl rfl rfl (e_move hf rfl) fun a hf => ?_
        have hl27 := slice_len (hM.dat (k := 0) rfl)
        refine q_ hf rfl rfl rfl (e_lenL hf (x := a1) rfl Try.underlying40) fun a hf => ?_
        refine q_ hf rfl rfl rfl (e_lt hf (x := n17) (y := (a1.length : Int)) rfl rfl) fun a hf => ?_
        refine pl_nil ?_
        refine then_n ?_
        rcases cond_some h25 with ⟨hc28, h25⟩ | ⟨hc28, h25⟩
        · refine cond_t hf rfl hc28 ?_
          refine wp_skip ?_
          refine then_n ?_
          refine wp_seq ?_
          refine wp_block ?_
          refine wp_seq ?_
          refine region_pl ?_
          refine q_ hf rfl rfl rfl (e_move hf rfl) fun a hf => ?_
          refine q_ hf rfl rfl rfl (e_move hf rfl) fun a hf => ?_
          refine q_ hf rfl rfl rfl (e_move hf rfl) fun a hf => ?_
          obtain ⟨e29, hz30, h25⟩ := bind_some h25
          obtain ⟨b34, o35, _, hA36, h31, h32, hr33, hM⟩ := hM.elem (hM.dat (k := 0) rfl) (n := 1) rfl hz30
          obtain ⟨rfl, hv37⟩ := hr33
          refine q_ hf rfl rfl rfl (e_indexAddr (A := A2) (b := b34) (o := o35) (xs := a1) (i := n17) hf hA36 rfl rfl Try.underlying40 Try.sizeOf9 h31 h32) fun a hf => ?_
          refine q_ hf rfl rfl rfl (e_load1 hf rfl Try.isAgg9 (hM.litCell (k := 0) (j := 0) rfl rfl rfl)) fun a hf => ?_
          refine q_ hf rfl rfl rfl (e_lenS hf (x := e29) rfl Try.underlying9) fun a hf => ?_
          obtain ⟨z38, hz39, h25⟩ := bind_some h25
          refine q_ hf rfl rfl rfl (e_sub hf rfl rfl hz39) fun a hf => ?_
          refine q_ hf rfl rfl rfl (e_assign hf rfl) fun a hf => ?_
          refine pl_nil ?_
          refine then_n ?_
          refine wp_seq ?_
          refine region_pl ?_
          refine q_ hf rfl rfl rfl (e_move hf rfl) fun a hf => ?_
          refine q_ hf rfl rfl rfl (e_lt hf (x := z38) (y := 0) rfl rfl) fun a hf => ?_
          refine pl_nil ?_
          refine then_n ?_
          rcases cond_some h25 with ⟨hc40, h25⟩ | ⟨hc40, h25⟩
          · refine cond_t hf rfl hc40 ?_
            refine wp_seq ?_
            refine region_pl ?_
            refine q_ hf rfl rfl rfl (e_assign hf rfl) fun a hf => ?_
            refine pl_nil ?_
            refine then_n ?_
            refine wp_ret ?_
            refine blk_r ?_
            refine then_r ?_
            obtain rfl := some_inj h25
            obtain rfl := hd26 _ rfl
            try dsimp only at h14
            refine then_r ?_
            refine blk_r ?_
            obtain rfl := some_inj h14
            try dsimp only at h
            refine then_r ?_
            obtain rfl := some_inj h
            exact leave1 hf rfl rfl ⟨rfl, hM.fin, (R64_lit rfl)⟩
          · refine cond_f hf rfl hc40 ?_
            refine wp_skip ?_
            refine blk_n ?_
            refine then_n ?_
            refine region_pl ?_
            refine q_ hf rfl rfl rfl (e_move hf rfl) fun a hf => ?_
            obtain ⟨z41, hz42, h25⟩ := bind_some h25
            refine q_ hf rfl rfl rfl (e_add hf rfl rfl hz42) fun a hf => ?_
            refine q_ hf rfl rfl rfl (e_assign hf rfl) fun a hf => ?_
            refine pl_nil ?_
            obtain rfl := some_inj h25
            refine then_n ⟨_, rfl, ?_⟩
            exact ⟨z38, z41, rfl, hf.keep ⟨rfl, rfl, rfl, trivial⟩, hM.pick [1] rfl, (chk_R hz39), (chk_R hz42)⟩
        · refine cond_f hf rfl hc28 ?_
          refine wp_exit ?_
          refine then_x ?_
          obtain rfl := some_inj h25
          obtain rfl := hd26 _ rfl
          try dsimp only at h14
          refine then_x ?_
          refine exit_hit ?_
          obtain rfl := some_inj h14
          refine then_n ?_
          exact ⟨left15, rfl, hf.keep ⟨rfl, trivial⟩, hM.pick [0] rfl, hv16⟩
    · rintro a w49 ⟨left11, rfl, hf, hM, hv12⟩
      try dsimp only at h
      refine wp_seq ?_
      refine region_pl ?_
      refine q_ hf rfl rfl rfl (e_move hf rfl) fun a hf => ?_
      refine q_ hf rfl rfl rfl (e_assign hf rfl) fun a hf => ?_
      refine pl_nil ?_
      refine then_n ?_
      refine wp_ret ?_
      obtain rfl := some_inj h
      exact leave1 hf rfl rfl ⟨rfl, hM.fin, hv12⟩

set_option maxRecDepth 100000 in
set_option maxHeartbeats 4000000 in
theorem r_laws_szLexicon (C : Cx) (a1 : Lexicon) (A2 : Option Addr) (c3 : Nat) (hp4 : (sliceRep strRep).R C.w0 C.S0 a1.Words [vL A2 a1.Words c3]) (left5 : Int) (hp6 : R64 left5) (r : Int) (h : m_laws_szLexicon a1 left5 = some r) :
    Calls Try.prog 24 #[.agg #[vL A2 (a1.Words) c3], vI (left5)] C.w0 fun e w => e = .returned (vI (r)) ∧ Mem C w [] [] ∧ R64 r := by
  have hM := Mem.begin C [.dat (sliceRep strRep) a1.Words [vL A2 a1.Words c3]] ⟨hp4, trivial⟩
  refine enter Try.func24 rfl Try.ntmps24 rfl fun a hf => ?_
  unfold m_laws_szLexicon at h
  refine wp_seq ?_
  refine region_pl ?_
  refine pl_l hf rfl rfl rfl (w_box hf hM (cs := [vL A2 (a1.Words) c3]) rfl rfl fun b7 w8 hx9 hM a hf => ?_)
  refine q_ hf rfl rfl rfl (e_assign hf rfl) fun a hf => ?_
  refine pl_nil ?_
  refine then_n ?_
  refine wp_seq ?_
  refine region_pl ?_
  refine q_ hf rfl rfl rfl (e_field hf rfl Try.underlying42 rfl Try.sizeOf40 (o' := 0) rfl) fun a hf => ?_
  refine q_ hf rfl rfl rfl (e_load1 hf rfl Try.isAgg40 (hM.boxCell (k := 0) rfl rfl)) fun a hf => ?_
  refine q_ hf rfl rfl rfl (e_move hf rfl) fun a hf => ?_
  obtain ⟨y11, hz12, h⟩ := bind_some h
  refine pl_l hf rfl rfl rfl (w_call hf Try.call63 rfl (r_laws_szStringS ⟨_, Sh C _ _, none_, hM.sh_lt, none_not, C.G, hM.g_lt, g_none, hM.tabs⟩ a1.Words _ _ (hM.dat (k := 0) rfl) left5 hp6 _ hz12) ?_)
  rintro _ w14 ⟨rfl, hM2, hv13⟩
  obtain ⟨hM, hx15, hup16⟩ := hM.back hM2
  dsimp only [List.cons_append, List.nil_append] at hM hup16
  clear hM2
  refine ⟨_, rfl, fun a hf => ?_⟩
  refine q_ hf rfl rfl rfl (e_assign hf rfl) fun a hf => ?_
  refine pl_nil ?_
  refine then_n ?_
  refine wp_seq ?_
  refine wp_seq ?_
  refine region_pl ?_
  refine q_ hf rfl rfl rfl (e_move hf rfl) fun a hf => ?_
  refine q_ hf rfl rfl rfl (e_lt hf (x := y11) (y := 0) rfl rfl) fun a hf => ?_
  refine pl_nil ?_
  refine then_n ?_
  rcases cond_some h with ⟨hc17, h⟩ | ⟨hc17, h⟩
  · refine cond_t hf rfl hc17 ?_
    refine wp_seq ?_
    refine region_pl ?_
    refine q_ hf rfl rfl rfl (e_assign hf rfl) fun a hf => ?_
    refine pl_nil ?_
    refine then_n ?_
    refine wp_ret ?_
    refine then_r ?_
    obtain rfl := some_inj h
    have hM := hM.outs (own' := []) 0 rfl
    exact leave1 hf rfl rfl ⟨rfl, hM.fin, (R64_lit rfl)⟩
  · refine cond_f hf rfl hc17 ?_
    refine wp_skip ?_
    refine then_n ?_
    refine wp_seq ?_
    refine region_pl ?_
    refine q_ hf rfl rfl rfl (e_move hf rfl) fun a hf => ?_
    refine q_ hf rfl rfl rfl (e_assign hf rfl) fun a hf => ?_
    refine pl_nil ?_
    refine then_n ?_
    refine wp_ret ?_
    obtain rfl := some_inj h
    have hM := hM.outs (own' := []) 0 rfl
    exact leave1 hf rfl rfl ⟨rfl, hM.fin, hv13⟩

set_option maxRecDepth 100000 in
set_option maxHeartbeats 4000000 in
theorem r_laws_toGrid (C : Cx) (a1 : Grid) (hp2 : R64 a1.Rows) (hp3 : R64 a1.Cols) (hp4 : a1.Cells.length ≤ maxLen) (r : Grid) (h : m_laws_toGrid a1 = some r) :
    Calls Try.prog 14 #[.agg #[vI (a1.Rows), vI (a1.Cols), vS (a1.Cells)]] C.w0 fun e w => e = .returned (.agg #[vI (r.Rows), vI (r.Cols), vS (r.Cells)]) ∧ Mem C w [] [] ∧ R64 r.Rows ∧ R64 r.Cols ∧ r.Cells.length ≤ maxLen := by
  have hM := Mem.begin C [] trivial
  refine enter Try.func14 rfl Try.ntmps14 rfl fun a hf => ?_
  unfold m_laws_toGrid at h
  refine wp_seq ?_
  refine region_pl ?_
  refine pl_l hf rfl rfl rfl (w_box hf hM (cs := [vI (a1.Rows), vI (a1.Cols), vS (a1.Cells)]) rfl rfl fun b5 w6 hx7 hM a hf => ?_)
  refine pl_l hf rfl rfl rfl (w_alloc hM (cs := [vI (0), vI (0), vS (([] : Str))]) Try.zeroValue27 rfl fun b9 w10 hx11 hM a hf => ?_)
  refine pl_nil ?_
  refine then_n ?_
  refine wp_seq ?_
  refine region_pl ?_
  refine pl_l hf rfl rfl rfl (w_alloc hM (cs := [vI (0), vI (0), vS (([] : Str))]) Try.zeroValue27 rfl fun b13 w14 hx15 hM a hf => ?_)
  refine pl_nil ?_
  refine then_n ?_
  refine wp_seq ?_
  refine region_pl ?_
  refine q_ hf rfl rfl rfl (e_field hf rfl Try.underlying23 rfl Try.sizeOf2 (o' := 0) rfl) fun a hf => ?_
  refine q_ hf rfl rfl rfl (e_load1 hf rfl Try.isAgg2 (hM.boxCell (k := 2) rfl rfl)) fun a hf => ?_
  refine q_ hf rfl rfl rfl (e_field hf rfl Try.underlying27 rfl Try.sizeOf2 (o' := 0) rfl) fun a hf => ?_
  refine pl_0 hf rfl rfl (w_store hf hM (us := [vI (a1.Rows)]) (cs' := [vI (a1.Rows), vI (0), vS (([] : Str))]) rfl rfl (k := 0) rfl rfl Try.sizeOf2 rfl rfl rfl fun w17 hM => ?_)
  dsimp only [List.set] at hM
  refine pl_nil ?_
  refine then_n ?_
  refine wp_seq ?_
  refine region_pl ?_
  refine q_ hf rfl rfl rfl (e_field hf rfl Try.underlying23 rfl Try.sizeOf2 (o' := 1) rfl) fun a hf => ?_
  refine q_ hf rfl rfl rfl (e_load1 hf rfl Try.isAgg2 (hM.boxCell (k := 2) rfl rfl)) fun a hf => ?_
  refine q_ hf rfl rfl rfl (e_field hf rfl Try.underlying27 rfl Try.sizeOf2 (o' := 1) rfl) fun a hf => ?_
  refine pl_0 hf rfl rfl (w_store hf hM (us := [vI (a1.Cols)]) (cs' := [vI (a1.Rows), vI (a1.Cols), vS (([] : Str))]) rfl rfl (k := 0) rfl rfl Try.sizeOf2 rfl rfl rfl fun w20 hM => ?_)
  dsimp only [List.set] at hM
  refine pl_nil ?_
  refine then_n ?_
  refine wp_seq ?_
  refine region_pl ?_
  refine q_ hf rfl rfl rfl (e_field hf rfl Try.underlying23 rfl Try.sizeOf9 (o' := 2) rfl) fun a hf => ?_
  refine q_ hf rfl rfl rfl (e_load1 hf rfl Try.isAgg9 (hM.boxCell (k := 2) rfl rfl)) fun a hf => ?_
  refine q_ hf rfl rfl rfl (e_field hf rfl Try.underlying27 rfl Try.sizeOf9 (o' := 2) rfl) fun a hf => ?_
  refine pl_0 hf rfl rfl (w_store hf hM (us := [vS (a1.Cells)]) (cs' := [vI (a1.Rows), vI (a1.Cols), vS (a1.Cells)]) rfl rfl (k := 0) rfl rfl Try.sizeOf9 rfl rfl rfl fun w23 hM => ?_)
  dsimp only [List.set] at hM
  refine pl_nil ?_
  refine then_n ?_
  refine wp_seq ?_
  refine region_pl ?_
  refine q_ hf rfl rfl rfl (e_loadA hf (us := [vI (a1.Rows), vI (a1.Cols), vS (a1.Cells)]) rfl ⟨Try.isAgg27, Try.sizeOf27⟩ rfl (hM.boxSub (k := 0) (us := [vI (a1.Rows), vI (a1.Cols), vS (a1.Cells)]) (o := 0) rfl rfl)) fun a hf => ?_
  refine pl_0 hf rfl rfl (w_store hf hM (us := [vI (a1.Rows), vI (a1.Cols), vS (a1.Cells)]) (cs' := [vI (a1.Rows), vI (a1.Cols), vS (a1.Cells)]) rfl rfl (k := 1) rfl rfl Try.sizeOf27 rfl rfl rfl fun w26 hM => ?_)
  dsimp only [List.set] at hM
  refine pl_nil ?_
  refine then_n ?_
  refine wp_ret ?_
  obtain rfl := some_inj h
  have hres29 := leaveV1 (P := Try.prog) Try.results14 (res_agg hf rfl ⟨Try.isAgg27, Try.sizeOf27⟩ (us := [vI (a1.Rows), vI (a1.Cols), vS (a1.Cells)]) rfl (hM.boxSub (k := 1) (o := 0) rfl rfl))
  have hM := hM.outs (own' := []) 0 rfl
  exact bodyPost_ret hres29 hf.defers ⟨rfl, hM.fin, hp2, hp3, hp4⟩

set_option maxRecDepth 100000 in
set_option maxHeartbeats 4000000 in
theorem r_laws_toStringS (C : Cx) (a1 : (List Str)) (A2 : Option Addr) (c3 : Nat) (hp4 : (sliceRep strRep).R C.w0 C.S0 a1 [vL A2 a1 c3]) (r : (List Str)) (h : m_laws_toStringS a1 = some r) :
    Calls Try.prog 66 #[vL A2 (a1) c3] C.w0 fun e w => ∃ (A_1 : Option Addr), ∃ (c_1 : Nat), e = .returned (vL A_1 (r) c_1) ∧ Mem C w [.row strRep A_1 c_1 9 r true] [] := by
  have hM := Mem.begin C [.dat (sliceRep strRep) a1 [vL A2 a1 c3]] ⟨hp4, trivial⟩
  refine enter Try.func66 rfl Try.ntmps66 rfl fun a hf => ?_
  unfold m_laws_toStringS at h
  refine wp_seq ?_
  refine region_pl ?_
  refine q_ hf rfl rfl rfl (e_assign hf rfl) fun a hf => ?_
  refine pl_nil ?_
  refine then_n ?_
  refine wp_seq ?_
  refine region_pl ?_
  refine q_ hf rfl rfl rfl (e_move hf rfl) fun a hf => ?_
  have hl5 := slice_len (hM.dat (k := 0) rfl)
  refine q_ hf rfl rfl rfl (e_lenL hf (x := a1) rfl Try.underlying40) fun a hf => ?_
  obtain ⟨xs6, hz7, h⟩ := bind_some h
  refine pl_l hf rfl rfl rfl (w_make hf hM (K := strRep) Try.underlying40 ei_9 Try.zeroValue9 rfl rfl rfl ⟨rfl, (lit_len rfl)⟩ hz7 fun b8 w9 hx10 hM a hf => ?_)
  refine q_ hf rfl rfl rfl (e_assign hf rfl) fun a hf => ?_
  refine pl_nil ?_
  refine then_n ?_
  obtain ⟨x12, h13, h⟩ := bind_some h
  refine seq_join (fun a w => ∃ (xs11 : (List Str)), xs11 = x12 ∧ Has 22 a [(3, vL (some ⟨b8, 0, none⟩) (xs11) (((a1.length : Int) : Int).toNat))] ∧ Mem C w [.row strRep (some ⟨b8, 0, none⟩) (((a1.length : Int) : Int).toNat) 9 xs11 true] [.dat (sliceRep strRep) a1 [vL A2 a1 c3]]) ?_ ?_
  · refine wp_seq ?_
    refine region_pl ?_
    refine q_ hf rfl rfl rfl (e_assign hf rfl) fun a hf => ?_
    refine pl_nil ?_
    refine then_n ?_
    refine wp_block ?_
    obtain ⟨x19, h20, h13⟩ := bind_some h13
    refine wp_loopM h20 (fun s a w => ∃ (xs14 : (List Str)) (n15 : Int), (xs14, n15) = s ∧ Has 22 a [(0, vL A2 (a1) c3), (3, vL (some ⟨b8, 0, none⟩) (xs14) (((a1.length : Int) : Int).toNat)), (4, vI (n15))] ∧ Mem C w [.row strRep (some ⟨b8, 0, none⟩) (((a1.length : Int) : Int).toNat) 9 xs14 true] [.dat (sliceRep strRep) a1 [vL A2 a1 c3]] ∧ R64 n15) ?_ ?_
    · exact ⟨xs6, 0, rfl, hf.keep ⟨rfl, rfl, rfl, trivial⟩, hM.pick [0] rfl, (R64_lit rfl)⟩
    · rintro s o21 a w17 ⟨xs14, n15, rfl, hf, hM, hv16⟩ h22 hd23
      replace h22 : m_laws_toStringS_l1 a1 xs14 n15 = some o21 := h22
      unfold m_laws_toStringS_l1 at h22
      refine wp_seq ?_
      refine wp_seq ?_
      refine region_pl ?_
      refine q_ hf rfl rfl rfl (e_move hf rfl) fun a hf => ?_
      refine q_ hf rfl rfl rfl (e_move hf rfl) fun a hf => ?_
      have hl24 := slice_len (hM.dat (k := 0) rfl)
      refine q_ hf rfl rfl rfl (e_lenL hf (x := a1) rfl Try.underlying40) fun a hf => ?_
      refine q_ hf rfl rfl rfl (e_lt hf (x := n15) (y := (a1.length : Int)) rfl rfl) fun a hf => ?_
      refine pl_nil ?_
      refine then_n ?_
      rcases cond_some h22 with ⟨hc25, h22⟩ | ⟨hc25, h22⟩
      · refine cond_t hf rfl hc25 ?_
        refine wp_skip ?_
        refine then_n ?_
        refine wp_seq ?_
        refine wp_block ?_
        refine region_pl ?_
        refine q_ hf rfl rfl rfl (e_move hf rfl) fun a hf => ?_
        refine q_ hf rfl rfl rfl (e_move hf rfl) fun a hf => ?_
        refine q_ hf rfl rfl rfl (e_move hf rfl) fun a hf => ?_
        refine q_ hf rfl rfl rfl (e_move hf rfl) fun a hf => ?_
        obtain ⟨e26, hz27, h22⟩ := bind_some h22
        obtain ⟨b31, o32, _, hA33, h28, h29, hr30, hM⟩ := hM.elem (hM.dat (k := 0) rfl) (n := 1) rfl hz27
        obtain ⟨rfl, hv34⟩ := hr30
        refine q_ hf rfl rfl rfl (e_indexAddr (A := A2) (b := b31) (o := o32) (xs := a1) (i := n15) hf hA33 rfl rfl Try.underlying40 Try.sizeOf9 h28 h29) fun a hf => ?_
        refine q_ hf rfl rfl rfl (e_load1 hf rfl Try.isAgg9 (hM.litCell (k := 0) (j := 0) rfl rfl rfl)) fun a hf => ?_
        obtain ⟨e35, hz36, h22⟩ := bind_some h22
        obtain ⟨_, h37, h38, hr39, hcell40⟩ := hM.rowElem' (k := 0) rfl (n := 1) rfl hz36
        obtain ⟨rfl, hv41⟩ := hr39
        refine q_ hf rfl rfl rfl (e_indexAddr (A := (some ⟨b8, 0, none⟩)) (b := b8) (o := 0) (xs := xs14) (i := n15) hf rfl rfl rfl Try.underlying40 Try.sizeOf9 h37 h38) fun a hf => ?_
        obtain ⟨xs43, hz44, h22⟩ := bind_some h22
        refine pl_0 hf rfl rfl (w_storeElem hf hM (x := e26) (row := [vS (e26)]) (i := n15) rfl rfl rfl rfl (k := 0) rfl rfl Try.sizeOf9 ⟨rfl, hv34⟩ hz44 fun w42 hM => ?_)
        dsimp only [List.set] at hM
        have hf := hf.alter (d := 3) (v := vL (some ⟨b8, 0, none⟩) (xs43) (((a1.length : Int) : Int).toNat)) rfl (vL_len (setL_len hz44))
        have hf := hf.alter (d := 14) (v := vL (some ⟨b8, 0, none⟩) (xs43) (((a1.length : Int) : Int).toNat)) rfl (vL_len (setL_len hz44))
        refine pl_nil ?_
        refine blk_n ?_
        refine then_n ?_
        refine region_pl ?_
        refine q_ hf rfl rfl rfl (e_move hf rfl) fun a hf => ?_
        obtain ⟨z45, hz46, h22⟩ := bind_some h22
        refine q_ hf rfl rfl rfl (e_add hf rfl rfl hz46) fun a hf => ?_
        refine q_ hf rfl rfl rfl (e_assign hf rfl) fun a hf => ?_
        refine pl_nil ?_
        obtain rfl := some_inj h22
        refine then_n ⟨_, rfl, ?_⟩
        exact ⟨xs43, z45, rfl, hf.keep ⟨rfl, rfl, rfl, trivial⟩, hM.pick [1] rfl, (chk_R hz46)⟩
      · refine cond_f hf rfl hc25 ?_
        refine wp_exit ?_
        refine then_x ?_
        obtain rfl := some_inj h22
        obtain rfl := hd23 _ rfl
        try dsimp only at h13
        refine then_x ?_
        refine exit_hit ?_
        obtain rfl := some_inj h13
        refine then_n ?_
        exact ⟨xs14, rfl, hf.keep ⟨rfl, trivial⟩, hM.pick [0] rfl⟩
  · rintro a w52 ⟨xs11, rfl, hf, hM⟩
    try dsimp only at h
    refine wp_seq ?_
    refine region_pl ?_
    refine q_ hf rfl rfl rfl (e_move hf rfl) fun a hf => ?_
    refine q_ hf rfl rfl rfl (e_assign hf rfl) fun a hf => ?_
    refine pl_nil ?_
    refine then_n ?_
    refine wp_ret ?_
    obtain rfl := some_inj h
    exact leave1 hf rfl rfl ⟨(some ⟨b8, 0, none⟩), (((a1.length : Int) : Int).toNat), rfl, hM.fin⟩

set_option maxRecDepth 100000 in
set_option maxHeartbeats 4000000 in
theorem r_laws_toLexicon (C : Cx) (a1 : Lexicon) (A2 : Option Addr) (c3 : Nat) (hp4 : (sliceRep strRep).R C.w0 C.S0 a1.Words [vL A2 a1.Words c3]) (r : Lexicon) (h : m_laws_toLexicon a1 = some r) :
    Calls Try.prog 26 #[.agg #[vL A2 (a1.Words) c3]] C.w0 fun e w => ∃ (A_1 : Option Addr), ∃ (c_1 : Nat), e = .returned (.agg #[vL A_1 (r.Words) c_1]) ∧ Mem C w [.row strRep A_1 c_1 9 r.Words true] [] := by
  have hM := Mem.begin C [.dat (sliceRep strRep) a1.Words [vL A2 a1.Words c3]] ⟨hp4, trivial⟩
  refine enter Try.func26 rfl Try.ntmps26 rfl fun a hf => ?_
  unfold m_laws_toLexicon at h
  refine wp_seq ?_
  refine region_pl ?_
  refine pl_l hf rfl rfl rfl (w_box hf hM (cs := [vL A2 (a1.Words) c3]) rfl rfl fun b5 w6 hx7 hM a hf => ?_)
  refine pl_l hf rfl rfl rfl (w_alloc hM (cs := [vL none (([] : (List Str))) 0]) Try.zeroValue45 rfl fun b9 w10 hx11 hM a hf => ?_)
  refine pl_nil ?_
  refine then_n ?_
  refine wp_seq ?_
  refine region_pl ?_
  refine pl_l hf rfl rfl rfl (w_alloc hM (cs := [vL none (([] : (List Str))) 0]) Try.zeroValue45 rfl fun b13 w14 hx15 hM a hf => ?_)
  refine pl_nil ?_
  refine then_n ?_
  refine wp_seq ?_
  refine region_pl ?_
  refine q_ hf rfl rfl rfl (e_field hf rfl Try.underlying42 rfl Try.sizeOf40 (o' := 0) rfl) fun a hf => ?_
  refine q_ hf rfl rfl rfl (e_load1 hf rfl Try.isAgg40 (hM.boxCell (k := 2) rfl rfl)) fun a hf => ?_
  obtain ⟨y17, hz18, h⟩ := bind_some h
  refine pl_l hf rfl rfl rfl (w_call hf Try.call66 rfl (r_laws_toStringS ⟨_, Sh C _ _, none_, hM.sh_lt, none_not, C.G, hM.g_lt, g_none, hM.tabs⟩ a1.Words _ _ (hM.dat (k := 0) rfl) _ hz18) ?_)
  rintro _ w21 ⟨A19, c20, rfl, hM2⟩
  obtain ⟨hM, hx22, hup23⟩ := hM.back hM2
  dsimp only [List.cons_append, List.nil_append] at hM hup23
  clear hM2
  refine ⟨_, rfl, fun a hf => ?_⟩
  refine q_ hf rfl rfl rfl (e_field hf rfl Try.underlying45 rfl Try.sizeOf40 (o' := 0) rfl) fun a hf => ?_
  refine pl_0 hf rfl rfl (w_store hf hM (us := [vL A19 (y17) c20]) (cs' := [vL A19 (y17) c20]) rfl rfl (k := 1) rfl rfl Try.sizeOf40 rfl rfl rfl fun w24 hM => ?_)
  dsimp only [List.set] at hM
  refine pl_nil ?_
  refine then_n ?_
  refine wp_seq ?_
  refine region_pl ?_
  refine q_ hf rfl rfl rfl (e_loadA hf (us := [vL A19 (y17) c20]) rfl ⟨Try.isAgg45, Try.sizeOf45⟩ rfl (hM.boxSub (k := 1) (us := [vL A19 (y17) c20]) (o := 0) rfl rfl)) fun a hf => ?_
  refine pl_0 hf rfl rfl (w_store hf hM (us := [vL A19 (y17) c20]) (cs' := [vL A19 (y17) c20]) rfl rfl (k := 2) rfl rfl Try.sizeOf45 rfl rfl rfl fun w27 hM => ?_)
  dsimp only [List.set] at hM
  refine pl_nil ?_
  refine then_n ?_
  refine wp_ret ?_
  obtain rfl := some_inj h
  have hres30 := leaveV1 (P := Try.prog) Try.results26 (res_agg hf rfl ⟨Try.isAgg45, Try.sizeOf45⟩ (us := [vL A19 (y17) c20]) rfl (hM.boxSub (k := 2) (o := 0) rfl rfl))
  have hM := hM.outs (own' := [.row strRep A19 c20 9 y17 true]) 1 rfl
  exact bodyPost_ret hres30 hf.defers ⟨A19, c20, rfl, hM.fin⟩

set_option maxRecDepth 100000 in
set_option maxHeartbeats 4000000 in
theorem r_spec_l00In (C : Cx) (n1 : Int) (hp2 : R64 n1) (low3 : Int) (hp4 : R64 low3) (high5 : Int) (hp6 : R64 high5) (r : Bool) (h : m_spec_l00In n1 low3 high5 = some r) :
    Calls Try.prog 82 #[vI (n1), vI (low3), vI (high5)] C.w0 fun e w => e = .returned (.bool (r)) ∧ Mem C w [] [] := by
  have hM := Mem.begin C [] trivial
  refine enter Try.func82 rfl Try.ntmps82 rfl fun a hf => ?_
  unfold m_spec_l00In at h
  refine wp_seq ?_
  refine region_pl ?_
  refine q_ hf rfl rfl rfl (e_assign hf rfl) fun a hf => ?_
  refine pl_nil ?_
  refine then_n ?_
  obtain ⟨x9, h10, h⟩ := bind_some h
  refine seq_join (fun a w => ∃ (t7 : Bool), t7 = x9 ∧ Has 15 a [(6, .bool (t7))] ∧ Mem C w [] []) ?_ ?_
  · refine region_pl ?_
    refine q_ hf rfl rfl rfl (e_move hf rfl) fun a hf => ?_
    refine q_ hf rfl rfl rfl (e_move hf rfl) fun a hf => ?_
    refine q_ hf rfl rfl rfl (e_ge hf (x := n1) (y := low3) rfl rfl) fun a hf => ?_
    refine q_ hf rfl rfl rfl (e_move hf rfl) fun a hf => ?_
    rcases cond_some h10 with ⟨hc11, h10⟩ | ⟨hc11, h10⟩
    · refine gq (wanted_t hf rfl rfl rfl rfl hc11) hf rfl rfl (e_move hf rfl) fun a hf => ?_
      refine gq (wanted_t hf rfl rfl rfl rfl hc11) hf rfl rfl (e_move hf rfl) fun a hf => ?_
      refine gq (wanted_t hf rfl rfl rfl rfl hc11) hf rfl rfl (e_le hf (x := n1) (y := high5) rfl rfl) fun a hf => ?_
      refine q_ hf rfl rfl rfl (e_pick_t hf rfl hc11 rfl) fun a hf => ?_
      refine q_ hf rfl rfl rfl (e_assign hf rfl) fun a hf => ?_
      refine pl_nil ?_
      obtain rfl := some_inj h10
      refine then_n ?_
      exact ⟨(decide (n1 ≤ high5)), rfl, hf.keep ⟨rfl, trivial⟩, hM.pick [] rfl⟩
    · refine pl_gs (wanted_f hf rfl rfl rfl rfl hc11) hf rfl rfl fun a hf => ?_
      refine pl_gs (wanted_f hf rfl rfl rfl rfl hc11) hf rfl rfl fun a hf => ?_
      refine pl_gs (wanted_f hf rfl rfl rfl rfl hc11) hf rfl rfl fun a hf => ?_
      refine q_ hf rfl rfl rfl (e_pick_f hf rfl hc11 rfl) fun a hf => ?_
      refine q_ hf rfl rfl rfl (e_assign hf rfl) fun a hf => ?_
      refine pl_nil ?_
      obtain rfl := some_inj h10
      refine then_n ?_
      exact ⟨false, rfl, hf.keep ⟨rfl, trivial⟩, hM.pick [] rfl⟩
  · rintro a w14 ⟨t7, rfl, hf, hM⟩
    try dsimp only at h
    refine wp_ret ?_
    obtain rfl := some_inj h
    exact leave1 hf rfl rfl ⟨rfl, hM.fin⟩

set_option maxRecDepth 100000 in
set_option maxHeartbeats 4000000 in
theorem r_spec_l01Small (C : Cx) (c1 : UInt8) (r : Bool) (h : m_spec_l01Small c1 = some r) :
    Calls Try.prog 87 #[vB (c1)] C.w0 fun e w => e = .returned (.bool (r)) ∧ Mem C w [] [] := by
  have hM := Mem.begin C [] trivial
  refine enter Try.func87 rfl Try.ntmps87 rfl fun a hf => ?_
  unfold m_spec_l01Small at h
  refine wp_seq ?_
  refine region_pl ?_
  refine q_ hf rfl rfl rfl (e_assign hf rfl) fun a hf => ?_
  refine pl_nil ?_
  refine then_n ?_
  obtain ⟨x4, h5, h⟩ := bind_some h
  refine seq_join (fun a w => ∃ (t2 : Bool), t2 = x4 ∧ Has 9 a [(2, .bool (t2))] ∧ Mem C w [] []) ?_ ?_
  · refine region_pl ?_
    refine q_ hf rfl rfl rfl (e_move hf rfl) fun a hf => ?_
    refine q_ hf rfl rfl rfl (e_geB hf (x := c1) (y := 97) rfl rfl) fun a hf => ?_
    refine q_ hf rfl rfl rfl (e_move hf rfl) fun a hf => ?_
    rcases cond_some h5 with ⟨hc6, h5⟩ | ⟨hc6, h5⟩
    · refine gq (wanted_t hf rfl rfl rfl rfl hc6) hf rfl rfl (e_move hf rfl) fun a hf => ?_
      refine gq (wanted_t hf rfl rfl rfl rfl hc6) hf rfl rfl (e_leB hf (x := c1) (y := 122) rfl rfl) fun a hf => ?_
      refine q_ hf rfl rfl rfl (e_pick_t hf rfl hc6 rfl) fun a hf => ?_
      refine q_ hf rfl rfl rfl (e_assign hf rfl) fun a hf => ?_
      refine pl_nil ?_
      obtain rfl := some_inj h5
      refine then_n ?_
      exact ⟨(decide (c1 ≤ 122)), rfl, hf.keep ⟨rfl, trivial⟩, hM.pick [] rfl⟩
    · refine pl_gs (wanted_f hf rfl rfl rfl rfl hc6) hf rfl rfl fun a hf => ?_
      refine pl_gs (wanted_f hf rfl rfl rfl rfl hc6) hf rfl rfl fun a hf => ?_
      refine q_ hf rfl rfl rfl (e_pick_f hf rfl hc6 rfl) fun a hf => ?_
      refine q_ hf rfl rfl rfl (e_assign hf rfl) fun a hf => ?_
      refine pl_nil ?_
      obtain rfl := some_inj h5
      refine then_n ?_
      exact ⟨false, rfl, hf.keep ⟨rfl, trivial⟩, hM.pick [] rfl⟩
  · rintro a w9 ⟨t2, rfl, hf, hM⟩
    try dsimp only at h
    refine wp_ret ?_
    obtain rfl := some_inj h
    exact leave1 hf rfl rfl ⟨rfl, hM.fin⟩

set_option maxRecDepth 100000 in
set_option maxHeartbeats 4000000 in
theorem r_spec_l25Ok (C : Cx) (g1 : Grid) (b2 : Nat) (o3 : Nat) (hp4 : (ptrRep GridRep).R C.w0 C.S0 g1 [vP b2 o3]) (r : Bool) (h : m_spec_l25Ok g1 = some r) :
    Calls Try.prog 54 #[vP b2 (o3)] C.w0 fun e w => e = .returned (.bool (r)) ∧ Mem C w [] [] := by
  have hM := Mem.begin C [.dat (ptrRep GridRep) g1 [vP b2 o3]] ⟨hp4, trivial⟩
  refine enter Try.func54 rfl Try.ntmps54 rfl fun a hf => ?_
  unfold m_spec_l25Ok at h
  refine wp_seq ?_
  refine region_pl ?_
  refine q_ hf rfl rfl rfl (e_assign hf rfl) fun a hf => ?_
  refine pl_nil ?_
  refine then_n ?_
  refine wp_seq ?_
  obtain ⟨x7, h8, h⟩ := bind_some h
  refine seq_join (fun a w => ∃ (t5 : Bool), t5 = x7 ∧ Has 70 a [(0, vP b2 (o3)), (34, .bool (t5))] ∧ Mem C w [] [.dat (ptrRep GridRep) g1 [vP b2 o3]]) ?_ ?_
  · obtain ⟨w9, hw⟩ : ∃ x, x = C.w0.drew := ⟨_, rfl⟩
    refine region_pi (.q 0 (.q 1 (.q 2 (.q 3 (.l 4 (.q 5 (.q 6 (.q 7 (.q 8 (.q 9 (.q 10 (.l 11 (.q 12 (.q 13 (.q 14 (.q 15 (.q 16 (.q 17 (.q 18 (.q 19 (.q 20 (.q 21 (.q 22 (.q 23 (.q 24 (.q 25 (.q 26 (.q 27 (.q 28 (.q 29 (.q 30 (.nil)))))))))))))))))))))))))))))))) (Ext w9) rfl (by kernel_rfl) ?_
    have hM := hM.drew
    rw [← hw] at hM ⊢
    clear hw
    refine pi_q hf rfl rfl rfl rfl (Ext.refl _) (e_move hf rfl) fun a hf => ?_
    refine pi_q hf rfl rfl rfl rfl (Ext.refl _) (e_nil hf rfl) fun a hf => ?_
    obtain ⟨_, hr10, hM⟩ := hM.deref (hM.dat (k := 0) rfl)
    obtain ⟨rfl, hv11, hv12, hv13⟩ := GridRep_open hr10
    refine pi_q hf rfl rfl rfl rfl (Ext.refl _) (e_field hf rfl Try.underlying27 rfl Try.sizeOf2 (o' := o3 + 0) rfl) fun a hf => ?_
    refine pi_q hf rfl rfl rfl rfl (Ext.refl _) (e_load1 hf rfl Try.isAgg2 (hM.litCell (k := 0) (j := 0) rfl rfl rfl)) fun a hf => ?_
    refine pi_one ?_
    obtain ⟨y14, hz15, h8⟩ := bind_some h8
    refine pi_l hf rfl rfl rfl rfl (w_call hf Try.call82 rfl (r_spec_l00In ⟨_, Sh C _ _, none_, hM.sh_lt, none_not, C.G, hM.g_lt, g_none, hM.tabs⟩ g1.Rows hv11 1 (R64_lit rfl) 5 (R64_lit rfl) _ hz15) ?_)
    rintro _ w16 ⟨rfl, hM2⟩
    obtain ⟨hM, hx17, hup18⟩ := hM.back hM2
    dsimp only [List.cons_append, List.nil_append] at hM hup18
    clear hM2
    refine ⟨_, rfl, Ext w16, fun _ h => Ext.trans hx17 h, Ext.refl _, fun a hf => ?_⟩
    refine pi_q hf rfl rfl rfl rfl (Ext.refl _) (e_not hf rfl) fun a hf => ?_
    refine pi_q hf rfl rfl rfl rfl (Ext.refl _) (e_move hf rfl) fun a hf => ?_
    rcases cond_some h8 with ⟨hc19, h8⟩ | ⟨hc19, h8⟩
    · refine pi_gs hf rfl (wanted_f hf rfl rfl rfl rfl hc19) rfl rfl (Ext.refl _) fun a hf => ?_
      refine pi_gs hf rfl (wanted_f hf rfl rfl rfl rfl hc19) rfl rfl (Ext.refl _) fun a hf => ?_
      refine pi_gs hf rfl (wanted_f hf rfl rfl rfl rfl hc19) rfl rfl (Ext.refl _) fun a hf => ?_
      refine pi_gs hf rfl (wanted_f hf rfl rfl rfl rfl hc19) rfl rfl (Ext.refl _) fun a hf => ?_
      refine pi_one ?_
      refine pi_ls hf rfl (wanted_f hf rfl rfl rfl rfl hc19) rfl rfl (Ext.refl _) fun a hf => ?_
      refine pi_gs hf rfl (wanted_f hf rfl rfl rfl rfl hc19) rfl rfl (Ext.refl _) fun a hf => ?_
      refine pi_q hf rfl rfl rfl rfl (Ext.refl _) (e_pick_t hf rfl hc19 rfl) fun a hf => ?_
      refine pi_q hf rfl rfl rfl rfl (Ext.refl _) (e_move hf rfl) fun a hf => ?_
      refine pi_gs hf rfl (wanted_f hf rfl rfl rfl rfl rfl) rfl rfl (Ext.refl _) fun a hf => ?_
      refine pi_gs hf rfl (wanted_f hf rfl rfl rfl rfl rfl) rfl rfl (Ext.refl _) fun a hf => ?_
      refine pi_gs hf rfl (wanted_f hf rfl rfl rfl rfl rfl) rfl rfl (Ext.refl _) fun a hf => ?_
      refine pi_gs hf rfl (wanted_f hf rfl rfl rfl rfl rfl) rfl rfl (Ext.refl _) fun a hf => ?_
      refine pi_gs hf rfl (wanted_f hf rfl rfl rfl rfl rfl) rfl rfl (Ext.refl _) fun a hf => ?_
      refine pi_gs hf rfl (wanted_f hf rfl rfl rfl rfl rfl) rfl rfl (Ext.refl _) fun a hf => ?_
      refine pi_gs hf rfl (wanted_f hf rfl rfl rfl rfl rfl) rfl rfl (Ext.refl _) fun a hf => ?_
      refine pi_gs hf rfl (wanted_f hf rfl rfl rfl rfl rfl) rfl rfl (Ext.refl _) fun a hf => ?_
      refine pi_gs hf rfl (wanted_f hf rfl rfl rfl rfl rfl) rfl rfl (Ext.refl _) fun a hf => ?_
      refine pi_gs hf rfl (wanted_f hf rfl rfl rfl rfl rfl) rfl rfl (Ext.refl _) fun a hf => ?_
      refine pi_gs hf rfl (wanted_f hf rfl rfl rfl rfl rfl) rfl rfl (Ext.refl _) fun a hf => ?_
      refine pi_gs hf rfl (wanted_f hf rfl rfl rfl rfl rfl) rfl rfl (Ext.refl _) fun a hf => ?_
      refine pi_gs hf rfl (wanted_f hf rfl rfl rfl rfl rfl) rfl rfl (Ext.refl _) fun a hf => ?_
      refine pi_gs hf rfl (wanted_f hf rfl rfl rfl rfl rfl) rfl rfl (Ext.refl _) fun a hf => ?_
      refine pi_gs hf rfl (wanted_f hf rfl rfl rfl rfl rfl) rfl rfl (Ext.refl _) fun a hf => ?_
      refine pi_q hf rfl rfl rfl rfl (Ext.refl _) (e_pick_t hf rfl rfl rfl) fun a hf => ?_
      refine pi_nil ?_
      obtain rfl := some_inj h8
      refine then_n ?_
      exact ⟨true, rfl, hf.keep ⟨rfl, rfl, trivial⟩, hM.pick [1] rfl⟩
    · refine pi_gq hf rfl (wanted_t hf rfl rfl rfl rfl hc19) rfl rfl (Ext.refl _) (e_move hf rfl) fun a hf => ?_
      refine pi_gq hf rfl (wanted_t hf rfl rfl rfl rfl hc19) rfl rfl (Ext.refl _) (e_nil hf rfl) fun a hf => ?_
      refine pi_gq hf rfl (wanted_t hf rfl rfl rfl rfl hc19) rfl rfl (Ext.refl _) (e_field hf rfl Try.underlying27 rfl Try.sizeOf2 (o' := o3 + 1) rfl) fun a hf => ?_
      refine pi_gq hf rfl (wanted_t hf rfl rfl rfl rfl hc19) rfl rfl (Ext.refl _) (e_load1 hf rfl Try.isAgg2 (hM.litCell (k := 0) (j := 1) rfl rfl rfl)) fun a hf => ?_
      refine pi_one ?_
      obtain ⟨y21, hz22, h8⟩ := bind_some h8
      refine pi_gl hf rfl (wanted_t hf rfl rfl rfl rfl hc19) rfl rfl (w_call hf Try.call82 rfl (r_spec_l00In ⟨_, Sh C _ _, none_, hM.sh_lt, none_not, C.G, hM.g_lt, g_none, hM.tabs⟩ g1.Cols hv12 1 (R64_lit rfl) 5 (R64_lit rfl) _ hz22) ?_)
      rintro _ w23 ⟨rfl, hM2⟩
      obtain ⟨hM, hx24, hup25⟩ := hM.back hM2
      dsimp only [List.cons_append, List.nil_append] at hM hup25
      clear hM2
      refine ⟨_, rfl, Ext w23, fun _ h => Ext.trans hx24 h, Ext.refl _, fun a hf => ?_⟩
      refine pi_gq hf rfl (wanted_t hf rfl rfl rfl rfl hc19) rfl rfl (Ext.refl _) (e_not hf rfl) fun a hf => ?_
      refine pi_q hf rfl rfl rfl rfl (Ext.refl _) (e_pick_f hf rfl hc19 rfl) fun a hf => ?_
      refine pi_q hf rfl rfl rfl rfl (Ext.refl _) (e_move hf rfl) fun a hf => ?_
      rcases cond_some h8 with ⟨hc26, h8⟩ | ⟨hc26, h8⟩
      · refine pi_gs hf rfl (wanted_f hf rfl rfl rfl rfl hc26) rfl rfl (Ext.refl _) fun a hf => ?_
        refine pi_gs hf rfl (wanted_f hf rfl rfl rfl rfl hc26) rfl rfl (Ext.refl _) fun a hf => ?_
        refine pi_gs hf rfl (wanted_f hf rfl rfl rfl rfl hc26) rfl rfl (Ext.refl _) fun a hf => ?_
        refine pi_gs hf rfl (wanted_f hf rfl rfl rfl rfl hc26) rfl rfl (Ext.refl _) fun a hf => ?_
        refine pi_gs hf rfl (wanted_f hf rfl rfl rfl rfl hc26) rfl rfl (Ext.refl _) fun a hf => ?_
        refine pi_gs hf rfl (wanted_f hf rfl rfl rfl rfl hc26) rfl rfl (Ext.refl _) fun a hf => ?_
        refine pi_gs hf rfl (wanted_f hf rfl rfl rfl rfl hc26) rfl rfl (Ext.refl _) fun a hf => ?_
        refine pi_gs hf rfl (wanted_f hf rfl rfl rfl rfl hc26) rfl rfl (Ext.refl _) fun a hf => ?_
        refine pi_gs hf rfl (wanted_f hf rfl rfl rfl rfl hc26) rfl rfl (Ext.refl _) fun a hf => ?_
        refine pi_gs hf rfl (wanted_f hf rfl rfl rfl rfl hc26) rfl rfl (Ext.refl _) fun a hf => ?_
        refine pi_gs hf rfl (wanted_f hf rfl rfl rfl rfl hc26) rfl rfl (Ext.refl _) fun a hf => ?_
        refine pi_gs hf rfl (wanted_f hf rfl rfl rfl rfl hc26) rfl rfl (Ext.refl _) fun a hf => ?_
        refine pi_gs hf rfl (wanted_f hf rfl rfl rfl rfl hc26) rfl rfl (Ext.refl _) fun a hf => ?_
        refine pi_gs hf rfl (wanted_f hf rfl rfl rfl rfl hc26) rfl rfl (Ext.refl _) fun a hf => ?_
        refine pi_gs hf rfl (wanted_f hf rfl rfl rfl rfl hc26) rfl rfl (Ext.refl _) fun a hf => ?_
        refine pi_q hf rfl rfl rfl rfl (Ext.refl _) (e_pick_t hf rfl hc26 rfl) fun a hf => ?_
        refine pi_nil ?_
        obtain rfl := some_inj h8
        refine then_n ?_
        exact ⟨true, rfl, hf.keep ⟨rfl, rfl, trivial⟩, hM.pick [1] rfl⟩
      · refine pi_gq hf rfl (wanted_t hf rfl rfl rfl rfl hc26) rfl rfl (Ext.refl _) (e_move hf rfl) fun a hf => ?_
        refine pi_gq hf rfl (wanted_t hf rfl rfl rfl rfl hc26) rfl rfl (Ext.refl _) (e_nil hf rfl) fun a hf => ?_
        refine pi_gq hf rfl (wanted_t hf rfl rfl rfl rfl hc26) rfl rfl (Ext.refl _) (e_field hf rfl Try.underlying27 rfl Try.sizeOf9 (o' := o3 + 2) rfl) fun a hf => ?_
        refine pi_gq hf rfl (wanted_t hf rfl rfl rfl rfl hc26) rfl rfl (Ext.refl _) (e_load1 hf rfl Try.isAgg9 (hM.litCell (k := 0) (j := 2) rfl rfl rfl)) fun a hf => ?_
        refine pi_gq hf rfl (wanted_t hf rfl rfl rfl rfl hc26) rfl rfl (Ext.refl _) (e_lenS hf (x := g1.Cells) rfl Try.underlying9) fun a hf => ?_
        refine pi_gq hf rfl (wanted_t hf rfl rfl rfl rfl hc26) rfl rfl (Ext.refl _) (e_move hf rfl) fun a hf => ?_
        refine pi_gq hf rfl (wanted_t hf rfl rfl rfl rfl hc26) rfl rfl (Ext.refl _) (e_nil hf rfl) fun a hf => ?_
        refine pi_gq hf rfl (wanted_t hf rfl rfl rfl rfl hc26) rfl rfl (Ext.refl _) (e_field hf rfl Try.underlying27 rfl Try.sizeOf2 (o' := o3 + 0) rfl) fun a hf => ?_
        refine pi_gq hf rfl (wanted_t hf rfl rfl rfl rfl hc26) rfl rfl (Ext.refl _) (e_load1 hf rfl Try.isAgg2 (hM.litCell (k := 0) (j := 0) rfl rfl rfl)) fun a hf => ?_
        refine pi_gq hf rfl (wanted_t hf rfl rfl rfl rfl hc26) rfl rfl (Ext.refl _) (e_move hf rfl) fun a hf => ?_
        refine pi_gq hf rfl (wanted_t hf rfl rfl rfl rfl hc26) rfl rfl (Ext.refl _) (e_nil hf rfl) fun a hf => ?_
        refine pi_gq hf rfl (wanted_t hf rfl rfl rfl rfl hc26) rfl rfl (Ext.refl _) (e_field hf rfl Try.underlying27 rfl Try.sizeOf2 (o' := o3 + 1) rfl) fun a hf => ?_
        refine pi_gq hf rfl (wanted_t hf rfl rfl rfl rfl hc26) rfl rfl (Ext.refl _) (e_load1 hf rfl Try.isAgg2 (hM.litCell (k := 0) (j := 1) rfl rfl rfl)) fun a hf => ?_
        obtain ⟨z28, hz29, h8⟩ := bind_some h8
        refine pi_gq hf rfl (wanted_t hf rfl rfl rfl rfl hc26) rfl rfl (Ext.refl _) (e_mul hf rfl rfl hz29) fun a hf => ?_
        refine pi_gq hf rfl (wanted_t hf rfl rfl rfl rfl hc26) rfl rfl (Ext.refl _) (e_ne hf (x := (g1.Cells.length : Int)) (y := z28) rfl rfl) fun a hf => ?_
        refine pi_q hf rfl rfl rfl rfl (Ext.refl _) (e_pick_f hf rfl hc26 rfl) fun a hf => ?_
        refine pi_nil ?_
        obtain rfl := some_inj h8
        refine then_n ?_
        exact ⟨((g1.Cells.length : Int) != z28), rfl, hf.keep ⟨rfl, rfl, trivial⟩, hM.pick [1] rfl⟩
  · rintro a w31 ⟨t5, rfl, hf, hM⟩
    try dsimp only at h
    rcases cond_some h with ⟨hc32, h⟩ | ⟨hc32, h⟩
    · refine cond_t hf rfl hc32 ?_
      refine wp_seq ?_
      refine region_pl ?_
      refine q_ hf rfl rfl rfl (e_assign hf rfl) fun a hf => ?_
      refine pl_nil ?_
      refine then_n ?_
      refine wp_ret ?_
      refine then_r ?_
      obtain rfl := some_inj h
      exact leave1 hf rfl rfl ⟨rfl, hM.fin⟩
    · refine cond_f hf rfl hc32 ?_
      refine wp_skip ?_
      refine then_n ?_
      obtain ⟨x33, h34, h⟩ := bind_some h
      refine seq_join (fun a w => (.inl ()) = x33 ∧ Has 70 a [] ∧ Mem C w [] [.dat (ptrRep GridRep) g1 [vP b2 o3]]) ?_ ?_
      · refine wp_seq ?_
        refine region_pl ?_
        refine q_ hf rfl rfl rfl (e_assign hf rfl) fun a hf => ?_
        refine pl_nil ?_
        refine then_n ?_
        refine wp_block ?_
        obtain ⟨x38, h39, h34⟩ := bind_some h34
        refine wp_loopM h39 (fun s a w => ∃ (n35 : Int), n35 = s ∧ Has 70 a [(0, vP b2 (o3)), (3, vI (n35))] ∧ Mem C w [] [.dat (ptrRep GridRep) g1 [vP b2 o3]] ∧ R64 n35) ?_ ?_
        · exact ⟨0, rfl, hf.keep ⟨rfl, rfl, trivial⟩, hM.pick [0] rfl, (R64_lit rfl)⟩
        · rintro s o40 a w37 ⟨n35, rfl, hf, hM, hv36⟩ h41 hd42
          replace h41 : m_spec_l25Ok_l1 g1 n35 = some o40 := h41
          unfold m_spec_l25Ok_l1 at h41
          refine wp_seq ?_
          refine wp_seq ?_
          refine region_pl ?_
          refine q_ hf rfl rfl rfl (e_move hf rfl) fun a hf => ?_
          refine q_ hf rfl rfl rfl (e_move hf rfl) fun a hf => ?_
          refine q_ hf rfl rfl rfl (e_nil hf rfl) fun a hf => ?_
          obtain ⟨_, hr43, hM⟩ := hM.deref (hM.dat (k := 0) rfl)
          obtain ⟨rfl, hv44, hv45, hv46⟩ := GridRep_open hr43
          refine q_ hf rfl rfl rfl (e_field hf rfl Try.underlying27 rfl Try.sizeOf9 (o' := o3 + 2) rfl) fun a hf => ?_
          refine q_ hf rfl rfl rfl (e_load1 hf rfl Try.isAgg9 (hM.litCell (k := 0) (j := 2) rfl rfl rfl)) fun a hf => ?_
          refine q_ hf rfl rfl rfl (e_lenS hf (x := g1.Cells) rfl Try.underlying9) fun a hf => ?_
          refine q_ hf rfl rfl rfl (e_lt hf (x := n35) (y := (g1.Cells.length : Int)) rfl rfl) fun a hf => ?_
          refine pl_nil ?_
          refine then_n ?_
          rcases cond_some h41 with ⟨hc47, h41⟩ | ⟨hc47, h41⟩
          · refine cond_t hf rfl hc47 ?_
            refine wp_skip ?_
            refine then_n ?_
            refine wp_seq ?_
            refine wp_block ?_
            obtain ⟨x50, h51, h41⟩ := bind_some h41
            refine seq_join (fun a w => ∃ (t48 : Bool), t48 = x50 ∧ Has 70 a [(0, vP b2 (o3)), (3, vI (n35)), (69, .bool (t48))] ∧ Mem C w [] [.lit b2 (o3) [vI (g1.Rows), vI (g1.Cols), vS (g1.Cells)], .dat (ptrRep GridRep) g1 [vP b2 o3]]) ?_ ?_
            · refine region_pl ?_
              refine q_ hf rfl rfl rfl (e_move hf rfl) fun a hf => ?_
              refine q_ hf rfl rfl rfl (e_nil hf rfl) fun a hf => ?_
              refine q_ hf rfl rfl rfl (e_field hf rfl Try.underlying27 rfl Try.sizeOf9 (o' := o3 + 2) rfl) fun a hf => ?_
              refine q_ hf rfl rfl rfl (e_load1 hf rfl Try.isAgg9 (hM.litCell (k := 0) (j := 2) rfl rfl rfl)) fun a hf => ?_
              refine q_ hf rfl rfl rfl (e_move hf rfl) fun a hf => ?_
              obtain ⟨c52, hz53, h51⟩ := bind_some h51
              refine q_ hf rfl rfl rfl (e_indexS hf (x := g1.Cells) rfl rfl Try.underlying9 hz53) fun a hf => ?_
              refine q_ hf rfl rfl rfl (e_neB hf (x := c52) (y := 35) rfl rfl) fun a hf => ?_
              refine q_ hf rfl rfl rfl (e_move hf rfl) fun a hf => ?_
              rcases cond_some h51 with ⟨hc54, h51⟩ | ⟨hc54, h51⟩
              · refine gq (wanted_t hf rfl rfl rfl rfl hc54) hf rfl rfl (e_move hf rfl) fun a hf => ?_
                refine gq (wanted_t hf rfl rfl rfl rfl hc54) hf rfl rfl (e_nil hf rfl) fun a hf => ?_
                refine gq (wanted_t hf rfl rfl rfl rfl hc54) hf rfl rfl (e_field hf rfl Try.underlying27 rfl Try.sizeOf9 (o' := o3 + 2) rfl) fun a hf => ?_
                refine gq (wanted_t hf rfl rfl rfl rfl hc54) hf rfl rfl (e_load1 hf rfl Try.isAgg9 (hM.litCell (k := 0) (j := 2) rfl rfl rfl)) fun a hf => ?_
                refine gq (wanted_t hf rfl rfl rfl rfl hc54) hf rfl rfl (e_move hf rfl) fun a hf => ?_
                obtain ⟨c55, hz56, h51⟩ := bind_some h51
                refine gq (wanted_t hf rfl rfl rfl rfl hc54) hf rfl rfl (e_indexS hf (x := g1.Cells) rfl rfl Try.underlying9 hz56) fun a hf => ?_
                refine gq (wanted_t hf rfl rfl rfl rfl hc54) hf rfl rfl (e_neB hf (x := c55) (y := 46) rfl rfl) fun a hf => ?_
                refine q_ hf rfl rfl rfl (e_pick_t hf rfl hc54 rfl) fun a hf => ?_
                refine q_ hf rfl rfl rfl (e_move hf rfl) fun a hf => ?_
                rcases cond_some h51 with ⟨hc57, h51⟩ | ⟨hc57, h51⟩
                · refine gq (wanted_t hf rfl rfl rfl rfl hc57) hf rfl rfl (e_move hf rfl) fun a hf => ?_
                  refine gq (wanted_t hf rfl rfl rfl rfl hc57) hf rfl rfl (e_nil hf rfl) fun a hf => ?_
                  refine gq (wanted_t hf rfl rfl rfl rfl hc57) hf rfl rfl (e_field hf rfl Try.underlying27 rfl Try.sizeOf9 (o' := o3 + 2) rfl) fun a hf => ?_
                  refine gq (wanted_t hf rfl rfl rfl rfl hc57) hf rfl rfl (e_load1 hf rfl Try.isAgg9 (hM.litCell (k := 0) (j := 2) rfl rfl rfl)) fun a hf => ?_
                  refine gq (wanted_t hf rfl rfl rfl rfl hc57) hf rfl rfl (e_move hf rfl) fun a hf => ?_
                  obtain ⟨c58, hz59, h51⟩ := bind_some h51
                  refine gq (wanted_t hf rfl rfl rfl rfl hc57) hf rfl rfl (e_indexS hf (x := g1.Cells) rfl rfl Try.underlying9 hz59) fun a hf => ?_
                  obtain ⟨y60, hz61, h51⟩ := bind_some h51
                  refine pl_gl (wanted_t hf rfl rfl rfl rfl hc57) hf rfl rfl (w_call hf Try.call87 rfl (r_spec_l01Small ⟨_, Sh C _ _, none_, hM.sh_lt, none_not, C.G, hM.g_lt, g_none, hM.tabs⟩ c58 _ hz61) ?_)
                  rintro _ w62 ⟨rfl, hM2⟩
                  obtain ⟨hM, hx63, hup64⟩ := hM.back hM2
                  dsimp only [List.cons_append, List.nil_append] at hM hup64
                  clear hM2
                  refine ⟨_, rfl, fun a hf => ?_⟩
                  refine gq (wanted_t hf rfl rfl rfl rfl hc57) hf rfl rfl (e_not hf rfl) fun a hf => ?_
                  refine q_ hf rfl rfl rfl (e_pick_t hf rfl hc57 rfl) fun a hf => ?_
                  refine pl_nil ?_
                  obtain rfl := some_inj h51
                  refine then_n ?_
                  exact ⟨(!y60), rfl, hf.keep ⟨rfl, rfl, rfl, trivial⟩, hM.pick [0, 1] rfl⟩
                · refine pl_gs (wanted_f hf rfl rfl rfl rfl hc57) hf rfl rfl fun a hf => ?_
                  refine pl_gs (wanted_f hf rfl rfl rfl rfl hc57) hf rfl rfl fun a hf => ?_
                  refine pl_gs (wanted_f hf rfl rfl rfl rfl hc57) hf rfl rfl fun a hf => ?_
                  refine pl_gs (wanted_f hf rfl rfl rfl rfl hc57) hf rfl rfl fun a hf => ?_
                  refine pl_gs (wanted_f hf rfl rfl rfl rfl hc57) hf rfl rfl fun a hf => ?_
                  refine pl_gs (wanted_f hf rfl rfl rfl rfl hc57) hf rfl rfl fun a hf => ?_
                  refine pl_gs (wanted_f hf rfl rfl rfl rfl hc57) hf rfl rfl fun a hf => ?_
                  refine pl_gs (wanted_f hf rfl rfl rfl rfl hc57) hf rfl rfl fun a hf => ?_
                  refine q_ hf rfl rfl rfl (e_pick_f hf rfl hc57 rfl) fun a hf => ?_
                  refine pl_nil ?_
                  obtain rfl := some_inj h51
                  refine then_n ?_
                  exact ⟨false, rfl, hf.keep ⟨rfl, rfl, rfl, trivial⟩, hM.pick [0, 1] rfl⟩
              · refine pl_gs (wanted_f hf rfl rfl rfl rfl hc54) hf rfl rfl fun a hf => ?_
                refine pl_gs (wanted_f hf rfl rfl rfl rfl hc54) hf rfl rfl fun a hf => ?_
                refine pl_gs (wanted_f hf rfl rfl rfl rfl hc54) hf rfl rfl fun a hf => ?_
                refine pl_gs (wanted_f hf rfl rfl rfl rfl hc54) hf rfl rfl fun a hf => ?_
                refine pl_gs (wanted_f hf rfl rfl rfl rfl hc54) hf rfl rfl fun a hf => ?_
                refine pl_gs (wanted_f hf rfl rfl rfl rfl hc54) hf rfl rfl fun a hf => ?_
                refine pl_gs (wanted_f hf rfl rfl rfl rfl hc54) hf rfl rfl fun a hf => ?_
                refine q_ hf rfl rfl rfl (e_pick_f hf rfl hc54 rfl) fun a hf => ?_
                refine q_ hf rfl rfl rfl (e_move hf rfl) fun a hf => ?_
                refine pl_gs (wanted_f hf rfl rfl rfl rfl rfl) hf rfl rfl fun a hf => ?_
                refine pl_gs (wanted_f hf rfl rfl rfl rfl rfl) hf rfl rfl fun a hf => ?_
                refine pl_gs (wanted_f hf rfl rfl rfl rfl rfl) hf rfl rfl fun a hf => ?_
                refine pl_gs (wanted_f hf rfl rfl rfl rfl rfl) hf rfl rfl fun a hf => ?_
                refine pl_gs (wanted_f hf rfl rfl rfl rfl rfl) hf rfl rfl fun a hf => ?_
                refine pl_gs (wanted_f hf rfl rfl rfl rfl rfl) hf rfl rfl fun a hf => ?_
                refine pl_gs (wanted_f hf rfl rfl rfl rfl rfl) hf rfl rfl fun a hf => ?_
                refine pl_gs (wanted_f hf rfl rfl rfl rfl rfl) hf rfl rfl fun a hf => ?_
                refine q_ hf rfl rfl rfl (e_pick_f hf rfl rfl rfl) fun a hf => ?_
                refine pl_nil ?_
                obtain rfl := some_inj h51
                refine then_n ?_
                exact ⟨false, rfl, hf.keep ⟨rfl, rfl, rfl, trivial⟩, hM.pick [0, 1] rfl⟩
            · rintro a w68 ⟨t48, rfl, hf, hM⟩
              try dsimp only at h41
              rcases cond_some h41 with ⟨hc69, h41⟩ | ⟨hc69, h41⟩
              · refine cond_t hf rfl hc69 ?_
                refine wp_seq ?_
                refine region_pl ?_
                refine q_ hf rfl rfl rfl (e_assign hf rfl) fun a hf => ?_
                refine pl_nil ?_
                refine then_n ?_
                refine wp_ret ?_
                refine blk_r ?_
                refine then_r ?_
                obtain rfl := some_inj h41
                obtain rfl := hd42 _ rfl
                try dsimp only at h34
                refine then_r ?_
                refine blk_r ?_
                obtain rfl := some_inj h34
                try dsimp only at h
                refine then_r ?_
                obtain rfl := some_inj h
                exact leave1 hf rfl rfl ⟨rfl, hM.fin⟩
              · refine cond_f hf rfl hc69 ?_
                refine wp_skip ?_
                refine blk_n ?_
                refine then_n ?_
                refine region_pl ?_
                refine q_ hf rfl rfl rfl (e_move hf rfl) fun a hf => ?_
                obtain ⟨z70, hz71, h41⟩ := bind_some h41
                refine q_ hf rfl rfl rfl (e_add hf rfl rfl hz71) fun a hf => ?_
                refine q_ hf rfl rfl rfl (e_assign hf rfl) fun a hf => ?_
                refine pl_nil ?_
                obtain rfl := some_inj h41
                refine then_n ⟨_, rfl, ?_⟩
                exact ⟨z70, rfl, hf.keep ⟨rfl, rfl, trivial⟩, hM.pick [1] rfl, (chk_R hz71)⟩
          · refine cond_f hf rfl hc47 ?_
            refine wp_exit ?_
            refine then_x ?_
            obtain rfl := some_inj h41
            obtain rfl := hd42 _ rfl
            try dsimp only at h34
            refine then_x ?_
            refine exit_hit ?_
            obtain rfl := some_inj h34
            refine then_n ?_
            exact ⟨rfl, hf.keep trivial, hM.pick [1] rfl⟩
      · rintro a w78 ⟨rfl, hf, hM⟩
        try dsimp only at h
        refine wp_seq ?_
        refine region_pl ?_
        refine q_ hf rfl rfl rfl (e_assign hf rfl) fun a hf => ?_
        refine pl_nil ?_
        refine then_n ?_
        refine wp_ret ?_
        obtain rfl := some_inj h
        exact leave1 hf rfl rfl ⟨rfl, hM.fin⟩

set_option maxRecDepth 100000 in
set_option maxHeartbeats 4000000 in
theorem r_spec_IsWord (C : Cx) (s1 : Str) (hp2 : s1.length ≤ maxLen) (r : Bool) (h : m_spec_IsWord s1 = some r) :
    Calls Try.prog 57 #[vS (s1)] C.w0 fun e w => e = .returned (.bool (r)) ∧ Mem C w [] [] := by
  have hM := Mem.begin C [] trivial
  refine enter Try.func57 rfl Try.ntmps57 rfl fun a hf => ?_
  unfold m_spec_IsWord at h
  refine wp_seq ?_
  refine region_pl ?_
  refine q_ hf rfl rfl rfl (e_assign hf rfl) fun a hf => ?_
  refine pl_nil ?_
  refine then_n ?_
  obtain ⟨x3, h4, h⟩ := bind_some h
  refine seq_join (fun a w => (.inl ()) = x3 ∧ Has 18 a [(0, vS (s1))] ∧ Mem C w [] []) ?_ ?_
  · refine wp_seq ?_
    refine region_pl ?_
    refine q_ hf rfl rfl rfl (e_assign hf rfl) fun a hf => ?_
    refine pl_nil ?_
    refine then_n ?_
    refine wp_block ?_
    obtain ⟨x8, h9, h4⟩ := bind_some h4
    refine wp_loopM h9 (fun s a w => ∃ (n5 : Int), n5 = s ∧ Has 18 a [(0, vS (s1)), (3, vI (n5))] ∧ Mem C w [] [] ∧ R64 n5) ?_ ?_
    · exact ⟨0, rfl, hf.keep ⟨rfl, rfl, trivial⟩, hM.pick [] rfl, (R64_lit rfl)⟩
    · rintro s o10 a w7 ⟨n5, rfl, hf, hM, hv6⟩ h11 hd12
      replace h11 : m_spec_IsWord_l1 s1 n5 = some o10 := h11
      unfold m_spec_IsWord_l1 at h11
      refine wp_seq ?_
      refine wp_seq ?_
      refine region_pl ?_
      refine q_ hf rfl rfl rfl (e_move hf rfl) fun a hf => ?_
      refine q_ hf rfl rfl rfl (e_move hf rfl) fun a hf => ?_
      refine q_ hf rfl rfl rfl (e_lenS hf (x := s1) rfl Try.underlying9) fun a hf => ?_
      refine q_ hf rfl rfl rfl (e_lt hf (x := n5) (y := (s1.length : Int)) rfl rfl) fun a hf => ?_
      refine pl_nil ?_
      refine then_n ?_
      rcases cond_some h11 with ⟨hc13, h11⟩ | ⟨hc13, h11⟩
      · refine cond_t hf rfl hc13 ?_
        refine wp_skip ?_
        refine then_n ?_
        refine wp_seq ?_
        refine wp_block ?_
        refine wp_seq ?_
        refine region_pl ?_
        refine q_ hf rfl rfl rfl (e_move hf rfl) fun a hf => ?_
        refine q_ hf rfl rfl rfl (e_move hf rfl) fun a hf => ?_
        obtain ⟨c14, hz15, h11⟩ := bind_some h11
        refine q_ hf rfl rfl rfl (e_indexS hf (x := s1) rfl rfl Try.underlying9 hz15) fun a hf => ?_
        obtain ⟨y16, hz17, h11⟩ := bind_some h11
        refine pl_l hf rfl rfl rfl (w_call hf Try.call87 rfl (r_spec_l01Small ⟨_, Sh C _ _, none_, hM.sh_lt, none_not, C.G, hM.g_lt, g_none, hM.tabs⟩ c14 _ hz17) ?_)
        rintro _ w18 ⟨rfl, hM2⟩
        obtain ⟨hM, hx19, hup20⟩ := hM.back hM2
        dsimp only [List.cons_append, List.nil_append] at hM hup20
        clear hM2
        refine ⟨_, rfl, fun a hf => ?_⟩
        refine q_ hf rfl rfl rfl (e_not hf rfl) fun a hf => ?_
        refine pl_nil ?_
        refine then_n ?_
        rcases cond_some h11 with ⟨hc21, h11⟩ | ⟨hc21, h11⟩
        · refine cond_t hf rfl hc21 ?_
          refine wp_seq ?_
          refine region_pl ?_
          refine q_ hf rfl rfl rfl (e_assign hf rfl) fun a hf => ?_
          refine pl_nil ?_
          refine then_n ?_
          refine wp_ret ?_
          refine blk_r ?_
          refine then_r ?_
          obtain rfl := some_inj h11
          obtain rfl := hd12 _ rfl
          try dsimp only at h4
          refine then_r ?_
          refine blk_r ?_
          obtain rfl := some_inj h4
          try dsimp only at h
          refine then_r ?_
          obtain rfl := some_inj h
          exact leave1 hf rfl rfl ⟨rfl, hM.fin⟩
        · refine cond_f hf rfl hc21 ?_
          refine wp_skip ?_
          refine blk_n ?_
          refine then_n ?_
          refine region_pl ?_
          refine q_ hf rfl rfl rfl (e_move hf rfl) fun a hf => ?_
          obtain ⟨z22, hz23, h11⟩ := bind_some h11
          refine q_ hf rfl rfl rfl (e_add hf rfl rfl hz23) fun a hf => ?_
          refine q_ hf rfl rfl rfl (e_assign hf rfl) fun a hf => ?_
          refine pl_nil ?_
          obtain rfl := some_inj h11
          refine then_n ⟨_, rfl, ?_⟩
          exact ⟨z22, rfl, hf.keep ⟨rfl, rfl, trivial⟩, hM.pick [] rfl, (chk_R hz23)⟩
      · refine cond_f hf rfl hc13 ?_
        refine wp_exit ?_
        refine then_x ?_
        obtain rfl := some_inj h11
        obtain rfl := hd12 _ rfl
        try dsimp only at h4
        refine then_x ?_
        refine exit_hit ?_
        obtain rfl := some_inj h4
        refine then_n ?_
        exact ⟨rfl, hf.keep ⟨rfl, trivial⟩, hM.pick [] rfl⟩
  · rintro a w30 ⟨rfl, hf, hM⟩
    try dsimp only at h
    refine wp_seq ?_
    refine region_pl ?_
    refine q_ hf rfl rfl rfl (e_move hf rfl) fun a hf => ?_
    refine q_ hf rfl rfl rfl (e_lenS hf (x := s1) rfl Try.underlying9) fun a hf => ?_
    obtain ⟨y31, hz32, h⟩ := bind_some h
    refine pl_l hf rfl rfl rfl (w_call hf Try.call82 rfl (r_spec_l00In ⟨_, Sh C _ _, none_, hM.sh_lt, none_not, C.G, hM.g_lt, g_none, hM.tabs⟩ (s1.length : Int) (R64_len hp2) 1 (R64_lit rfl) 12 (R64_lit rfl) _ hz32) ?_)
    rintro _ w33 ⟨rfl, hM2⟩
    obtain ⟨hM, hx34, hup35⟩ := hM.back hM2
    dsimp only [List.cons_append, List.nil_append] at hM hup35
    clear hM2
    refine ⟨_, rfl, fun a hf => ?_⟩
    refine q_ hf rfl rfl rfl (e_assign hf rfl) fun a hf => ?_
    refine pl_nil ?_
    refine then_n ?_
    refine wp_ret ?_
    obtain rfl := some_inj h
    exact leave1 hf rfl rfl ⟨rfl, hM.fin⟩

set_option maxRecDepth 100000 in
set_option maxHeartbeats 4000000 in
theorem r_spec_l05Long (C : Cx) (s1 : Str) (hp2 : s1.length ≤ maxLen) (r : Bool) (h : m_spec_l05Long s1 = some r) :
    Calls Try.prog 90 #[vS (s1)] C.w0 fun e w => e = .returned (.bool (r)) ∧ Mem C w [] [] := by
  have hM := Mem.begin C [] trivial
  refine enter Try.func90 rfl Try.ntmps90 rfl fun a hf => ?_
  unfold m_spec_l05Long at h
  refine wp_seq ?_
  refine region_pl ?_
  refine q_ hf rfl rfl rfl (e_assign hf rfl) fun a hf => ?_
  refine pl_nil ?_
  refine then_n ?_
  obtain ⟨x5, h6, h⟩ := bind_some h
  refine seq_join (fun a w => ∃ (t3 : Bool), t3 = x5 ∧ Has 10 a [(2, .bool (t3))] ∧ Mem C w [] []) ?_ ?_
  · refine region_pl ?_
    refine q_ hf rfl rfl rfl (e_move hf rfl) fun a hf => ?_
    refine q_ hf rfl rfl rfl (e_lenS hf (x := s1) rfl Try.underlying9) fun a hf => ?_
    refine q_ hf rfl rfl rfl (e_gt hf (x := (s1.length : Int)) (y := 1) rfl rfl) fun a hf => ?_
    refine q_ hf rfl rfl rfl (e_move hf rfl) fun a hf => ?_
    rcases cond_some h6 with ⟨hc7, h6⟩ | ⟨hc7, h6⟩
    · refine gq (wanted_t hf rfl rfl rfl rfl hc7) hf rfl rfl (e_move hf rfl) fun a hf => ?_
      obtain ⟨y8, hz9, h6⟩ := bind_some h6
      refine pl_gl (wanted_t hf rfl rfl rfl rfl hc7) hf rfl rfl (w_call hf Try.call57 rfl (r_spec_IsWord ⟨_, Sh C _ _, none_, hM.sh_lt, none_not, C.G, hM.g_lt, g_none, hM.tabs⟩ s1 hp2 _ hz9) ?_)
      rintro _ w10 ⟨rfl, hM2⟩
      obtain ⟨hM, hx11, hup12⟩ := hM.back hM2
      dsimp only [List.cons_append, List.nil_append] at hM hup12
      clear hM2
      refine ⟨_, rfl, fun a hf => ?_⟩
      refine q_ hf rfl rfl rfl (e_pick_t hf rfl hc7 rfl) fun a hf => ?_
      refine q_ hf rfl rfl rfl (e_assign hf rfl) fun a hf => ?_
      refine pl_nil ?_
      obtain rfl := some_inj h6
      refine then_n ?_
      exact ⟨y8, rfl, hf.keep ⟨rfl, trivial⟩, hM.pick [] rfl⟩
    · refine pl_gs (wanted_f hf rfl rfl rfl rfl hc7) hf rfl rfl fun a hf => ?_
      refine pl_gs (wanted_f hf rfl rfl rfl rfl hc7) hf rfl rfl fun a hf => ?_
      refine q_ hf rfl rfl rfl (e_pick_f hf rfl hc7 rfl) fun a hf => ?_
      refine q_ hf rfl rfl rfl (e_assign hf rfl) fun a hf => ?_
      refine pl_nil ?_
      obtain rfl := some_inj h6
      refine then_n ?_
      exact ⟨false, rfl, hf.keep ⟨rfl, trivial⟩, hM.pick [] rfl⟩
  · rintro a w15 ⟨t3, rfl, hf, hM⟩
    try dsimp only at h
    refine wp_ret ?_
    obtain rfl := some_inj h
    exact leave1 hf rfl rfl ⟨rfl, hM.fin⟩

set_option maxRecDepth 100000 in
set_option maxHeartbeats 4000000 in
theorem r_spec_l05Ok (C : Cx) (l1 : Lexicon) (b2 : Nat) (o3 : Nat) (hp4 : (ptrRep LexiconRep).R C.w0 C.S0 l1 [vP b2 o3]) (r : Bool) (h : m_spec_l05Ok l1 = some r) :
    Calls Try.prog 64 #[vP b2 (o3)] C.w0 fun e w => e = .returned (.bool (r)) ∧ Mem C w [] [] := by
  have hM := Mem.begin C [.dat (ptrRep LexiconRep) l1 [vP b2 o3]] ⟨hp4, trivial⟩
  refine enter Try.func64 rfl Try.ntmps64 rfl fun a hf => ?_
  unfold m_spec_l05Ok at h
  refine wp_seq ?_
  refine region_pl ?_
  refine q_ hf rfl rfl rfl (e_assign hf rfl) fun a hf => ?_
  refine pl_nil ?_
  refine then_n ?_
  obtain ⟨x5, h6, h⟩ := bind_some h
  refine seq_join (fun a w => (.inl ()) = x5 ∧ Has 50 a [(0, vP b2 (o3))] ∧ Mem C w [] [.dat (ptrRep LexiconRep) l1 [vP b2 o3]]) ?_ ?_
  · refine wp_seq ?_
    refine region_pl ?_
    refine q_ hf rfl rfl rfl (e_assign hf rfl) fun a hf => ?_
    refine pl_nil ?_
    refine then_n ?_
    refine wp_block ?_
    obtain ⟨x10, h11, h6⟩ := bind_some h6
    refine wp_loopM h11 (fun s a w => ∃ (n7 : Int), n7 = s ∧ Has 50 a [(0, vP b2 (o3)), (3, vI (n7))] ∧ Mem C w [] [.dat (ptrRep LexiconRep) l1 [vP b2 o3]] ∧ R64 n7) ?_ ?_
    · exact ⟨0, rfl, hf.keep ⟨rfl, rfl, trivial⟩, hM.pick [0] rfl, (R64_lit rfl)⟩
    · rintro s o12 a w9 ⟨n7, rfl, hf, hM, hv8⟩ h13 hd14
      replace h13 : m_spec_l05Ok_l1 l1 n7 = some o12 := h13
      unfold m_spec_l05Ok_l1 at h13
      refine wp_seq ?_
      refine wp_seq ?_
      refine region_pl ?_
      refine q_ hf rfl rfl rfl (e_move hf rfl) fun a hf => ?_
      refine q_ hf rfl rfl rfl (e_move hf rfl) fun a hf => ?_
      refine q_ hf rfl rfl rfl (e_nil hf rfl) fun a hf => ?_
      obtain ⟨_, hr15, hM⟩ := hM.deref (hM.dat (k := 0) rfl)
      obtain ⟨A16, c17, rfl, hv18⟩ := LexiconRep_open hr15
      have hM := hM.add (y := .dat (sliceRep strRep) l1.Words [vL A16 l1.Words c17]) hv18
      refine q_ hf rfl rfl rfl (e_field hf rfl Try.underlying45 rfl Try.sizeOf40 (o' := o3 + 0) rfl) fun a hf => ?_
      refine q_ hf rfl rfl rfl (e_load1 hf rfl Try.isAgg40 (hM.litCell (k := 1) (j := 0) rfl rfl rfl)) fun a hf => ?_
      have hl19 := slice_len (hM.dat (k := 0) rfl)
      refine q_ hf rfl rfl rfl (e_lenL hf (x := l1.Words) rfl Try.underlying40) fun a hf => ?_
      refine q_ hf rfl rfl rfl (e_lt hf (x := n7) (y := (l1.Words.length : Int)) rfl rfl) fun a hf => ?_
      refine pl_nil ?_
      refine then_n ?_
      rcases cond_some h13 with ⟨hc20, h13⟩ | ⟨hc20, h13⟩
      · refine cond_t hf rfl hc20 ?_
        refine wp_skip ?_
        refine then_n ?_
        refine wp_seq ?_
        refine wp_block ?_
        obtain ⟨x23, h24, h13⟩ := bind_some h13
        refine seq_join (fun a w => ∃ (t21 : Bool), t21 = x23 ∧ Has 50 a [(0, vP b2 (o3)), (3, vI (n7)), (43, .bool (t21))] ∧ Mem C w [] [.dat (sliceRep strRep) l1.Words [vL A16 l1.Words c17], .lit b2 (o3) [vL A16 (l1.Words) c17], .dat (ptrRep LexiconRep) l1 [vP b2 o3]]) ?_ ?_
        · obtain ⟨w25, hw⟩ : ∃ x, x = w9.drew := ⟨_, rfl⟩
          refine region_pi (.q 0 (.q 1 (.q 2 (.q 3 (.q 4 (.q 5 (.q 6 (.l 7 (.q 8 (.q 9 (.q 10 (.q 11 (.q 12 (.q 13 (.q 14 (.q 15 (.q 16 (.q 17 (.q 18 (.q 19 (.q 20 (.q 21 (.q 22 (.q 23 (.q 24 (.q 25 (.q 26 (.q 27 (.q 28 (.q 29 (.q 30 (.nil)))))))))))))))))))))))))))))))) (Ext w25) rfl (by kernel_rfl) ?_
          have hM := hM.drew
          rw [← hw] at hM ⊢
          clear hw
          refine pi_q hf rfl rfl rfl rfl (Ext.refl _) (e_move hf rfl) fun a hf => ?_
          refine pi_q hf rfl rfl rfl rfl (Ext.refl _) (e_nil hf rfl) fun a hf => ?_
          refine pi_q hf rfl rfl rfl rfl (Ext.refl _) (e_field hf rfl Try.underlying45 rfl Try.sizeOf40 (o' := o3 + 0) rfl) fun a hf => ?_
          refine pi_q hf rfl rfl rfl rfl (Ext.refl _) (e_load1 hf rfl Try.isAgg40 (hM.litCell (k := 1) (j := 0) rfl rfl rfl)) fun a hf => ?_
          refine pi_q hf rfl rfl rfl rfl (Ext.refl _) (e_move hf rfl) fun a hf => ?_
          obtain ⟨e26, hz27, h24⟩ := bind_some h24
          obtain ⟨b31, o32, _, hA33, h28, h29, hr30, hM⟩ := hM.elem (hM.dat (k := 0) rfl) (n := 1) rfl hz27
          obtain ⟨rfl, hv34⟩ := hr30
          refine pi_q hf rfl rfl rfl rfl (Ext.refl _) (e_indexAddr (A := A16) (b := b31) (o := o32) (xs := l1.Words) (i := n7) hf hA33 rfl rfl Try.underlying40 Try.sizeOf9 h28 h29) fun a hf => ?_
          refine pi_q hf rfl rfl rfl rfl (Ext.refl _) (e_load1 hf rfl Try.isAgg9 (hM.litCell (k := 0) (j := 0) rfl rfl rfl)) fun a hf => ?_
          refine pi_one ?_
          obtain ⟨y35, hz36, h24⟩ := bind_some h24
          refine pi_l hf rfl rfl rfl rfl (w_call hf Try.call90 rfl (r_spec_l05Long ⟨_, Sh C _ _, none_, hM.sh_lt, none_not, C.G, hM.g_lt, g_none, hM.tabs⟩ e26 hv34 _ hz36) ?_)
          rintro _ w37 ⟨rfl, hM2⟩
          obtain ⟨hM, hx38, hup39⟩ := hM.back hM2
          dsimp only [List.cons_append, List.nil_append] at hM hup39
          clear hM2
          refine ⟨_, rfl, Ext w37, fun _ h => Ext.trans hx38 h, Ext.refl _, fun a hf => ?_⟩
          refine pi_q hf rfl rfl rfl rfl (Ext.refl _) (e_not hf rfl) fun a hf => ?_
          refine pi_q hf rfl rfl rfl rfl (Ext.refl _) (e_move hf rfl) fun a hf => ?_
          rcases cond_some h24 with ⟨hc40, h24⟩ | ⟨hc40, h24⟩
          · refine pi_gs hf rfl (wanted_f hf rfl rfl rfl rfl hc40) rfl rfl (Ext.refl _) fun a hf => ?_
            refine pi_gs hf rfl (wanted_f hf rfl rfl rfl rfl hc40) rfl rfl (Ext.refl _) fun a hf => ?_
            refine pi_gs hf rfl (wanted_f hf rfl rfl rfl rfl hc40) rfl rfl (Ext.refl _) fun a hf => ?_
            refine pi_gs hf rfl (wanted_u hf rfl rfl rfl rfl) rfl rfl (Ext.refl _) fun a hf => ?_
            refine pi_gs hf rfl (wanted_u hf rfl rfl rfl rfl) rfl rfl (Ext.refl _) fun a hf => ?_
            refine pi_gs hf rfl (wanted_u hf rfl rfl rfl rfl) rfl rfl (Ext.refl _) fun a hf => ?_
            refine pi_gs hf rfl (wanted_u hf rfl rfl rfl rfl) rfl rfl (Ext.refl _) fun a hf => ?_
            refine pi_gs hf rfl (wanted_u hf rfl rfl rfl rfl) rfl rfl (Ext.refl _) fun a hf => ?_
            refine pi_gs hf rfl (wanted_u hf rfl rfl rfl rfl) rfl rfl (Ext.refl _) fun a hf => ?_
            refine pi_gs hf rfl (wanted_u hf rfl rfl rfl rfl) rfl rfl (Ext.refl _) fun a hf => ?_
            refine pi_gs hf rfl (wanted_u hf rfl rfl rfl rfl) rfl rfl (Ext.refl _) fun a hf => ?_
            refine pi_gs hf rfl (wanted_u hf rfl rfl rfl rfl) rfl rfl (Ext.refl _) fun a hf => ?_
            refine pi_gs hf rfl (wanted_u hf rfl rfl rfl rfl) rfl rfl (Ext.refl _) fun a hf => ?_
            refine pi_gs hf rfl (wanted_u hf rfl rfl rfl rfl) rfl rfl (Ext.refl _) fun a hf => ?_
            refine pi_gs hf rfl (wanted_u hf rfl rfl rfl rfl) rfl rfl (Ext.refl _) fun a hf => ?_
            refine pi_gs hf rfl (wanted_u hf rfl rfl rfl rfl) rfl rfl (Ext.refl _) fun a hf => ?_
            refine pi_gs hf rfl (wanted_u hf rfl rfl rfl rfl) rfl rfl (Ext.refl _) fun a hf => ?_
            refine pi_gs hf rfl (wanted_u hf rfl rfl rfl rfl) rfl rfl (Ext.refl _) fun a hf => ?_
            refine pi_gs hf rfl (wanted_u hf rfl rfl rfl rfl) rfl rfl (Ext.refl _) fun a hf => ?_
            refine pi_gs hf rfl (wanted_f hf rfl rfl rfl rfl hc40) rfl rfl (Ext.refl _) fun a hf => ?_
            refine pi_q hf rfl rfl rfl rfl (Ext.refl _) (e_pick_t hf rfl hc40 rfl) fun a hf => ?_
            refine pi_nil ?_
            obtain rfl := some_inj h24
            refine then_n ?_
            exact ⟨true, rfl, hf.keep ⟨rfl, rfl, rfl, trivial⟩, hM.pick [1, 2, 3] rfl⟩
          · refine pi_gq hf rfl (wanted_t hf rfl rfl rfl rfl hc40) rfl rfl (Ext.refl _) (e_move hf rfl) fun a hf => ?_
            refine pi_gq hf rfl (wanted_t hf rfl rfl rfl rfl hc40) rfl rfl (Ext.refl _) (e_gt hf (x := n7) (y := 0) rfl rfl) fun a hf => ?_
            refine pi_gq hf rfl (wanted_t hf rfl rfl rfl rfl hc40) rfl rfl (Ext.refl _) (e_move hf rfl) fun a hf => ?_
            rcases cond_some h24 with ⟨hc42, h24⟩ | ⟨hc42, h24⟩
            · refine pi_gq hf rfl (wanted_t hf rfl rfl rfl rfl hc42) rfl rfl (Ext.refl _) (e_move hf rfl) fun a hf => ?_
              refine pi_gq hf rfl (wanted_t hf rfl rfl rfl rfl hc42) rfl rfl (Ext.refl _) (e_nil hf rfl) fun a hf => ?_
              refine pi_gq hf rfl (wanted_t hf rfl rfl rfl rfl hc42) rfl rfl (Ext.refl _) (e_field hf rfl Try.underlying45 rfl Try.sizeOf40 (o' := o3 + 0) rfl) fun a hf => ?_
              refine pi_gq hf rfl (wanted_t hf rfl rfl rfl rfl hc42) rfl rfl (Ext.refl _) (e_load1 hf rfl Try.isAgg40 (hM.litCell (k := 2) (j := 0) rfl rfl rfl)) fun a hf => ?_
              refine pi_gq hf rfl (wanted_t hf rfl rfl rfl rfl hc42) rfl rfl (Ext.refl _) (e_move hf rfl) fun a hf => ?_
              obtain ⟨e43, hz44, h24⟩ := bind_some h24
              obtain ⟨b48, o49, _, hA50, h45, h46, hr47, hM⟩ := hM.elem (hM.dat (k := 1) rfl) (n := 1) rfl hz44
              obtain ⟨rfl, hv51⟩ := hr47
              refine pi_gq hf rfl (wanted_t hf rfl rfl rfl rfl hc42) rfl rfl (Ext.refl _) (e_indexAddr (A := A16) (b := b48) (o := o49) (xs := l1.Words) (i := n7) hf hA50 rfl rfl Try.underlying40 Try.sizeOf9 h45 h46) fun a hf => ?_
              refine pi_gq hf rfl (wanted_t hf rfl rfl rfl rfl hc42) rfl rfl (Ext.refl _) (e_load1 hf rfl Try.isAgg9 (hM.litCell (k := 0) (j := 0) rfl rfl rfl)) fun a hf => ?_
              refine pi_gq hf rfl (wanted_t hf rfl rfl rfl rfl hc42) rfl rfl (Ext.refl _) (e_move hf rfl) fun a hf => ?_
              refine pi_gq hf rfl (wanted_t hf rfl rfl rfl rfl hc42) rfl rfl (Ext.refl _) (e_nil hf rfl) fun a hf => ?_
              refine pi_gq hf rfl (wanted_t hf rfl rfl rfl rfl hc42) rfl rfl (Ext.refl _) (e_field hf rfl Try.underlying45 rfl Try.sizeOf40 (o' := o3 + 0) rfl) fun a hf => ?_
              refine pi_gq hf rfl (wanted_t hf rfl rfl rfl rfl hc42) rfl rfl (Ext.refl _) (e_load1 hf rfl Try.isAgg40 (hM.litCell (k := 3) (j := 0) rfl rfl rfl)) fun a hf => ?_
              refine pi_gq hf rfl (wanted_t hf rfl rfl rfl rfl hc42) rfl rfl (Ext.refl _) (e_move hf rfl) fun a hf => ?_
              obtain ⟨z52, hz53, h24⟩ := bind_some h24
              refine pi_gq hf rfl (wanted_t hf rfl rfl rfl rfl hc42) rfl rfl (Ext.refl _) (e_sub hf rfl rfl hz53) fun a hf => ?_
              obtain ⟨e54, hz55, h24⟩ := bind_some h24
              obtain ⟨b59, o60, _, hA61, h56, h57, hr58, hM⟩ := hM.elem (hM.dat (k := 2) rfl) (n := 1) rfl hz55
              obtain ⟨rfl, hv62⟩ := hr58
              refine pi_gq hf rfl (wanted_t hf rfl rfl rfl rfl hc42) rfl rfl (Ext.refl _) (e_indexAddr (A := A16) (b := b59) (o := o60) (xs := l1.Words) (i := z52) hf hA61 rfl rfl Try.underlying40 Try.sizeOf9 h56 h57) fun a hf => ?_
              refine pi_gq hf rfl (wanted_t hf rfl rfl rfl rfl hc42) rfl rfl (Ext.refl _) (e_load1 hf rfl Try.isAgg9 (hM.litCell (k := 0) (j := 0) rfl rfl rfl)) fun a hf => ?_
              refine pi_gq hf rfl (wanted_t hf rfl rfl rfl rfl hc42) rfl rfl (Ext.refl _) (e_leS hf (x := e43) (y := e54) rfl rfl) fun a hf => ?_
              refine pi_gq hf rfl (wanted_t hf rfl rfl rfl rfl hc40) rfl rfl (Ext.refl _) (e_pick_t hf rfl hc42 rfl) fun a hf => ?_
              refine pi_q hf rfl rfl rfl rfl (Ext.refl _) (e_pick_f hf rfl hc40 rfl) fun a hf => ?_
              refine pi_nil ?_
              obtain rfl := some_inj h24
              refine then_n ?_
              exact ⟨(ltS e43 e54 || e43 == e54), rfl, hf.keep ⟨rfl, rfl, rfl, trivial⟩, hM.pick [3, 4, 5] rfl⟩
            · refine pi_gs hf rfl (wanted_f hf rfl rfl rfl rfl hc42) rfl rfl (Ext.refl _) fun a hf => ?_
              refine pi_gs hf rfl (wanted_f hf rfl rfl rfl rfl hc42) rfl rfl (Ext.refl _) fun a hf => ?_
              refine pi_gs hf rfl (wanted_f hf rfl rfl rfl rfl hc42) rfl rfl (Ext.refl _) fun a hf => ?_
              refine pi_gs hf rfl (wanted_f hf rfl rfl rfl rfl hc42) rfl rfl (Ext.refl _) fun a hf => ?_
              refine pi_gs hf rfl (wanted_f hf rfl rfl rfl rfl hc42) rfl rfl (Ext.refl _) fun a hf => ?_
              refine pi_gs hf rfl (wanted_f hf rfl rfl rfl rfl hc42) rfl rfl (Ext.refl _) fun a hf => ?_
              refine pi_gs hf rfl (wanted_f hf rfl rfl rfl rfl hc42) rfl rfl (Ext.refl _) fun a hf => ?_
              refine pi_gs hf rfl (wanted_f hf rfl rfl rfl rfl hc42) rfl rfl (Ext.refl _) fun a hf => ?_
              refine pi_gs hf rfl (wanted_f hf rfl rfl rfl rfl hc42) rfl rfl (Ext.refl _) fun a hf => ?_
              refine pi_gs hf rfl (wanted_f hf rfl rfl rfl rfl hc42) rfl rfl (Ext.refl _) fun a hf => ?_
              refine pi_gs hf rfl (wanted_f hf rfl rfl rfl rfl hc42) rfl rfl (Ext.refl _) fun a hf => ?_
              refine pi_gs hf rfl (wanted_f hf rfl rfl rfl rfl hc42) rfl rfl (Ext.refl _) fun a hf => ?_
              refine pi_gs hf rfl (wanted_f hf rfl rfl rfl rfl hc42) rfl rfl (Ext.refl _) fun a hf => ?_
              refine pi_gs hf rfl (wanted_f hf rfl rfl rfl rfl hc42) rfl rfl (Ext.refl _) fun a hf => ?_
              refine pi_gs hf rfl (wanted_f hf rfl rfl rfl rfl hc42) rfl rfl (Ext.refl _) fun a hf => ?_
              refine pi_gs hf rfl (wanted_f hf rfl rfl rfl rfl hc42) rfl rfl (Ext.refl _) fun a hf => ?_
              refine pi_gq hf rfl (wanted_t hf rfl rfl rfl rfl hc40) rfl rfl (Ext.refl _) (e_pick_f hf rfl hc42 rfl) fun a hf => ?_
              refine pi_q hf rfl rfl rfl rfl (Ext.refl _) (e_pick_f hf rfl hc40 rfl) fun a hf => ?_
              refine pi_nil ?_
              obtain rfl := some_inj h24
              refine then_n ?_
              exact ⟨false, rfl, hf.keep ⟨rfl, rfl, rfl, trivial⟩, hM.pick [1, 2, 3] rfl⟩
        · rintro a w65 ⟨t21, rfl, hf, hM⟩
          try dsimp only at h13
          rcases cond_some h13 with ⟨hc66, h13⟩ | ⟨hc66, h13⟩
          · refine cond_t hf rfl hc66 ?_
            refine wp_seq ?_
            refine region_pl ?_
            refine q_ hf rfl rfl rfl (e_assign hf rfl) fun a hf => ?_
            refine pl_nil ?_
            refine then_n ?_
            refine wp_ret ?_
            refine blk_r ?_
            refine then_r ?_
            obtain rfl := some_inj h13
            obtain rfl := hd14 _ rfl
            try dsimp only at h6
            refine then_r ?_
            refine blk_r ?_
            obtain rfl := some_inj h6
            try dsimp only at h
            refine then_r ?_
            obtain rfl := some_inj h
            exact leave1 hf rfl rfl ⟨rfl, hM.fin⟩
          · refine cond_f hf rfl hc66 ?_
            refine wp_skip ?_
            refine blk_n ?_
            refine then_n ?_
            refine region_pl ?_
            refine q_ hf rfl rfl rfl (e_move hf rfl) fun a hf => ?_
            obtain ⟨z67, hz68, h13⟩ := bind_some h13
            refine q_ hf rfl rfl rfl (e_add hf rfl rfl hz68) fun a hf => ?_
            refine q_ hf rfl rfl rfl (e_assign hf rfl) fun a hf => ?_
            refine pl_nil ?_
            obtain rfl := some_inj h13
            refine then_n ⟨_, rfl, ?_⟩
            exact ⟨z67, rfl, hf.keep ⟨rfl, rfl, trivial⟩, hM.pick [2] rfl, (chk_R hz68)⟩
      · refine cond_f hf rfl hc20 ?_
        refine wp_exit ?_
        refine then_x ?_
        obtain rfl := some_inj h13
        obtain rfl := hd14 _ rfl
        try dsimp only at h6
        refine then_x ?_
        refine exit_hit ?_
        obtain rfl := some_inj h6
        refine then_n ?_
        exact ⟨rfl, hf.keep ⟨rfl, trivial⟩, hM.pick [2] rfl⟩
  · rintro a w75 ⟨rfl, hf, hM⟩
    try dsimp only at h
    refine wp_seq ?_
    refine region_pl ?_
    refine q_ hf rfl rfl rfl (e_move hf rfl) fun a hf => ?_
    refine q_ hf rfl rfl rfl (e_nil hf rfl) fun a hf => ?_
    obtain ⟨_, hr76, hM⟩ := hM.deref (hM.dat (k := 0) rfl)
    obtain ⟨A77, c78, rfl, hv79⟩ := LexiconRep_open hr76
    have hM := hM.add (y := .dat (sliceRep strRep) l1.Words [vL A77 l1.Words c78]) hv79
    refine q_ hf rfl rfl rfl (e_field hf rfl Try.underlying45 rfl Try.sizeOf40 (o' := o3 + 0) rfl) fun a hf => ?_
    refine q_ hf rfl rfl rfl (e_load1 hf rfl Try.isAgg40 (hM.litCell (k := 1) (j := 0) rfl rfl rfl)) fun a hf => ?_
    have hl80 := slice_len (hM.dat (k := 0) rfl)
    refine q_ hf rfl rfl rfl (e_lenL hf (x := l1.Words) rfl Try.underlying40) fun a hf => ?_
    refine q_ hf rfl rfl rfl (e_le hf (x := (l1.Words.length : Int)) (y := 200) rfl rfl) fun a hf => ?_
    refine q_ hf rfl rfl rfl (e_assign hf rfl) fun a hf => ?_
    refine pl_nil ?_
    refine then_n ?_
    refine wp_ret ?_
    obtain rfl := some_inj h
    exact leave1 hf rfl rfl ⟨rfl, hM.fin⟩

set_option maxRecDepth 100000 in
set_option maxHeartbeats 4000000 in
theorem r_spec_l25At (C : Cx) (g1 : Grid) (b2 : Nat) (o3 : Nat) (hp4 : (ptrRep GridRep).R C.w0 C.S0 g1 [vP b2 o3]) (row5 : Int) (hp6 : R64 row5) (col7 : Int) (hp8 : R64 col7) (r : UInt8) (h : m_spec_l25At g1 row5 col7 = some r) :
    Calls Try.prog 108 #[vP b2 (o3), vI (row5), vI (col7)] C.w0 fun e w => e = .returned (vB (r)) ∧ Mem C w [] [] := by
  have hM := Mem.begin C [.dat (ptrRep GridRep) g1 [vP b2 o3]] ⟨hp4, trivial⟩
  refine enter Try.func108 rfl Try.ntmps108 rfl fun a hf => ?_
  unfold m_spec_l25At at h
  refine wp_seq ?_
  refine region_pl ?_
  refine q_ hf rfl rfl rfl (e_assign hf rfl) fun a hf => ?_
  refine pl_nil ?_
  refine then_n ?_
  refine wp_seq ?_
  obtain ⟨x11, h12, h⟩ := bind_some h
  refine seq_join (fun a w => ∃ (t9 : Bool), t9 = x11 ∧ Has 38 a [(0, vP b2 (o3)), (1, vI (row5)), (2, vI (col7)), (24, .bool (t9))] ∧ Mem C w [] [.dat (ptrRep GridRep) g1 [vP b2 o3]]) ?_ ?_
  · refine region_pl ?_
    refine q_ hf rfl rfl rfl (e_move hf rfl) fun a hf => ?_
    refine q_ hf rfl rfl rfl (e_move hf rfl) fun a hf => ?_
    refine q_ hf rfl rfl rfl (e_nil hf rfl) fun a hf => ?_
    obtain ⟨_, hr13, hM⟩ := hM.deref (hM.dat (k := 0) rfl)
    obtain ⟨rfl, hv14, hv15, hv16⟩ := GridRep_open hr13
    refine q_ hf rfl rfl rfl (e_field hf rfl Try.underlying27 rfl Try.sizeOf2 (o' := o3 + 0) rfl) fun a hf => ?_
    refine q_ hf rfl rfl rfl (e_load1 hf rfl Try.isAgg2 (hM.litCell (k := 0) (j := 0) rfl rfl rfl)) fun a hf => ?_
    obtain ⟨z17, hz18, h12⟩ := bind_some h12
    refine q_ hf rfl rfl rfl (e_sub hf rfl rfl hz18) fun a hf => ?_
    obtain ⟨y19, hz20, h12⟩ := bind_some h12
    refine pl_l hf rfl rfl rfl (w_call hf Try.call82 rfl (r_spec_l00In ⟨_, Sh C _ _, none_, hM.sh_lt, none_not, C.G, hM.g_lt, g_none, hM.tabs⟩ row5 hp6 0 (R64_lit rfl) z17 (chk_R hz18) _ hz20) ?_)
    rintro _ w21 ⟨rfl, hM2⟩
    obtain ⟨hM, hx22, hup23⟩ := hM.back hM2
    dsimp only [List.cons_append, List.nil_append] at hM hup23
    clear hM2
    refine ⟨_, rfl, fun a hf => ?_⟩
    refine q_ hf rfl rfl rfl (e_not hf rfl) fun a hf => ?_
    refine q_ hf rfl rfl rfl (e_move hf rfl) fun a hf => ?_
    rcases cond_some h12 with ⟨hc24, h12⟩ | ⟨hc24, h12⟩
    · refine pl_gs (wanted_f hf rfl rfl rfl rfl hc24) hf rfl rfl fun a hf => ?_
      refine pl_gs (wanted_f hf rfl rfl rfl rfl hc24) hf rfl rfl fun a hf => ?_
      refine pl_gs (wanted_f hf rfl rfl rfl rfl hc24) hf rfl rfl fun a hf => ?_
      refine pl_gs (wanted_f hf rfl rfl rfl rfl hc24) hf rfl rfl fun a hf => ?_
      refine pl_gs (wanted_f hf rfl rfl rfl rfl hc24) hf rfl rfl fun a hf => ?_
      refine pl_gs (wanted_f hf rfl rfl rfl rfl hc24) hf rfl rfl fun a hf => ?_
      refine pl_gs (wanted_f hf rfl rfl rfl rfl hc24) hf rfl rfl fun a hf => ?_
      refine pl_gs (wanted_f hf rfl rfl rfl rfl hc24) hf rfl rfl fun a hf => ?_
      refine q_ hf rfl rfl rfl (e_pick_t hf rfl hc24 rfl) fun a hf => ?_
      refine pl_nil ?_
      obtain rfl := some_inj h12
      refine then_n ?_
      exact ⟨true, rfl, hf.keep ⟨rfl, rfl, rfl, rfl, trivial⟩, hM.pick [1] rfl⟩
    · refine gq (wanted_t hf rfl rfl rfl rfl hc24) hf rfl rfl (e_move hf rfl) fun a hf => ?_
      refine gq (wanted_t hf rfl rfl rfl rfl hc24) hf rfl rfl (e_move hf rfl) fun a hf => ?_
      refine gq (wanted_t hf rfl rfl rfl rfl hc24) hf rfl rfl (e_nil hf rfl) fun a hf => ?_
      refine gq (wanted_t hf rfl rfl rfl rfl hc24) hf rfl rfl (e_field hf rfl Try.underlying27 rfl Try.sizeOf2 (o' := o3 + 1) rfl) fun a hf => ?_
      refine gq (wanted_t hf rfl rfl rfl rfl hc24) hf rfl rfl (e_load1 hf rfl Try.isAgg2 (hM.litCell (k := 0) (j := 1) rfl rfl rfl)) fun a hf => ?_
      obtain ⟨z26, hz27, h12⟩ := bind_some h12
      refine gq (wanted_t hf rfl rfl rfl rfl hc24) hf rfl rfl (e_sub hf rfl rfl hz27) fun a hf => ?_
      obtain ⟨y28, hz29, h12⟩ := bind_some h12
      refine pl_gl (wanted_t hf rfl rfl rfl rfl hc24) hf rfl rfl (w_call hf Try.call82 rfl (r_spec_l00In ⟨_, Sh C _ _, none_, hM.sh_lt, none_not, C.G, hM.g_lt, g_none, hM.tabs⟩ col7 hp8 0 (R64_lit rfl) z26 (chk_R hz27) _ hz29) ?_)
      rintro _ w30 ⟨rfl, hM2⟩
      obtain ⟨hM, hx31, hup32⟩ := hM.back hM2
      dsimp only [List.cons_append, List.nil_append] at hM hup32
      clear hM2
      refine ⟨_, rfl, fun a hf => ?_⟩
      refine gq (wanted_t hf rfl rfl rfl rfl hc24) hf rfl rfl (e_not hf rfl) fun a hf => ?_
      refine q_ hf rfl rfl rfl (e_pick_f hf rfl hc24 rfl) fun a hf => ?_
      refine pl_nil ?_
      obtain rfl := some_inj h12
      refine then_n ?_
      exact ⟨(!y28), rfl, hf.keep ⟨rfl, rfl, rfl, rfl, trivial⟩, hM.pick [1] rfl⟩
  · rintro a w34 ⟨t9, rfl, hf, hM⟩
    try dsimp only at h
    rcases cond_some h with ⟨hc35, h⟩ | ⟨hc35, h⟩
    · refine cond_t hf rfl hc35 ?_
      refine wp_seq ?_
      refine region_pl ?_
      refine q_ hf rfl rfl rfl (e_assign hf rfl) fun a hf => ?_
      refine pl_nil ?_
      refine then_n ?_
      refine wp_ret ?_
      refine then_r ?_
      obtain rfl := some_inj h
      exact leave1 hf rfl rfl ⟨rfl, hM.fin⟩
    · refine cond_f hf rfl hc35 ?_
      refine wp_skip ?_
      refine then_n ?_
      refine wp_seq ?_
      obtain ⟨w36, hw⟩ : ∃ x, x = w34.drew := ⟨_, rfl⟩
      refine region_pi (.q 0 (.q 1 (.q 2 (.q 3 (.q 4 (.q 5 (.q 6 (.q 7 (.q 8 (.q 9 (.q 10 (.q 11 (.q 12 (.q 13 (.nil))))))))))))))) (Ext w36) rfl (by kernel_rfl) ?_
      have hM := hM.drew
      rw [← hw] at hM ⊢
      clear hw
      refine pi_q hf rfl rfl rfl rfl (Ext.refl _) (e_move hf rfl) fun a hf => ?_
      refine pi_q hf rfl rfl rfl rfl (Ext.refl _) (e_nil hf rfl) fun a hf => ?_
      obtain ⟨_, hr37, hM⟩ := hM.deref (hM.dat (k := 0) rfl)
      obtain ⟨rfl, hv38, hv39, hv40⟩ := GridRep_open hr37
      refine pi_q hf rfl rfl rfl rfl (Ext.refl _) (e_field hf rfl Try.underlying27 rfl Try.sizeOf9 (o' := o3 + 2) rfl) fun a hf => ?_
      refine pi_q hf rfl rfl rfl rfl (Ext.refl _) (e_load1 hf rfl Try.isAgg9 (hM.litCell (k := 0) (j := 2) rfl rfl rfl)) fun a hf => ?_
      refine pi_q hf rfl rfl rfl rfl (Ext.refl _) (e_move hf rfl) fun a hf => ?_
      refine pi_q hf rfl rfl rfl rfl (Ext.refl _) (e_move hf rfl) fun a hf => ?_
      refine pi_q hf rfl rfl rfl rfl (Ext.refl _) (e_nil hf rfl) fun a hf => ?_
      refine pi_q hf rfl rfl rfl rfl (Ext.refl _) (e_field hf rfl Try.underlying27 rfl Try.sizeOf2 (o' := o3 + 1) rfl) fun a hf => ?_
      refine pi_q hf rfl rfl rfl rfl (Ext.refl _) (e_load1 hf rfl Try.isAgg2 (hM.litCell (k := 0) (j := 1) rfl rfl rfl)) fun a hf => ?_
      obtain ⟨z41, hz42, h⟩ := bind_some h
      refine pi_q hf rfl rfl rfl rfl (Ext.refl _) (e_mul hf rfl rfl hz42) fun a hf => ?_
      refine pi_q hf rfl rfl rfl rfl (Ext.refl _) (e_move hf rfl) fun a hf => ?_
      obtain ⟨z43, hz44, h⟩ := bind_some h
      refine pi_q hf rfl rfl rfl rfl (Ext.refl _) (e_add hf rfl rfl hz44) fun a hf => ?_
      obtain ⟨c45, hz46, h⟩ := bind_some h
      refine pi_q hf rfl rfl rfl rfl (Ext.refl _) (e_indexS hf (x := g1.Cells) rfl rfl Try.underlying9 hz46) fun a hf => ?_
      refine pi_q hf rfl rfl rfl rfl (Ext.refl _) (e_assign hf rfl) fun a hf => ?_
      refine pi_nil ?_
      refine then_n ?_
      refine wp_ret ?_
      obtain rfl := some_inj h
      exact leave1 hf rfl rfl ⟨rfl, hM.fin⟩

set_option maxRecDepth 100000 in
set_option maxHeartbeats 4000000 in
theorem r_spec_l25Across (C : Cx) (g1 : Grid) (b2 : Nat) (o3 : Nat) (hp4 : (ptrRep GridRep).R C.w0 C.S0 g1 [vP b2 o3]) (r : (List Slot)) (h : m_spec_l25Across g1 = some r) :
    Calls Try.prog 83 #[vP b2 (o3)] C.w0 fun e w => ∃ (A_1 : Option Addr), ∃ (c_1 : Nat), e = .returned (vL A_1 (r) c_1) ∧ Mem C w [.row SlotRep A_1 c_1 75 r true] [] := by
  have hM := Mem.begin C [.dat (ptrRep GridRep) g1 [vP b2 o3]] ⟨hp4, trivial⟩
  refine enter Try.func83 rfl Try.ntmps83 rfl fun a hf => ?_
  unfold m_spec_l25Across at h
  refine wp_seq ?_
  refine region_pl ?_
  refine q_ hf rfl rfl rfl (e_assign hf rfl) fun a hf => ?_
  refine pl_nil ?_
  refine then_n ?_
  refine wp_seq ?_
  refine region_pl ?_
  refine pl_l hf rfl rfl rfl (w_slice0 (K := SlotRep) hM Try.underlying30 ei_75 fun b5 w6 hx7 hM a hf => ?_)
  refine q_ hf rfl rfl rfl (e_assign hf rfl) fun a hf => ?_
  refine pl_nil ?_
  refine then_n ?_
  obtain ⟨x11, h12, h⟩ := bind_some h
  refine seq_join (fun a w => ∃ (xs8 : (List Slot)) (A9 : Option Addr) (c10 : Nat), xs8 = x11 ∧ Has 45 a [(3, vL A9 (xs8) c10)] ∧ Mem C w [.row SlotRep A9 c10 75 xs8 true] [.dat (ptrRep GridRep) g1 [vP b2 o3]]) ?_ ?_
  · refine wp_seq ?_
    refine region_pl ?_
    refine q_ hf rfl rfl rfl (e_assign hf rfl) fun a hf => ?_
    refine pl_nil ?_
    refine then_n ?_
    refine wp_block ?_
    obtain ⟨x22, h23, h12⟩ := bind_some h12
    refine wp_loopM h23 (fun s a w => ∃ (xs13 : (List Slot)) (c16 : Int) (A14 : Option Addr) (c15 : Nat), (xs13, c16) = s ∧ Has 45 a [(0, vP b2 (o3)), (3, vL A14 (xs13) c15), (4, vI (c16))] ∧ Mem C w [.row SlotRep A14 c15 75 xs13 true] [.dat (ptrRep GridRep) g1 [vP b2 o3]] ∧ R64 c16) ?_ ?_
    · exact ⟨([] : (List Slot)), 0, (some ⟨b5, 0, none⟩), 0, rfl, hf.keep ⟨rfl, rfl, rfl, trivial⟩, hM.pick [0] rfl, (R64_lit rfl)⟩
    · rintro s o24 a w18 ⟨xs13, c16, A14, c15, rfl, hf, hM, hv17⟩ h25 hd26
      replace h25 : m_spec_l25Across_l1 g1 xs13 c16 = some o24 := h25
      unfold m_spec_l25Across_l1 at h25
      refine wp_seq ?_
      refine wp_seq ?_
      refine region_pl ?_
      refine q_ hf rfl rfl rfl (e_move hf rfl) fun a hf => ?_
      refine q_ hf rfl rfl rfl (e_move hf rfl) fun a hf => ?_
      refine q_ hf rfl rfl rfl (e_nil hf rfl) fun a hf => ?_
      obtain ⟨_, hr27, hM⟩ := hM.deref (hM.dat (k := 0) rfl)
      obtain ⟨rfl, hv28, hv29, hv30⟩ := GridRep_open hr27
      refine q_ hf rfl rfl rfl (e_field hf rfl Try.underlying27 rfl Try.sizeOf2 (o' := o3 + 0) rfl) fun a hf => ?_
      refine q_ hf rfl rfl rfl (e_load1 hf rfl Try.isAgg2 (hM.litCell (k := 0) (j := 0) rfl rfl rfl)) fun a hf => ?_
      refine q_ hf rfl rfl rfl (e_lt hf (x := c16) (y := g1.Rows) rfl rfl) fun a hf => ?_
      refine pl_nil ?_
      refine then_n ?_
      rcases cond_some h25 with ⟨hc31, h25⟩ | ⟨hc31, h25⟩
      · refine cond_t hf rfl hc31 ?_
        refine wp_skip ?_
        refine then_n ?_
        obtain ⟨x35, h36, h25⟩ := bind_some h25
        refine seq_join (fun a w => ∃ (xs32 : (List Slot)) (A33 : Option Addr) (c34 : Nat), xs32 = x35 ∧ Has 45 a [(0, vP b2 (o3)), (3, vL A33 (xs32) c34), (4, vI (c16))] ∧ Mem C w [.row SlotRep A33 c34 75 xs32 true] [.lit b2 (o3) [vI (g1.Rows), vI (g1.Cols), vS (g1.Cells)], .dat (ptrRep GridRep) g1 [vP b2 o3]]) ?_ ?_
        · refine wp_block ?_
          refine wp_seq ?_
          refine region_pl ?_
          refine q_ hf rfl rfl rfl (e_assign hf rfl) fun a hf => ?_
          refine pl_nil ?_
          refine then_n ?_
          refine wp_block ?_
          obtain ⟨x46, h47, h36⟩ := bind_some h36
          refine wp_loopM h47 (fun s a w => ∃ (xs37 : (List Slot)) (n40 : Int) (A38 : Option Addr) (c39 : Nat), (xs37, n40) = s ∧ Has 45 a [(0, vP b2 (o3)), (3, vL A38 (xs37) c39), (4, vI (c16)), (5, vI (n40))] ∧ Mem C w [.row SlotRep A38 c39 75 xs37 true] [.lit b2 (o3) [vI (g1.Rows), vI (g1.Cols), vS (g1.Cells)], .dat (ptrRep GridRep) g1 [vP b2 o3]] ∧ R64 n40) ?_ ?_
          · exact ⟨xs13, 0, A14, c15, rfl, hf.keep ⟨rfl, rfl, rfl, rfl, trivial⟩, hM.pick [0, 1] rfl, (R64_lit rfl)⟩
          · rintro s o48 a w42 ⟨xs37, n40, A38, c39, rfl, hf, hM, hv41⟩ h49 hd50
            replace h49 : m_spec_l25Across_l2 g1 c16 xs37 n40 = some o48 := h49
            unfold m_spec_l25Across_l2 at h49
            refine wp_seq ?_
            refine wp_seq ?_
            refine region_pl ?_
            refine q_ hf rfl rfl rfl (e_move hf rfl) fun a hf => ?_
            refine q_ hf rfl rfl rfl (e_move hf rfl) fun a hf => ?_
            refine q_ hf rfl rfl rfl (e_nil hf rfl) fun a hf => ?_
            refine q_ hf rfl rfl rfl (e_field hf rfl Try.underlying27 rfl Try.sizeOf2 (o' := o3 + 1) rfl) fun a hf => ?_
            refine q_ hf rfl rfl rfl (e_load1 hf rfl Try.isAgg2 (hM.litCell (k := 0) (j := 1) rfl rfl rfl)) fun a hf => ?_
            refine q_ hf rfl rfl rfl (e_lt hf (x := n40) (y := g1.Cols) rfl rfl) fun a hf => ?_
            refine pl_nil ?_
            refine then_n ?_
            rcases cond_some h49 with ⟨hc51, h49⟩ | ⟨hc51, h49⟩
            · refine cond_t hf rfl hc51 ?_
              refine wp_skip ?_
              refine then_n ?_
              refine wp_block ?_
              refine wp_seq ?_
              refine region_pl ?_
              refine q_ hf rfl rfl rfl (e_assign hf rfl) fun a hf => ?_
              refine pl_nil ?_
              refine then_n ?_
              obtain ⟨x54, h55, h49⟩ := bind_some h49
              refine seq_join (fun a w => ∃ (n52 : Int), n52 = x54 ∧ Has 45 a [(0, vP b2 (o3)), (3, vL A38 (xs37) c39), (4, vI (c16)), (5, vI (n40)), (6, vI (n52))] ∧ Mem C w [.row SlotRep A38 c39 75 xs37 true] [.lit b2 (o3) [vI (g1.Rows), vI (g1.Cols), vS (g1.Cells)], .dat (ptrRep GridRep) g1 [vP b2 o3]] ∧ R64 n52) ?_ ?_
              · refine wp_block ?_
                obtain ⟨x61, h62, h55⟩ := bind_some h55
                refine wp_loopM h62 (fun s a w => ∃ (n56 : Int), n56 = s ∧ Has 45 a [(0, vP b2 (o3)), (3, vL A38 (xs37) c39), (4, vI (c16)), (5, vI (n40)), (6, vI (n56))] ∧ Mem C w [.row SlotRep A38 c39 75 xs37 true] [.lit b2 (o3) [vI (g1.Rows), vI (g1.Cols), vS (g1.Cells)], .dat (ptrRep GridRep) g1 [vP b2 o3]] ∧ R64 n56) ?_ ?_
                · exact ⟨0, rfl, hf.keep ⟨rfl, rfl, rfl, rfl, rfl, trivial⟩, hM.pick [0, 1] rfl, (R64_lit rfl)⟩
                · rintro s o63 a w58 ⟨n56, rfl, hf, hM, hv57⟩ h64 hd65
                  replace h64 : m_spec_l25Across_l3 n40 g1 c16 n56 = some o63 := h64
                  unfold m_spec_l25Across_l3 at h64
                  refine wp_seq ?_
                  refine wp_seq ?_
                  refine region_pl ?_
                  refine q_ hf rfl rfl rfl (e_move hf rfl) fun a hf => ?_
                  refine q_ hf rfl rfl rfl (e_move hf rfl) fun a hf => ?_
                  refine q_ hf rfl rfl rfl (e_move hf rfl) fun a hf => ?_
                  refine q_ hf rfl rfl rfl (e_move hf rfl) fun a hf => ?_
                  obtain ⟨z66, hz67, h64⟩ := bind_some h64
                  refine q_ hf rfl rfl rfl (e_add hf rfl rfl hz67) fun a hf => ?_
                  obtain ⟨y68, hz69, h64⟩ := bind_some h64
                  refine pl_l hf rfl rfl rfl (w_call hf Try.call108 rfl (r_spec_l25At ⟨_, Sh C _ _, none_, hM.sh_lt, none_not, C.G, hM.g_lt, g_none, hM.tabs⟩ g1 _ _ (hM.dat (k := 1) rfl) c16 hv17 z66 (chk_R hz67) _ hz69) ?_)
                  rintro _ w70 ⟨rfl, hM2⟩
                  obtain ⟨hM, hx71, hup72⟩ := hM.back hM2
                  dsimp only [List.cons_append, List.nil_append] at hM hup72
                  clear hM2
                  refine ⟨_, rfl, fun a hf => ?_⟩
                  refine q_ hf rfl rfl rfl (e_neB hf (x := y68) (y := 35) rfl rfl) fun a hf => ?_
                  refine pl_nil ?_
                  refine then_n ?_
                  rcases cond_some h64 with ⟨hc73, h64⟩ | ⟨hc73, h64⟩
                  · refine cond_t hf rfl hc73 ?_
                    refine wp_skip ?_
                    refine then_n ?_
                    refine wp_block ?_
                    refine region_pl ?_
                    refine q_ hf rfl rfl rfl (e_move hf rfl) fun a hf => ?_
                    obtain ⟨z74, hz75, h64⟩ := bind_some h64
                    refine q_ hf rfl rfl rfl (e_add hf rfl rfl hz75) fun a hf => ?_
                    refine q_ hf rfl rfl rfl (e_assign hf rfl) fun a hf => ?_
                    refine pl_nil ?_
                    refine blk_n ?_
                    obtain rfl := some_inj h64
                    refine then_n ⟨_, rfl, ?_⟩
                    exact ⟨z74, rfl, hf.keep ⟨rfl, rfl, rfl, rfl, rfl, trivial⟩, hM.pick [0, 1] rfl, (chk_R hz75)⟩
                  · refine cond_f hf rfl hc73 ?_
                    refine wp_exit ?_
                    refine then_x ?_
                    obtain rfl := some_inj h64
                    obtain rfl := hd65 _ rfl
                    try dsimp only at h55
                    refine then_x ?_
                    refine exit_hit ?_
                    obtain rfl := some_inj h55
                    refine then_n ?_
                    exact ⟨n56, rfl, hf.keep ⟨rfl, rfl, rfl, rfl, rfl, trivial⟩, hM.pick [0, 1] rfl, hv57⟩
              · rintro a w81 ⟨n52, rfl, hf, hM, hv53⟩
                try dsimp only at h49
                obtain ⟨x85, h86, h49⟩ := bind_some h49
                refine seq_join (fun a w => ∃ (xs82 : (List Slot)) (A83 : Option Addr) (c84 : Nat), xs82 = x85 ∧ Has 45 a [(0, vP b2 (o3)), (3, vL A83 (xs82) c84), (4, vI (c16)), (5, vI (n40)), (6, vI (n52))] ∧ Mem C w [.row SlotRep A83 c84 75 xs82 true] [.lit b2 (o3) [vI (g1.Rows), vI (g1.Cols), vS (g1.Cells)], .dat (ptrRep GridRep) g1 [vP b2 o3]]) ?_ ?_
                · refine wp_seq ?_
                  refine region_pl ?_
                  refine q_ hf rfl rfl rfl (e_move hf rfl) fun a hf => ?_
                  refine q_ hf rfl rfl rfl (e_ge hf (x := n52) (y := 2) rfl rfl) fun a hf => ?_
                  refine pl_nil ?_
                  refine then_n ?_
                  rcases cond_some h86 with ⟨hc87, h86⟩ | ⟨hc87, h86⟩
                  · refine cond_t hf rfl hc87 ?_
                    refine region_pl ?_
                    refine q_ hf rfl rfl rfl (e_move hf rfl) fun a hf => ?_
                    refine q_ hf rfl rfl rfl (e_move hf rfl) fun a hf => ?_
                    refine q_ hf rfl rfl rfl (e_move hf rfl) fun a hf => ?_
                    refine q_ hf rfl rfl rfl (e_move hf rfl) fun a hf => ?_
                    refine q_ hf rfl rfl rfl (e_build hf Try.zeroValue75 Try.underlying75 (bp_75 _ Try.underlying75.symm) rfl (cs := #[vI (c16), vI (n40), .bool (false), vI (n52)]) (by kernel_rfl)) fun a hf => ?_
                    refine pl_l hf rfl rfl rfl (w_slice hf hM (K := SlotRep) (xs := ([(⟨c16, n40, false, n52⟩ : Slot)] : (List Slot))) (os := [.tmp 37]) Try.underlying30 ei_75 rfl rfl rfl rfl rfl ⟨⟨[vI (c16), vI (n40), .bool (false), vI (n52)], rfl, (SlotRep_mk (x := (⟨c16, n40, false, n52⟩ : Slot)) hv17 hv41 hv53)⟩, trivial⟩ rfl fun b88 w89 hx90 hM a hf => ?_)
                    obtain ⟨xs91, hz92, h86⟩ := bind_some h86
                    refine pl_l hf rfl rfl rfl (w_append hf hM Try.underlying30 ei_75 rfl rfl rfl (k := 1) rfl (hM.srcRow (k := 0) rfl) hz92 fun A93 c94 w95 hM a hf => ?_)
                    dsimp only [List.set] at hM
                    refine q_ hf rfl rfl rfl (e_assign hf rfl) fun a hf => ?_
                    refine pl_nil ?_
                    obtain rfl := some_inj h86
                    refine then_n ?_
                    exact ⟨xs91, A93, c94, rfl, hf.keep ⟨rfl, rfl, rfl, rfl, rfl, trivial⟩, (hM.drop (.cons _ (.cons_cons _ .slnil))).pick [0, 1] rfl⟩
                  · refine cond_f hf rfl hc87 ?_
                    refine wp_skip ?_
                    obtain rfl := some_inj h86
                    refine then_n ?_
                    exact ⟨xs37, A38, c39, rfl, hf.keep ⟨rfl, rfl, rfl, rfl, rfl, trivial⟩, hM.pick [0, 1] rfl⟩
                · rintro a w100 ⟨xs82, A83, c84, rfl, hf, hM⟩
                  try dsimp only at h49
                  refine region_pl ?_
                  refine q_ hf rfl rfl rfl (e_move hf rfl) fun a hf => ?_
                  refine q_ hf rfl rfl rfl (e_move hf rfl) fun a hf => ?_
                  obtain ⟨z101, hz102, h49⟩ := bind_some h49
                  refine q_ hf rfl rfl rfl (e_add hf rfl rfl hz102) fun a hf => ?_
                  obtain ⟨z103, hz104, h49⟩ := bind_some h49
                  refine q_ hf rfl rfl rfl (e_add hf rfl rfl hz104) fun a hf => ?_
                  refine q_ hf rfl rfl rfl (e_assign hf rfl) fun a hf => ?_
                  refine pl_nil ?_
                  refine blk_n ?_
                  obtain rfl := some_inj h49
                  refine then_n ⟨_, rfl, ?_⟩
                  exact ⟨xs82, z103, A83, c84, rfl, hf.keep ⟨rfl, rfl, rfl, rfl, trivial⟩, hM.pick [0, 1] rfl, (chk_R hz104)⟩
            · refine cond_f hf rfl hc51 ?_
              refine wp_exit ?_
              refine then_x ?_
              obtain rfl := some_inj h49
              obtain rfl := hd50 _ rfl
              try dsimp only at h36
              refine then_x ?_
              refine exit_hit ?_
              refine blk_n ?_
              obtain rfl := some_inj h36
              refine then_n ?_
              exact ⟨xs37, A38, c39, rfl, hf.keep ⟨rfl, rfl, rfl, trivial⟩, hM.pick [0, 1] rfl⟩
        · rintro a w110 ⟨xs32, A33, c34, rfl, hf, hM⟩
          try dsimp only at h25
          refine region_pl ?_
          refine q_ hf rfl rfl rfl (e_move hf rfl) fun a hf => ?_
          obtain ⟨z111, hz112, h25⟩ := bind_some h25
          refine q_ hf rfl rfl rfl (e_add hf rfl rfl hz112) fun a hf => ?_
          refine q_ hf rfl rfl rfl (e_assign hf rfl) fun a hf => ?_
          refine pl_nil ?_
          obtain rfl := some_inj h25
          refine then_n ⟨_, rfl, ?_⟩
          exact ⟨xs32, z111, A33, c34, rfl, hf.keep ⟨rfl, rfl, rfl, trivial⟩, hM.pick [1] rfl, (chk_R hz112)⟩
      · refine cond_f hf rfl hc31 ?_
        refine wp_exit ?_
        refine then_x ?_
        obtain rfl := some_inj h25
        obtain rfl := hd26 _ rfl
        try dsimp only at h12
        refine then_x ?_
        refine exit_hit ?_
        obtain rfl := some_inj h12
        refine then_n ?_
        exact ⟨xs13, A14, c15, rfl, hf.keep ⟨rfl, trivial⟩, hM.pick [1] rfl⟩
  · rintro a w118 ⟨xs8, A9, c10, rfl, hf, hM⟩
    try dsimp only at h
    refine wp_seq ?_
    refine region_pl ?_
    refine q_ hf rfl rfl rfl (e_move hf rfl) fun a hf => ?_
    refine q_ hf rfl rfl rfl (e_assign hf rfl) fun a hf => ?_
    refine pl_nil ?_
    refine then_n ?_
    refine wp_ret ?_
    obtain rfl := some_inj h
    exact leave1 hf rfl rfl ⟨A9, c10, rfl, hM.fin⟩

set_option maxRecDepth 100000 in
set_option maxHeartbeats 4000000 in
theorem r_spec_l25Turn (C : Cx) (g1 : Grid) (b2 : Nat) (o3 : Nat) (hp4 : (ptrRep GridRep).R C.w0 C.S0 g1 [vP b2 o3]) (r : Grid) (h : m_spec_l25Turn g1 = some r) :
    Calls Try.prog 84 #[vP b2 (o3)] C.w0 fun e w => e = .returned (.agg #[vI (r.Rows), vI (r.Cols), vS (r.Cells)]) ∧ Mem C w [] [] ∧ R64 r.Rows ∧ R64 r.Cols ∧ r.Cells.length ≤ maxLen := by
  have hM := Mem.begin C [.dat (ptrRep GridRep) g1 [vP b2 o3]] ⟨hp4, trivial⟩
  refine enter Try.func84 rfl Try.ntmps84 rfl fun a hf => ?_
  unfold m_spec_l25Turn at h
  refine wp_seq ?_
  refine region_pl ?_
  refine pl_l hf rfl rfl rfl (w_alloc hM (cs := [vI (0), vI (0), vS (([] : Str))]) Try.zeroValue27 rfl fun b5 w6 hx7 hM a hf => ?_)
  refine pl_nil ?_
  refine then_n ?_
  refine wp_seq ?_
  refine region_pl ?_
  refine pl_l hf rfl rfl rfl (w_slice0 (K := byteRep) hM Try.underlying63 ei_5 fun b9 w10 hx11 hM a hf => ?_)
  refine q_ hf rfl rfl rfl (e_assign hf rfl) fun a hf => ?_
  refine pl_nil ?_
  refine then_n ?_
  obtain ⟨x15, h16, h⟩ := bind_some h
  refine seq_join (fun a w => ∃ (xs12 : Str) (A13 : Option Addr) (c14 : Nat), xs12 = x15 ∧ Has 41 a [(0, vP b2 (o3)), (2, vP b5 (0)), (3, vL A13 (xs12) c14)] ∧ Mem C w [.row byteRep A13 c14 5 xs12 true, .box b5 [vI (0), vI (0), vS (([] : Str))] 27] [.dat (ptrRep GridRep) g1 [vP b2 o3]]) ?_ ?_
  · refine wp_seq ?_
    refine region_pl ?_
    refine q_ hf rfl rfl rfl (e_assign hf rfl) fun a hf => ?_
    refine pl_nil ?_
    refine then_n ?_
    refine wp_block ?_
    obtain ⟨x26, h27, h16⟩ := bind_some h16
    refine wp_loopM h27 (fun s a w => ∃ (xs17 : Str) (r20 : Int) (A18 : Option Addr) (c19 : Nat), (xs17, r20) = s ∧ Has 41 a [(0, vP b2 (o3)), (2, vP b5 (0)), (3, vL A18 (xs17) c19), (4, vI (r20))] ∧ Mem C w [.row byteRep A18 c19 5 xs17 true, .box b5 [vI (0), vI (0), vS (([] : Str))] 27] [.dat (ptrRep GridRep) g1 [vP b2 o3]] ∧ R64 r20) ?_ ?_
    · exact ⟨([] : Str), 0, (some ⟨b9, 0, none⟩), 0, rfl, hf.keep ⟨rfl, rfl, rfl, rfl, trivial⟩, hM.pick [0] rfl, (R64_lit rfl)⟩
    · rintro s o28 a w22 ⟨xs17, r20, A18, c19, rfl, hf, hM, hv21⟩ h29 hd30
      replace h29 : m_spec_l25Turn_l1 g1 xs17 r20 = some o28 := h29
      unfold m_spec_l25Turn_l1 at h29
      refine wp_seq ?_
      refine wp_seq ?_
      refine region_pl ?_
      refine q_ hf rfl rfl rfl (e_move hf rfl) fun a hf => ?_
      refine q_ hf rfl rfl rfl (e_move hf rfl) fun a hf => ?_
      refine q_ hf rfl rfl rfl (e_nil hf rfl) fun a hf => ?_
      obtain ⟨_, hr31, hM⟩ := hM.deref (hM.dat (k := 0) rfl)
      obtain ⟨rfl, hv32, hv33, hv34⟩ := GridRep_open hr31
      refine q_ hf rfl rfl rfl (e_field hf rfl Try.underlying27 rfl Try.sizeOf2 (o' := o3 + 1) rfl) fun a hf => ?_
      refine q_ hf rfl rfl rfl (e_load1 hf rfl Try.isAgg2 (hM.litCell (k := 0) (j := 1) rfl rfl rfl)) fun a hf => ?_
      refine q_ hf rfl rfl rfl (e_lt hf (x := r20) (y := g1.Cols) rfl rfl) fun a hf => ?_
      refine pl_nil ?_
      refine then_n ?_
      rcases cond_some h29 with ⟨hc35, h29⟩ | ⟨hc35, h29⟩
      · refine cond_t hf rfl hc35 ?_
        refine wp_skip ?_
        refine then_n ?_
        obtain ⟨x39, h40, h29⟩ := bind_some h29
        refine seq_join (fun a w => ∃ (xs36 : Str) (A37 : Option Addr) (c38 : Nat), xs36 = x39 ∧ Has 41 a [(0, vP b2 (o3)), (2, vP b5 (0)), (3, vL A37 (xs36) c38), (4, vI (r20))] ∧ Mem C w [.row byteRep A37 c38 5 xs36 true, .box b5 [vI (0), vI (0), vS (([] : Str))] 27] [.lit b2 (o3) [vI (g1.Rows), vI (g1.Cols), vS (g1.Cells)], .dat (ptrRep GridRep) g1 [vP b2 o3]]) ?_ ?_
        · refine wp_block ?_
          refine wp_seq ?_
          refine region_pl ?_
          refine q_ hf rfl rfl rfl (e_assign hf rfl) fun a hf => ?_
          refine pl_nil ?_
          refine then_n ?_
          refine wp_block ?_
          obtain ⟨x50, h51, h40⟩ := bind_some h40
          refine wp_loopM h51 (fun s a w => ∃ (xs41 : Str) (n44 : Int) (A42 : Option Addr) (c43 : Nat), (xs41, n44) = s ∧ Has 41 a [(0, vP b2 (o3)), (2, vP b5 (0)), (3, vL A42 (xs41) c43), (4, vI (r20)), (5, vI (n44))] ∧ Mem C w [.row byteRep A42 c43 5 xs41 true, .box b5 [vI (0), vI (0), vS (([] : Str))] 27] [.lit b2 (o3) [vI (g1.Rows), vI (g1.Cols), vS (g1.Cells)], .dat (ptrRep GridRep) g1 [vP b2 o3]] ∧ R64 n44) ?_ ?_
          · exact ⟨xs17, 0, A18, c19, rfl, hf.keep ⟨rfl, rfl, rfl, rfl, rfl, trivial⟩, hM.pick [0, 1] rfl, (R64_lit rfl)⟩
          · rintro s o52 a w46 ⟨xs41, n44, A42, c43, rfl, hf, hM, hv45⟩ h53 hd54
            replace h53 : m_spec_l25Turn_l2 g1 r20 xs41 n44 = some o52 := h53
            unfold m_spec_l25Turn_l2 at h53
            refine wp_seq ?_
            refine wp_seq ?_
            refine region_pl ?_
            refine q_ hf rfl rfl rfl (e_move hf rfl) fun a hf => ?_
            refine q_ hf rfl rfl rfl (e_move hf rfl) fun a hf => ?_
            refine q_ hf rfl rfl rfl (e_nil hf rfl) fun a hf => ?_
            refine q_ hf rfl rfl rfl (e_field hf rfl Try.underlying27 rfl Try.sizeOf2 (o' := o3 + 0) rfl) fun a hf => ?_
            refine q_ hf rfl rfl rfl (e_load1 hf rfl Try.isAgg2 (hM.litCell (k := 0) (j := 0) rfl rfl rfl)) fun a hf => ?_
            refine q_ hf rfl rfl rfl (e_lt hf (x := n44) (y := g1.Rows) rfl rfl) fun a hf => ?_
            refine pl_nil ?_
            refine then_n ?_
            rcases cond_some h53 with ⟨hc55, h53⟩ | ⟨hc55, h53⟩
            · refine cond_t hf rfl hc55 ?_
              refine wp_skip ?_
              refine then_n ?_
              refine wp_seq ?_
              refine wp_block ?_
              refine region_pl ?_
              refine q_ hf rfl rfl rfl (e_move hf rfl) fun a hf => ?_
              refine q_ hf rfl rfl rfl (e_move hf rfl) fun a hf => ?_
              refine q_ hf rfl rfl rfl (e_move hf rfl) fun a hf => ?_
              refine q_ hf rfl rfl rfl (e_move hf rfl) fun a hf => ?_
              obtain ⟨y56, hz57, h53⟩ := bind_some h53
              refine pl_l hf rfl rfl rfl (w_call hf Try.call108 rfl (r_spec_l25At ⟨_, Sh C _ _, none_, hM.sh_lt, none_not, C.G, hM.g_lt, g_none, hM.tabs⟩ g1 _ _ (hM.dat (k := 1) rfl) n44 hv45 r20 hv21 _ hz57) ?_)
              rintro _ w58 ⟨rfl, hM2⟩
              obtain ⟨hM, hx59, hup60⟩ := hM.back hM2
              dsimp only [List.cons_append, List.nil_append] at hM hup60
              clear hM2
              refine ⟨_, rfl, fun a hf => ?_⟩
              refine pl_l hf rfl rfl rfl (w_slice hf hM (K := byteRep) (xs := ([y56] : Str)) (os := [.tmp 27]) Try.underlying63 ei_5 rfl rfl rfl rfl rfl ⟨⟨[vB (y56)], rfl, rfl⟩, trivial⟩ rfl fun b61 w62 hx63 hM a hf => ?_)
              obtain ⟨xs64, hz65, h53⟩ := bind_some h53
              refine pl_l hf rfl rfl rfl (w_append hf hM Try.underlying63 ei_5 rfl rfl rfl (k := 1) rfl (hM.srcRow (k := 0) rfl) hz65 fun A66 c67 w68 hM a hf => ?_)
              dsimp only [List.set] at hM
              refine q_ hf rfl rfl rfl (e_assign hf rfl) fun a hf => ?_
              refine pl_nil ?_
              refine blk_n ?_
              refine then_n ?_
              refine region_pl ?_
              refine q_ hf rfl rfl rfl (e_move hf rfl) fun a hf => ?_
              obtain ⟨z71, hz72, h53⟩ := bind_some h53
              refine q_ hf rfl rfl rfl (e_add hf rfl rfl hz72) fun a hf => ?_
              refine q_ hf rfl rfl rfl (e_assign hf rfl) fun a hf => ?_
              refine pl_nil ?_
              obtain rfl := some_inj h53
              refine then_n ⟨_, rfl, ?_⟩
              exact ⟨xs64, z71, A66, c67, rfl, hf.keep ⟨rfl, rfl, rfl, rfl, rfl, trivial⟩, (hM.drop (.cons _ (.cons_cons _ (.cons_cons _ .slnil)))).pick [0, 1] rfl, (chk_R hz72)⟩
            · refine cond_f hf rfl hc55 ?_
              refine wp_exit ?_
              refine then_x ?_
              obtain rfl := some_inj h53
              obtain rfl := hd54 _ rfl
              try dsimp only at h40
              refine then_x ?_
              refine exit_hit ?_
              refine blk_n ?_
              obtain rfl := some_inj h40
              refine then_n ?_
              exact ⟨xs41, A42, c43, rfl, hf.keep ⟨rfl, rfl, rfl, rfl, trivial⟩, hM.pick [0, 1] rfl⟩
        · rintro a w78 ⟨xs36, A37, c38, rfl, hf, hM⟩
          try dsimp only at h29
          refine region_pl ?_
          refine q_ hf rfl rfl rfl (e_move hf rfl) fun a hf => ?_
          obtain ⟨z79, hz80, h29⟩ := bind_some h29
          refine q_ hf rfl rfl rfl (e_add hf rfl rfl hz80) fun a hf => ?_
          refine q_ hf rfl rfl rfl (e_assign hf rfl) fun a hf => ?_
          refine pl_nil ?_
          obtain rfl := some_inj h29
          refine then_n ⟨_, rfl, ?_⟩
          exact ⟨xs36, z79, A37, c38, rfl, hf.keep ⟨rfl, rfl, rfl, rfl, trivial⟩, hM.pick [1] rfl, (chk_R hz80)⟩
      · refine cond_f hf rfl hc35 ?_
        refine wp_exit ?_
        refine then_x ?_
        obtain rfl := some_inj h29
        obtain rfl := hd30 _ rfl
        try dsimp only at h16
        refine then_x ?_
        refine exit_hit ?_
        obtain rfl := some_inj h16
        refine then_n ?_
        exact ⟨xs17, A18, c19, rfl, hf.keep ⟨rfl, rfl, rfl, trivial⟩, hM.pick [1] rfl⟩
  · rintro a w86 ⟨xs12, A13, c14, rfl, hf, hM⟩
    try dsimp only at h
    refine wp_seq ?_
    obtain ⟨w87, hw⟩ : ∃ x, x = w86.drew := ⟨_, rfl⟩
    refine region_pi (.q 0 (.q 1 (.q 2 (.q 3 (.q 4 (.q 5 (.q 6 (.q 7 (.q 8 (.q 9 (.q 10 (.l 11 (.nil))))))))))))) (Ext w87) rfl (by kernel_rfl) ?_
    have hM := hM.drew
    rw [← hw] at hM ⊢
    clear hw
    refine pi_q hf rfl rfl rfl rfl (Ext.refl _) (e_move hf rfl) fun a hf => ?_
    refine pi_q hf rfl rfl rfl rfl (Ext.refl _) (e_nil hf rfl) fun a hf => ?_
    obtain ⟨_, hr88, hM⟩ := hM.deref (hM.dat (k := 0) rfl)
    obtain ⟨rfl, hv89, hv90, hv91⟩ := GridRep_open hr88
    refine pi_q hf rfl rfl rfl rfl (Ext.refl _) (e_field hf rfl Try.underlying27 rfl Try.sizeOf2 (o' := o3 + 1) rfl) fun a hf => ?_
    refine pi_q hf rfl rfl rfl rfl (Ext.refl _) (e_load1 hf rfl Try.isAgg2 (hM.litCell (k := 0) (j := 1) rfl rfl rfl)) fun a hf => ?_
    refine pi_q hf rfl rfl rfl rfl (Ext.refl _) (e_move hf rfl) fun a hf => ?_
    refine pi_q hf rfl rfl rfl rfl (Ext.refl _) (e_nil hf rfl) fun a hf => ?_
    refine pi_q hf rfl rfl rfl rfl (Ext.refl _) (e_field hf rfl Try.underlying27 rfl Try.sizeOf2 (o' := o3 + 0) rfl) fun a hf => ?_
    refine pi_q hf rfl rfl rfl rfl (Ext.refl _) (e_load1 hf rfl Try.isAgg2 (hM.litCell (k := 0) (j := 0) rfl rfl rfl)) fun a hf => ?_
    refine pi_q hf rfl rfl rfl rfl (Ext.refl _) (e_move hf rfl) fun a hf => ?_
    have hl92 := row_len (hM.ownAt (k := 0) rfl)
    refine pi_q hf rfl rfl rfl rfl (Ext.refl _) (e_bytesStr hf (xs := xs12) rfl Try.underlying63 Try.underlying5 Try.underlying9 (hM.lendRow (k := 0) rfl)) fun a hf => ?_
    refine pi_q hf rfl rfl rfl rfl (Ext.refl _) (e_build hf Try.zeroValue27 Try.underlying27 (bp_27 _ Try.underlying27.symm) rfl (cs := #[vI (g1.Cols), vI (g1.Rows), vS (xs12)]) (by kernel_rfl)) fun a hf => ?_
    refine pi_one ?_
    refine pi_z0 hf rfl rfl rfl (by kernel_rfl) (w_store hf hM (us := [vI (g1.Cols), vI (g1.Rows), vS (xs12)]) (cs' := [vI (g1.Cols), vI (g1.Rows), vS (xs12)]) rfl rfl (k := 1) rfl rfl Try.sizeOf27 rfl rfl rfl fun w93 hM => ?_)
    dsimp only [List.set] at hM
    refine pi_nil ?_
    refine then_n ?_
    refine wp_ret ?_
    obtain rfl := some_inj h
    have hres96 := leaveV1 (P := Try.prog) Try.results84 (res_agg hf rfl ⟨Try.isAgg27, Try.sizeOf27⟩ (us := [vI (g1.Cols), vI (g1.Rows), vS (xs12)]) rfl (hM.boxSub (k := 1) (o := 0) rfl rfl))
    have hM := hM.outs (own' := []) 0 rfl
    exact bodyPost_ret hres96 hf.defers ⟨rfl, hM.fin, hv90, hv89, hl92⟩

set_option maxRecDepth 100000 in
set_option maxHeartbeats 4000000 in
theorem r_spec_l25Slots (C : Cx) (g1 : Grid) (b2 : Nat) (o3 : Nat) (hp4 : (ptrRep GridRep).R C.w0 C.S0 g1 [vP b2 o3]) (r : (List Slot)) (h : m_spec_l25Slots g1 = some r) :
    Calls Try.prog 50 #[vP b2 (o3)] C.w0 fun e w => ∃ (A_1 : Option Addr), ∃ (c_1 : Nat), e = .returned (vL A_1 (r) c_1) ∧ Mem C w [.row SlotRep A_1 c_1 75 r true] [] := by
  have hM := Mem.begin C [.dat (ptrRep GridRep) g1 [vP b2 o3]] ⟨hp4, trivial⟩
  refine enter Try.func50 rfl Try.ntmps50 rfl fun a hf => ?_
  unfold m_spec_l25Slots at h
  refine wp_seq ?_
  refine region_pl ?_
  refine q_ hf rfl rfl rfl (e_assign hf rfl) fun a hf => ?_
  refine pl_nil ?_
  refine then_n ?_
  refine wp_seq ?_
  refine region_pl ?_
  refine q_ hf rfl rfl rfl (e_move hf rfl) fun a hf => ?_
  obtain ⟨y5, hz6, h⟩ := bind_some h
  refine pl_l hf rfl rfl rfl (w_call hf Try.call83 rfl (r_spec_l25Across ⟨_, Sh C _ _, none_, hM.sh_lt, none_not, C.G, hM.g_lt, g_none, hM.tabs⟩ g1 _ _ (hM.dat (k := 0) rfl) _ hz6) ?_)
  rintro _ w9 ⟨A7, c8, rfl, hM2⟩
  obtain ⟨hM, hx10, hup11⟩ := hM.back hM2
  dsimp only [List.cons_append, List.nil_append] at hM hup11
  clear hM2
  refine ⟨_, rfl, fun a hf => ?_⟩
  refine q_ hf rfl rfl rfl (e_assign hf rfl) fun a hf => ?_
  refine pl_nil ?_
  refine then_n ?_
  refine wp_seq ?_
  refine region_pl ?_
  refine q_ hf rfl rfl rfl (e_move hf rfl) fun a hf => ?_
  obtain ⟨y12, hz13, h⟩ := bind_some h
  refine pl_l hf rfl rfl rfl (w_call hf Try.call84 rfl (r_spec_l25Turn ⟨_, Sh C _ _, none_, hM.sh_lt, none_not, C.G, hM.g_lt, g_none, hM.tabs⟩ g1 _ _ (hM.dat (k := 0) rfl) _ hz13) ?_)
  rintro _ w17 ⟨rfl, hM2, hv14, hv15, hv16⟩
  obtain ⟨hM, hx18, hup19⟩ := hM.back hM2
  dsimp only [List.cons_append, List.nil_append] at hM hup19
  clear hM2
  refine ⟨_, rfl, fun a hf => ?_⟩
  refine pl_l hf rfl rfl rfl (w_alloc hM (cs := [vI (0), vI (0), vS (([] : Str))]) Try.zeroValue27 rfl fun b20 w21 hx22 hM a hf => ?_)
  refine pl_0 hf rfl rfl (w_store hf hM (us := [vI (y12.Rows), vI (y12.Cols), vS (y12.Cells)]) (cs' := [vI (y12.Rows), vI (y12.Cols), vS (y12.Cells)]) rfl rfl (k := 0) rfl rfl Try.sizeOf27 rfl rfl rfl fun w24 hM => ?_)
  dsimp only [List.set] at hM
  refine pl_nil ?_
  refine then_n ?_
  refine wp_seq ?_
  refine region_pl ?_
  obtain ⟨y27, hz28, h⟩ := bind_some h
  refine pl_l hf rfl rfl rfl (w_call hf Try.call83 rfl (r_spec_l25Across ⟨_, All C _ _, none_, hM.all_lt, none_not, C.G, hM.g_lt, g_none, hM.tabs⟩ y12 _ _ (hM.lendBox (k := 0) rfl (GridRep_mk (x := y12) hv14 hv15 hv16)) _ hz28) ?_)
  rintro _ w31 ⟨A29, c30, rfl, hM2⟩
  obtain ⟨hM, hx32⟩ := hM.backAF SlotRep_flat hM2
  clear hM2
  refine ⟨_, rfl, fun a hf => ?_⟩
  refine q_ hf rfl rfl rfl (e_assign hf rfl) fun a hf => ?_
  refine pl_nil ?_
  refine then_n ?_
  obtain ⟨x37, h38, h⟩ := bind_some h
  refine seq_join (fun a w => ∃ (xs34 : (List Slot)) (A35 : Option Addr) (c36 : Nat), xs34 = x37 ∧ Has 38 a [(3, vL A35 (xs34) c36)] ∧ Mem C w [.row SlotRep A29 c30 75 y27 true, .box b20 [vI (y12.Rows), vI (y12.Cols), vS (y12.Cells)] 27, .row SlotRep A35 c36 75 xs34 true] [.dat (ptrRep GridRep) g1 [vP b2 o3]]) ?_ ?_
  · refine wp_seq ?_
    refine region_pl ?_
    refine q_ hf rfl rfl rfl (e_assign hf rfl) fun a hf => ?_
    refine pl_nil ?_
    refine then_n ?_
    refine wp_block ?_
    obtain ⟨x48, h49, h38⟩ := bind_some h38
    refine wp_loopM h49 (fun s a w => ∃ (xs39 : (List Slot)) (n42 : Int) (A40 : Option Addr) (c41 : Nat), (xs39, n42) = s ∧ Has 38 a [(3, vL A40 (xs39) c41), (5, vL A29 (y27) c30), (6, vI (n42))] ∧ Mem C w [.row SlotRep A29 c30 75 y27 true, .box b20 [vI (y12.Rows), vI (y12.Cols), vS (y12.Cells)] 27, .row SlotRep A40 c41 75 xs39 true] [.dat (ptrRep GridRep) g1 [vP b2 o3]] ∧ R64 n42) ?_ ?_
    · exact ⟨y5, 0, A7, c8, rfl, hf.keep ⟨rfl, rfl, rfl, trivial⟩, hM.pick [0] rfl, (R64_lit rfl)⟩
    · rintro s o50 a w44 ⟨xs39, n42, A40, c41, rfl, hf, hM, hv43⟩ h51 hd52
      replace h51 : m_spec_l25Slots_l1 y27 xs39 n42 = some o50 := h51
      unfold m_spec_l25Slots_l1 at h51
      refine wp_seq ?_
      refine wp_seq ?_
      refine region_pl ?_
      refine q_ hf rfl rfl rfl (e_move hf rfl) fun a hf => ?_
      refine q_ hf rfl rfl rfl (e_move hf rfl) fun a hf => ?_
      have hl53 := row_len (hM.ownAt (k := 0) rfl)
      refine q_ hf rfl rfl rfl (e_lenL hf (x := y27) rfl Try.underlying30) fun a hf => ?_
      refine q_ hf rfl rfl rfl (e_lt hf (x := n42) (y := (y27.length : Int)) rfl rfl) fun a hf => ?_
      refine pl_nil ?_
      refine then_n ?_
      rcases cond_some h51 with ⟨hc54, h51⟩ | ⟨hc54, h51⟩
      · refine cond_t hf rfl hc54 ?_
        refine wp_skip ?_
        refine then_n ?_
        refine wp_seq ?_
        refine wp_block ?_
        obtain ⟨w55, hw⟩ : ∃ x, x = w44.drew := ⟨_, rfl⟩
        refine region_pi (.q 0 (.q 1 (.q 2 (.q 3 (.q 4 (.q 5 (.q 6 (.q 7 (.q 8 (.q 9 (.q 10 (.q 11 (.q 12 (.q 13 (.q 14 (.q 15 (.q 16 (.l 17 (.l 18 (.q 19 (.nil))))))))))))))))))))) (Ext w55) rfl (by kernel_rfl) ?_
        have hM := hM.drew
        rw [← hw] at hM ⊢
        clear hw
        refine pi_q hf rfl rfl rfl rfl (Ext.refl _) (e_move hf rfl) fun a hf => ?_
        refine pi_q hf rfl rfl rfl rfl (Ext.refl _) (e_move hf rfl) fun a hf => ?_
        refine pi_q hf rfl rfl rfl rfl (Ext.refl _) (e_move hf rfl) fun a hf => ?_
        obtain ⟨e56, hz57, h51⟩ := bind_some h51
        obtain ⟨b62, _, hA63, h58, h59, hr60, hcell61⟩ := hM.rowElemN (k := 0) rfl (n := 4) rfl hz57
        obtain ⟨rfl, hv64, hv65, hv66⟩ := SlotRep_open hr60
        refine pi_q hf rfl rfl rfl rfl (Ext.refl _) (e_indexAddr (A := A29) (b := b62) (o := 0) (xs := y27) (i := n42) hf hA63 rfl rfl Try.underlying30 Try.sizeOf75 h58 h59) fun a hf => ?_
        refine pi_q hf rfl rfl rfl rfl (Ext.refl _) (e_field hf rfl Try.underlying75 rfl Try.sizeOf2 (o' := (0 + (n42 : Int).toNat * 4) + 1) rfl) fun a hf => ?_
        refine pi_q hf rfl rfl rfl rfl (Ext.refl _) (e_load1 hf rfl Try.isAgg2 (hcell61 1 _ rfl)) fun a hf => ?_
        refine pi_q hf rfl rfl rfl rfl (Ext.refl _) (e_move hf rfl) fun a hf => ?_
        refine pi_q hf rfl rfl rfl rfl (Ext.refl _) (e_move hf rfl) fun a hf => ?_
        obtain ⟨e67, hz68, h51⟩ := bind_some h51
        obtain ⟨b73, _, hA74, h69, h70, hr71, hcell72⟩ := hM.rowElemN (k := 0) rfl (n := 4) rfl hz68
        obtain ⟨rfl, hv75, hv76, hv77⟩ := SlotRep_open hr71
        refine pi_q hf rfl rfl rfl rfl (Ext.refl _) (e_indexAddr (A := A29) (b := b73) (o := 0) (xs := y27) (i := n42) hf hA74 rfl rfl Try.underlying30 Try.sizeOf75 h69 h70) fun a hf => ?_
        refine pi_q hf rfl rfl rfl rfl (Ext.refl _) (e_field hf rfl Try.underlying75 rfl Try.sizeOf2 (o' := (0 + (n42 : Int).toNat * 4) + 0) rfl) fun a hf => ?_
        refine pi_q hf rfl rfl rfl rfl (Ext.refl _) (e_load1 hf rfl Try.isAgg2 (hcell72 0 _ rfl)) fun a hf => ?_
        refine pi_q hf rfl rfl rfl rfl (Ext.refl _) (e_move hf rfl) fun a hf => ?_
        refine pi_q hf rfl rfl rfl rfl (Ext.refl _) (e_move hf rfl) fun a hf => ?_
        obtain ⟨e78, hz79, h51⟩ := bind_some h51
        obtain ⟨b84, _, hA85, h80, h81, hr82, hcell83⟩ := hM.rowElemN (k := 0) rfl (n := 4) rfl hz79
        obtain ⟨rfl, hv86, hv87, hv88⟩ := SlotRep_open hr82
        refine pi_q hf rfl rfl rfl rfl (Ext.refl _) (e_indexAddr (A := A29) (b := b84) (o := 0) (xs := y27) (i := n42) hf hA85 rfl rfl Try.underlying30 Try.sizeOf75 h80 h81) fun a hf => ?_
        refine pi_q hf rfl rfl rfl rfl (Ext.refl _) (e_field hf rfl Try.underlying75 rfl Try.sizeOf2 (o' := (0 + (n42 : Int).toNat * 4) + 3) rfl) fun a hf => ?_
        refine pi_q hf rfl rfl rfl rfl (Ext.refl _) (e_load1 hf rfl Try.isAgg2 (hcell83 3 _ rfl)) fun a hf => ?_
        refine pi_q hf rfl rfl rfl rfl (Ext.refl _) (e_build hf Try.zeroValue75 Try.underlying75 (bp_75 _ Try.underlying75.symm) rfl (cs := #[vI (e56.Col), vI (e67.Row), .bool (true), vI (e78.Length)]) (by kernel_rfl)) fun a hf => ?_
        refine pi_one ?_
        refine pi_l hf rfl rfl rfl rfl (w_slice hf hM (K := SlotRep) (xs := ([(⟨e56.Col, e67.Row, true, e78.Length⟩ : Slot)] : (List Slot))) (os := [.tmp 34]) Try.underlying30 ei_75 rfl rfl rfl rfl rfl ⟨⟨[vI (e56.Col), vI (e67.Row), .bool (true), vI (e78.Length)], rfl, (SlotRep_mk (x := (⟨e56.Col, e67.Row, true, e78.Length⟩ : Slot)) hv65 hv75 hv88)⟩, trivial⟩ rfl fun b89 w90 hx91 hM => ⟨Ext w90, fun _ h => Ext.trans hx91 h, Ext.refl _, fun a hf => ?_⟩)
        refine pi_one ?_
        obtain ⟨xs92, hz93, h51⟩ := bind_some h51
        refine pi_z hf rfl rfl rfl rfl (by kernel_rfl) (w_append hf hM Try.underlying30 ei_75 rfl rfl rfl (k := 3) rfl (hM.srcRow (k := 0) rfl) hz93 fun A94 c95 w96 hM a hf => ?_)
        dsimp only [List.set] at hM
        refine pi_q hf rfl rfl rfl rfl (Ext.refl _) (e_assign hf rfl) fun a hf => ?_
        refine pi_nil ?_
        refine blk_n ?_
        refine then_n ?_
        refine region_pl ?_
        refine q_ hf rfl rfl rfl (e_move hf rfl) fun a hf => ?_
        obtain ⟨z99, hz100, h51⟩ := bind_some h51
        refine q_ hf rfl rfl rfl (e_add hf rfl rfl hz100) fun a hf => ?_
        refine q_ hf rfl rfl rfl (e_assign hf rfl) fun a hf => ?_
        refine pl_nil ?_
        obtain rfl := some_inj h51
        refine then_n ⟨_, rfl, ?_⟩
        exact ⟨xs92, z99, A94, c95, rfl, hf.keep ⟨rfl, rfl, rfl, trivial⟩, (hM.drop (.cons _ (.cons_cons _ (.cons_cons _ (.cons_cons _ .slnil))))).pick [0] rfl, (chk_R hz100)⟩
      · refine cond_f hf rfl hc54 ?_
        refine wp_exit ?_
        refine then_x ?_
        obtain rfl := some_inj h51
        obtain rfl := hd52 _ rfl
        try dsimp only at h38
        refine then_x ?_
        refine exit_hit ?_
        obtain rfl := some_inj h38
        refine then_n ?_
        exact ⟨xs39, A40, c41, rfl, hf.keep ⟨rfl, trivial⟩, hM.pick [0] rfl⟩
  · rintro a w106 ⟨xs34, A35, c36, rfl, hf, hM⟩
    try dsimp only at h
    refine wp_seq ?_
    refine region_pl ?_
    refine q_ hf rfl rfl rfl (e_move hf rfl) fun a hf => ?_
    refine q_ hf rfl rfl rfl (e_assign hf rfl) fun a hf => ?_
    refine pl_nil ?_
    refine then_n ?_
    refine wp_ret ?_
    obtain rfl := some_inj h
    have hM := hM.front (k := 2) rfl
    dsimp only [List.eraseIdx] at hM
    have hM := hM.outs (own' := [.row SlotRep A35 c36 75 xs34 true]) 1 rfl
    exact leave1 hf rfl rfl ⟨A35, c36, rfl, hM.fin⟩

set_option maxRecDepth 100000 in
set_option maxHeartbeats 4000000 in
theorem r_spec_l25Square (C : Cx) (g1 : Grid) (b2 : Nat) (o3 : Nat) (hp4 : (ptrRep GridRep).R C.w0 C.S0 g1 [vP b2 o3]) (s5 : Slot) (b6 : Nat) (o7 : Nat) (hp8 : (ptrRep SlotRep).R C.w0 C.S0 s5 [vP b6 o7]) (k9 : Int) (hp10 : R64 k9) (r : Int) (h : m_spec_l25Square g1 s5 k9 = some r) :
    Calls Try.prog 85 #[vP b2 (o3), vP b6 (o7), vI (k9)] C.w0 fun e w => e = .returned (vI (r)) ∧ Mem C w [] [] ∧ R64 r := by
  have hM := Mem.begin C [.dat (ptrRep SlotRep) s5 [vP b6 o7], .dat (ptrRep GridRep) g1 [vP b2 o3]] ⟨hp8, hp4, trivial⟩
  refine enter Try.func85 rfl Try.ntmps85 rfl fun a hf => ?_
  unfold m_spec_l25Square at h
  refine wp_seq ?_
  refine region_pl ?_
  refine q_ hf rfl rfl rfl (e_assign hf rfl) fun a hf => ?_
  refine pl_nil ?_
  refine then_n ?_
  refine wp_seq ?_
  refine wp_seq ?_
  refine region_pl ?_
  refine q_ hf rfl rfl rfl (e_move hf rfl) fun a hf => ?_
  refine q_ hf rfl rfl rfl (e_nil hf rfl) fun a hf => ?_
  obtain ⟨_, hr11, hM⟩ := hM.deref (hM.dat (k := 0) rfl)
  obtain ⟨rfl, hv12, hv13, hv14⟩ := SlotRep_open hr11
  refine q_ hf rfl rfl rfl (e_field hf rfl Try.underlying75 rfl Try.sizeOf4 (o' := o7 + 2) rfl) fun a hf => ?_
  refine q_ hf rfl rfl rfl (e_load1 hf rfl Try.isAgg4 (hM.litCell (k := 0) (j := 2) rfl rfl rfl)) fun a hf => ?_
  refine pl_nil ?_
  refine then_n ?_
  rcases cond_some h with ⟨hc15, h⟩ | ⟨hc15, h⟩
  · refine cond_t hf rfl hc15 ?_
    refine wp_seq ?_
    obtain ⟨w16, hw⟩ : ∃ x, x = C.w0.drew := ⟨_, rfl⟩
    refine region_pi (.q 0 (.q 1 (.q 2 (.q 3 (.q 4 (.q 5 (.q 6 (.q 7 (.q 8 (.q 9 (.q 10 (.q 11 (.q 12 (.q 13 (.q 14 (.q 15 (.q 16 (.nil)))))))))))))))))) (Ext w16) rfl (by kernel_rfl) ?_
    have hM := hM.drew
    rw [← hw] at hM ⊢
    clear hw
    refine pi_q hf rfl rfl rfl rfl (Ext.refl _) (e_move hf rfl) fun a hf => ?_
    refine pi_q hf rfl rfl rfl rfl (Ext.refl _) (e_nil hf rfl) fun a hf => ?_
    refine pi_q hf rfl rfl rfl rfl (Ext.refl _) (e_field hf rfl Try.underlying75 rfl Try.sizeOf2 (o' := o7 + 0) rfl) fun a hf => ?_
    refine pi_q hf rfl rfl rfl rfl (Ext.refl _) (e_load1 hf rfl Try.isAgg2 (hM.litCell (k := 0) (j := 0) rfl rfl rfl)) fun a hf => ?_
    refine pi_q hf rfl rfl rfl rfl (Ext.refl _) (e_move hf rfl) fun a hf => ?_
    obtain ⟨z17, hz18, h⟩ := bind_some h
    refine pi_q hf rfl rfl rfl rfl (Ext.refl _) (e_add hf rfl rfl hz18) fun a hf => ?_
    refine pi_q hf rfl rfl rfl rfl (Ext.refl _) (e_move hf rfl) fun a hf => ?_
    refine pi_q hf rfl rfl rfl rfl (Ext.refl _) (e_nil hf rfl) fun a hf => ?_
    obtain ⟨_, hr19, hM⟩ := hM.deref (hM.dat (k := 2) rfl)
    obtain ⟨rfl, hv20, hv21, hv22⟩ := GridRep_open hr19
    refine pi_q hf rfl rfl rfl rfl (Ext.refl _) (e_field hf rfl Try.underlying27 rfl Try.sizeOf2 (o' := o3 + 1) rfl) fun a hf => ?_
    refine pi_q hf rfl rfl rfl rfl (Ext.refl _) (e_load1 hf rfl Try.isAgg2 (hM.litCell (k := 0) (j := 1) rfl rfl rfl)) fun a hf => ?_
    obtain ⟨z23, hz24, h⟩ := bind_some h
    refine pi_q hf rfl rfl rfl rfl (Ext.refl _) (e_mul hf rfl rfl hz24) fun a hf => ?_
    refine pi_q hf rfl rfl rfl rfl (Ext.refl _) (e_move hf rfl) fun a hf => ?_
    refine pi_q hf rfl rfl rfl rfl (Ext.refl _) (e_nil hf rfl) fun a hf => ?_
    refine pi_q hf rfl rfl rfl rfl (Ext.refl _) (e_field hf rfl Try.underlying75 rfl Try.sizeOf2 (o' := o7 + 1) rfl) fun a hf => ?_
    refine pi_q hf rfl rfl rfl rfl (Ext.refl _) (e_load1 hf rfl Try.isAgg2 (hM.litCell (k := 1) (j := 1) rfl rfl rfl)) fun a hf => ?_
    obtain ⟨z25, hz26, h⟩ := bind_some h
    refine pi_q hf rfl rfl rfl rfl (Ext.refl _) (e_add hf rfl rfl hz26) fun a hf => ?_
    refine pi_q hf rfl rfl rfl rfl (Ext.refl _) (e_assign hf rfl) fun a hf => ?_
    refine pi_nil ?_
    refine then_n ?_
    refine wp_ret ?_
    refine then_r ?_
    obtain rfl := some_inj h
    exact leave1 hf rfl rfl ⟨rfl, hM.fin, (chk_R hz26)⟩
  · refine cond_f hf rfl hc15 ?_
    refine wp_skip ?_
    refine then_n ?_
    refine wp_seq ?_
    obtain ⟨w27, hw⟩ : ∃ x, x = C.w0.drew := ⟨_, rfl⟩
    refine region_pi (.q 0 (.q 1 (.q 2 (.q 3 (.q 4 (.q 5 (.q 6 (.q 7 (.q 8 (.q 9 (.q 10 (.q 11 (.q 12 (.q 13 (.q 14 (.q 15 (.q 16 (.nil)))))))))))))))))) (Ext w27) rfl (by kernel_rfl) ?_
    have hM := hM.drew
    rw [← hw] at hM ⊢
    clear hw
    refine pi_q hf rfl rfl rfl rfl (Ext.refl _) (e_move hf rfl) fun a hf => ?_
    refine pi_q hf rfl rfl rfl rfl (Ext.refl _) (e_nil hf rfl) fun a hf => ?_
    refine pi_q hf rfl rfl rfl rfl (Ext.refl _) (e_field hf rfl Try.underlying75 rfl Try.sizeOf2 (o' := o7 + 0) rfl) fun a hf => ?_
    refine pi_q hf rfl rfl rfl rfl (Ext.refl _) (e_load1 hf rfl Try.isAgg2 (hM.litCell (k := 0) (j := 0) rfl rfl rfl)) fun a hf => ?_
    refine pi_q hf rfl rfl rfl rfl (Ext.refl _) (e_move hf rfl) fun a hf => ?_
    refine pi_q hf rfl rfl rfl rfl (Ext.refl _) (e_nil hf rfl) fun a hf => ?_
    obtain ⟨_, hr28, hM⟩ := hM.deref (hM.dat (k := 2) rfl)
    obtain ⟨rfl, hv29, hv30, hv31⟩ := GridRep_open hr28
    refine pi_q hf rfl rfl rfl rfl (Ext.refl _) (e_field hf rfl Try.underlying27 rfl Try.sizeOf2 (o' := o3 + 1) rfl) fun a hf => ?_
    refine pi_q hf rfl rfl rfl rfl (Ext.refl _) (e_load1 hf rfl Try.isAgg2 (hM.litCell (k := 0) (j := 1) rfl rfl rfl)) fun a hf => ?_
    obtain ⟨z32, hz33, h⟩ := bind_some h
    refine pi_q hf rfl rfl rfl rfl (Ext.refl _) (e_mul hf rfl rfl hz33) fun a hf => ?_
    refine pi_q hf rfl rfl rfl rfl (Ext.refl _) (e_move hf rfl) fun a hf => ?_
    refine pi_q hf rfl rfl rfl rfl (Ext.refl _) (e_nil hf rfl) fun a hf => ?_
    refine pi_q hf rfl rfl rfl rfl (Ext.refl _) (e_field hf rfl Try.underlying75 rfl Try.sizeOf2 (o' := o7 + 1) rfl) fun a hf => ?_
    refine pi_q hf rfl rfl rfl rfl (Ext.refl _) (e_load1 hf rfl Try.isAgg2 (hM.litCell (k := 1) (j := 1) rfl rfl rfl)) fun a hf => ?_
    obtain ⟨z34, hz35, h⟩ := bind_some h
    refine pi_q hf rfl rfl rfl rfl (Ext.refl _) (e_add hf rfl rfl hz35) fun a hf => ?_
    refine pi_q hf rfl rfl rfl rfl (Ext.refl _) (e_move hf rfl) fun a hf => ?_
    obtain ⟨z36, hz37, h⟩ := bind_some h
    refine pi_q hf rfl rfl rfl rfl (Ext.refl _) (e_add hf rfl rfl hz37) fun a hf => ?_
    refine pi_q hf rfl rfl rfl rfl (Ext.refl _) (e_assign hf rfl) fun a hf => ?_
    refine pi_nil ?_
    refine then_n ?_
    refine wp_ret ?_
    obtain rfl := some_inj h
    exact leave1 hf rfl rfl ⟨rfl, hM.fin, (chk_R hz37)⟩

set_option maxRecDepth 100000 in
set_option maxHeartbeats 4000000 in
theorem r_spec_l25Pattern (C : Cx) (g1 : Grid) (b2 : Nat) (o3 : Nat) (hp4 : (ptrRep GridRep).R C.w0 C.S0 g1 [vP b2 o3]) (s5 : Slot) (b6 : Nat) (o7 : Nat) (hp8 : (ptrRep SlotRep).R C.w0 C.S0 s5 [vP b6 o7]) (r : Str) (h : m_spec_l25Pattern g1 s5 = some r) :
    Calls Try.prog 51 #[vP b2 (o3), vP b6 (o7)] C.w0 fun e w => e = .returned (vS (r)) ∧ Mem C w [] [] ∧ r.length ≤ maxLen := by
  have hM := Mem.begin C [.dat (ptrRep SlotRep) s5 [vP b6 o7], .dat (ptrRep GridRep) g1 [vP b2 o3]] ⟨hp8, hp4, trivial⟩
  refine enter Try.func51 rfl Try.ntmps51 rfl fun a hf => ?_
  unfold m_spec_l25Pattern at h
  refine wp_seq ?_
  refine region_pl ?_
  refine q_ hf rfl rfl rfl (e_assign hf rfl) fun a hf => ?_
  refine pl_nil ?_
  refine then_n ?_
  refine wp_seq ?_
  refine region_pl ?_
  refine pl_l hf rfl rfl rfl (w_slice0 (K := byteRep) hM Try.underlying63 ei_5 fun b9 w10 hx11 hM a hf => ?_)
  refine q_ hf rfl rfl rfl (e_assign hf rfl) fun a hf => ?_
  refine pl_nil ?_
  refine then_n ?_
  obtain ⟨x15, h16, h⟩ := bind_some h
  refine seq_join (fun a w => ∃ (xs12 : Str) (A13 : Option Addr) (c14 : Nat), xs12 = x15 ∧ Has 30 a [(5, vL A13 (xs12) c14)] ∧ Mem C w [.row byteRep A13 c14 5 xs12 true] [.dat (ptrRep SlotRep) s5 [vP b6 o7], .dat (ptrRep GridRep) g1 [vP b2 o3]]) ?_ ?_
  · refine wp_seq ?_
    refine region_pl ?_
    refine q_ hf rfl rfl rfl (e_assign hf rfl) fun a hf => ?_
    refine pl_nil ?_
    refine then_n ?_
    refine wp_block ?_
    obtain ⟨x26, h27, h16⟩ := bind_some h16
    refine wp_loopM h27 (fun s a w => ∃ (xs17 : Str) (n20 : Int) (A18 : Option Addr) (c19 : Nat), (xs17, n20) = s ∧ Has 30 a [(0, vP b2 (o3)), (1, vP b6 (o7)), (5, vL A18 (xs17) c19), (6, vI (n20))] ∧ Mem C w [.row byteRep A18 c19 5 xs17 true] [.dat (ptrRep SlotRep) s5 [vP b6 o7], .dat (ptrRep GridRep) g1 [vP b2 o3]] ∧ R64 n20) ?_ ?_
    · exact ⟨([] : Str), 0, (some ⟨b9, 0, none⟩), 0, rfl, hf.keep ⟨rfl, rfl, rfl, rfl, trivial⟩, hM.pick [0, 1] rfl, (R64_lit rfl)⟩
    · rintro s o28 a w22 ⟨xs17, n20, A18, c19, rfl, hf, hM, hv21⟩ h29 hd30
      replace h29 : m_spec_l25Pattern_l1 s5 g1 xs17 n20 = some o28 := h29
      unfold m_spec_l25Pattern_l1 at h29
      refine wp_seq ?_
      refine wp_seq ?_
      refine region_pl ?_
      refine q_ hf rfl rfl rfl (e_move hf rfl) fun a hf => ?_
      refine q_ hf rfl rfl rfl (e_move hf rfl) fun a hf => ?_
      refine q_ hf rfl rfl rfl (e_nil hf rfl) fun a hf => ?_
      obtain ⟨_, hr31, hM⟩ := hM.deref (hM.dat (k := 0) rfl)
      obtain ⟨rfl, hv32, hv33, hv34⟩ := SlotRep_open hr31
      refine q_ hf rfl rfl rfl (e_field hf rfl Try.underlying75 rfl Try.sizeOf2 (o' := o7 + 3) rfl) fun a hf => ?_
      refine q_ hf rfl rfl rfl (e_load1 hf rfl Try.isAgg2 (hM.litCell (k := 0) (j := 3) rfl rfl rfl)) fun a hf => ?_
      refine q_ hf rfl rfl rfl (e_lt hf (x := n20) (y := s5.Length) rfl rfl) fun a hf => ?_
      refine pl_nil ?_
      refine then_n ?_
      rcases cond_some h29 with ⟨hc35, h29⟩ | ⟨hc35, h29⟩
      · refine cond_t hf rfl hc35 ?_
        refine wp_skip ?_
        refine then_n ?_
        refine wp_seq ?_
        refine wp_block ?_
        obtain ⟨w36, hw⟩ : ∃ x, x = w22.drew := ⟨_, rfl⟩
        refine region_pi (.q 0 (.q 1 (.q 2 (.q 3 (.q 4 (.q 5 (.q 6 (.q 7 (.l 8 (.q 9 (.l 10 (.l 11 (.q 12 (.nil)))))))))))))) (Ext w36) rfl (by kernel_rfl) ?_
        have hM := hM.drew
        rw [← hw] at hM ⊢
        clear hw
        refine pi_q hf rfl rfl rfl rfl (Ext.refl _) (e_move hf rfl) fun a hf => ?_
        refine pi_q hf rfl rfl rfl rfl (Ext.refl _) (e_move hf rfl) fun a hf => ?_
        refine pi_q hf rfl rfl rfl rfl (Ext.refl _) (e_nil hf rfl) fun a hf => ?_
        obtain ⟨_, hr37, hM⟩ := hM.deref (hM.dat (k := 2) rfl)
        obtain ⟨rfl, hv38, hv39, hv40⟩ := GridRep_open hr37
        refine pi_q hf rfl rfl rfl rfl (Ext.refl _) (e_field hf rfl Try.underlying27 rfl Try.sizeOf9 (o' := o3 + 2) rfl) fun a hf => ?_
        refine pi_q hf rfl rfl rfl rfl (Ext.refl _) (e_load1 hf rfl Try.isAgg9 (hM.litCell (k := 0) (j := 2) rfl rfl rfl)) fun a hf => ?_
        refine pi_q hf rfl rfl rfl rfl (Ext.refl _) (e_move hf rfl) fun a hf => ?_
        refine pi_q hf rfl rfl rfl rfl (Ext.refl _) (e_move hf rfl) fun a hf => ?_
        refine pi_q hf rfl rfl rfl rfl (Ext.refl _) (e_move hf rfl) fun a hf => ?_
        refine pi_one ?_
        obtain ⟨y41, hz42, h29⟩ := bind_some h29
        refine pi_l hf rfl rfl rfl rfl (w_call hf Try.call85 rfl (r_spec_l25Square ⟨_, Sh C _ _, none_, hM.sh_lt, none_not, C.G, hM.g_lt, g_none, hM.tabs⟩ g1 _ _ (hM.dat (k := 3) rfl) s5 _ _ (hM.dat (k := 2) rfl) n20 hv21 _ hz42) ?_)
        rintro _ w44 ⟨rfl, hM2, hv43⟩
        obtain ⟨hM, hx45, hup46⟩ := hM.back hM2
        dsimp only [List.cons_append, List.nil_append] at hM hup46
        clear hM2
        refine ⟨_, rfl, Ext w44, fun _ h => Ext.trans hx45 h, Ext.refl _, fun a hf => ?_⟩
        obtain ⟨c47, hz48, h29⟩ := bind_some h29
        refine pi_q hf rfl rfl rfl rfl (Ext.refl _) (e_indexS hf (x := g1.Cells) rfl rfl Try.underlying9 hz48) fun a hf => ?_
        refine pi_one ?_
        refine pi_l hf rfl rfl rfl rfl (w_slice hf hM (K := byteRep) (xs := ([c47] : Str)) (os := [.tmp 25]) Try.underlying63 ei_5 rfl rfl rfl rfl rfl ⟨⟨[vB (c47)], rfl, rfl⟩, trivial⟩ rfl fun b49 w50 hx51 hM => ⟨Ext w50, fun _ h => Ext.trans hx51 h, Ext.refl _, fun a hf => ?_⟩)
        refine pi_one ?_
        obtain ⟨xs52, hz53, h29⟩ := bind_some h29
        refine pi_z hf rfl rfl rfl rfl (by kernel_rfl) (w_append hf hM Try.underlying63 ei_5 rfl rfl rfl (k := 1) rfl (hM.srcRow (k := 0) rfl) hz53 fun A54 c55 w56 hM a hf => ?_)
        dsimp only [List.set] at hM
        refine pi_q hf rfl rfl rfl rfl (Ext.refl _) (e_assign hf rfl) fun a hf => ?_
        refine pi_nil ?_
        refine blk_n ?_
        refine then_n ?_
        refine region_pl ?_
        refine q_ hf rfl rfl rfl (e_move hf rfl) fun a hf => ?_
        obtain ⟨z59, hz60, h29⟩ := bind_some h29
        refine q_ hf rfl rfl rfl (e_add hf rfl rfl hz60) fun a hf => ?_
        refine q_ hf rfl rfl rfl (e_assign hf rfl) fun a hf => ?_
        refine pl_nil ?_
        obtain rfl := some_inj h29
        refine then_n ⟨_, rfl, ?_⟩
        exact ⟨xs52, z59, A54, c55, rfl, hf.keep ⟨rfl, rfl, rfl, rfl, trivial⟩, (hM.drop (.cons _ (.cons_cons _ .slnil))).pick [2, 3] rfl, (chk_R hz60)⟩
      · refine cond_f hf rfl hc35 ?_
        refine wp_exit ?_
        refine then_x ?_
        obtain rfl := some_inj h29
        obtain rfl := hd30 _ rfl
        try dsimp only at h16
        refine then_x ?_
        refine exit_hit ?_
        obtain rfl := some_inj h16
        refine then_n ?_
        exact ⟨xs17, A18, c19, rfl, hf.keep ⟨rfl, trivial⟩, hM.pick [1, 2] rfl⟩
  · rintro a w66 ⟨xs12, A13, c14, rfl, hf, hM⟩
    try dsimp only at h
    refine wp_seq ?_
    refine region_pl ?_
    refine q_ hf rfl rfl rfl (e_move hf rfl) fun a hf => ?_
    have hl67 := row_len (hM.ownAt (k := 0) rfl)
    refine q_ hf rfl rfl rfl (e_bytesStr hf (xs := xs12) rfl Try.underlying63 Try.underlying5 Try.underlying9 (hM.lendRow (k := 0) rfl)) fun a hf => ?_
    refine q_ hf rfl rfl rfl (e_assign hf rfl) fun a hf => ?_
    refine pl_nil ?_
    refine then_n ?_
    refine wp_ret ?_
    obtain rfl := some_inj h
    have hM := hM.outs (own' := []) 0 rfl
    exact leave1 hf rfl rfl ⟨rfl, hM.fin, hl67⟩

set_option maxRecDepth 100000 in
set_option maxHeartbeats 4000000 in
theorem r_spec_l25Fits (C : Cx) (pattern1 : Str) (hp2 : pattern1.length ≤ maxLen) (word3 : Str) (hp4 : word3.length ≤ maxLen) (r : Bool) (h : m_spec_l25Fits pattern1 word3 = some r) :
    Calls Try.prog 58 #[vS (pattern1), vS (word3)] C.w0 fun e w => e = .returned (.bool (r)) ∧ Mem C w [] [] := by
  have hM := Mem.begin C [] trivial
  refine enter Try.func58 rfl Try.ntmps58 rfl fun a hf => ?_
  unfold m_spec_l25Fits at h
  refine wp_seq ?_
  refine region_pl ?_
  refine q_ hf rfl rfl rfl (e_assign hf rfl) fun a hf => ?_
  refine pl_nil ?_
  refine then_n ?_
  refine wp_seq ?_
  refine wp_seq ?_
  refine region_pl ?_
  refine q_ hf rfl rfl rfl (e_move hf rfl) fun a hf => ?_
  refine q_ hf rfl rfl rfl (e_lenS hf (x := pattern1) rfl Try.underlying9) fun a hf => ?_
  refine q_ hf rfl rfl rfl (e_move hf rfl) fun a hf => ?_
  refine q_ hf rfl rfl rfl (e_lenS hf (x := word3) rfl Try.underlying9) fun a hf => ?_
  refine q_ hf rfl rfl rfl (e_ne hf (x := (pattern1.length : Int)) (y := (word3.length : Int)) rfl rfl) fun a hf => ?_
  refine pl_nil ?_
  refine then_n ?_
  rcases cond_some h with ⟨hc5, h⟩ | ⟨hc5, h⟩
  · refine cond_t hf rfl hc5 ?_
    refine wp_seq ?_
    refine region_pl ?_
    refine q_ hf rfl rfl rfl (e_assign hf rfl) fun a hf => ?_
    refine pl_nil ?_
    refine then_n ?_
    refine wp_ret ?_
    refine then_r ?_
    obtain rfl := some_inj h
    exact leave1 hf rfl rfl ⟨rfl, hM.fin⟩
  · refine cond_f hf rfl hc5 ?_
    refine wp_skip ?_
    refine then_n ?_
    obtain ⟨x6, h7, h⟩ := bind_some h
    refine seq_join (fun a w => (.inl ()) = x6 ∧ Has 30 a [] ∧ Mem C w [] []) ?_ ?_
    · refine wp_seq ?_
      refine region_pl ?_
      refine q_ hf rfl rfl rfl (e_assign hf rfl) fun a hf => ?_
      refine pl_nil ?_
      refine then_n ?_
      refine wp_block ?_
      obtain ⟨x11, h12, h7⟩ := bind_some h7
      refine wp_loopM h12 (fun s a w => ∃ (n8 : Int), n8 = s ∧ Has 30 a [(0, vS (pattern1)), (1, vS (word3)), (5, vI (n8))] ∧ Mem C w [] [] ∧ R64 n8) ?_ ?_
      · exact ⟨0, rfl, hf.keep ⟨rfl, rfl, rfl, trivial⟩, hM.pick [] rfl, (R64_lit rfl)⟩
      · rintro s o13 a w10 ⟨n8, rfl, hf, hM, hv9⟩ h14 hd15
        replace h14 : m_spec_l25Fits_l1 word3 pattern1 n8 = some o13 := h14
        unfold m_spec_l25Fits_l1 at h14
        refine wp_seq ?_
        refine wp_seq ?_
        refine region_pl ?_
        refine q_ hf rfl rfl rfl (e_move hf rfl) fun a hf => ?_
        refine q_ hf rfl rfl rfl (e_move hf rfl) fun a hf => ?_
        refine q_ hf rfl rfl rfl (e_lenS hf (x := word3) rfl Try.underlying9) fun a hf => ?_
        refine q_ hf rfl rfl rfl (e_lt hf (x := n8) (y := (word3.length : Int)) rfl rfl) fun a hf => ?_
        refine pl_nil ?_
        refine then_n ?_
        rcases cond_some h14 with ⟨hc16, h14⟩ | ⟨hc16, h14⟩
        · refine cond_t hf rfl hc16 ?_
          refine wp_skip ?_
          refine then_n ?_
          refine wp_seq ?_
          refine wp_block ?_
          obtain ⟨x19, h20, h14⟩ := bind_some h14
          refine seq_join (fun a w => ∃ (t17 : Bool), t17 = x19 ∧ Has 30 a [(0, vS (pattern1)), (1, vS (word3)), (5, vI (n8)), (29, .bool (t17))] ∧ Mem C w [] []) ?_ ?_
          · obtain ⟨w21, hw⟩ : ∃ x, x = w10.drew := ⟨_, rfl⟩
            refine region_pi (.q 0 (.q 1 (.q 2 (.q 3 (.q 4 (.q 5 (.q 6 (.q 7 (.q 8 (.q 9 (.q 10 (.q 11 (.q 12 (.nil)))))))))))))) (Ext w21) rfl (by kernel_rfl) ?_
            have hM := hM.drew
            rw [← hw] at hM ⊢
            clear hw
            refine pi_q hf rfl rfl rfl rfl (Ext.refl _) (e_move hf rfl) fun a hf => ?_
            refine pi_q hf rfl rfl rfl rfl (Ext.refl _) (e_move hf rfl) fun a hf => ?_
            obtain ⟨c22, hz23, h20⟩ := bind_some h20
            refine pi_q hf rfl rfl rfl rfl (Ext.refl _) (e_indexS hf (x := pattern1) rfl rfl Try.underlying9 hz23) fun a hf => ?_
            refine pi_q hf rfl rfl rfl rfl (Ext.refl _) (e_neB hf (x := c22) (y := 46) rfl rfl) fun a hf => ?_
            refine pi_q hf rfl rfl rfl rfl (Ext.refl _) (e_move hf rfl) fun a hf => ?_
            rcases cond_some h20 with ⟨hc24, h20⟩ | ⟨hc24, h20⟩
            · refine pi_gq hf rfl (wanted_t hf rfl rfl rfl rfl hc24) rfl rfl (Ext.refl _) (e_move hf rfl) fun a hf => ?_
              refine pi_gq hf rfl (wanted_t hf rfl rfl rfl rfl hc24) rfl rfl (Ext.refl _) (e_move hf rfl) fun a hf => ?_
              obtain ⟨c25, hz26, h20⟩ := bind_some h20
              refine pi_gq hf rfl (wanted_t hf rfl rfl rfl rfl hc24) rfl rfl (Ext.refl _) (e_indexS hf (x := pattern1) rfl rfl Try.underlying9 hz26) fun a hf => ?_
              refine pi_gq hf rfl (wanted_t hf rfl rfl rfl rfl hc24) rfl rfl (Ext.refl _) (e_move hf rfl) fun a hf => ?_
              refine pi_gq hf rfl (wanted_t hf rfl rfl rfl rfl hc24) rfl rfl (Ext.refl _) (e_move hf rfl) fun a hf => ?_
              obtain ⟨c27, hz28, h20⟩ := bind_some h20
              refine pi_gq hf rfl (wanted_t hf rfl rfl rfl rfl hc24) rfl rfl (Ext.refl _) (e_indexS hf (x := word3) rfl rfl Try.underlying9 hz28) fun a hf => ?_
              refine pi_gq hf rfl (wanted_t hf rfl rfl rfl rfl hc24) rfl rfl (Ext.refl _) (e_neB hf (x := c25) (y := c27) rfl rfl) fun a hf => ?_
              refine pi_q hf rfl rfl rfl rfl (Ext.refl _) (e_pick_t hf rfl hc24 rfl) fun a hf => ?_
              refine pi_nil ?_
              obtain rfl := some_inj h20
              refine then_n ?_
              exact ⟨(c25 != c27), rfl, hf.keep ⟨rfl, rfl, rfl, rfl, trivial⟩, hM.pick [] rfl⟩
            · refine pi_gs hf rfl (wanted_f hf rfl rfl rfl rfl hc24) rfl rfl (Ext.refl _) fun a hf => ?_
              refine pi_gs hf rfl (wanted_f hf rfl rfl rfl rfl hc24) rfl rfl (Ext.refl _) fun a hf => ?_
              refine pi_gs hf rfl (wanted_f hf rfl rfl rfl rfl hc24) rfl rfl (Ext.refl _) fun a hf => ?_
              refine pi_gs hf rfl (wanted_f hf rfl rfl rfl rfl hc24) rfl rfl (Ext.refl _) fun a hf => ?_
              refine pi_gs hf rfl (wanted_f hf rfl rfl rfl rfl hc24) rfl rfl (Ext.refl _) fun a hf => ?_
              refine pi_gs hf rfl (wanted_f hf rfl rfl rfl rfl hc24) rfl rfl (Ext.refl _) fun a hf => ?_
              refine pi_gs hf rfl (wanted_f hf rfl rfl rfl rfl hc24) rfl rfl (Ext.refl _) fun a hf => ?_
              refine pi_q hf rfl rfl rfl rfl (Ext.refl _) (e_pick_f hf rfl hc24 rfl) fun a hf => ?_
              refine pi_nil ?_
              obtain rfl := some_inj h20
              refine then_n ?_
              exact ⟨false, rfl, hf.keep ⟨rfl, rfl, rfl, rfl, trivial⟩, hM.pick [] rfl⟩
          · rintro a w31 ⟨t17, rfl, hf, hM⟩
            try dsimp only at h14
            rcases cond_some h14 with ⟨hc32, h14⟩ | ⟨hc32, h14⟩
            · refine cond_t hf rfl hc32 ?_
              refine wp_seq ?_
              refine region_pl ?_
              refine q_ hf rfl rfl rfl (e_assign hf rfl) fun a hf => ?_
              refine pl_nil ?_
              refine then_n ?_
              refine wp_ret ?_
              refine blk_r ?_
              refine then_r ?_
              obtain rfl := some_inj h14
              obtain rfl := hd15 _ rfl
              try dsimp only at h7
              refine then_r ?_
              refine blk_r ?_
              obtain rfl := some_inj h7
              try dsimp only at h
              refine then_r ?_
              obtain rfl := some_inj h
              exact leave1 hf rfl rfl ⟨rfl, hM.fin⟩
            · refine cond_f hf rfl hc32 ?_
              refine wp_skip ?_
              refine blk_n ?_
              refine then_n ?_
              refine region_pl ?_
              refine q_ hf rfl rfl rfl (e_move hf rfl) fun a hf => ?_
              obtain ⟨z33, hz34, h14⟩ := bind_some h14
              refine q_ hf rfl rfl rfl (e_add hf rfl rfl hz34) fun a hf => ?_
              refine q_ hf rfl rfl rfl (e_assign hf rfl) fun a hf => ?_
              refine pl_nil ?_
              obtain rfl := some_inj h14
              refine then_n ⟨_, rfl, ?_⟩
              exact ⟨z33, rfl, hf.keep ⟨rfl, rfl, rfl, trivial⟩, hM.pick [] rfl, (chk_R hz34)⟩
        · refine cond_f hf rfl hc16 ?_
          refine wp_exit ?_
          refine then_x ?_
          obtain rfl := some_inj h14
          obtain rfl := hd15 _ rfl
          try dsimp only at h7
          refine then_x ?_
          refine exit_hit ?_
          obtain rfl := some_inj h7
          refine then_n ?_
          exact ⟨rfl, hf.keep trivial, hM.pick [] rfl⟩
    · rintro a w41 ⟨rfl, hf, hM⟩
      try dsimp only at h
      refine wp_seq ?_
      refine region_pl ?_
      refine q_ hf rfl rfl rfl (e_assign hf rfl) fun a hf => ?_
      refine pl_nil ?_
      refine then_n ?_
      refine wp_ret ?_
      obtain rfl := some_inj h
      exact leave1 hf rfl rfl ⟨rfl, hM.fin⟩

set_option maxRecDepth 100000 in
set_option maxHeartbeats 4000000 in
theorem r_spec_l25Words (C : Cx) (g1 : Grid) (b2 : Nat) (o3 : Nat) (hp4 : (ptrRep GridRep).R C.w0 C.S0 g1 [vP b2 o3]) (words5 : (List Str)) (A6 : Option Addr) (c7 : Nat) (hp8 : (sliceRep strRep).R C.w0 C.S0 words5 [vL A6 words5 c7]) (s9 : Slot) (b10 : Nat) (o11 : Nat) (hp12 : (ptrRep SlotRep).R C.w0 C.S0 s9 [vP b10 o11]) (r : (List Str)) (h : m_spec_l25Words g1 words5 s9 = some r) :
    Calls Try.prog 69 #[vP b2 (o3), vL A6 (words5) c7, vP b10 (o11)] C.w0 fun e w => ∃ (A_1 : Option Addr), ∃ (c_1 : Nat), e = .returned (vL A_1 (r) c_1) ∧ Mem C w [.row strRep A_1 c_1 9 r true] [] := by
  have hM := Mem.begin C [.dat (ptrRep SlotRep) s9 [vP b10 o11], .dat (sliceRep strRep) words5 [vL A6 words5 c7], .dat (ptrRep GridRep) g1 [vP b2 o3]] ⟨hp12, hp8, hp4, trivial⟩
  refine enter Try.func69 rfl Try.ntmps69 rfl fun a hf => ?_
  unfold m_spec_l25Words at h
  refine wp_seq ?_
  refine region_pl ?_
  refine q_ hf rfl rfl rfl (e_assign hf rfl) fun a hf => ?_
  refine pl_nil ?_
  refine then_n ?_
  refine wp_seq ?_
  refine region_pl ?_
  refine q_ hf rfl rfl rfl (e_move hf rfl) fun a hf => ?_
  refine q_ hf rfl rfl rfl (e_move hf rfl) fun a hf => ?_
  obtain ⟨y13, hz14, h⟩ := bind_some h
  refine pl_l hf rfl rfl rfl (w_call hf Try.call51 rfl (r_spec_l25Pattern ⟨_, Sh C _ _, none_, hM.sh_lt, none_not, C.G, hM.g_lt, g_none, hM.tabs⟩ g1 _ _ (hM.dat (k := 2) rfl) s9 _ _ (hM.dat (k := 0) rfl) _ hz14) ?_)
  rintro _ w16 ⟨rfl, hM2, hv15⟩
  obtain ⟨hM, hx17, hup18⟩ := hM.back hM2
  dsimp only [List.cons_append, List.nil_append] at hM hup18
  clear hM2
  refine ⟨_, rfl, fun a hf => ?_⟩
  refine q_ hf rfl rfl rfl (e_assign hf rfl) fun a hf => ?_
  refine pl_nil ?_
  refine then_n ?_
  refine wp_seq ?_
  refine region_pl ?_
  refine pl_l hf rfl rfl rfl (w_slice0 (K := strRep) hM Try.underlying40 ei_9 fun b19 w20 hx21 hM a hf => ?_)
  refine q_ hf rfl rfl rfl (e_assign hf rfl) fun a hf => ?_
  refine pl_nil ?_
  refine then_n ?_
  obtain ⟨x25, h26, h⟩ := bind_some h
  refine seq_join (fun a w => ∃ (xs22 : (List Str)) (A23 : Option Addr) (c24 : Nat), xs22 = x25 ∧ Has 34 a [(8, vL A23 (xs22) c24)] ∧ Mem C w [.row strRep A23 c24 9 xs22 true] [.dat (ptrRep SlotRep) s9 [vP b10 o11], .dat (sliceRep strRep) words5 [vL A6 words5 c7], .dat (ptrRep GridRep) g1 [vP b2 o3]]) ?_ ?_
  · refine wp_seq ?_
    refine region_pl ?_
    refine q_ hf rfl rfl rfl (e_assign hf rfl) fun a hf => ?_
    refine pl_nil ?_
    refine then_n ?_
    refine wp_block ?_
    obtain ⟨x36, h37, h26⟩ := bind_some h26
    refine wp_loopM h37 (fun s a w => ∃ (xs27 : (List Str)) (n30 : Int) (A28 : Option Addr) (c29 : Nat), (xs27, n30) = s ∧ Has 34 a [(1, vL A6 (words5) c7), (7, vS (y13)), (8, vL A28 (xs27) c29), (9, vI (n30))] ∧ Mem C w [.row strRep A28 c29 9 xs27 true] [.dat (ptrRep SlotRep) s9 [vP b10 o11], .dat (sliceRep strRep) words5 [vL A6 words5 c7], .dat (ptrRep GridRep) g1 [vP b2 o3]] ∧ R64 n30) ?_ ?_
    · exact ⟨([] : (List Str)), 0, (some ⟨b19, 0, none⟩), 0, rfl, hf.keep ⟨rfl, rfl, rfl, rfl, trivial⟩, hM.pick [0, 1, 2] rfl, (R64_lit rfl)⟩
    · rintro s o38 a w32 ⟨xs27, n30, A28, c29, rfl, hf, hM, hv31⟩ h39 hd40
      replace h39 : m_spec_l25Words_l1 words5 y13 xs27 n30 = some o38 := h39
      unfold m_spec_l25Words_l1 at h39
      refine wp_seq ?_
      refine wp_seq ?_
      refine region_pl ?_
      refine q_ hf rfl rfl rfl (e_move hf rfl) fun a hf => ?_
      refine q_ hf rfl rfl rfl (e_move hf rfl) fun a hf => ?_
      have hl41 := slice_len (hM.dat (k := 1) rfl)
      refine q_ hf rfl rfl rfl (e_lenL hf (x := words5) rfl Try.underlying40) fun a hf => ?_
      refine q_ hf rfl rfl rfl (e_lt hf (x := n30) (y := (words5.length : Int)) rfl rfl) fun a hf => ?_
      refine pl_nil ?_
      refine then_n ?_
      rcases cond_some h39 with ⟨hc42, h39⟩ | ⟨hc42, h39⟩
      · refine cond_t hf rfl hc42 ?_
        refine wp_skip ?_
        refine then_n ?_
        obtain ⟨x46, h47, h39⟩ := bind_some h39
        refine seq_join (fun a w => ∃ (xs43 : (List Str)) (A44 : Option Addr) (c45 : Nat), xs43 = x46 ∧ Has 34 a [(1, vL A6 (words5) c7), (7, vS (y13)), (8, vL A44 (xs43) c45), (9, vI (n30))] ∧ Mem C w [.row strRep A44 c45 9 xs43 true] [.dat (ptrRep SlotRep) s9 [vP b10 o11], .dat (sliceRep strRep) words5 [vL A6 words5 c7], .dat (ptrRep GridRep) g1 [vP b2 o3]]) ?_ ?_
        · refine wp_block ?_
          refine wp_seq ?_
          refine region_pl ?_
          refine q_ hf rfl rfl rfl (e_move hf rfl) fun a hf => ?_
          refine q_ hf rfl rfl rfl (e_move hf rfl) fun a hf => ?_
          refine q_ hf rfl rfl rfl (e_move hf rfl) fun a hf => ?_
          obtain ⟨e48, hz49, h47⟩ := bind_some h47
          obtain ⟨b53, o54, _, hA55, h50, h51, hr52, hM⟩ := hM.elem (hM.dat (k := 1) rfl) (n := 1) rfl hz49
          obtain ⟨rfl, hv56⟩ := hr52
          refine q_ hf rfl rfl rfl (e_indexAddr (A := A6) (b := b53) (o := o54) (xs := words5) (i := n30) hf hA55 rfl rfl Try.underlying40 Try.sizeOf9 h50 h51) fun a hf => ?_
          refine q_ hf rfl rfl rfl (e_load1 hf rfl Try.isAgg9 (hM.litCell (k := 0) (j := 0) rfl rfl rfl)) fun a hf => ?_
          obtain ⟨y57, hz58, h47⟩ := bind_some h47
          refine pl_l hf rfl rfl rfl (w_call hf Try.call58 rfl (r_spec_l25Fits ⟨_, Sh C _ _, none_, hM.sh_lt, none_not, C.G, hM.g_lt, g_none, hM.tabs⟩ y13 hv15 e48 hv56 _ hz58) ?_)
          rintro _ w59 ⟨rfl, hM2⟩
          obtain ⟨hM, hx60, hup61⟩ := hM.back hM2
          dsimp only [List.cons_append, List.nil_append] at hM hup61
          clear hM2
          refine ⟨_, rfl, fun a hf => ?_⟩
          refine pl_nil ?_
          refine then_n ?_
          rcases cond_some h47 with ⟨hc62, h47⟩ | ⟨hc62, h47⟩
          · refine cond_t hf rfl hc62 ?_
            refine region_pl ?_
            refine q_ hf rfl rfl rfl (e_move hf rfl) fun a hf => ?_
            refine q_ hf rfl rfl rfl (e_move hf rfl) fun a hf => ?_
            refine q_ hf rfl rfl rfl (e_move hf rfl) fun a hf => ?_
            obtain ⟨e63, hz64, h47⟩ := bind_some h47
            obtain ⟨b68, o69, _, hA70, h65, h66, hr67, hM⟩ := hM.elem (hM.dat (k := 2) rfl) (n := 1) rfl hz64
            obtain ⟨rfl, hv71⟩ := hr67
            refine q_ hf rfl rfl rfl (e_indexAddr (A := A6) (b := b68) (o := o69) (xs := words5) (i := n30) hf hA70 rfl rfl Try.underlying40 Try.sizeOf9 h65 h66) fun a hf => ?_
            refine q_ hf rfl rfl rfl (e_load1 hf rfl Try.isAgg9 (hM.litCell (k := 0) (j := 0) rfl rfl rfl)) fun a hf => ?_
            refine pl_l hf rfl rfl rfl (w_slice hf hM (K := strRep) (xs := ([e63] : (List Str))) (os := [.tmp 30]) Try.underlying40 ei_9 rfl rfl rfl rfl rfl ⟨⟨[vS (e63)], rfl, ⟨rfl, hv71⟩⟩, trivial⟩ rfl fun b72 w73 hx74 hM a hf => ?_)
            obtain ⟨xs75, hz76, h47⟩ := bind_some h47
            refine pl_l hf rfl rfl rfl (w_append hf hM Try.underlying40 ei_9 rfl rfl rfl (k := 1) rfl (hM.srcRow (k := 0) rfl) hz76 fun A77 c78 w79 hM a hf => ?_)
            dsimp only [List.set] at hM
            refine q_ hf rfl rfl rfl (e_assign hf rfl) fun a hf => ?_
            refine pl_nil ?_
            refine blk_n ?_
            obtain rfl := some_inj h47
            refine then_n ?_
            exact ⟨xs75, A77, c78, rfl, hf.keep ⟨rfl, rfl, rfl, rfl, trivial⟩, (hM.drop (.cons _ (.cons_cons _ .slnil))).pick [2, 3, 4] rfl⟩
          · refine cond_f hf rfl hc62 ?_
            refine wp_skip ?_
            refine blk_n ?_
            obtain rfl := some_inj h47
            refine then_n ?_
            exact ⟨xs27, A28, c29, rfl, hf.keep ⟨rfl, rfl, rfl, rfl, trivial⟩, hM.pick [1, 2, 3] rfl⟩
        · rintro a w84 ⟨xs43, A44, c45, rfl, hf, hM⟩
          try dsimp only at h39
          refine region_pl ?_
          refine q_ hf rfl rfl rfl (e_move hf rfl) fun a hf => ?_
          obtain ⟨z85, hz86, h39⟩ := bind_some h39
          refine q_ hf rfl rfl rfl (e_add hf rfl rfl hz86) fun a hf => ?_
          refine q_ hf rfl rfl rfl (e_assign hf rfl) fun a hf => ?_
          refine pl_nil ?_
          obtain rfl := some_inj h39
          refine then_n ⟨_, rfl, ?_⟩
          exact ⟨xs43, z85, A44, c45, rfl, hf.keep ⟨rfl, rfl, rfl, rfl, trivial⟩, hM.pick [0, 1, 2] rfl, (chk_R hz86)⟩
      · refine cond_f hf rfl hc42 ?_
        refine wp_exit ?_
        refine then_x ?_
        obtain rfl := some_inj h39
        obtain rfl := hd40 _ rfl
        try dsimp only at h26
        refine then_x ?_
        refine exit_hit ?_
        obtain rfl := some_inj h26
        refine then_n ?_
        exact ⟨xs27, A28, c29, rfl, hf.keep ⟨rfl, trivial⟩, hM.pick [0, 1, 2] rfl⟩
  · rintro a w92 ⟨xs22, A23, c24, rfl, hf, hM⟩
    try dsimp only at h
    refine wp_seq ?_
    refine region_pl ?_
    refine q_ hf rfl rfl rfl (e_move hf rfl) fun a hf => ?_
    refine q_ hf rfl rfl rfl (e_assign hf rfl) fun a hf => ?_
    refine pl_nil ?_
    refine then_n ?_
    refine wp_ret ?_
    obtain rfl := some_inj h
    exact leave1 hf rfl rfl ⟨A23, c24, rfl, hM.fin⟩

set_option maxRecDepth 100000 in
set_option maxHeartbeats 4000000 in
theorem r_spec_l25Search_dead (C : Cx) (s1 : l25Search) (b2 : Nat) (o3 : Nat) (hp4 : (ptrRep l25SearchRep).R C.w0 C.S0 s1 [vP b2 o3]) (g5 : Grid) (b6 : Nat) (o7 : Nat) (hp8 : (ptrRep GridRep).R C.w0 C.S0 g5 [vP b6 o7]) (r : Int) (h : m_spec_l25Search_dead s1 g5 = some r) :
    Calls Try.prog 101 #[vP b2 (o3), vP b6 (o7)] C.w0 fun e w => e = .returned (vI (r)) ∧ Mem C w [] [] ∧ R64 r := by
  have hM := Mem.begin C [.dat (ptrRep GridRep) g5 [vP b6 o7], .dat (ptrRep l25SearchRep) s1 [vP b2 o3]] ⟨hp8, hp4, trivial⟩
  refine enter Try.func101 rfl Try.ntmps101 rfl fun a hf => ?_
  unfold m_spec_l25Search_dead at h
  refine wp_seq ?_
  refine region_pl ?_
  refine q_ hf rfl rfl rfl (e_assign hf rfl) fun a hf => ?_
  refine pl_nil ?_
  refine then_n ?_
  obtain ⟨x9, h10, h⟩ := bind_some h
  refine seq_join (fun a w => (.inl ()) = x9 ∧ Has 30 a [] ∧ Mem C w [] [.dat (ptrRep GridRep) g5 [vP b6 o7], .dat (ptrRep l25SearchRep) s1 [vP b2 o3]]) ?_ ?_
  · refine wp_seq ?_
    refine region_pl ?_
    refine q_ hf rfl rfl rfl (e_assign hf rfl) fun a hf => ?_
    refine pl_nil ?_
    refine then_n ?_
    refine wp_block ?_
    obtain ⟨x14, h15, h10⟩ := bind_some h10
    refine wp_loopM h15 (fun s a w => ∃ (n11 : Int), n11 = s ∧ Has 30 a [(0, vP b2 (o3)), (1, vP b6 (o7)), (5, vI (n11))] ∧ Mem C w [] [.dat (ptrRep GridRep) g5 [vP b6 o7], .dat (ptrRep l25SearchRep) s1 [vP b2 o3]] ∧ R64 n11) ?_ ?_
    · exact ⟨0, rfl, hf.keep ⟨rfl, rfl, rfl, trivial⟩, hM.pick [0, 1] rfl, (R64_lit rfl)⟩
    · rintro s o16 a w13 ⟨n11, rfl, hf, hM, hv12⟩ h17 hd18
      replace h17 : m_spec_l25Search_dead_l1 s1 g5 n11 = some o16 := h17
      unfold m_spec_l25Search_dead_l1 at h17
      refine wp_seq ?_
      refine wp_seq ?_
      refine region_pl ?_
      refine q_ hf rfl rfl rfl (e_move hf rfl) fun a hf => ?_
      refine q_ hf rfl rfl rfl (e_move hf rfl) fun a hf => ?_
      refine q_ hf rfl rfl rfl (e_nil hf rfl) fun a hf => ?_
      obtain ⟨_, hr19, hM⟩ := hM.deref (hM.dat (k := 1) rfl)
      obtain ⟨A20, c21, A23, c24, A27, c28, rfl, hv22, hv25, hv26, hv29⟩ := l25SearchRep_open hr19
      have hM := hM.add (y := .dat (sliceRep strRep) s1.words [vL A20 s1.words c21]) hv22
      have hM := hM.add (y := .dat (sliceRep SlotRep) s1.slots [vL A23 s1.slots c24]) hv25
      have hM := hM.add (y := .dat (sliceRep GridRep) s1.out [vL A27 s1.out c28]) hv29
      refine q_ hf rfl rfl rfl (e_field hf rfl Try.underlying104 rfl Try.sizeOf30 (o' := o3 + 1) rfl) fun a hf => ?_
      refine q_ hf rfl rfl rfl (e_load1 hf rfl Try.isAgg30 (hM.litCell (k := 3) (j := 1) rfl rfl rfl)) fun a hf => ?_
      have hl30 := slice_len (hM.dat (k := 1) rfl)
      refine q_ hf rfl rfl rfl (e_lenL hf (x := s1.slots) rfl Try.underlying30) fun a hf => ?_
      refine q_ hf rfl rfl rfl (e_lt hf (x := n11) (y := (s1.slots.length : Int)) rfl rfl) fun a hf => ?_
      refine pl_nil ?_
      refine then_n ?_
      rcases cond_some h17 with ⟨hc31, h17⟩ | ⟨hc31, h17⟩
      · refine cond_t hf rfl hc31 ?_
        refine wp_skip ?_
        refine then_n ?_
        refine wp_seq ?_
        refine wp_block ?_
        refine wp_seq ?_
        obtain ⟨w32, hw⟩ : ∃ x, x = w13.drew := ⟨_, rfl⟩
        refine region_pi (.q 0 (.q 1 (.q 2 (.q 3 (.q 4 (.q 5 (.q 6 (.q 7 (.q 8 (.q 9 (.q 10 (.l 11 (.q 12 (.q 13 (.nil))))))))))))))) (Ext w32) rfl (by kernel_rfl) ?_
        have hM := hM.drew
        rw [← hw] at hM ⊢
        clear hw
        refine pi_q hf rfl rfl rfl rfl (Ext.refl _) (e_move hf rfl) fun a hf => ?_
        refine pi_q hf rfl rfl rfl rfl (Ext.refl _) (e_move hf rfl) fun a hf => ?_
        refine pi_q hf rfl rfl rfl rfl (Ext.refl _) (e_nil hf rfl) fun a hf => ?_
        refine pi_q hf rfl rfl rfl rfl (Ext.refl _) (e_field hf rfl Try.underlying104 rfl Try.sizeOf40 (o' := o3 + 0) rfl) fun a hf => ?_
        refine pi_q hf rfl rfl rfl rfl (Ext.refl _) (e_load1 hf rfl Try.isAgg40 (hM.litCell (k := 3) (j := 0) rfl rfl rfl)) fun a hf => ?_
        refine pi_q hf rfl rfl rfl rfl (Ext.refl _) (e_move hf rfl) fun a hf => ?_
        refine pi_q hf rfl rfl rfl rfl (Ext.refl _) (e_nil hf rfl) fun a hf => ?_
        refine pi_q hf rfl rfl rfl rfl (Ext.refl _) (e_field hf rfl Try.underlying104 rfl Try.sizeOf30 (o' := o3 + 1) rfl) fun a hf => ?_
        refine pi_q hf rfl rfl rfl rfl (Ext.refl _) (e_load1 hf rfl Try.isAgg30 (hM.litCell (k := 3) (j := 1) rfl rfl rfl)) fun a hf => ?_
        refine pi_q hf rfl rfl rfl rfl (Ext.refl _) (e_move hf rfl) fun a hf => ?_
        obtain ⟨e33, hz34, h17⟩ := bind_some h17
        obtain ⟨b38, o39, _, hA40, h35, h36, hr37, hM⟩ := hM.elem (hM.dat (k := 1) rfl) (n := 4) rfl hz34
        obtain ⟨rfl, hv41, hv42, hv43⟩ := SlotRep_open hr37
        refine pi_q hf rfl rfl rfl rfl (Ext.refl _) (e_indexAddr (A := A23) (b := b38) (o := o39) (xs := s1.slots) (i := n11) hf hA40 rfl rfl Try.underlying30 Try.sizeOf75 h35 h36) fun a hf => ?_
        refine pi_one ?_
        obtain ⟨y44, hz45, h17⟩ := bind_some h17
        refine pi_l hf rfl rfl rfl rfl (w_call hf Try.call69 rfl (r_spec_l25Words ⟨_, Sh C _ _, none_, hM.sh_lt, none_not, C.G, hM.g_lt, g_none, hM.tabs⟩ g5 _ _ (hM.dat (k := 5) rfl) s1.words _ _ (hM.dat (k := 3) rfl) e33 _ _ (hM.litPtr (k := 0) (d := 0) (us := [vI (e33.Row), vI (e33.Col), .bool (e33.Down), vI (e33.Length)]) rfl rfl rfl (SlotRep_mk (x := e33) hv41 hv42 hv43)) _ hz45) ?_)
        rintro _ w48 ⟨A46, c47, rfl, hM2⟩
        obtain ⟨hM, hx49, hup50⟩ := hM.back hM2
        dsimp only [List.cons_append, List.nil_append] at hM hup50
        clear hM2
        refine ⟨_, rfl, Ext w48, fun _ h => Ext.trans hx49 h, Ext.refl _, fun a hf => ?_⟩
        have hl51 := row_len (hM.ownAt (k := 0) rfl)
        refine pi_q hf rfl rfl rfl rfl (Ext.refl _) (e_lenL hf (x := y44) rfl Try.underlying40) fun a hf => ?_
        refine pi_q hf rfl rfl rfl rfl (Ext.refl _) (e_eq hf (x := (y44.length : Int)) (y := 0) rfl rfl) fun a hf => ?_
        refine pi_nil ?_
        refine then_n ?_
        rcases cond_some h17 with ⟨hc52, h17⟩ | ⟨hc52, h17⟩
        · refine cond_t hf rfl hc52 ?_
          refine wp_seq ?_
          refine region_pl ?_
          refine q_ hf rfl rfl rfl (e_move hf rfl) fun a hf => ?_
          refine q_ hf rfl rfl rfl (e_assign hf rfl) fun a hf => ?_
          refine pl_nil ?_
          refine then_n ?_
          refine wp_ret ?_
          refine blk_r ?_
          refine then_r ?_
          obtain rfl := some_inj h17
          obtain rfl := hd18 _ rfl
          try dsimp only at h10
          refine then_r ?_
          refine blk_r ?_
          obtain rfl := some_inj h10
          try dsimp only at h
          refine then_r ?_
          obtain rfl := some_inj h
          have hM := hM.outs (own' := []) 0 rfl
          exact leave1 hf rfl rfl ⟨rfl, hM.fin, hv12⟩
        · refine cond_f hf rfl hc52 ?_
          refine wp_skip ?_
          refine blk_n ?_
          refine then_n ?_
          refine region_pl ?_
          refine q_ hf rfl rfl rfl (e_move hf rfl) fun a hf => ?_
          obtain ⟨z53, hz54, h17⟩ := bind_some h17
          refine q_ hf rfl rfl rfl (e_add hf rfl rfl hz54) fun a hf => ?_
          refine q_ hf rfl rfl rfl (e_assign hf rfl) fun a hf => ?_
          refine pl_nil ?_
          obtain rfl := some_inj h17
          refine then_n ⟨_, rfl, ?_⟩
          exact ⟨z53, rfl, hf.keep ⟨rfl, rfl, rfl, trivial⟩, (hM.drop (.cons _ .slnil)).pick [5, 6] rfl, (chk_R hz54)⟩
      · refine cond_f hf rfl hc31 ?_
        refine wp_exit ?_
        refine then_x ?_
        obtain rfl := some_inj h17
        obtain rfl := hd18 _ rfl
        try dsimp only at h10
        refine then_x ?_
        refine exit_hit ?_
        obtain rfl := some_inj h10
        refine then_n ?_
        exact ⟨rfl, hf.keep trivial, hM.pick [4, 5] rfl⟩
  · rintro a w61 ⟨rfl, hf, hM⟩
    try dsimp only at h
    refine wp_seq ?_
    refine region_pl ?_
    refine q_ hf rfl rfl rfl (e_assign hf rfl) fun a hf => ?_
    refine pl_nil ?_
    refine then_n ?_
    refine wp_ret ?_
    obtain rfl := some_inj h
    exact leave1 hf rfl rfl ⟨rfl, hM.fin, (R64_lit rfl)⟩

set_option maxRecDepth 100000 in
set_option maxHeartbeats 4000000 in
theorem r_spec_l25Free (C : Cx) (pattern1 : Str) (hp2 : pattern1.length ≤ maxLen) (r : Bool) (h : m_spec_l25Free pattern1 = some r) :
    Calls Try.prog 113 #[vS (pattern1)] C.w0 fun e w => e = .returned (.bool (r)) ∧ Mem C w [] [] := by
  have hM := Mem.begin C [] trivial
  refine enter Try.func113 rfl Try.ntmps113 rfl fun a hf => ?_
  unfold m_spec_l25Free at h
  refine wp_seq ?_
  refine region_pl ?_
  refine q_ hf rfl rfl rfl (e_assign hf rfl) fun a hf => ?_
  refine pl_nil ?_
  refine then_n ?_
  obtain ⟨x3, h4, h⟩ := bind_some h
  refine seq_join (fun a w => (.inl ()) = x3 ∧ Has 14 a [] ∧ Mem C w [] []) ?_ ?_
  · refine wp_seq ?_
    refine region_pl ?_
    refine q_ hf rfl rfl rfl (e_assign hf rfl) fun a hf => ?_
    refine pl_nil ?_
    refine then_n ?_
    refine wp_block ?_
    obtain ⟨x8, h9, h4⟩ := bind_some h4
    refine wp_loopM h9 (fun s a w => ∃ (n5 : Int), n5 = s ∧ Has 14 a [(0, vS (pattern1)), (3, vI (n5))] ∧ Mem C w [] [] ∧ R64 n5) ?_ ?_
    · exact ⟨0, rfl, hf.keep ⟨rfl, rfl, trivial⟩, hM.pick [] rfl, (R64_lit rfl)⟩
    · rintro s o10 a w7 ⟨n5, rfl, hf, hM, hv6⟩ h11 hd12
      replace h11 : m_spec_l25Free_l1 pattern1 n5 = some o10 := h11
      unfold m_spec_l25Free_l1 at h11
      refine wp_seq ?_
      refine wp_seq ?_
      refine region_pl ?_
      refine q_ hf rfl rfl rfl (e_move hf rfl) fun a hf => ?_
      refine q_ hf rfl rfl rfl (e_move hf rfl) fun a hf => ?_
      refine q_ hf rfl rfl rfl (e_lenS hf (x := pattern1) rfl Try.underlying9) fun a hf => ?_
      refine q_ hf rfl rfl rfl (e_lt hf (x := n5) (y := (pattern1.length : Int)) rfl rfl) fun a hf => ?_
      refine pl_nil ?_
      refine then_n ?_
      rcases cond_some h11 with ⟨hc13, h11⟩ | ⟨hc13, h11⟩
      · refine cond_t hf rfl hc13 ?_
        refine wp_skip ?_
        refine then_n ?_
        refine wp_seq ?_
        refine wp_block ?_
        refine wp_seq ?_
        refine region_pl ?_
        refine q_ hf rfl rfl rfl (e_move hf rfl) fun a hf => ?_
        refine q_ hf rfl rfl rfl (e_move hf rfl) fun a hf => ?_
        obtain ⟨c14, hz15, h11⟩ := bind_some h11
        refine q_ hf rfl rfl rfl (e_indexS hf (x := pattern1) rfl rfl Try.underlying9 hz15) fun a hf => ?_
        refine q_ hf rfl rfl rfl (e_eqB hf (x := c14) (y := 46) rfl rfl) fun a hf => ?_
        refine pl_nil ?_
        refine then_n ?_
        rcases cond_some h11 with ⟨hc16, h11⟩ | ⟨hc16, h11⟩
        · refine cond_t hf rfl hc16 ?_
          refine wp_seq ?_
          refine region_pl ?_
          refine q_ hf rfl rfl rfl (e_assign hf rfl) fun a hf => ?_
          refine pl_nil ?_
          refine then_n ?_
          refine wp_ret ?_
          refine blk_r ?_
          refine then_r ?_
          obtain rfl := some_inj h11
          obtain rfl := hd12 _ rfl
          try dsimp only at h4
          refine then_r ?_
          refine blk_r ?_
          obtain rfl := some_inj h4
          try dsimp only at h
          refine then_r ?_
          obtain rfl := some_inj h
          exact leave1 hf rfl rfl ⟨rfl, hM.fin⟩
        · refine cond_f hf rfl hc16 ?_
          refine wp_skip ?_
          refine blk_n ?_
          refine then_n ?_
          refine region_pl ?_
          refine q_ hf rfl rfl rfl (e_move hf rfl) fun a hf => ?_
          obtain ⟨z17, hz18, h11⟩ := bind_some h11
          refine q_ hf rfl rfl rfl (e_add hf rfl rfl hz18) fun a hf => ?_
          refine q_ hf rfl rfl rfl (e_assign hf rfl) fun a hf => ?_
          refine pl_nil ?_
          obtain rfl := some_inj h11
          refine then_n ⟨_, rfl, ?_⟩
          exact ⟨z17, rfl, hf.keep ⟨rfl, rfl, trivial⟩, hM.pick [] rfl, (chk_R hz18)⟩
      · refine cond_f hf rfl hc13 ?_
        refine wp_exit ?_
        refine then_x ?_
        obtain rfl := some_inj h11
        obtain rfl := hd12 _ rfl
        try dsimp only at h4
        refine then_x ?_
        refine exit_hit ?_
        obtain rfl := some_inj h4
        refine then_n ?_
        exact ⟨rfl, hf.keep trivial, hM.pick [] rfl⟩
  · rintro a w25 ⟨rfl, hf, hM⟩
    try dsimp only at h
    refine wp_seq ?_
    refine region_pl ?_
    refine q_ hf rfl rfl rfl (e_assign hf rfl) fun a hf => ?_
    refine pl_nil ?_
    refine then_n ?_
    refine wp_ret ?_
    obtain rfl := some_inj h
    exact leave1 hf rfl rfl ⟨rfl, hM.fin⟩

set_option maxRecDepth 100000 in
set_option maxHeartbeats 4000000 in
theorem r_spec_l25Search_open (C : Cx) (s1 : l25Search) (b2 : Nat) (o3 : Nat) (hp4 : (ptrRep l25SearchRep).R C.w0 C.S0 s1 [vP b2 o3]) (g5 : Grid) (b6 : Nat) (o7 : Nat) (hp8 : (ptrRep GridRep).R C.w0 C.S0 g5 [vP b6 o7]) (r : Int) (h : m_spec_l25Search_open s1 g5 = some r) :
    Calls Try.prog 102 #[vP b2 (o3), vP b6 (o7)] C.w0 fun e w => e = .returned (vI (r)) ∧ Mem C w [] [] ∧ R64 r := by
  have hM := Mem.begin C [.dat (ptrRep GridRep) g5 [vP b6 o7], .dat (ptrRep l25SearchRep) s1 [vP b2 o3]] ⟨hp8, hp4, trivial⟩
  refine enter Try.func102 rfl Try.ntmps102 rfl fun a hf => ?_
  unfold m_spec_l25Search_open at h
  refine wp_seq ?_
  refine region_pl ?_
  refine q_ hf rfl rfl rfl (e_assign hf rfl) fun a hf => ?_
  refine pl_nil ?_
  refine then_n ?_
  obtain ⟨x9, h10, h⟩ := bind_some h
  refine seq_join (fun a w => (.inl ()) = x9 ∧ Has 25 a [] ∧ Mem C w [] [.dat (ptrRep GridRep) g5 [vP b6 o7], .dat (ptrRep l25SearchRep) s1 [vP b2 o3]]) ?_ ?_
  · refine wp_seq ?_
    refine region_pl ?_
    refine q_ hf rfl rfl rfl (e_assign hf rfl) fun a hf => ?_
    refine pl_nil ?_
    refine then_n ?_
    refine wp_block ?_
    obtain ⟨x14, h15, h10⟩ := bind_some h10
    refine wp_loopM h15 (fun s a w => ∃ (n11 : Int), n11 = s ∧ Has 25 a [(0, vP b2 (o3)), (1, vP b6 (o7)), (5, vI (n11))] ∧ Mem C w [] [.dat (ptrRep GridRep) g5 [vP b6 o7], .dat (ptrRep l25SearchRep) s1 [vP b2 o3]] ∧ R64 n11) ?_ ?_
    · exact ⟨0, rfl, hf.keep ⟨rfl, rfl, rfl, trivial⟩, hM.pick [0, 1] rfl, (R64_lit rfl)⟩
    · rintro s o16 a w13 ⟨n11, rfl, hf, hM, hv12⟩ h17 hd18
      replace h17 : m_spec_l25Search_open_l1 s1 g5 n11 = some o16 := h17
      unfold m_spec_l25Search_open_l1 at h17
      refine wp_seq ?_
      refine wp_seq ?_
      refine region_pl ?_
      refine q_ hf rfl rfl rfl (e_move hf rfl) fun a hf => ?_
      refine q_ hf rfl rfl rfl (e_move hf rfl) fun a hf => ?_
      refine q_ hf rfl rfl rfl (e_nil hf rfl) fun a hf => ?_
      obtain ⟨_, hr19, hM⟩ := hM.deref (hM.dat (k := 1) rfl)
      obtain ⟨A20, c21, A23, c24, A27, c28, rfl, hv22, hv25, hv26, hv29⟩ := l25SearchRep_open hr19
      have hM := hM.add (y := .dat (sliceRep strRep) s1.words [vL A20 s1.words c21]) hv22
      have hM := hM.add (y := .dat (sliceRep SlotRep) s1.slots [vL A23 s1.slots c24]) hv25
      have hM := hM.add (y := .dat (sliceRep GridRep) s1.out [vL A27 s1.out c28]) hv29
      refine q_ hf rfl rfl rfl (e_field hf rfl Try.underlying104 rfl Try.sizeOf30 (o' := o3 + 1) rfl) fun a hf => ?_
      refine q_ hf rfl rfl rfl (e_load1 hf rfl Try.isAgg30 (hM.litCell (k := 3) (j := 1) rfl rfl rfl)) fun a hf => ?_
      have hl30 := slice_len (hM.dat (k := 1) rfl)
      refine q_ hf rfl rfl rfl (e_lenL hf (x := s1.slots) rfl Try.underlying30) fun a hf => ?_
      refine q_ hf rfl rfl rfl (e_lt hf (x := n11) (y := (s1.slots.length : Int)) rfl rfl) fun a hf => ?_
      refine pl_nil ?_
      refine then_n ?_
      rcases cond_some h17 with ⟨hc31, h17⟩ | ⟨hc31, h17⟩
      · refine cond_t hf rfl hc31 ?_
        refine wp_skip ?_
        refine then_n ?_
        refine wp_seq ?_
        refine wp_block ?_
        refine wp_seq ?_
        refine region_pl ?_
        refine q_ hf rfl rfl rfl (e_move hf rfl) fun a hf => ?_
        refine q_ hf rfl rfl rfl (e_move hf rfl) fun a hf => ?_
        refine q_ hf rfl rfl rfl (e_nil hf rfl) fun a hf => ?_
        refine q_ hf rfl rfl rfl (e_field hf rfl Try.underlying104 rfl Try.sizeOf30 (o' := o3 + 1) rfl) fun a hf => ?_
        refine q_ hf rfl rfl rfl (e_load1 hf rfl Try.isAgg30 (hM.litCell (k := 3) (j := 1) rfl rfl rfl)) fun a hf => ?_
        refine q_ hf rfl rfl rfl (e_move hf rfl) fun a hf => ?_
        obtain ⟨e32, hz33, h17⟩ := bind_some h17
        obtain ⟨b37, o38, _, hA39, h34, h35, hr36, hM⟩ := hM.elem (hM.dat (k := 1) rfl) (n := 4) rfl hz33
        obtain ⟨rfl, hv40, hv41, hv42⟩ := SlotRep_open hr36
        refine q_ hf rfl rfl rfl (e_indexAddr (A := A23) (b := b37) (o := o38) (xs := s1.slots) (i := n11) hf hA39 rfl rfl Try.underlying30 Try.sizeOf75 h34 h35) fun a hf => ?_
        obtain ⟨y43, hz44, h17⟩ := bind_some h17
        refine pl_l hf rfl rfl rfl (w_call hf Try.call51 rfl (r_spec_l25Pattern ⟨_, Sh C _ _, none_, hM.sh_lt, none_not, C.G, hM.g_lt, g_none, hM.tabs⟩ g5 _ _ (hM.dat (k := 5) rfl) e32 _ _ (hM.litPtr (k := 0) (d := 0) (us := [vI (e32.Row), vI (e32.Col), .bool (e32.Down), vI (e32.Length)]) rfl rfl rfl (SlotRep_mk (x := e32) hv40 hv41 hv42)) _ hz44) ?_)
        rintro _ w46 ⟨rfl, hM2, hv45⟩
        obtain ⟨hM, hx47, hup48⟩ := hM.back hM2
        dsimp only [List.cons_append, List.nil_append] at hM hup48
        clear hM2
        refine ⟨_, rfl, fun a hf => ?_⟩
        obtain ⟨y49, hz50, h17⟩ := bind_some h17
        refine pl_l hf rfl rfl rfl (w_call hf Try.call113 rfl (r_spec_l25Free ⟨_, Sh C _ _, none_, hM.sh_lt, none_not, C.G, hM.g_lt, g_none, hM.tabs⟩ y43 hv45 _ hz50) ?_)
        rintro _ w51 ⟨rfl, hM2⟩
        obtain ⟨hM, hx52, hup53⟩ := hM.back hM2
        dsimp only [List.cons_append, List.nil_append] at hM hup53
        clear hM2
        refine ⟨_, rfl, fun a hf => ?_⟩
        refine pl_nil ?_
        refine then_n ?_
        rcases cond_some h17 with ⟨hc54, h17⟩ | ⟨hc54, h17⟩
        · refine cond_t hf rfl hc54 ?_
          refine wp_seq ?_
          refine region_pl ?_
          refine q_ hf rfl rfl rfl (e_move hf rfl) fun a hf => ?_
          refine q_ hf rfl rfl rfl (e_assign hf rfl) fun a hf => ?_
          refine pl_nil ?_
          refine then_n ?_
          refine wp_ret ?_
          refine blk_r ?_
          refine then_r ?_
          obtain rfl := some_inj h17
          obtain rfl := hd18 _ rfl
          try dsimp only at h10
          refine then_r ?_
          refine blk_r ?_
          obtain rfl := some_inj h10
          try dsimp only at h
          refine then_r ?_
          obtain rfl := some_inj h
          exact leave1 hf rfl rfl ⟨rfl, hM.fin, hv12⟩
        · refine cond_f hf rfl hc54 ?_
          refine wp_skip ?_
          refine blk_n ?_
          refine then_n ?_
          refine region_pl ?_
          refine q_ hf rfl rfl rfl (e_move hf rfl) fun a hf => ?_
          obtain ⟨z55, hz56, h17⟩ := bind_some h17
          refine q_ hf rfl rfl rfl (e_add hf rfl rfl hz56) fun a hf => ?_
          refine q_ hf rfl rfl rfl (e_assign hf rfl) fun a hf => ?_
          refine pl_nil ?_
          obtain rfl := some_inj h17
          refine then_n ⟨_, rfl, ?_⟩
          exact ⟨z55, rfl, hf.keep ⟨rfl, rfl, rfl, trivial⟩, hM.pick [5, 6] rfl, (chk_R hz56)⟩
      · refine cond_f hf rfl hc31 ?_
        refine wp_exit ?_
        refine then_x ?_
        obtain rfl := some_inj h17
        obtain rfl := hd18 _ rfl
        try dsimp only at h10
        refine then_x ?_
        refine exit_hit ?_
        obtain rfl := some_inj h10
        refine then_n ?_
        exact ⟨rfl, hf.keep trivial, hM.pick [4, 5] rfl⟩
  · rintro a w63 ⟨rfl, hf, hM⟩
    try dsimp only at h
    refine wp_seq ?_
    refine region_pl ?_
    refine q_ hf rfl rfl rfl (e_assign hf rfl) fun a hf => ?_
    refine pl_nil ?_
    refine then_n ?_
    refine wp_ret ?_
    obtain rfl := some_inj h
    exact leave1 hf rfl rfl ⟨rfl, hM.fin, (R64_lit rfl)⟩

set_option maxRecDepth 100000 in
set_option maxHeartbeats 4000000 in
theorem r_spec_l25Put (C : Cx) (g1 : Grid) (b2 : Nat) (o3 : Nat) (hp4 : (ptrRep GridRep).R C.w0 C.S0 g1 [vP b2 o3]) (s5 : Slot) (b6 : Nat) (o7 : Nat) (hp8 : (ptrRep SlotRep).R C.w0 C.S0 s5 [vP b6 o7]) (word9 : Str) (hp10 : word9.length ≤ maxLen) (r : Grid) (h : m_spec_l25Put g1 s5 word9 = some r) :
    Calls Try.prog 59 #[vP b2 (o3), vP b6 (o7), vS (word9)] C.w0 fun e w => e = .returned (.agg #[vI (r.Rows), vI (r.Cols), vS (r.Cells)]) ∧ Mem C w [] [] ∧ R64 r.Rows ∧ R64 r.Cols ∧ r.Cells.length ≤ maxLen := by
  have hM := Mem.begin C [.dat (ptrRep SlotRep) s5 [vP b6 o7], .dat (ptrRep GridRep) g1 [vP b2 o3]] ⟨hp8, hp4, trivial⟩
  refine enter Try.func59 rfl Try.ntmps59 rfl fun a hf => ?_
  unfold m_spec_l25Put at h
  refine wp_seq ?_
  refine region_pl ?_
  refine pl_l hf rfl rfl rfl (w_alloc hM (cs := [vI (0), vI (0), vS (([] : Str))]) Try.zeroValue27 rfl fun b11 w12 hx13 hM a hf => ?_)
  refine pl_nil ?_
  refine then_n ?_
  refine wp_seq ?_
  refine region_pl ?_
  refine q_ hf rfl rfl rfl (e_move hf rfl) fun a hf => ?_
  refine q_ hf rfl rfl rfl (e_nil hf rfl) fun a hf => ?_
  obtain ⟨_, hr15, hM⟩ := hM.deref (hM.dat (k := 1) rfl)
  obtain ⟨rfl, hv16, hv17, hv18⟩ := GridRep_open hr15
  refine q_ hf rfl rfl rfl (e_field hf rfl Try.underlying27 rfl Try.sizeOf9 (o' := o3 + 2) rfl) fun a hf => ?_
  refine q_ hf rfl rfl rfl (e_load1 hf rfl Try.isAgg9 (hM.litCell (k := 0) (j := 2) rfl rfl rfl)) fun a hf => ?_
  refine pl_l hf rfl rfl rfl (w_bytes hf hM (x := g1.Cells) rfl Try.underlying9 Try.underlying63 Try.underlying5 hv18 fun A19 c20 w21 hx22 hM a hf => ?_)
  refine q_ hf rfl rfl rfl (e_assign hf rfl) fun a hf => ?_
  refine pl_nil ?_
  refine then_n ?_
  obtain ⟨x24, h25, h⟩ := bind_some h
  refine seq_join (fun a w => ∃ (xs23 : Str), xs23 = x24 ∧ Has 42 a [(0, vP b2 (o3)), (6, vP b11 (0)), (7, vL A19 (xs23) c20)] ∧ Mem C w [.row byteRep A19 c20 5 xs23 false, .box b11 [vI (0), vI (0), vS (([] : Str))] 27] [.lit b2 (o3) [vI (g1.Rows), vI (g1.Cols), vS (g1.Cells)], .dat (ptrRep SlotRep) s5 [vP b6 o7], .dat (ptrRep GridRep) g1 [vP b2 o3]]) ?_ ?_
  · refine wp_seq ?_
    refine region_pl ?_
    refine q_ hf rfl rfl rfl (e_assign hf rfl) fun a hf => ?_
    refine pl_nil ?_
    refine then_n ?_
    refine wp_block ?_
    obtain ⟨x31, h32, h25⟩ := bind_some h25
    refine wp_loopM h32 (fun s a w => ∃ (xs26 : Str) (n27 : Int), (xs26, n27) = s ∧ Has 42 a [(0, vP b2 (o3)), (1, vP b6 (o7)), (2, vS (word9)), (6, vP b11 (0)), (7, vL A19 (xs26) c20), (8, vI (n27))] ∧ Mem C w [.row byteRep A19 c20 5 xs26 false, .box b11 [vI (0), vI (0), vS (([] : Str))] 27] [.lit b2 (o3) [vI (g1.Rows), vI (g1.Cols), vS (g1.Cells)], .dat (ptrRep SlotRep) s5 [vP b6 o7], .dat (ptrRep GridRep) g1 [vP b2 o3]] ∧ R64 n27) ?_ ?_
    · exact ⟨g1.Cells, 0, rfl, hf.keep ⟨rfl, rfl, rfl, rfl, rfl, rfl, trivial⟩, hM.pick [0, 1, 2] rfl, (R64_lit rfl)⟩
    · rintro s o33 a w29 ⟨xs26, n27, rfl, hf, hM, hv28⟩ h34 hd35
      replace h34 : m_spec_l25Put_l1 s5 word9 g1 xs26 n27 = some o33 := h34
      unfold m_spec_l25Put_l1 at h34
      refine wp_seq ?_
      refine wp_seq ?_
      refine region_pl ?_
      refine q_ hf rfl rfl rfl (e_move hf rfl) fun a hf => ?_
      refine q_ hf rfl rfl rfl (e_move hf rfl) fun a hf => ?_
      refine q_ hf rfl rfl rfl (e_nil hf rfl) fun a hf => ?_
      obtain ⟨_, hr36, hM⟩ := hM.deref (hM.dat (k := 1) rfl)
      obtain ⟨rfl, hv37, hv38, hv39⟩ := SlotRep_open hr36
      refine q_ hf rfl rfl rfl (e_field hf rfl Try.underlying75 rfl Try.sizeOf2 (o' := o7 + 3) rfl) fun a hf => ?_
      refine q_ hf rfl rfl rfl (e_load1 hf rfl Try.isAgg2 (hM.litCell (k := 0) (j := 3) rfl rfl rfl)) fun a hf => ?_
      refine q_ hf rfl rfl rfl (e_lt hf (x := n27) (y := s5.Length) rfl rfl) fun a hf => ?_
      refine pl_nil ?_
      refine then_n ?_
      rcases cond_some h34 with ⟨hc40, h34⟩ | ⟨hc40, h34⟩
      · refine cond_t hf rfl hc40 ?_
        refine wp_skip ?_
        refine then_n ?_
        refine wp_seq ?_
        refine wp_block ?_
        obtain ⟨w41, hw⟩ : ∃ x, x = w29.drew := ⟨_, rfl⟩
        refine region_pi (.q 0 (.q 1 (.q 2 (.q 3 (.q 5 (.q 6 (.q 7 (.l 4 (.q 8 (.l 9 (.nil))))))))))) (Ext w41) rfl (by kernel_rfl) ?_
        have hM := hM.drew
        rw [← hw] at hM ⊢
        clear hw
        refine pi_q hf rfl rfl rfl rfl (Ext.refl _) (e_move hf rfl) fun a hf => ?_
        refine pi_q hf rfl rfl rfl rfl (Ext.refl _) (e_move hf rfl) fun a hf => ?_
        refine pi_q hf rfl rfl rfl rfl (Ext.refl _) (e_move hf rfl) fun a hf => ?_
        refine pi_q hf rfl rfl rfl rfl (Ext.refl _) (e_move hf rfl) fun a hf => ?_
        refine pi_q hf rfl rfl rfl rfl (Ext.refl _) (e_move hf rfl) fun a hf => ?_
        refine pi_q hf rfl rfl rfl rfl (Ext.refl _) (e_move hf rfl) fun a hf => ?_
        obtain ⟨c42, hz43, h34⟩ := bind_some h34
        refine pi_q hf rfl rfl rfl rfl (Ext.refl _) (e_indexS hf (x := word9) rfl rfl Try.underlying9 hz43) fun a hf => ?_
        refine pi_one ?_
        obtain ⟨y44, hz45, h34⟩ := bind_some h34
        refine pi_l hf rfl rfl rfl rfl (w_call hf Try.call85 rfl (r_spec_l25Square ⟨_, Sh C _ _, none_, hM.sh_lt, none_not, C.G, hM.g_lt, g_none, hM.tabs⟩ g1 _ _ (hM.dat (k := 3) rfl) s5 _ _ (hM.dat (k := 2) rfl) n27 hv28 _ hz45) ?_)
        rintro _ w47 ⟨rfl, hM2, hv46⟩
        obtain ⟨hM, hx48, hup49⟩ := hM.back hM2
        dsimp only [List.cons_append, List.nil_append] at hM hup49
        clear hM2
        refine ⟨_, rfl, Ext w47, fun _ h => Ext.trans hx48 h, Ext.refl _, fun a hf => ?_⟩
        obtain ⟨e50, hz51, h34⟩ := bind_some h34
        obtain ⟨b56, _, hA57, h52, h53, hr54, hcell55⟩ := hM.rowElemN (k := 0) rfl (n := 1) rfl hz51
        obtain rfl : _ = _ := hr54
        refine pi_q hf rfl rfl rfl rfl (Ext.refl _) (e_indexAddr (A := A19) (b := b56) (o := 0) (xs := xs26) (i := y44) hf hA57 rfl rfl Try.underlying63 Try.sizeOf5 h52 h53) fun a hf => ?_
        refine pi_one ?_
        obtain ⟨xs59, hz60, h34⟩ := bind_some h34
        refine pi_z0 hf rfl rfl rfl (by kernel_rfl) (w_storeElem hf hM (x := c42) (row := [vB (c42)]) (i := y44) rfl rfl rfl hA57 (k := 0) rfl rfl Try.sizeOf5 rfl hz60 fun w58 hM => ?_)
        dsimp only [List.set] at hM
        have hf := hf.alter (d := 7) (v := vL A19 (xs59) c20) rfl (vL_len (setL_len hz60))
        have hf := hf.alter (d := 22) (v := vL A19 (xs59) c20) rfl (vL_len (setL_len hz60))
        refine pi_nil ?_
        refine blk_n ?_
        refine then_n ?_
        refine region_pl ?_
        refine q_ hf rfl rfl rfl (e_move hf rfl) fun a hf => ?_
        obtain ⟨z61, hz62, h34⟩ := bind_some h34
        refine q_ hf rfl rfl rfl (e_add hf rfl rfl hz62) fun a hf => ?_
        refine q_ hf rfl rfl rfl (e_assign hf rfl) fun a hf => ?_
        refine pl_nil ?_
        obtain rfl := some_inj h34
        refine then_n ⟨_, rfl, ?_⟩
        exact ⟨xs59, z61, rfl, hf.keep ⟨rfl, rfl, rfl, rfl, rfl, rfl, trivial⟩, hM.pick [1, 2, 3] rfl, (chk_R hz62)⟩
      · refine cond_f hf rfl hc40 ?_
        refine wp_exit ?_
        refine then_x ?_
        obtain rfl := some_inj h34
        obtain rfl := hd35 _ rfl
        try dsimp only at h25
        refine then_x ?_
        refine exit_hit ?_
        obtain rfl := some_inj h25
        refine then_n ?_
        exact ⟨xs26, rfl, hf.keep ⟨rfl, rfl, rfl, trivial⟩, hM.pick [1, 2, 3] rfl⟩
  · rintro a w68 ⟨xs23, rfl, hf, hM⟩
    try dsimp only at h
    refine wp_seq ?_
    obtain ⟨w69, hw⟩ : ∃ x, x = w68.drew := ⟨_, rfl⟩
    refine region_pi (.q 0 (.q 1 (.q 2 (.q 3 (.q 4 (.q 5 (.q 6 (.q 7 (.q 8 (.q 9 (.q 10 (.l 11 (.nil))))))))))))) (Ext w69) rfl (by kernel_rfl) ?_
    have hM := hM.drew
    rw [← hw] at hM ⊢
    clear hw
    refine pi_q hf rfl rfl rfl rfl (Ext.refl _) (e_move hf rfl) fun a hf => ?_
    refine pi_q hf rfl rfl rfl rfl (Ext.refl _) (e_nil hf rfl) fun a hf => ?_
    refine pi_q hf rfl rfl rfl rfl (Ext.refl _) (e_field hf rfl Try.underlying27 rfl Try.sizeOf2 (o' := o3 + 0) rfl) fun a hf => ?_
    refine pi_q hf rfl rfl rfl rfl (Ext.refl _) (e_load1 hf rfl Try.isAgg2 (hM.litCell (k := 0) (j := 0) rfl rfl rfl)) fun a hf => ?_
    refine pi_q hf rfl rfl rfl rfl (Ext.refl _) (e_move hf rfl) fun a hf => ?_
    refine pi_q hf rfl rfl rfl rfl (Ext.refl _) (e_nil hf rfl) fun a hf => ?_
    refine pi_q hf rfl rfl rfl rfl (Ext.refl _) (e_field hf rfl Try.underlying27 rfl Try.sizeOf2 (o' := o3 + 1) rfl) fun a hf => ?_
    refine pi_q hf rfl rfl rfl rfl (Ext.refl _) (e_load1 hf rfl Try.isAgg2 (hM.litCell (k := 0) (j := 1) rfl rfl rfl)) fun a hf => ?_
    refine pi_q hf rfl rfl rfl rfl (Ext.refl _) (e_move hf rfl) fun a hf => ?_
    have hl70 := row_len (hM.ownAt (k := 0) rfl)
    refine pi_q hf rfl rfl rfl rfl (Ext.refl _) (e_bytesStr hf (xs := xs23) rfl Try.underlying63 Try.underlying5 Try.underlying9 (hM.lendRow (k := 0) rfl)) fun a hf => ?_
    refine pi_q hf rfl rfl rfl rfl (Ext.refl _) (e_build hf Try.zeroValue27 Try.underlying27 (bp_27 _ Try.underlying27.symm) rfl (cs := #[vI (g1.Rows), vI (g1.Cols), vS (xs23)]) (by kernel_rfl)) fun a hf => ?_
    refine pi_one ?_
    refine pi_z0 hf rfl rfl rfl (by kernel_rfl) (w_store hf hM (us := [vI (g1.Rows), vI (g1.Cols), vS (xs23)]) (cs' := [vI (g1.Rows), vI (g1.Cols), vS (xs23)]) rfl rfl (k := 1) rfl rfl Try.sizeOf27 rfl rfl rfl fun w71 hM => ?_)
    dsimp only [List.set] at hM
    refine pi_nil ?_
    refine then_n ?_
    refine wp_ret ?_
    obtain rfl := some_inj h
    have hres74 := leaveV1 (P := Try.prog) Try.results59 (res_agg hf rfl ⟨Try.isAgg27, Try.sizeOf27⟩ (us := [vI (g1.Rows), vI (g1.Cols), vS (xs23)]) rfl (hM.boxSub (k := 1) (o := 0) rfl rfl))
    have hM := hM.outs (own' := []) 0 rfl
    exact bodyPost_ret hres74 hf.defers ⟨rfl, hM.fin, hv16, hv17, hl70⟩

def Ct_spec_l25Search_run (rc : l25Search → Grid → Option l25Search) : Prop := ∀ (C : Cx) (s1 : l25Search) (b2 : Nat) (A3 : Option Addr) (c4 : Nat) (hp5 : (sliceRep strRep).R C.w0 C.S0 s1.words [vL A3 s1.words c4]) (A6 : Option Addr) (c7 : Nat) (hp8 : (sliceRep SlotRep).R C.w0 C.S0 s1.slots [vL A6 s1.slots c7]) (hp9 : R64 s1.most) (A10 : Option Addr) (c11 : Nat) (g12 : Grid) (b13 : Nat) (o14 : Nat) (hp15 : (ptrRep GridRep).R C.w0 C.S0 g12 [vP b13 o14]) (hO : Mem C C.w0 [.box b2 [vL A3 (s1.words) c4, vL A6 (s1.slots) c7, vI (s1.most), vL A10 (s1.out) c11] 104, .row GridRep A10 c11 27 s1.out true] []) (hd : ∀ b, C.S0 b → ¬ ownB [.box b2 [vL A3 (s1.words) c4, vL A6 (s1.slots) c7, vI (s1.most), vL A10 (s1.out) c11] 104, .row GridRep A10 c11 27 s1.out true] b) (r : l25Search) (h : rc s1 g12 = some r),
    Calls Try.prog 97 #[vP b2 (0), vP b13 (o14)] C.w0 fun e w => ∃ (A_1 : Option Addr), ∃ (c_1 : Nat), ∃ (A_2 : Option Addr), ∃ (c_2 : Nat), ∃ (A_3 : Option Addr), ∃ (c_3 : Nat), e = .returned (.tuple #[]) ∧ Mem C w [.box b2 [vL A_1 (r.words) c_1, vL A_2 (r.slots) c_2, vI (r.most), vL A_3 (r.out) c_3] 104, .row GridRep A_3 c_3 27 r.out true] [] ∧ (sliceRep strRep).R w (Sh C [.box b2 [vL A_1 (r.words) c_1, vL A_2 (r.slots) c_2, vI (r.most), vL A_3 (r.out) c_3] 104, .row GridRep A_3 c_3 27 r.out true] w) r.words [vL A_1 r.words c_1] ∧ (sliceRep SlotRep).R w (Sh C [.box b2 [vL A_1 (r.words) c_1, vL A_2 (r.slots) c_2, vI (r.most), vL A_3 (r.out) c_3] 104, .row GridRep A_3 c_3 27 r.out true] w) r.slots [vL A_2 r.slots c_2] ∧ R64 r.most

set_option maxRecDepth 100000 in
set_option maxHeartbeats 4000000 in
theorem r_spec_l25Search_run_b (rc : l25Search → Grid → Option l25Search) (ih : Ct_spec_l25Search_run rc) : Ct_spec_l25Search_run (m_spec_l25Search_run_b rc) := by
  intro C s1 b2 A3 c4 hp5 A6 c7 hp8 hp9 A10 c11 g12 b13 o14 hp15 hO hd r h
  have hM := hO
  have hM := hM.addIn hd (y := .dat (sliceRep strRep) s1.words [vL A3 s1.words c4]) hp5
  have hM := hM.addIn hd (y := .dat (sliceRep SlotRep) s1.slots [vL A6 s1.slots c7]) hp8
  have hM := hM.addIn hd (y := .dat (ptrRep GridRep) g12 [vP b13 o14]) hp15
  refine enter Try.func97 rfl Try.ntmps97 rfl fun a hf => ?_
  unfold m_spec_l25Search_run_b at h
  refine wp_seq ?_
  refine wp_seq ?_
  refine region_pl ?_
  refine q_ hf rfl rfl rfl (e_move hf rfl) fun a hf => ?_
  refine q_ hf rfl rfl rfl (e_move hf rfl) fun a hf => ?_
  obtain ⟨y16, hz17, h⟩ := bind_some h
  refine pl_l hf rfl rfl rfl (w_call hf Try.call101 rfl (r_spec_l25Search_dead ⟨_, All C _ _, none_, hM.all_lt, none_not, C.G, hM.g_lt, g_none, hM.tabs⟩ s1 _ _ (hM.lendBox (k := 0) rfl (l25SearchRep_mk (x := s1) (hM.lendDat (k := 2) rfl) (hM.lendDat (k := 1) rfl) hp9 (hM.lendRow (k := 1) rfl))) g12 _ _ (hM.lendDat (k := 0) rfl) _ hz17) ?_)
  rintro _ w19 ⟨rfl, hM2, hv18⟩
  obtain ⟨hM, hx20⟩ := hM.backA hM2
  clear hM2
  refine ⟨_, rfl, fun a hf => ?_⟩
  refine q_ hf rfl rfl rfl (e_ge hf (x := y16) (y := 0) rfl rfl) fun a hf => ?_
  refine pl_nil ?_
  refine then_n ?_
  rcases cond_some h with ⟨hc22, h⟩ | ⟨hc22, h⟩
  · refine cond_t hf rfl hc22 ?_
    refine wp_ret ?_
    refine then_r ?_
    obtain rfl := some_inj h
    exact leave0 hf rfl ⟨A3, c4, A6, c7, A10, c11, rfl, hM.fin, (hM.dat (k := 2) rfl), (hM.dat (k := 1) rfl), hp9⟩
  · refine cond_f hf rfl hc22 ?_
    refine wp_skip ?_
    refine then_n ?_
    refine wp_seq ?_
    refine region_pl ?_
    refine q_ hf rfl rfl rfl (e_move hf rfl) fun a hf => ?_
    refine q_ hf rfl rfl rfl (e_move hf rfl) fun a hf => ?_
    obtain ⟨y23, hz24, h⟩ := bind_some h
    refine pl_l hf rfl rfl rfl (w_call hf Try.call102 rfl (r_spec_l25Search_open ⟨_, All C _ _, none_, hM.all_lt, none_not, C.G, hM.g_lt, g_none, hM.tabs⟩ s1 _ _ (hM.lendBox (k := 0) rfl (l25SearchRep_mk (x := s1) (hM.lendDat (k := 2) rfl) (hM.lendDat (k := 1) rfl) hp9 (hM.lendRow (k := 1) rfl))) g12 _ _ (hM.lendDat (k := 0) rfl) _ hz24) ?_)
    rintro _ w26 ⟨rfl, hM2, hv25⟩
    obtain ⟨hM, hx27⟩ := hM.backA hM2
    clear hM2
    refine ⟨_, rfl, fun a hf => ?_⟩
    refine q_ hf rfl rfl rfl (e_assign hf rfl) fun a hf => ?_
    refine pl_nil ?_
    refine then_n ?_
    refine wp_seq ?_
    refine wp_seq ?_
    refine region_pl ?_
    refine q_ hf rfl rfl rfl (e_move hf rfl) fun a hf => ?_
    refine q_ hf rfl rfl rfl (e_lt hf (x := y23) (y := 0) rfl rfl) fun a hf => ?_
    refine pl_nil ?_
    refine then_n ?_
    rcases cond_some h with ⟨hc29, h⟩ | ⟨hc29, h⟩
    · refine cond_t hf rfl hc29 ?_
      refine wp_seq ?_
      obtain ⟨w30, hw⟩ : ∃ x, x = w26.drew := ⟨_, rfl⟩
      refine region_pi (.q 0 (.q 1 (.q 2 (.q 3 (.q 4 (.q 5 (.q 6 (.q 7 (.l 8 (.l 9 (.q 10 (.q 11 (.l 12 (.nil)))))))))))))) (ExtM [A10.map (·.block)] w30) rfl (by kernel_rfl) ?_
      have hM := hM.drew
      rw [← hw] at hM ⊢
      clear hw
      refine pi_q hf rfl rfl rfl rfl (ExtM.refl _ _) (e_move hf rfl) fun a hf => ?_
      refine pi_q hf rfl rfl rfl rfl (ExtM.refl _ _) (e_move hf rfl) fun a hf => ?_
      refine pi_q hf rfl rfl rfl rfl (ExtM.refl _ _) (e_nil hf rfl) fun a hf => ?_
      refine pi_q hf rfl rfl rfl rfl (ExtM.refl _ _) (e_field hf rfl Try.underlying104 rfl Try.sizeOf94 (o' := 3) rfl) fun a hf => ?_
      refine pi_q hf rfl rfl rfl rfl (ExtM.refl _ _) (e_load1M hf rfl Try.isAgg94 (hM.boxCell (k := 0) rfl rfl) (hM.apart (js := [1]) rfl (k := 0) rfl rfl rfl)) fun a hf => ?_
      refine pi_q hf rfl rfl rfl rfl (ExtM.refl _ _) (e_move hf rfl) fun a hf => ?_
      refine pi_q hf rfl rfl rfl rfl (ExtM.refl _ _) (e_nil hf rfl) fun a hf => ?_
      obtain ⟨_, hr31, hM⟩ := hM.deref (hM.dat (k := 0) rfl)
      obtain ⟨rfl, hv32, hv33, hv34⟩ := GridRep_open hr31
      refine pi_q hf rfl rfl rfl rfl (ExtM.refl _ _) (e_loadAM hf (us := [vI (g12.Rows), vI (g12.Cols), vS (g12.Cells)]) rfl ⟨Try.isAgg27, Try.sizeOf27⟩ rfl (hM.litSub (k := 0) (d := 0) (us := [vI (g12.Rows), vI (g12.Cols), vS (g12.Cells)]) rfl rfl rfl) (hM.apartS (js := [1]) rfl (hM.at_ (k := 0) rfl).1)) fun a hf => ?_
      refine pi_one ?_
      refine pi_l hf rfl rfl rfl rfl (w_slice hf hM (K := GridRep) (xs := ([g12] : (List Grid))) (os := [.tmp 24]) Try.underlying94 ei_27 rfl rfl rfl rfl rfl ⟨⟨[vI (g12.Rows), vI (g12.Cols), vS (g12.Cells)], rfl, (GridRep_mk (x := g12) hv32 hv33 hv34)⟩, trivial⟩ rfl fun b35 w36 hx37 hM => ⟨ExtM [A10.map (·.block)] w36, fun _ h => ExtM.trans hx37 h, ExtM.refl _ _, fun a hf => ?_⟩)
      refine pi_one ?_
      obtain ⟨xs38, hz39, h⟩ := bind_some h
      refine pi_l hf rfl rfl rfl rfl (w_appendX hf hM Try.underlying94 ei_27 rfl rfl rfl (k := 2) rfl (hM.srcRow (k := 0) rfl) hz39 fun A40 c41 w42 hsz44 hold43 hM => ⟨Ext w42, fun _ h => ExtM.last (ExtM.ofRow (List.mem_of_getElem? (i := 0) rfl) hold43) hsz44 h, Ext.refl _, fun a hf => ?_⟩)
      dsimp only [List.set] at hM
      refine pi_q hf rfl rfl rfl rfl (Ext.refl _) (e_nil hf rfl) fun a hf => ?_
      refine pi_q hf rfl rfl rfl rfl (Ext.refl _) (e_field hf rfl Try.underlying104 rfl Try.sizeOf94 (o' := 3) rfl) fun a hf => ?_
      refine pi_one ?_
      refine pi_z0 hf rfl rfl rfl (by kernel_rfl) (w_store hf hM (us := [vL A40 (xs38) c41]) (cs' := [vL A3 (s1.words) c4, vL A6 (s1.slots) c7, vI (s1.most), vL A40 (xs38) c41]) rfl rfl (k := 1) rfl rfl Try.sizeOf94 rfl rfl rfl fun w45 hM => ?_)
      dsimp only [List.set] at hM
      refine pi_nil ?_
      refine then_n ?_
      refine wp_ret ?_
      refine then_r ?_
      obtain rfl := some_inj h
      have hM := hM.front (k := 2) rfl
      dsimp only [List.eraseIdx] at hM
      have hM := hM.front (k := 2) rfl
      dsimp only [List.eraseIdx] at hM
      have hM := hM.outs (own' := [.box b2 [vL A3 (s1.words) c4, vL A6 (s1.slots) c7, vI (s1.most), vL A40 (xs38) c41] 104, .row GridRep A40 c41 27 xs38 true]) 2 rfl
      exact leave0 hf rfl ⟨A3, c4, A6, c7, A40, c41, rfl, hM.fin, (hM.dat (k := 3) rfl), (hM.dat (k := 2) rfl), hp9⟩
    · refine cond_f hf rfl hc29 ?_
      refine wp_skip ?_
      refine then_n ?_
      refine wp_seq ?_
      obtain ⟨w48, hw⟩ : ∃ x, x = w26.drew := ⟨_, rfl⟩
      refine region_pi (.q 0 (.q 1 (.q 2 (.q 3 (.q 4 (.q 5 (.q 6 (.q 7 (.q 8 (.q 9 (.q 10 (.l 11 (.q 12 (.nil)))))))))))))) (Ext w48) rfl (by kernel_rfl) ?_
      have hM := hM.drew
      rw [← hw] at hM ⊢
      clear hw
      refine pi_q hf rfl rfl rfl rfl (Ext.refl _) (e_move hf rfl) fun a hf => ?_
      refine pi_q hf rfl rfl rfl rfl (Ext.refl _) (e_move hf rfl) fun a hf => ?_
      refine pi_q hf rfl rfl rfl rfl (Ext.refl _) (e_nil hf rfl) fun a hf => ?_
      refine pi_q hf rfl rfl rfl rfl (Ext.refl _) (e_field hf rfl Try.underlying104 rfl Try.sizeOf40 (o' := 0) rfl) fun a hf => ?_
      refine pi_q hf rfl rfl rfl rfl (Ext.refl _) (e_load1 hf rfl Try.isAgg40 (hM.boxCell (k := 0) rfl rfl)) fun a hf => ?_
      refine pi_q hf rfl rfl rfl rfl (Ext.refl _) (e_move hf rfl) fun a hf => ?_
      refine pi_q hf rfl rfl rfl rfl (Ext.refl _) (e_nil hf rfl) fun a hf => ?_
      refine pi_q hf rfl rfl rfl rfl (Ext.refl _) (e_field hf rfl Try.underlying104 rfl Try.sizeOf30 (o' := 1) rfl) fun a hf => ?_
      refine pi_q hf rfl rfl rfl rfl (Ext.refl _) (e_load1 hf rfl Try.isAgg30 (hM.boxCell (k := 0) rfl rfl)) fun a hf => ?_
      refine pi_q hf rfl rfl rfl rfl (Ext.refl _) (e_move hf rfl) fun a hf => ?_
      obtain ⟨e49, hz50, h⟩ := bind_some h
      obtain ⟨b54, o55, _, hA56, h51, h52, hr53, hM⟩ := hM.elem (hM.dat (k := 1) rfl) (n := 4) rfl hz50
      obtain ⟨rfl, hv57, hv58, hv59⟩ := SlotRep_open hr53
      refine pi_q hf rfl rfl rfl rfl (Ext.refl _) (e_indexAddr (A := A6) (b := b54) (o := o55) (xs := s1.slots) (i := y23) hf hA56 rfl rfl Try.underlying30 Try.sizeOf75 h51 h52) fun a hf => ?_
      refine pi_one ?_
      obtain ⟨y60, hz61, h⟩ := bind_some h
      refine pi_l hf rfl rfl rfl rfl (w_call hf Try.call69 rfl (r_spec_l25Words ⟨_, Sh C _ _, none_, hM.sh_lt, none_not, C.G, hM.g_lt, g_none, hM.tabs⟩ g12 _ _ (hM.dat (k := 1) rfl) s1.words _ _ (hM.dat (k := 3) rfl) e49 _ _ (hM.litPtr (k := 0) (d := 0) (us := [vI (e49.Row), vI (e49.Col), .bool (e49.Down), vI (e49.Length)]) rfl rfl rfl (SlotRep_mk (x := e49) hv57 hv58 hv59)) _ hz61) ?_)
      rintro _ w64 ⟨A62, c63, rfl, hM2⟩
      obtain ⟨hM, hx65, hup66⟩ := hM.back hM2
      dsimp only [List.cons_append, List.nil_append] at hM hup66
      clear hM2
      refine ⟨_, rfl, Ext w64, fun _ h => Ext.trans hx65 h, Ext.refl _, fun a hf => ?_⟩
      refine pi_q hf rfl rfl rfl rfl (Ext.refl _) (e_assign hf rfl) fun a hf => ?_
      refine pi_nil ?_
      refine then_n ?_
      refine wp_seq ?_
      refine region_pl ?_
      refine q_ hf rfl rfl rfl (e_assign hf rfl) fun a hf => ?_
      refine pl_nil ?_
      refine then_n ?_
      refine wp_block ?_
      obtain ⟨x92, h93, h⟩ := bind_some h
      refine wp_loopM h93 (fun s a w => ∃ (l67 : (List Str)) (l70 : (List Slot)) (n73 : Int) (xs75 : (List Grid)) (n78 : Int) (A68 : Option Addr) (c69 : Nat) (A71 : Option Addr) (c72 : Nat) (A76 : Option Addr) (c77 : Nat), (l67, l70, n73, xs75, n78) = s ∧ Has 73 a [(0, vP b2 (0)), (1, vP b13 (o14)), (4, vI (y23)), (5, vL A62 (y60) c63), (6, vI (n78))] ∧ Mem C w [.row strRep A62 c63 9 y60 true, .box b2 [vL A68 (l67) c69, vL A71 (l70) c72, vI (n73), vL A76 (xs75) c77] 104, .row GridRep A76 c77 27 xs75 true] [.dat (sliceRep SlotRep) l70 [vL A71 l70 c72], .dat (sliceRep strRep) l67 [vL A68 l67 c69], .lit b54 (o55 + (y23 : Int).toNat * 4) [vI (e49.Row), vI (e49.Col), .bool (e49.Down), vI (e49.Length)], .dat (ptrRep GridRep) g12 [vP b13 o14], .dat (sliceRep SlotRep) s1.slots [vL A6 s1.slots c7], .dat (sliceRep strRep) s1.words [vL A3 s1.words c4]] ∧ R64 n73 ∧ R64 n78) ?_ ?_
      · exact ⟨s1.words, s1.slots, s1.most, s1.out, 0, A3, c4, A6, c7, A10, c11, rfl, hf.keep ⟨rfl, rfl, rfl, rfl, rfl, trivial⟩, hM.pick [2, 3, 0, 1, 2, 3] rfl, hp9, (R64_lit rfl)⟩
      · rintro s o94 a w80 ⟨l67, l70, n73, xs75, n78, A68, c69, A71, c72, A76, c77, rfl, hf, hM, hv74, hv79⟩ h95 hd96
        replace h95 : m_spec_l25Search_run_l1 y60 y23 g12 rc l67 l70 n73 xs75 n78 = some o94 := h95
        unfold m_spec_l25Search_run_l1 at h95
        refine wp_seq ?_
        obtain ⟨x99, h100, h95⟩ := bind_some h95
        refine seq_join (fun a w => ∃ (t97 : Bool), t97 = x99 ∧ Has 73 a [(0, vP b2 (0)), (1, vP b13 (o14)), (4, vI (y23)), (5, vL A62 (y60) c63), (6, vI (n78)), (56, .bool (t97))] ∧ Mem C w [.row strRep A62 c63 9 y60 true, .box b2 [vL A68 (l67) c69, vL A71 (l70) c72, vI (n73), vL A76 (xs75) c77] 104, .row GridRep A76 c77 27 xs75 true] [.dat (sliceRep SlotRep) l70 [vL A71 l70 c72], .dat (sliceRep strRep) l67 [vL A68 l67 c69], .lit b54 (o55 + (y23 : Int).toNat * 4) [vI (e49.Row), vI (e49.Col), .bool (e49.Down), vI (e49.Length)], .dat (ptrRep GridRep) g12 [vP b13 o14], .dat (sliceRep SlotRep) s1.slots [vL A6 s1.slots c7], .dat (sliceRep strRep) s1.words [vL A3 s1.words c4]]) ?_ ?_
        · obtain ⟨w101, hw⟩ : ∃ x, x = w80.drew := ⟨_, rfl⟩
          refine region_pi (.q 0 (.q 1 (.q 2 (.q 3 (.q 4 (.q 5 (.q 6 (.q 7 (.q 8 (.q 9 (.q 10 (.q 11 (.q 12 (.q 13 (.q 14 (.q 15 (.nil))))))))))))))))) (Ext w101) rfl (by kernel_rfl) ?_
          have hM := hM.drew
          rw [← hw] at hM ⊢
          clear hw
          refine pi_q hf rfl rfl rfl rfl (Ext.refl _) (e_move hf rfl) fun a hf => ?_
          refine pi_q hf rfl rfl rfl rfl (Ext.refl _) (e_move hf rfl) fun a hf => ?_
          have hl102 := row_len (hM.ownAt (k := 0) rfl)
          refine pi_q hf rfl rfl rfl rfl (Ext.refl _) (e_lenL hf (x := y60) rfl Try.underlying40) fun a hf => ?_
          refine pi_q hf rfl rfl rfl rfl (Ext.refl _) (e_lt hf (x := n78) (y := (y60.length : Int)) rfl rfl) fun a hf => ?_
          refine pi_q hf rfl rfl rfl rfl (Ext.refl _) (e_move hf rfl) fun a hf => ?_
          rcases cond_some h100 with ⟨hc103, h100⟩ | ⟨hc103, h100⟩
          · refine pi_gq hf rfl (wanted_t hf rfl rfl rfl rfl hc103) rfl rfl (Ext.refl _) (e_move hf rfl) fun a hf => ?_
            refine pi_gq hf rfl (wanted_t hf rfl rfl rfl rfl hc103) rfl rfl (Ext.refl _) (e_nil hf rfl) fun a hf => ?_
            refine pi_gq hf rfl (wanted_t hf rfl rfl rfl rfl hc103) rfl rfl (Ext.refl _) (e_field hf rfl Try.underlying104 rfl Try.sizeOf94 (o' := 3) rfl) fun a hf => ?_
            refine pi_gq hf rfl (wanted_t hf rfl rfl rfl rfl hc103) rfl rfl (Ext.refl _) (e_load1 hf rfl Try.isAgg94 (hM.boxCell (k := 1) rfl rfl)) fun a hf => ?_
            have hl104 := row_len (hM.ownAt (k := 2) rfl)
            refine pi_gq hf rfl (wanted_t hf rfl rfl rfl rfl hc103) rfl rfl (Ext.refl _) (e_lenL hf (x := xs75) rfl Try.underlying94) fun a hf => ?_
            refine pi_gq hf rfl (wanted_t hf rfl rfl rfl rfl hc103) rfl rfl (Ext.refl _) (e_move hf rfl) fun a hf => ?_
            refine pi_gq hf rfl (wanted_t hf rfl rfl rfl rfl hc103) rfl rfl (Ext.refl _) (e_nil hf rfl) fun a hf => ?_
            refine pi_gq hf rfl (wanted_t hf rfl rfl rfl rfl hc103) rfl rfl (Ext.refl _) (e_field hf rfl Try.underlying104 rfl Try.sizeOf3 (o' := 2) rfl) fun a hf => ?_
            refine pi_gq hf rfl (wanted_t hf rfl rfl rfl rfl hc103) rfl rfl (Ext.refl _) (e_load1 hf rfl Try.isAgg3 (hM.boxCell (k := 1) rfl rfl)) fun a hf => ?_
            refine pi_gq hf rfl (wanted_t hf rfl rfl rfl rfl hc103) rfl rfl (Ext.refl _) (e_lt hf (x := (xs75.length : Int)) (y := n73) rfl rfl) fun a hf => ?_
            refine pi_q hf rfl rfl rfl rfl (Ext.refl _) (e_pick_t hf rfl hc103 rfl) fun a hf => ?_
            refine pi_nil ?_
            obtain rfl := some_inj h100
            refine then_n ?_
            exact ⟨(decide ((xs75.length : Int) < n73)), rfl, hf.keep ⟨rfl, rfl, rfl, rfl, rfl, rfl, trivial⟩, hM.pick [0, 1, 2, 3, 4, 5] rfl⟩
          · refine pi_gs hf rfl (wanted_f hf rfl rfl rfl rfl hc103) rfl rfl (Ext.refl _) fun a hf => ?_
            refine pi_gs hf rfl (wanted_f hf rfl rfl rfl rfl hc103) rfl rfl (Ext.refl _) fun a hf => ?_
            refine pi_gs hf rfl (wanted_f hf rfl rfl rfl rfl hc103) rfl rfl (Ext.refl _) fun a hf => ?_
            refine pi_gs hf rfl (wanted_f hf rfl rfl rfl rfl hc103) rfl rfl (Ext.refl _) fun a hf => ?_
            refine pi_gs hf rfl (wanted_f hf rfl rfl rfl rfl hc103) rfl rfl (Ext.refl _) fun a hf => ?_
            refine pi_gs hf rfl (wanted_f hf rfl rfl rfl rfl hc103) rfl rfl (Ext.refl _) fun a hf => ?_
            refine pi_gs hf rfl (wanted_f hf rfl rfl rfl rfl hc103) rfl rfl (Ext.refl _) fun a hf => ?_
            refine pi_gs hf rfl (wanted_f hf rfl rfl rfl rfl hc103) rfl rfl (Ext.refl _) fun a hf => ?_
            refine pi_gs hf rfl (wanted_f hf rfl rfl rfl rfl hc103) rfl rfl (Ext.refl _) fun a hf => ?_
            refine pi_gs hf rfl (wanted_f hf rfl rfl rfl rfl hc103) rfl rfl (Ext.refl _) fun a hf => ?_
            refine pi_q hf rfl rfl rfl rfl (Ext.refl _) (e_pick_f hf rfl hc103 rfl) fun a hf => ?_
            refine pi_nil ?_
            obtain rfl := some_inj h100
            refine then_n ?_
            exact ⟨false, rfl, hf.keep ⟨rfl, rfl, rfl, rfl, rfl, rfl, trivial⟩, hM.pick [0, 1, 2, 3, 4, 5] rfl⟩
        · rintro a w107 ⟨t97, rfl, hf, hM⟩
          try dsimp only at h95
          rcases cond_some h95 with ⟨hc108, h95⟩ | ⟨hc108, h95⟩
          · refine cond_t hf rfl hc108 ?_
            refine wp_skip ?_
            refine then_n ?_
            refine wp_seq ?_
            refine wp_block ?_
            refine wp_seq ?_
            obtain ⟨w109, hw⟩ : ∃ x, x = w107.drew := ⟨_, rfl⟩
            refine region_pi (.q 0 (.q 1 (.q 2 (.q 3 (.q 4 (.q 5 (.q 6 (.q 7 (.q 8 (.q 9 (.q 10 (.b 11 12 (.l 12 (.l 13 (.nil))) (.l 11 (.l 13 (.nil))))))))))))))) (Ext w109) rfl (by kernel_rfl) ?_
            have hM := hM.drew
            rw [← hw] at hM ⊢
            clear hw
            refine pi_q hf rfl rfl rfl rfl (Ext.refl _) (e_move hf rfl) fun a hf => ?_
            refine pi_q hf rfl rfl rfl rfl (Ext.refl _) (e_move hf rfl) fun a hf => ?_
            refine pi_q hf rfl rfl rfl rfl (Ext.refl _) (e_nil hf rfl) fun a hf => ?_
            refine pi_q hf rfl rfl rfl rfl (Ext.refl _) (e_field hf rfl Try.underlying104 rfl Try.sizeOf30 (o' := 1) rfl) fun a hf => ?_
            refine pi_q hf rfl rfl rfl rfl (Ext.refl _) (e_load1 hf rfl Try.isAgg30 (hM.boxCell (k := 1) rfl rfl)) fun a hf => ?_
            refine pi_q hf rfl rfl rfl rfl (Ext.refl _) (e_move hf rfl) fun a hf => ?_
            obtain ⟨e110, hz111, h95⟩ := bind_some h95
            obtain ⟨b115, o116, _, hA117, h112, h113, hr114, hM⟩ := hM.elem (hM.dat (k := 0) rfl) (n := 4) rfl hz111
            obtain ⟨rfl, hv118, hv119, hv120⟩ := SlotRep_open hr114
            refine pi_q hf rfl rfl rfl rfl (Ext.refl _) (e_indexAddr (A := A71) (b := b115) (o := o116) (xs := l70) (i := y23) hf hA117 rfl rfl Try.underlying30 Try.sizeOf75 h112 h113) fun a hf => ?_
            refine pi_q hf rfl rfl rfl rfl (Ext.refl _) (e_move hf rfl) fun a hf => ?_
            refine pi_q hf rfl rfl rfl rfl (Ext.refl _) (e_move hf rfl) fun a hf => ?_
            obtain ⟨e121, hz122, h95⟩ := bind_some h95
            obtain ⟨b127, _, hA128, h123, h124, hr125, hcell126⟩ := hM.rowElemN (k := 0) rfl (n := 1) rfl hz122
            obtain ⟨rfl, hv129⟩ := hr125
            refine pi_q hf rfl rfl rfl rfl (Ext.refl _) (e_indexAddr (A := A62) (b := b127) (o := 0) (xs := y60) (i := n78) hf hA128 rfl rfl Try.underlying40 Try.sizeOf9 h123 h124) fun a hf => ?_
            refine pi_q hf rfl rfl rfl rfl (Ext.refl _) (e_load1 hf rfl Try.isAgg9 (hcell126 0 _ rfl)) fun a hf => ?_
            obtain ⟨y130, hz131, h95⟩ := bind_some h95
            refine pi_two ?_ ?_
            · refine pi_l hf rfl rfl rfl rfl (w_call hf Try.call59 rfl (r_spec_l25Put ⟨_, Sh C _ _, none_, hM.sh_lt, none_not, C.G, hM.g_lt, g_none, hM.tabs⟩ g12 _ _ (hM.dat (k := 4) rfl) e110 _ _ (hM.litPtr (k := 0) (d := 0) (us := [vI (e110.Row), vI (e110.Col), .bool (e110.Down), vI (e110.Length)]) rfl rfl rfl (SlotRep_mk (x := e110) hv118 hv119 hv120)) e121 hv129 _ hz131) ?_)
              rintro _ w145 ⟨rfl, hM2, hv142, hv143, hv144⟩
              obtain ⟨hM, hx146, hup147⟩ := hM.back hM2
              dsimp only [List.cons_append, List.nil_append] at hM hup147
              clear hM2
              refine ⟨_, rfl, Ext w145, fun _ h => Ext.trans hx146 h, Ext.refl _, fun a hf => ?_⟩
              refine pi_one ?_
              refine pi_l hf rfl rfl rfl rfl (w_alloc hM (cs := [vI (0), vI (0), vS (([] : Str))]) Try.zeroValue27 rfl fun b148 w149 hx150 hM => ⟨Ext w149, fun _ h => Ext.trans hx150 h, Ext.refl _, fun a hf => ?_⟩)
              refine pi_one ?_
              refine pi_z0 hf rfl rfl rfl (by kernel_rfl) (w_store hf hM (us := [vI (y130.Rows), vI (y130.Cols), vS (y130.Cells)]) (cs' := [vI (y130.Rows), vI (y130.Cols), vS (y130.Cells)]) rfl rfl (k := 0) rfl rfl Try.sizeOf27 rfl rfl rfl fun w152 hM => ?_)
              dsimp only [List.set] at hM
              refine pi_nil ?_
              refine then_n ?_
              refine region_pl ?_
              refine q_ hf rfl rfl rfl (e_move hf rfl) fun a hf => ?_
              have hM := hM.freezeBox (k := 0) rfl rfl
              dsimp only [List.eraseIdx] at hM
              have hM := hM.front (k := 2) rfl
              dsimp only [List.eraseIdx] at hM
              have hM := hM.front (k := 2) rfl
              dsimp only [List.eraseIdx] at hM
              have hM : Mem C _ ([.box b2 [vL A68 (l67) c69, vL A71 (l70) c72, vI (n73), vL A76 (xs75) c77] 104, .row GridRep A76 c77 27 xs75 true] ++ [.row strRep A62 c63 9 y60 true]) _ := hM
              obtain ⟨y155, hz156, h95⟩ := bind_some h95
              refine pl_l hf rfl rfl rfl (w_call hf Try.call97 rfl (ih ⟨_, Sh C _ _, ownB _, hM.sh_lt, sub_dis, C.G, hM.g_lt, hM.g_own, hM.tabs⟩ (⟨l67, l70, n73, xs75⟩ : l25Search) _ _ _ (hM.dat (k := 3) rfl) _ _ (hM.dat (k := 2) rfl) hv74 _ _ y130 _ _ (hM.litPtr (k := 0) (d := 0) (us := [vI (y130.Rows), vI (y130.Cols), vS (y130.Cells)]) rfl rfl rfl (GridRep_mk (x := y130) hv142 hv143 hv144)) hM.sub sub_dis _ hz156) ?_)
              rintro _ w166 ⟨A157, c158, A160, c161, A164, c165, rfl, hM2, hv159, hv162, hv163⟩
              obtain ⟨hM, hup168⟩ := hM.backG hM2
              dsimp only [List.cons_append, List.nil_append] at hM hup168
              clear hM2
              have hM := hM.add (y := .dat (sliceRep strRep) y155.words [vL A157 y155.words c158]) (hup168 hv159)
              have hM := hM.add (y := .dat (sliceRep SlotRep) y155.slots [vL A160 y155.slots c161]) (hup168 hv162)
              refine ⟨_, rfl, fun a hf => ?_⟩
              refine pl_nil ?_
              refine blk_n ?_
              refine then_n ?_
              refine region_pl ?_
              refine q_ hf rfl rfl rfl (e_move hf rfl) fun a hf => ?_
              obtain ⟨z169, hz170, h95⟩ := bind_some h95
              refine q_ hf rfl rfl rfl (e_add hf rfl rfl hz170) fun a hf => ?_
              refine q_ hf rfl rfl rfl (e_assign hf rfl) fun a hf => ?_
              refine pl_nil ?_
              obtain rfl := some_inj h95
              refine then_n ⟨_, rfl, ?_⟩
              have hM := hM.front (k := 1) rfl
              dsimp only [List.eraseIdx] at hM
              have hM := hM.front (k := 1) rfl
              dsimp only [List.eraseIdx] at hM
              have hM := hM.front (k := 2) rfl
              dsimp only [List.eraseIdx] at hM
              exact ⟨y155.words, y155.slots, y155.most, y155.out, z169, A157, c158, A160, c161, A164, c165, rfl, hf.keep ⟨rfl, rfl, rfl, rfl, rfl, trivial⟩, hM.pick [0, 1, 6, 7, 8, 9] rfl, hv163, (chk_R hz170)⟩
            · refine pi_l hf rfl rfl rfl rfl (w_alloc hM (cs := [vI (0), vI (0), vS (([] : Str))]) Try.zeroValue27 rfl fun b172 w173 hx174 hM => ⟨Ext w173, fun _ h => Ext.trans hx174 h, Ext.refl _, fun a hf => ?_⟩)
              refine pi_one ?_
              refine pi_l hf rfl rfl rfl rfl (w_call hf Try.call59 rfl (r_spec_l25Put ⟨_, Sh C _ _, none_, hM.sh_lt, none_not, C.G, hM.g_lt, g_none, hM.tabs⟩ g12 _ _ (hM.dat (k := 4) rfl) e110 _ _ (hM.litPtr (k := 0) (d := 0) (us := [vI (e110.Row), vI (e110.Col), .bool (e110.Down), vI (e110.Length)]) rfl rfl rfl (SlotRep_mk (x := e110) hv118 hv119 hv120)) e121 hv129 _ hz131) ?_)
              rintro _ w179 ⟨rfl, hM2, hv176, hv177, hv178⟩
              obtain ⟨hM, hx180, hup181⟩ := hM.back hM2
              dsimp only [List.cons_append, List.nil_append] at hM hup181
              clear hM2
              refine ⟨_, rfl, Ext w179, fun _ h => Ext.trans hx180 h, Ext.refl _, fun a hf => ?_⟩
              refine pi_one ?_
              refine pi_z0 hf rfl rfl rfl (by kernel_rfl) (w_store hf hM (us := [vI (y130.Rows), vI (y130.Cols), vS (y130.Cells)]) (cs' := [vI (y130.Rows), vI (y130.Cols), vS (y130.Cells)]) rfl rfl (k := 0) rfl rfl Try.sizeOf27 rfl rfl rfl fun w182 hM => ?_)
              dsimp only [List.set] at hM
              refine pi_nil ?_
              refine then_n ?_
              refine region_pl ?_
              refine q_ hf rfl rfl rfl (e_move hf rfl) fun a hf => ?_
              have hM := hM.freezeBox (k := 0) rfl rfl
              dsimp only [List.eraseIdx] at hM
              have hM := hM.front (k := 2) rfl
              dsimp only [List.eraseIdx] at hM
              have hM := hM.front (k := 2) rfl
              dsimp only [List.eraseIdx] at hM
              have hM : Mem C _ ([.box b2 [vL A68 (l67) c69, vL A71 (l70) c72, vI (n73), vL A76 (xs75) c77] 104, .row GridRep A76 c77 27 xs75 true] ++ [.row strRep A62 c63 9 y60 true]) _ := hM
              obtain ⟨y185, hz186, h95⟩ := bind_some h95
              refine pl_l hf rfl rfl rfl (w_call hf Try.call97 rfl (ih ⟨_, Sh C _ _, ownB _, hM.sh_lt, sub_dis, C.G, hM.g_lt, hM.g_own, hM.tabs⟩ (⟨l67, l70, n73, xs75⟩ : l25Search) _ _ _ (hM.dat (k := 3) rfl) _ _ (hM.dat (k := 2) rfl) hv74 _ _ y130 _ _ (hM.litPtr (k := 0) (d := 0) (us := [vI (y130.Rows), vI (y130.Cols), vS (y130.Cells)]) rfl rfl rfl (GridRep_mk (x := y130) hv176 hv177 hv178)) hM.sub sub_dis _ hz186) ?_)
              rintro _ w196 ⟨A187, c188, A190, c191, A194, c195, rfl, hM2, hv189, hv192, hv193⟩
              obtain ⟨hM, hup198⟩ := hM.backG hM2
              dsimp only [List.cons_append, List.nil_append] at hM hup198
              clear hM2
              have hM := hM.add (y := .dat (sliceRep strRep) y185.words [vL A187 y185.words c188]) (hup198 hv189)
              have hM := hM.add (y := .dat (sliceRep SlotRep) y185.slots [vL A190 y185.slots c191]) (hup198 hv192)
              refine ⟨_, rfl, fun a hf => ?_⟩
              refine pl_nil ?_
              refine blk_n ?_
              refine then_n ?_
              refine region_pl ?_
              refine q_ hf rfl rfl rfl (e_move hf rfl) fun a hf => ?_
              obtain ⟨z199, hz200, h95⟩ := bind_some h95
              refine q_ hf rfl rfl rfl (e_add hf rfl rfl hz200) fun a hf => ?_
              refine q_ hf rfl rfl rfl (e_assign hf rfl) fun a hf => ?_
              refine pl_nil ?_
              obtain rfl := some_inj h95
              refine then_n ⟨_, rfl, ?_⟩
              have hM := hM.front (k := 1) rfl
              dsimp only [List.eraseIdx] at hM
              have hM := hM.front (k := 1) rfl
              dsimp only [List.eraseIdx] at hM
              have hM := hM.front (k := 2) rfl
              dsimp only [List.eraseIdx] at hM
              exact ⟨y185.words, y185.slots, y185.most, y185.out, z199, A187, c188, A190, c191, A194, c195, rfl, hf.keep ⟨rfl, rfl, rfl, rfl, rfl, trivial⟩, hM.pick [0, 1, 6, 7, 8, 9] rfl, hv193, (chk_R hz200)⟩
          · refine cond_f hf rfl hc108 ?_
            refine wp_exit ?_
            refine then_x ?_
            obtain rfl := some_inj h95
            obtain rfl := hd96 _ rfl
            try dsimp only at h
            refine then_x ?_
            refine exit_hit ?_
            obtain rfl := some_inj h
            have hM := hM.front (k := 2) rfl
            dsimp only [List.eraseIdx] at hM
            have hM := hM.front (k := 2) rfl
            dsimp only [List.eraseIdx] at hM
            have hM := hM.outs (own' := [.box b2 [vL A68 (l67) c69, vL A71 (l70) c72, vI (n73), vL A76 (xs75) c77] 104, .row GridRep A76 c77 27 xs75 true]) 2 rfl
            exact leave0n hf rfl ⟨A68, c69, A71, c72, A76, c77, rfl, hM.fin, (hM.dat (k := 1) rfl), (hM.dat (k := 0) rfl), hv74⟩

theorem r_spec_l25Search_run_n : ∀ n, Ct_spec_l25Search_run (m_spec_l25Search_run_n n)
  | 0 => fun C s1 b2 A3 c4 hp5 A6 c7 hp8 hp9 A10 c11 g12 b13 o14 hp15 hO hd r h => by cases h
  | n + 1 => r_spec_l25Search_run_b _ (r_spec_l25Search_run_n n)

theorem r_spec_l25Search_run : Ct_spec_l25Search_run (m_spec_l25Search_run) := r_spec_l25Search_run_n fuelN

set_option maxRecDepth 100000 in
set_option maxHeartbeats 4000000 in
theorem r_spec_l25Fill (C : Cx) (g1 : Grid) (b2 : Nat) (o3 : Nat) (hp4 : (ptrRep GridRep).R C.w0 C.S0 g1 [vP b2 o3]) (words5 : (List Str)) (A6 : Option Addr) (c7 : Nat) (hp8 : (sliceRep strRep).R C.w0 C.S0 words5 [vL A6 words5 c7]) (most9 : Int) (hp10 : R64 most9) (r : (List Grid)) (h : m_spec_l25Fill g1 words5 most9 = some r) :
    Calls Try.prog 72 #[vP b2 (o3), vL A6 (words5) c7, vI (most9)] C.w0 fun e w => ∃ (A_1 : Option Addr), ∃ (c_1 : Nat), e = .returned (vL A_1 (r) c_1) ∧ Mem C w [.row GridRep A_1 c_1 27 r true] [] := by
  have hM := Mem.begin C [.dat (sliceRep strRep) words5 [vL A6 words5 c7], .dat (ptrRep GridRep) g1 [vP b2 o3]] ⟨hp8, hp4, trivial⟩
  refine enter Try.func72 rfl Try.ntmps72 rfl fun a hf => ?_
  unfold m_spec_l25Fill at h
  refine wp_seq ?_
  refine region_pl ?_
  refine q_ hf rfl rfl rfl (e_assign hf rfl) fun a hf => ?_
  refine pl_nil ?_
  refine then_n ?_
  refine wp_seq ?_
  refine region_pl ?_
  refine q_ hf rfl rfl rfl (e_move hf rfl) fun a hf => ?_
  refine q_ hf rfl rfl rfl (e_move hf rfl) fun a hf => ?_
  obtain ⟨y11, hz12, h⟩ := bind_some h
  refine pl_l hf rfl rfl rfl (w_call hf Try.call50 rfl (r_spec_l25Slots ⟨_, Sh C _ _, none_, hM.sh_lt, none_not, C.G, hM.g_lt, g_none, hM.tabs⟩ g1 _ _ (hM.dat (k := 1) rfl) _ hz12) ?_)
  rintro _ w15 ⟨A13, c14, rfl, hM2⟩
  obtain ⟨hM, hx16, hup17⟩ := hM.back hM2
  dsimp only [List.cons_append, List.nil_append] at hM hup17
  clear hM2
  refine ⟨_, rfl, fun a hf => ?_⟩
  refine q_ hf rfl rfl rfl (e_move hf rfl) fun a hf => ?_
  refine q_ hf rfl rfl rfl (e_build hf Try.zeroValue104 Try.underlying104 (bp_104 _ Try.underlying104.symm) rfl (cs := #[vL A6 (words5) c7, vL A13 (y11) c14, vI (most9), vL none (([] : (List Grid))) 0]) (by kernel_rfl)) fun a hf => ?_
  refine pl_l hf rfl rfl rfl (w_box hf hM (cs := [vL A6 (words5) c7, vL A13 (y11) c14, vI (most9), vL none (([] : (List Grid))) 0]) rfl rfl fun b18 w19 hx20 hM a hf => ?_)
  refine q_ hf rfl rfl rfl (e_assign hf rfl) fun a hf => ?_
  refine pl_nil ?_
  refine then_n ?_
  refine wp_seq ?_
  refine region_pl ?_
  refine q_ hf rfl rfl rfl (e_move hf rfl) fun a hf => ?_
  refine q_ hf rfl rfl rfl (e_move hf rfl) fun a hf => ?_
  have hM := hM.freezeRow (k := 1) rfl rfl
  dsimp only [List.eraseIdx] at hM
  have hM := hM.nilRow GridRep 27
  have hM := hM.front (k := 0) rfl
  dsimp only [List.eraseIdx] at hM
  have hM := hM.front (k := 1) rfl
  dsimp only [List.eraseIdx] at hM
  have hM : Mem C _ ([.box b18 [vL A6 (words5) c7, vL A13 (y11) c14, vI (most9), vL none (([] : (List Grid))) 0] 104, .row GridRep none 0 27 ([] : (List Grid)) true] ++ []) _ := hM
  obtain ⟨y22, hz23, h⟩ := bind_some h
  refine pl_l hf rfl rfl rfl (w_call hf Try.call97 rfl (r_spec_l25Search_run ⟨_, Sh C _ _, ownB _, hM.sh_lt, sub_dis, C.G, hM.g_lt, hM.g_own, hM.tabs⟩ (⟨words5, y11, most9, ([] : (List Grid))⟩ : l25Search) _ _ _ (hM.dat (k := 1) rfl) _ _ (hM.dat (k := 0) rfl) hp10 _ _ g1 _ _ (hM.dat (k := 2) rfl) hM.sub sub_dis _ hz23) ?_)
  rintro _ w33 ⟨A24, c25, A27, c28, A31, c32, rfl, hM2, hv26, hv29, hv30⟩
  obtain ⟨hM, hup35⟩ := hM.backG hM2
  dsimp only [List.cons_append, List.nil_append] at hM hup35
  clear hM2
  have hM := hM.add (y := .dat (sliceRep strRep) y22.words [vL A24 y22.words c25]) (hup35 hv26)
  have hM := hM.add (y := .dat (sliceRep SlotRep) y22.slots [vL A27 y22.slots c28]) (hup35 hv29)
  refine ⟨_, rfl, fun a hf => ?_⟩
  refine pl_nil ?_
  refine then_n ?_
  refine wp_seq ?_
  refine region_pl ?_
  refine q_ hf rfl rfl rfl (e_move hf rfl) fun a hf => ?_
  refine q_ hf rfl rfl rfl (e_nil hf rfl) fun a hf => ?_
  refine q_ hf rfl rfl rfl (e_field hf rfl Try.underlying104 rfl Try.sizeOf94 (o' := 3) rfl) fun a hf => ?_
  refine q_ hf rfl rfl rfl (e_load1 hf rfl Try.isAgg94 (hM.boxCell (k := 0) rfl rfl)) fun a hf => ?_
  refine q_ hf rfl rfl rfl (e_assign hf rfl) fun a hf => ?_
  refine pl_nil ?_
  refine then_n ?_
  refine wp_ret ?_
  obtain rfl := some_inj h
  have hM := hM.front (k := 1) rfl
  dsimp only [List.eraseIdx] at hM
  have hM := hM.outs (own' := [.row GridRep A31 c32 27 y22.out true]) 1 rfl
  exact leave1 hf rfl rfl ⟨A31, c32, rfl, hM.fin⟩

end Go.Proofs.Ytgmikhdealhlfaa
